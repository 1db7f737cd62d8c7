/- The readers of the octets' chapter: numbers and texts read; the law of the readers. -/
import Derived.Test.YtilhjcnkaelheaaSdAll
set_option maxRecDepth 100000
set_option linter.unusedSimpArgs false
set_option linter.unusedVariables false
set_option maxHeartbeats 2000000
namespace Go.Proofs.Ytilhjcnkaelheaa.Sd
open Go Go.Proofs.Ytilhjcnkaelheaa.Am DnFns Go.RowKit

/-- The number of bytes. -/
def be (s : List UInt8) : Nat := s.foldl (fun n c => n * 256 + c.toNat) 0

theorem be_lt_from : ∀ (s : List UInt8) (n : Nat), s.foldl (fun n c => n * 256 + c.toNat) n < (n + 1) * 256 ^ s.length
  | [], n => by simp
  | c :: s, n => by
    simp only [List.foldl_cons, List.length_cons]
    have h := be_lt_from s (n * 256 + c.toNat)
    have hc := c.toNat_lt
    have h2 : (n * 256 + c.toNat + 1) * 256 ^ s.length ≤ ((n + 1) * 256) * 256 ^ s.length := Nat.mul_le_mul_right _ (by omega)
    rw [Nat.pow_succ, Nat.mul_comm (256 ^ s.length), ← Nat.mul_assoc]
    omega
theorem be_lt (s : List UInt8) : be s < 256 ^ s.length := by
  have := be_lt_from s 0
  simpa [be] using this
theorem be_lt8 (s : List UInt8) (h : s.length ≤ 8) : be s < 18446744073709551616 :=
  Nat.lt_of_lt_of_le (be_lt s) (Nat.le_trans (Nat.pow_le_pow_right (by decide) h) (by decide))
theorem be_lt2 (s : List UInt8) (h : s.length ≤ 2) : be s < 65536 :=
  Nat.lt_of_lt_of_le (be_lt s) (Nat.le_trans (Nat.pow_le_pow_right (by decide) h) (by decide))
theorem be_snoc (s : List UInt8) (c : UInt8) : be (s ++ [c]) = be s * 256 + c.toNat := by simp [be, List.foldl_append]

theorem shl_u64 (n : Nat) (h : n * 256 < 18446744073709551616) : abin .shl (.int .u64 (n : Int)) (.int .u64 8) = some (.int .u64 ((n * 256 : Nat) : Int)) := by
  simp only [abin, ashift]
  rw [if_neg (by decide)]
  simp only [show min (Int.toNat 8) IntKind.u64.bits = 8 from rfl]
  have e : (n : Int) * 2 ^ 8 = ((n * 256 : Nat) : Int) := by
    rw [show ((2 : Int) ^ 8) = 256 from rfl]
    omega
  rw [e, wrap_u64 _ h]
theorem or_u64 (n : Nat) (c : UInt8) (h : n * 256 < 18446744073709551616) : abin .or (.int .u64 ((n * 256 : Nat) : Int)) (.int .u64 (c.toNat : Int)) = some (.int .u64 ((n * 256 + c.toNat : Nat) : Int)) := by
  have hc := c.toNat_lt
  have e0 : abin .or (.int .u64 ((n * 256 : Nat) : Int)) (.int .u64 (c.toNat : Int)) = some (.int .u64 (IntKind.u64.wrap ((BitVec.ofInt 64 ((n * 256 : Nat) : Int) ||| BitVec.ofInt 64 (c.toNat : Int)).toNat : Int))) := by
    rw [b_int .or _ _ _ (by decide) (by decide)]; rfl
  have e1 : ∀ m : Nat, BitVec.ofInt 64 (m : Int) = BitVec.ofNat 64 m := fun m => by simp
  have e2 : (BitVec.ofNat 64 (n * 256) ||| BitVec.ofNat 64 c.toNat).toNat = n * 256 + c.toNat := by
    rw [BitVec.toNat_or, BitVec.toNat_ofNat, BitVec.toNat_ofNat, Nat.mod_eq_of_lt (by omega), Nat.mod_eq_of_lt (by omega)]
    rw [Nat.mul_comm, show 256 = 2 ^ 8 from rfl]
    exact (Nat.two_pow_add_eq_or_of_lt (i := 8) hc n).symm
  rw [e0, e1, e1, e2, wrap_u64 _ (by omega)]
theorem wrap_c (c : UInt8) : IntKind.u64.wrap (c.toNat : Int) = (c.toNat : Int) := wrap_u64 _ (by have := c.toNat_lt; omega)

def wid (w : Int) : Int := if 1 ≤ w ∧ w ≤ 8 then w else -1
theorem raw_len (s : List UInt8) (e w : Int) : (raw s e (wid w)).2.2.length ≤ 8 := by
  unfold raw wid
  split
  · simp
  · split
    · split
      · simp
      · split
        · simp
        · rw [List.length_take]; omega
    · simp

def b78 : ACode := (.seq (.region [⟨(some 17), (.bin .lss (.tmp 16) (.tmp 15)), none, none⟩]) (.seq (.cond (.tmp 17) .skip (.exit 0)) (.seq (.block 1 (.seq (.region [⟨(some 18), (.idxASl 1 (.tmp 14) (.tmp 16)), none, none⟩, ⟨(some 19), (.load false 1 (.tmp 18)), none, none⟩, ⟨(some 7), (.mv (.tmp 19)), none, none⟩]) (.region [⟨(some 20), (.mv (.tmp 5)), none, none⟩, ⟨(some 21), (.bin .shl (.tmp 20) (.con (.int .u64 8))), none, none⟩, ⟨(some 22), (.mv (.tmp 7)), none, none⟩, ⟨(some 23), (.toInt .u64 (.tmp 22)), none, none⟩, ⟨(some 24), (.bin .or (.tmp 21) (.tmp 23)), none, none⟩, ⟨(some 5), (.mv (.tmp 24)), none, none⟩]))) (.region [⟨(some 25), (.bin .add (.tmp 16) (.con (.int .i64 1))), none, none⟩, ⟨(some 16), (.mv (.tmp 25)), none, none⟩]))))

theorem loop78 {s : List UInt8} (hs : s.length ≤ 8) {env : Env} {H : AHeap} {q : Nat} (h5 : env 5 = .int .u64 0) (h14 : env 14 = .slice q 0 s.length s.length (some 1)) (h15 : env 15 = .int .i64 (s.length : Int)) (h16 : env 16 = .int .i64 0) (ho : H.obj q = some (.cells (s.map by8) true)) :
    Outs (AX A (.loop b78) env H) fun e env' H' => e = .exit 0 ∧ H' = H ∧ env' 5 = .int .u64 (be s : Int) := by
  refine loop_ends (I := fun (j : Nat) env' H' => j ≤ s.length ∧ H' = H ∧ env' 5 = .int .u64 (be (s.take j) : Int) ∧ env' 14 = .slice q 0 s.length s.length (some 1) ∧ env' 15 = .int .i64 (s.length : Int) ∧ env' 16 = .int .i64 (j : Int)) (fun j => s.length - j) ?_ 0 env H ⟨Nat.zero_le _, rfl, h5, h14, h15, h16⟩
  rintro j env' _ ⟨hj, rfl, h5, h14, h15, h16⟩
  by_cases hlt : j < s.length
  · have e1 : decide ((j : Int) < (s.length : Int)) = true := by simp; omega
    have w1 : IntKind.i64.wrap ((j : Int) + 1) = ((j + 1 : Nat) : Int) := by rw [wrap_i64]; omega
    have ha : aidx s.length (.int .i64 (j : Int)) = some j := by simp [aidx]; omega
    have hg : (s.map by8)[j]? = some (.int .u8 (s[j].toNat : Int)) := by simp [hlt, by8]
    have hb : be (s.take j) * 256 < 18446744073709551616 := by
      have h1 := be_lt (s.take j)
      rw [List.length_take, Nat.min_eq_left hj] at h1
      have h2 : 256 ^ j ≤ 256 ^ 7 := Nat.pow_le_pow_right (by decide) (by omega)
      have h3 : (256 : Nat) ^ 7 * 256 = 18446744073709551616 := by decide
      omega
    simp only [b78, h5, h14, h15, h16, e1, w1, ha, ho, hg, shl_u64 _ hb, or_u64 _ _ hb, wrap_c, rwA, rwB, Nat.reduceAdd, Nat.reduceMul, Nat.reduceLeDiff, Int.reduceEq, Int.reduceLT, Int.reduceLE, Int.reduceAdd, Int.reduceSub, Int.reduceMul, ↓reduceIte, Nat.reduceEqDiff, reduceCtorEq, ↓cnd_true, ↓cnd_false]
    rw [outs_some]
    refine .inl ⟨rfl, j + 1, by omega, by omega, rfl, ?_, by simp [Env.set, h14], by simp [Env.set, h15], by simp [Env.set]⟩
    rw [List.take_add_one, List.getElem?_eq_getElem hlt, Option.toList_some, be_snoc]
    simp only [set_get, Nat.reduceEqDiff, reduceIte]
  · have e1 : decide ((j : Int) < (s.length : Int)) = false := by simp; omega
    simp only [b78, h15, h16, e1, rwA, rwB, Nat.reduceAdd, Nat.reduceMul, Nat.reduceLeDiff, Int.reduceEq, Int.reduceLT, Int.reduceLE, Int.reduceAdd, Int.reduceSub, Int.reduceMul, ↓reduceIte, Nat.reduceEqDiff, reduceCtorEq, ↓cnd_true, ↓cnd_false]
    rw [outs_some]
    rw [List.take_of_length_le (by omega)] at h5
    exact .inr ⟨by simp, rfl, rfl, by simp [Env.set, h5]⟩

/-- A number read. -/
theorem U78 {H : AHeap} {p : Nat} {s : List UInt8} {e : Int} (h : Rd H p s e) (w : Int) :
    AC A 78 [.ptr p 0, .int .i64 w] H = some (.int .u64 (be (raw s e (wid w)).2.2 : Int), (H.set p (rd (raw s e (wid w)).1 (raw s e (wid w)).2.1)).new (.cells ((raw s e (wid w)).2.2.map by8) true)) := by
  have hl := raw_len s e w
  have key : Rets (AC A 78 [.ptr p 0, .int .i64 w] H) fun v K => v = .int .u64 (be (raw s e (wid w)).2.2 : Int) ∧ K = (H.set p (rd (raw s e (wid w)).1 (raw s e (wid w)).2.1)).new (.cells ((raw s e (wid w)).2.2.map by8) true) := by
    rw [s_fn (A := A) (f := 78) (x := DnFns.c78) rfl rfl rfl]
    cases c1 : (decide (1 ≤ w) && decide (w ≤ 8))
    · have hw : wid w = -1 := by
        unfold wid
        rw [if_neg]
        simpa using c1
      rw [hw] at hl ⊢
      simp only [c78, U90, c1, U79 h, by8_fun, rwA, rwB, Nat.reduceAdd, Nat.reduceMul, Nat.reduceLeDiff, Int.reduceEq, Int.reduceLT, Int.reduceLE, Int.reduceAdd, Int.reduceSub, Int.reduceMul, ↓reduceIte, Nat.reduceEqDiff, reduceCtorEq, ↓cnd_true, ↓cnd_false]
      repeat (first | refine outs_seq ?_ | refine outs_block ?_ | refine outs_step ?_ | refine outs_stepD ?_ | refine rets_end ?_ | refine ans_end ?_)
      refine (loop78 hl (q := H.next) ?_ ?_ ?_ ?_ ?_).mono ?_
      · simp [Env.set]
      · simp [Env.set, set_next]
      · simp [Env.set]
      · simp [Env.set]
      · simp [AHeap.new, set_next]
      · rintro e' env K ⟨rfl, rfl, h5⟩
        simp only [outs_some, h5, rwA, rwB, Nat.reduceAdd, Nat.reduceMul, Nat.reduceLeDiff, Int.reduceEq, Int.reduceLT, Int.reduceLE, Int.reduceAdd, Int.reduceSub, Int.reduceMul, ↓reduceIte, Nat.reduceEqDiff, reduceCtorEq, ↓cnd_true, ↓cnd_false]
        rw [rets_some]
        exact ⟨rfl, rfl⟩
    · have hw : wid w = w := by
        unfold wid
        rw [if_pos]
        simpa using c1
      rw [hw] at hl ⊢
      simp only [c78, U90, c1, U79 h, by8_fun, rwA, rwB, Nat.reduceAdd, Nat.reduceMul, Nat.reduceLeDiff, Int.reduceEq, Int.reduceLT, Int.reduceLE, Int.reduceAdd, Int.reduceSub, Int.reduceMul, ↓reduceIte, Nat.reduceEqDiff, reduceCtorEq, ↓cnd_true, ↓cnd_false]
      repeat (first | refine outs_seq ?_ | refine outs_block ?_ | refine outs_step ?_ | refine outs_stepD ?_ | refine rets_end ?_ | refine ans_end ?_)
      refine (loop78 hl (q := H.next) ?_ ?_ ?_ ?_ ?_).mono ?_
      · simp [Env.set]
      · simp [Env.set, set_next]
      · simp [Env.set]
      · simp [Env.set]
      · simp [AHeap.new, set_next]
      · rintro e' env K ⟨rfl, rfl, h5⟩
        simp only [outs_some, h5, rwA, rwB, Nat.reduceAdd, Nat.reduceMul, Nat.reduceLeDiff, Int.reduceEq, Int.reduceLT, Int.reduceLE, Int.reduceAdd, Int.reduceSub, Int.reduceMul, ↓reduceIte, Nat.reduceEqDiff, reduceCtorEq, ↓cnd_true, ↓cnd_false]
        rw [rets_some]
        exact ⟨rfl, rfl⟩
  obtain ⟨v, K, h1, rfl, rfl⟩ := key
  exact h1

/-- A text read: what is left, what is wrong, the text. -/
def text (s : List UInt8) (e most : Int) : List UInt8 × Int × List UInt8 :=
  if (raw s e 2).2.1 = 0 ∧ most < (be (raw s e 2).2.2 : Int) then ([], 11, []) else raw (raw s e 2).1 (raw s e 2).2.1 (be (raw s e 2).2.2)

theorem raw_len2 (s : List UInt8) (e : Int) : (raw s e 2).2.2.length ≤ 2 := by
  unfold raw
  split
  · simp
  · split
    · simp
    · split
      · simp
      · rw [List.length_take]; exact Nat.min_le_left _ _

theorem wrap_be2 (s : List UInt8) (e : Int) : IntKind.i64.wrap (be (raw s e 2).2.2 : Int) = (be (raw s e 2).2.2 : Int) := by
  have := be_lt2 _ (raw_len2 s e)
  rw [wrap_i64]; omega

/-! ### The reference's readers -/
theorem raw_err (s : List UInt8) (e n : Int) (h : e ≠ 0) : raw s e n = (s, e, []) := by
  unfold raw
  rw [if_pos h]
def gv (s : List UInt8) (e : Int) : AVal := .agg [.str s, .int .i64 e]
theorem gv_is (s : List UInt8) (e : Int) : gv s e = .agg [.str s, .int .i64 e] := rfl

end Go.Proofs.Ytilhjcnkaelheaa.Sd
