/- The readers of the octets' chapter: numbers and texts read; the law of the readers. -/
import Derived.Test.YtmicohgachjcgaaReAll
set_option maxRecDepth 100000
set_option linter.unusedSimpArgs false
set_option linter.unusedVariables false
set_option maxHeartbeats 2000000
namespace Go.Proofs.Ytmicohgachjcgaa.Re
open Go Go.Proofs.Ytmicohgachjcgaa.Am ReFns Go.RowKit

/-- The number of bytes. -/
def be (s : List UInt8) : Nat := s.foldl (fun n c => n * 256 + c.toNat) 0

theorem be_lt_from : ∀ (s : List UInt8) (n : Nat), s.foldl (fun n c => n * 256 + c.toNat) n < (n + 1) * 256 ^ s.length
  | [], n => by simp
  | c :: s, n => by
    simp only [List.foldl_cons, List.length_cons]
    have h := be_lt_from s (n * 256 + c.toNat)
    have hc := c.toNat_lt
    have h2 : (n * 256 + c.toNat + 1) * 256 ^ s.length ≤ ((n + 1) * 256) * 256 ^ s.length := Nat.mul_le_mul_right _ (by omega)
    rw [Nat.pow_succ, Nat.mul_comm (256 ^ s.length), ← Nat.mul_assoc]
    omega
theorem be_lt (s : List UInt8) : be s < 256 ^ s.length := by
  have := be_lt_from s 0
  simpa [be] using this
theorem be_lt8 (s : List UInt8) (h : s.length ≤ 8) : be s < 18446744073709551616 :=
  Nat.lt_of_lt_of_le (be_lt s) (Nat.le_trans (Nat.pow_le_pow_right (by decide) h) (by decide))
theorem be_lt2 (s : List UInt8) (h : s.length ≤ 2) : be s < 65536 :=
  Nat.lt_of_lt_of_le (be_lt s) (Nat.le_trans (Nat.pow_le_pow_right (by decide) h) (by decide))
theorem be_snoc (s : List UInt8) (c : UInt8) : be (s ++ [c]) = be s * 256 + c.toNat := by simp [be, List.foldl_append]

theorem shl_u64 (n : Nat) (h : n * 256 < 18446744073709551616) : abin .shl (.int .u64 (n : Int)) (.int .u64 8) = some (.int .u64 ((n * 256 : Nat) : Int)) := by
  simp only [abin, ashift]
  rw [if_neg (by decide)]
  simp only [show min (Int.toNat 8) IntKind.u64.bits = 8 from rfl]
  have e : (n : Int) * 2 ^ 8 = ((n * 256 : Nat) : Int) := by
    rw [show ((2 : Int) ^ 8) = 256 from rfl]
    omega
  rw [e, wrap_u64 _ h]
theorem or_u64 (n : Nat) (c : UInt8) (h : n * 256 < 18446744073709551616) : abin .or (.int .u64 ((n * 256 : Nat) : Int)) (.int .u64 (c.toNat : Int)) = some (.int .u64 ((n * 256 + c.toNat : Nat) : Int)) := by
  have hc := c.toNat_lt
  have e0 : abin .or (.int .u64 ((n * 256 : Nat) : Int)) (.int .u64 (c.toNat : Int)) = some (.int .u64 (IntKind.u64.wrap ((BitVec.ofInt 64 ((n * 256 : Nat) : Int) ||| BitVec.ofInt 64 (c.toNat : Int)).toNat : Int))) := by
    rw [b_int .or _ _ _ (by decide) (by decide)]; rfl
  have e1 : ∀ m : Nat, BitVec.ofInt 64 (m : Int) = BitVec.ofNat 64 m := fun m => by simp
  have e2 : (BitVec.ofNat 64 (n * 256) ||| BitVec.ofNat 64 c.toNat).toNat = n * 256 + c.toNat := by
    rw [BitVec.toNat_or, BitVec.toNat_ofNat, BitVec.toNat_ofNat, Nat.mod_eq_of_lt (by omega), Nat.mod_eq_of_lt (by omega)]
    rw [Nat.mul_comm, show 256 = 2 ^ 8 from rfl]
    exact (Nat.two_pow_add_eq_or_of_lt (i := 8) hc n).symm
  rw [e0, e1, e1, e2, wrap_u64 _ (by omega)]
theorem wrap_c (c : UInt8) : IntKind.u64.wrap (c.toNat : Int) = (c.toNat : Int) := wrap_u64 _ (by have := c.toNat_lt; omega)

def wid (w : Int) : Int := if 1 ≤ w ∧ w ≤ 8 then w else -1
theorem raw_len (s : List UInt8) (e w : Int) : (raw s e (wid w)).2.2.length ≤ 8 := by
  unfold raw wid
  split
  · simp
  · split
    · split
      · simp
      · split
        · simp
        · rw [List.length_take]; omega
    · simp

def b34 : ACode := (.seq (.region [⟨(some 17), (.bin .lss (.tmp 16) (.tmp 15)), none, none⟩]) (.seq (.cond (.tmp 17) .skip (.exit 0)) (.seq (.block 1 (.seq (.region [⟨(some 18), (.idxASl 1 (.tmp 14) (.tmp 16)), none, none⟩, ⟨(some 19), (.load false 1 (.tmp 18)), none, none⟩, ⟨(some 7), (.mv (.tmp 19)), none, none⟩]) (.region [⟨(some 20), (.mv (.tmp 5)), none, none⟩, ⟨(some 21), (.bin .shl (.tmp 20) (.con (.int .u64 8))), none, none⟩, ⟨(some 22), (.mv (.tmp 7)), none, none⟩, ⟨(some 23), (.toInt .u64 (.tmp 22)), none, none⟩, ⟨(some 24), (.bin .or (.tmp 21) (.tmp 23)), none, none⟩, ⟨(some 5), (.mv (.tmp 24)), none, none⟩]))) (.region [⟨(some 25), (.bin .add (.tmp 16) (.con (.int .i64 1))), none, none⟩, ⟨(some 16), (.mv (.tmp 25)), none, none⟩]))))

theorem loop34 {s : List UInt8} (hs : s.length ≤ 8) {env : Env} {H : AHeap} {q : Nat} (h5 : env 5 = .int .u64 0) (h14 : env 14 = .slice q 0 s.length s.length (some 1)) (h15 : env 15 = .int .i64 (s.length : Int)) (h16 : env 16 = .int .i64 0) (ho : H.obj q = some (.cells (s.map by8) true)) :
    Outs (AX A (.loop b34) env H) fun e env' H' => e = .exit 0 ∧ H' = H ∧ env' 5 = .int .u64 (be s : Int) := by
  refine loop_ends (I := fun (j : Nat) env' H' => j ≤ s.length ∧ H' = H ∧ env' 5 = .int .u64 (be (s.take j) : Int) ∧ env' 14 = .slice q 0 s.length s.length (some 1) ∧ env' 15 = .int .i64 (s.length : Int) ∧ env' 16 = .int .i64 (j : Int)) (fun j => s.length - j) ?_ 0 env H ⟨Nat.zero_le _, rfl, h5, h14, h15, h16⟩
  rintro j env' _ ⟨hj, rfl, h5, h14, h15, h16⟩
  by_cases hlt : j < s.length
  · have e1 : decide ((j : Int) < (s.length : Int)) = true := by simp; omega
    have w1 : IntKind.i64.wrap ((j : Int) + 1) = ((j + 1 : Nat) : Int) := by rw [wrap_i64]; omega
    have ha : aidx s.length (.int .i64 (j : Int)) = some j := by simp [aidx]; omega
    have hg : (s.map by8)[j]? = some (.int .u8 (s[j].toNat : Int)) := by simp [hlt, by8]
    have hb : be (s.take j) * 256 < 18446744073709551616 := by
      have h1 := be_lt (s.take j)
      rw [List.length_take, Nat.min_eq_left hj] at h1
      have h2 : 256 ^ j ≤ 256 ^ 7 := Nat.pow_le_pow_right (by decide) (by omega)
      have h3 : (256 : Nat) ^ 7 * 256 = 18446744073709551616 := by decide
      omega
    simp only [b34, h5, h14, h15, h16, e1, w1, ha, ho, hg, shl_u64 _ hb, or_u64 _ _ hb, wrap_c, rwA, rwB, Nat.reduceAdd, Nat.reduceMul, Nat.reduceLeDiff, Int.reduceEq, Int.reduceLT, Int.reduceLE, Int.reduceAdd, Int.reduceSub, Int.reduceMul, ↓reduceIte, Nat.reduceEqDiff, reduceCtorEq, ↓cnd_true, ↓cnd_false]
    rw [outs_some]
    refine .inl ⟨rfl, j + 1, by omega, by omega, rfl, ?_, by simp [Env.set, h14], by simp [Env.set, h15], by simp [Env.set]⟩
    rw [List.take_add_one, List.getElem?_eq_getElem hlt, Option.toList_some, be_snoc]
    simp only [set_get, Nat.reduceEqDiff, reduceIte]
  · have e1 : decide ((j : Int) < (s.length : Int)) = false := by simp; omega
    simp only [b34, h15, h16, e1, rwA, rwB, Nat.reduceAdd, Nat.reduceMul, Nat.reduceLeDiff, Int.reduceEq, Int.reduceLT, Int.reduceLE, Int.reduceAdd, Int.reduceSub, Int.reduceMul, ↓reduceIte, Nat.reduceEqDiff, reduceCtorEq, ↓cnd_true, ↓cnd_false]
    rw [outs_some]
    rw [List.take_of_length_le (by omega)] at h5
    exact .inr ⟨by simp, rfl, rfl, by simp [Env.set, h5]⟩

/-- A number read. -/
theorem U34 {H : AHeap} {p : Nat} {s : List UInt8} {e : Int} (h : Rd H p s e) (w : Int) :
    AC A 34 [.ptr p 0, .int .i64 w] H = some (.int .u64 (be (raw s e (wid w)).2.2 : Int), (H.set p (rd (raw s e (wid w)).1 (raw s e (wid w)).2.1)).new (.cells ((raw s e (wid w)).2.2.map by8) true)) := by
  have hl := raw_len s e w
  have key : Rets (AC A 34 [.ptr p 0, .int .i64 w] H) fun v K => v = .int .u64 (be (raw s e (wid w)).2.2 : Int) ∧ K = (H.set p (rd (raw s e (wid w)).1 (raw s e (wid w)).2.1)).new (.cells ((raw s e (wid w)).2.2.map by8) true) := by
    rw [s_fn (A := A) (f := 34) (x := ReFns.c34) rfl rfl rfl]
    cases c1 : (decide (1 ≤ w) && decide (w ≤ 8))
    · have hw : wid w = -1 := by
        unfold wid
        rw [if_neg]
        simpa using c1
      rw [hw] at hl ⊢
      simp only [c34, U81, c1, U38 h, by8_fun, rwA, rwB, Nat.reduceAdd, Nat.reduceMul, Nat.reduceLeDiff, Int.reduceEq, Int.reduceLT, Int.reduceLE, Int.reduceAdd, Int.reduceSub, Int.reduceMul, ↓reduceIte, Nat.reduceEqDiff, reduceCtorEq, ↓cnd_true, ↓cnd_false]
      repeat (first | refine outs_seq ?_ | refine outs_block ?_ | refine outs_step ?_ | refine outs_stepD ?_ | refine rets_end ?_ | refine ans_end ?_)
      refine (loop34 hl (q := H.next) ?_ ?_ ?_ ?_ ?_).mono ?_
      · simp [Env.set]
      · simp [Env.set, set_next]
      · simp [Env.set]
      · simp [Env.set]
      · simp [AHeap.new, set_next]
      · rintro e' env K ⟨rfl, rfl, h5⟩
        simp only [outs_some, h5, rwA, rwB, Nat.reduceAdd, Nat.reduceMul, Nat.reduceLeDiff, Int.reduceEq, Int.reduceLT, Int.reduceLE, Int.reduceAdd, Int.reduceSub, Int.reduceMul, ↓reduceIte, Nat.reduceEqDiff, reduceCtorEq, ↓cnd_true, ↓cnd_false]
        rw [rets_some]
        exact ⟨rfl, rfl⟩
    · have hw : wid w = w := by
        unfold wid
        rw [if_pos]
        simpa using c1
      rw [hw] at hl ⊢
      simp only [c34, U81, c1, U38 h, by8_fun, rwA, rwB, Nat.reduceAdd, Nat.reduceMul, Nat.reduceLeDiff, Int.reduceEq, Int.reduceLT, Int.reduceLE, Int.reduceAdd, Int.reduceSub, Int.reduceMul, ↓reduceIte, Nat.reduceEqDiff, reduceCtorEq, ↓cnd_true, ↓cnd_false]
      repeat (first | refine outs_seq ?_ | refine outs_block ?_ | refine outs_step ?_ | refine outs_stepD ?_ | refine rets_end ?_ | refine ans_end ?_)
      refine (loop34 hl (q := H.next) ?_ ?_ ?_ ?_ ?_).mono ?_
      · simp [Env.set]
      · simp [Env.set, set_next]
      · simp [Env.set]
      · simp [Env.set]
      · simp [AHeap.new, set_next]
      · rintro e' env K ⟨rfl, rfl, h5⟩
        simp only [outs_some, h5, rwA, rwB, Nat.reduceAdd, Nat.reduceMul, Nat.reduceLeDiff, Int.reduceEq, Int.reduceLT, Int.reduceLE, Int.reduceAdd, Int.reduceSub, Int.reduceMul, ↓reduceIte, Nat.reduceEqDiff, reduceCtorEq, ↓cnd_true, ↓cnd_false]
        rw [rets_some]
        exact ⟨rfl, rfl⟩
  obtain ⟨v, K, h1, rfl, rfl⟩ := key
  exact h1

/-- A text read: what is left, what is wrong, the text. -/
def text (s : List UInt8) (e most : Int) : List UInt8 × Int × List UInt8 :=
  if (raw s e 2).2.1 = 0 ∧ most < (be (raw s e 2).2.2 : Int) then ([], 11, []) else raw (raw s e 2).1 (raw s e 2).2.1 (be (raw s e 2).2.2)

theorem raw_len2 (s : List UInt8) (e : Int) : (raw s e 2).2.2.length ≤ 2 := by
  unfold raw
  split
  · simp
  · split
    · simp
    · split
      · simp
      · rw [List.length_take]; exact Nat.min_le_left _ _

theorem wrap_be2 (s : List UInt8) (e : Int) : IntKind.i64.wrap (be (raw s e 2).2.2 : Int) = (be (raw s e 2).2.2 : Int) := by
  have := be_lt2 _ (raw_len2 s e)
  rw [wrap_i64]; omega

theorem U36 {H : AHeap} {p : Nat} {s : List UInt8} {e : Int} (h : Rd H p s e) (hp : p < H.next) (most : Int) :
    AC A 36 [.ptr p 0, .int .i64 most] H = some (.str (text s e most).2.2, ((H.set p (rd (raw s e 2).1 (raw s e 2).2.1)).new (.cells ((raw s e 2).2.2.map by8) true)).set p (rd (text s e most).1 (text s e most).2.1)) := by
  have u34 := U34 h 2
  rw [show wid 2 = 2 from rfl] at u34
  have h1 : Rd ((H.set p (rd (raw s e 2).1 (raw s e 2).2.1)).new (.cells ((raw s e 2).2.2.map by8) true)) p (raw s e 2).1 (raw s e 2).2.1 := by
    unfold Rd
    rw [new_obj, set_next, if_neg (by omega), set_obj, if_pos rfl]
    rfl
  rw [s_fn (A := A) (f := 36) (x := ReFns.c36) rfl rfl rfl]
  unfold text
  cases c1 : decide ((raw s e 2).2.1 = 0)
  · have hne : ¬ (raw s e 2).2.1 = 0 := by simpa using c1
    rw [if_neg (fun hh => hne hh.1)]
    simp only [c36, u34, wrap_be2, U40 h1, c1, U38 h1, rwA, rwB, Nat.reduceAdd, Nat.reduceMul, Nat.reduceLeDiff, Int.reduceEq, Int.reduceLT, Int.reduceLE, Int.reduceAdd, Int.reduceSub, Int.reduceMul, ↓reduceIte, Nat.reduceEqDiff, reduceCtorEq, ↓cnd_true, ↓cnd_false]
  · have he : (raw s e 2).2.1 = 0 := by simpa using c1
    cases c2 : decide (most < (be (raw s e 2).2.2 : Int))
    · have hn : ¬ most < (be (raw s e 2).2.2 : Int) := by simpa using c2
      rw [if_neg (fun hh => hn hh.2)]
      simp only [c36, u34, wrap_be2, U40 h1, c1, c2, U38 h1, rwA, rwB, Nat.reduceAdd, Nat.reduceMul, Nat.reduceLeDiff, Int.reduceEq, Int.reduceLT, Int.reduceLE, Int.reduceAdd, Int.reduceSub, Int.reduceMul, ↓reduceIte, Nat.reduceEqDiff, reduceCtorEq, ↓cnd_true, ↓cnd_false]
    · have hn : most < (be (raw s e 2).2.2 : Int) := by simpa using c2
      rw [if_pos ⟨he, hn⟩]
      simp only [c36, u34, wrap_be2, U40 h1, c1, c2, U86 h1, rwA, rwB, Nat.reduceAdd, Nat.reduceMul, Nat.reduceLeDiff, Int.reduceEq, Int.reduceLT, Int.reduceLE, Int.reduceAdd, Int.reduceSub, Int.reduceMul, ↓reduceIte, Nat.reduceEqDiff, reduceCtorEq, ↓cnd_true, ↓cnd_false]

/-! ### The reference's readers -/
theorem raw_err (s : List UInt8) (e n : Int) (h : e ≠ 0) : raw s e n = (s, e, []) := by
  unfold raw
  rw [if_pos h]
def gv (s : List UInt8) (e : Int) : AVal := .agg [.str s, .int .i64 e]
theorem gv_is (s : List UInt8) (e : Int) : gv s e = .agg [.str s, .int .i64 e] := rfl

theorem U85 (e : Int) (H : AHeap) : AC A 85 [.int .i64 e] H = some (.agg [.str [], .int .i64 e], H) := by
  refine one_val (x := ReFns.c85) rfl rfl rfl rfl rfl ?_ H
  simp only [c85, rwA, rwB, Nat.reduceAdd, Nat.reduceMul, Nat.reduceLeDiff, Int.reduceEq, Int.reduceLT, Int.reduceLE, Int.reduceAdd, Int.reduceSub, Int.reduceMul, ↓reduceIte, Nat.reduceEqDiff, reduceCtorEq, ↓cnd_true, ↓cnd_false]

theorem U37 (s : List UInt8) (e : Int) (n : Int) (H : AHeap) : AC A 37 [.agg [.str s, .int .i64 e], .int .i64 n] H = some (.tuple [.agg [.str (raw s e n).1, .int .i64 (raw s e n).2.1], .str (raw s e n).2.2], H) := by
  refine one_val (x := ReFns.c37) rfl rfl rfl rfl rfl ?_ H
  unfold raw
  cases c1 : decide (e = 0)
  · have hne : e ≠ 0 := by simpa using c1
    rw [if_pos hne]
    simp only [c37, c1, rwA, rwB, Nat.reduceAdd, Nat.reduceMul, Nat.reduceLeDiff, Int.reduceEq, Int.reduceLT, Int.reduceLE, Int.reduceAdd, Int.reduceSub, Int.reduceMul, ↓reduceIte, Nat.reduceEqDiff, reduceCtorEq, ↓cnd_true, ↓cnd_false]
  · have he : e = 0 := by simpa using c1
    subst he
    rw [if_neg (by simp)]
    cases c2 : decide (n < 0)
    · have hn : ¬ n < 0 := by simpa using c2
      rw [if_neg hn]
      cases c3 : decide ((s.length : Int) < n)
      · have hl : ¬ (s.length : Int) < n := by simpa using c3
        rw [if_neg hl]
        simp only [c37, c2, c3, slc_lo s n (by omega) (by omega), slc_hi s n (by omega) (by omega), List.take_length, rwA, rwB, Nat.reduceAdd, Nat.reduceMul, Nat.reduceLeDiff, Int.reduceEq, Int.reduceLT, Int.reduceLE, Int.reduceAdd, Int.reduceSub, Int.reduceMul, ↓reduceIte, Nat.reduceEqDiff, reduceCtorEq, ↓cnd_true, ↓cnd_false]
      · have hl : (s.length : Int) < n := by simpa using c3
        rw [if_pos hl]
        simp only [c37, c2, c3, U85, rwA, rwB, Nat.reduceAdd, Nat.reduceMul, Nat.reduceLeDiff, Int.reduceEq, Int.reduceLT, Int.reduceLE, Int.reduceAdd, Int.reduceSub, Int.reduceMul, ↓reduceIte, Nat.reduceEqDiff, reduceCtorEq, ↓cnd_true, ↓cnd_false]
    · have hn : n < 0 := by simpa using c2
      rw [if_pos hn]
      simp only [c37, c2, U85, rwA, rwB, Nat.reduceAdd, Nat.reduceMul, Nat.reduceLeDiff, Int.reduceEq, Int.reduceLT, Int.reduceLE, Int.reduceAdd, Int.reduceSub, Int.reduceMul, ↓reduceIte, Nat.reduceEqDiff, reduceCtorEq, ↓cnd_true, ↓cnd_false]

def b33 : ACode := (.seq (.seq (.region [⟨(some 27), (.mv (.tmp 8)), none, none⟩, ⟨(some 28), (.mv (.tmp 6)), none, none⟩, ⟨(some 29), (.len true (.tmp 28)), none, none⟩, ⟨(some 30), (.bin .lss (.tmp 27) (.tmp 29)), none, none⟩]) (.cond (.tmp 30) .skip (.exit 0))) (.seq (.block 1 (.region [⟨(some 33), (.mv (.tmp 7)), none, none⟩, ⟨(some 34), (.bin .mul (.con (.int .u64 256)) (.tmp 33)), none, none⟩, ⟨(some 35), (.mv (.tmp 6)), none, none⟩, ⟨(some 36), (.mv (.tmp 8)), none, none⟩, ⟨(some 37), (.idxStr (.tmp 35) (.tmp 36)), none, none⟩, ⟨(some 38), (.toInt .u64 (.tmp 37)), none, none⟩, ⟨(some 39), (.bin .add (.tmp 34) (.tmp 38)), none, none⟩, ⟨(some 7), (.mv (.tmp 39)), none, none⟩])) (.region [⟨(some 31), (.mv (.tmp 8)), none, none⟩, ⟨(some 32), (.bin .add (.tmp 31) (.con (.int .i64 1))), none, none⟩, ⟨(some 8), (.mv (.tmp 32)), none, none⟩])))

theorem loop33 {s : List UInt8} (hs : s.length ≤ 8) {env : Env} {H : AHeap} (h6 : env 6 = .str s) (h7 : env 7 = .int .u64 0) (h8 : env 8 = .int .i64 0) :
    Outs (AX A (.loop b33) env H) fun e env' H' => e = .exit 0 ∧ H' = H ∧ env' 2 = env 2 ∧ env' 4 = env 4 ∧ env' 7 = .int .u64 (be s : Int) := by
  refine loop_ends (I := fun (j : Nat) env' H' => j ≤ s.length ∧ H' = H ∧ env' 2 = env 2 ∧ env' 4 = env 4 ∧ env' 6 = .str s ∧ env' 7 = .int .u64 (be (s.take j) : Int) ∧ env' 8 = .int .i64 (j : Int)) (fun j => s.length - j) ?_ 0 env H ⟨Nat.zero_le _, rfl, rfl, rfl, h6, h7, h8⟩
  rintro j env' _ ⟨hj, rfl, h2, h4, h6, h7, h8⟩
  by_cases hlt : j < s.length
  · have e1 : decide ((j : Int) < (s.length : Int)) = true := by simp; omega
    have w1 : IntKind.i64.wrap ((j : Int) + 1) = ((j + 1 : Nat) : Int) := by rw [wrap_i64]; omega
    have ha : aidx s.length (.int .i64 (j : Int)) = some j := by simp [aidx]; omega
    have hg : s[j]? = some s[j] := List.getElem?_eq_getElem hlt
    have hc := s[j].toNat_lt
    have hb : be (s.take j) * 256 < 18446744073709551616 := by
      have h1 := be_lt (s.take j)
      rw [List.length_take, Nat.min_eq_left hj] at h1
      have h2 : 256 ^ j ≤ 256 ^ 7 := Nat.pow_le_pow_right (by decide) (by omega)
      have h3 : (256 : Nat) ^ 7 * 256 = 18446744073709551616 := by decide
      omega
    have hb2 : be (s.take j) * 256 + s[j].toNat < 18446744073709551616 := by omega
    have w2 : IntKind.u64.wrap (256 * (be (s.take j) : Int)) = ((be (s.take j) * 256 : Nat) : Int) := by
      rw [show 256 * (be (s.take j) : Int) = ((be (s.take j) * 256 : Nat) : Int) by omega, wrap_u64 _ hb]
    have w3 : IntKind.u64.wrap (((be (s.take j) * 256 : Nat) : Int) + (s[j].toNat : Int)) = ((be (s.take j) * 256 + s[j].toNat : Nat) : Int) := by
      rw [show ((be (s.take j) * 256 : Nat) : Int) + (s[j].toNat : Int) = ((be (s.take j) * 256 + s[j].toNat : Nat) : Int) by omega, wrap_u64 _ hb2]
    simp only [b33, h6, h7, h8, e1, w1, ha, hg, w2, w3, wrap_c, rwA, rwB, Nat.reduceAdd, Nat.reduceMul, Nat.reduceLeDiff, Int.reduceEq, Int.reduceLT, Int.reduceLE, Int.reduceAdd, Int.reduceSub, Int.reduceMul, ↓reduceIte, Nat.reduceEqDiff, reduceCtorEq, ↓cnd_true, ↓cnd_false]
    rw [outs_some]
    refine .inl ⟨rfl, j + 1, by omega, by omega, rfl, by simp [Env.set, h2], by simp [Env.set, h4], by simp [Env.set, h6], ?_, by simp [Env.set]⟩
    rw [List.take_add_one, List.getElem?_eq_getElem hlt, Option.toList_some, be_snoc]
    simp only [set_get, Nat.reduceEqDiff, reduceIte]
  · have e1 : decide ((j : Int) < (s.length : Int)) = false := by simp; omega
    simp only [b33, h6, h8, e1, rwA, rwB, Nat.reduceAdd, Nat.reduceMul, Nat.reduceLeDiff, Int.reduceEq, Int.reduceLT, Int.reduceLE, Int.reduceAdd, Int.reduceSub, Int.reduceMul, ↓reduceIte, Nat.reduceEqDiff, reduceCtorEq, ↓cnd_true, ↓cnd_false]
    rw [outs_some]
    rw [List.take_of_length_le (by omega)] at h7
    exact .inr ⟨by simp, rfl, rfl, by simp [Env.set, h2], by simp [Env.set, h4], by simp [Env.set, h7]⟩

theorem U33 (s : List UInt8) (e : Int) (w : Int) (H : AHeap) : AC A 33 [.agg [.str s, .int .i64 e], .int .i64 w] H = some (.tuple [.agg [.str (raw s e (wid w)).1, .int .i64 (raw s e (wid w)).2.1], .int .u64 (be (raw s e (wid w)).2.2 : Int)], H) := by
  refine one_val (x := ReFns.c33) rfl rfl rfl rfl rfl ?_ H
  have hl := raw_len s e w
  by_cases hok : e ≠ 0 ∨ (1 ≤ w ∧ w ≤ 8)
  · have hraw : raw s e w = raw s e (wid w) := by
      rcases hok with he | hw
      · unfold raw
        rw [if_pos he, if_pos he]
      · unfold wid
        rw [if_pos hw]
    have u37 := U37 s e w
    rw [hraw] at u37
    cases c1 : decide (e = 0)
    · simp only [c33, c1, u37, rwA, rwB, Nat.reduceAdd, Nat.reduceMul, Nat.reduceLeDiff, Int.reduceEq, Int.reduceLT, Int.reduceLE, Int.reduceAdd, Int.reduceSub, Int.reduceMul, ↓reduceIte, Nat.reduceEqDiff, reduceCtorEq, ↓cnd_true, ↓cnd_false]
      repeat (first | refine outs_seq ?_ | refine outs_block ?_ | refine outs_step ?_ | refine outs_stepD ?_ | refine rets_end ?_ | refine ans_end ?_)
      refine (loop33 hl ?_ ?_ ?_).mono ?_
      · simp [Env.set]
      · simp [Env.set]
      · simp [Env.set]
      · rintro e' env K ⟨rfl, rfl, h2, h4, h7⟩
        simp only [outs_some, h2, h4, h7, rwA, rwB, Nat.reduceAdd, Nat.reduceMul, Nat.reduceLeDiff, Int.reduceEq, Int.reduceLT, Int.reduceLE, Int.reduceAdd, Int.reduceSub, Int.reduceMul, ↓reduceIte, Nat.reduceEqDiff, reduceCtorEq, ↓cnd_true, ↓cnd_false]
    · have he : e = 0 := by simpa using c1
      have hw : 1 ≤ w ∧ w ≤ 8 := by rcases hok with h | h; exact absurd he h; exact h
      have c2 : decide (w < 1) = false := by simp; omega
      have c3 : decide (8 < w) = false := by simp; omega
      simp only [c33, c1, c2, c3, u37, rwA, rwB, Nat.reduceAdd, Nat.reduceMul, Nat.reduceLeDiff, Int.reduceEq, Int.reduceLT, Int.reduceLE, Int.reduceAdd, Int.reduceSub, Int.reduceMul, ↓reduceIte, Nat.reduceEqDiff, reduceCtorEq, ↓cnd_true, ↓cnd_false]
      repeat (first | refine outs_seq ?_ | refine outs_block ?_ | refine outs_step ?_ | refine outs_stepD ?_ | refine rets_end ?_ | refine ans_end ?_)
      refine (loop33 hl ?_ ?_ ?_).mono ?_
      · simp [Env.set]
      · simp [Env.set]
      · simp [Env.set]
      · rintro e' env K ⟨rfl, rfl, h2, h4, h7⟩
        simp only [outs_some, h2, h4, h7, rwA, rwB, Nat.reduceAdd, Nat.reduceMul, Nat.reduceLeDiff, Int.reduceEq, Int.reduceLT, Int.reduceLE, Int.reduceAdd, Int.reduceSub, Int.reduceMul, ↓reduceIte, Nat.reduceEqDiff, reduceCtorEq, ↓cnd_true, ↓cnd_false]
  · have he : e = 0 := by omega
    subst he
    have hw : wid w = -1 := by
      unfold wid
      rw [if_neg (by omega)]
    have hraw : raw s 0 (wid w) = ([], 18, []) := by
      rw [hw]; unfold raw
      rw [if_neg (by simp), if_pos (by decide)]
    rw [hraw]
    cases c2 : decide (w < 1)
    · have c3 : decide (8 < w) = true := by simp at c2 ⊢; omega
      simp only [c33, c2, c3, U85, rwA, rwB, Nat.reduceAdd, Nat.reduceMul, Nat.reduceLeDiff, Int.reduceEq, Int.reduceLT, Int.reduceLE, Int.reduceAdd, Int.reduceSub, Int.reduceMul, ↓reduceIte, Nat.reduceEqDiff, reduceCtorEq, ↓cnd_true, ↓cnd_false]
      rfl
    · simp only [c33, c2, U85, rwA, rwB, Nat.reduceAdd, Nat.reduceMul, Nat.reduceLeDiff, Int.reduceEq, Int.reduceLT, Int.reduceLE, Int.reduceAdd, Int.reduceSub, Int.reduceMul, ↓reduceIte, Nat.reduceEqDiff, reduceCtorEq, ↓cnd_true, ↓cnd_false]
      rfl

theorem U35 (s : List UInt8) (e : Int) (most : Int) (H : AHeap) : AC A 35 [.agg [.str s, .int .i64 e], .int .i64 most] H = some (.tuple [.agg [.str (text s e most).1, .int .i64 (text s e most).2.1], .str (text s e most).2.2], H) := by
  refine one_val (x := ReFns.c35) rfl rfl rfl rfl rfl ?_ H
  have u33 := U33 s e 2
  rw [show wid 2 = 2 from rfl] at u33
  have wb := wrap_be2 s e
  unfold text
  cases c1 : decide ((raw s e 2).2.1 = 0)
  · have hne : ¬ (raw s e 2).2.1 = 0 := by simpa using c1
    rw [if_neg (fun hh => hne hh.1)]
    have hr : raw (raw s e 2).1 (raw s e 2).2.1 (be (raw s e 2).2.2) = ((raw s e 2).1, (raw s e 2).2.1, []) := by
      exact raw_err _ _ _ hne
    rw [hr]
    simp only [c35, u33, c1, rwA, rwB, Nat.reduceAdd, Nat.reduceMul, Nat.reduceLeDiff, Int.reduceEq, Int.reduceLT, Int.reduceLE, Int.reduceAdd, Int.reduceSub, Int.reduceMul, ↓reduceIte, Nat.reduceEqDiff, reduceCtorEq, ↓cnd_true, ↓cnd_false]
  · have he : (raw s e 2).2.1 = 0 := by simpa using c1
    cases c2 : decide (most < (be (raw s e 2).2.2 : Int))
    · have hn : ¬ most < (be (raw s e 2).2.2 : Int) := by simpa using c2
      rw [if_neg (fun hh => hn hh.2)]
      simp only [c35, u33, wb, c1, c2, U37, rwA, rwB, Nat.reduceAdd, Nat.reduceMul, Nat.reduceLeDiff, Int.reduceEq, Int.reduceLT, Int.reduceLE, Int.reduceAdd, Int.reduceSub, Int.reduceMul, ↓reduceIte, Nat.reduceEqDiff, reduceCtorEq, ↓cnd_true, ↓cnd_false]
    · have hn : most < (be (raw s e 2).2.2 : Int) := by simpa using c2
      rw [if_pos ⟨he, hn⟩]
      simp only [c35, u33, wb, c1, c2, U85, rwA, rwB, Nat.reduceAdd, Nat.reduceMul, Nat.reduceLeDiff, Int.reduceEq, Int.reduceLT, Int.reduceLE, Int.reduceAdd, Int.reduceSub, Int.reduceMul, ↓reduceIte, Nat.reduceEqDiff, reduceCtorEq, ↓cnd_true, ↓cnd_false]

theorem U42 (s : List UInt8) (e : Int) (H : AHeap) : AC A 42 [.agg [.str s, .int .i64 e]] H = some (.int .i64 (ending s e), H) := by
  refine one_val (x := ReFns.c42) rfl rfl rfl rfl rfl ?_ H
  unfold ending
  cases c1 : decide (e = 0)
  · have hne : e ≠ 0 := by simpa using c1
    rw [if_pos hne]
    simp only [c42, c1, rwA, rwB, Nat.reduceAdd, Nat.reduceMul, Nat.reduceLeDiff, Int.reduceEq, Int.reduceLT, Int.reduceLE, Int.reduceAdd, Int.reduceSub, Int.reduceMul, ↓reduceIte, Nat.reduceEqDiff, reduceCtorEq, ↓cnd_true, ↓cnd_false]
  · have he : e = 0 := by simpa using c1
    subst he
    rw [if_neg (by simp)]
    cases c2 : decide ((0 : Int) < (s.length : Int))
    · rw [if_neg (by simp at c2 ⊢; omega)]
      simp only [c42, c2, rwA, rwB, Nat.reduceAdd, Nat.reduceMul, Nat.reduceLeDiff, Int.reduceEq, Int.reduceLT, Int.reduceLE, Int.reduceAdd, Int.reduceSub, Int.reduceMul, ↓reduceIte, Nat.reduceEqDiff, reduceCtorEq, ↓cnd_true, ↓cnd_false]
    · rw [if_pos (by simp at c2 ⊢; omega)]
      simp only [c42, c2, rwA, rwB, Nat.reduceAdd, Nat.reduceMul, Nat.reduceLeDiff, Int.reduceEq, Int.reduceLT, Int.reduceLE, Int.reduceAdd, Int.reduceSub, Int.reduceMul, ↓reduceIte, Nat.reduceEqDiff, reduceCtorEq, ↓cnd_true, ↓cnd_false]

end Go.Proofs.Ytmicohgachjcgaa.Re
