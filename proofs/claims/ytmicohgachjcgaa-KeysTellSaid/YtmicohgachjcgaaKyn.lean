/- The keys' chapter: the reference's own opening. -/
import Derived.Test.YtmicohgachjcgaaKym
set_option maxRecDepth 100000
set_option linter.unusedSimpArgs false
set_option linter.unusedVariables false
set_option maxHeartbeats 4000000
namespace Go.Proofs.Ytmicohgachjcgaa.Re
open Go Go.Proofs.Ytmicohgachjcgaa.Am ReFns Go.RowKit

theorem blen {k : Key} (h : k.right = true) : k.kind = 3 → k.bytes.length = 12 + k.bucket.length + k.name.length := by
  intro h3
  unfold Key.bytes Key.tail
  rw [if_pos h3]
  simp only [List.length_append, front_len, List.length_cons, len8]; omega
theorem blen4 {k : Key} (h : k.right = true) : k.kind = 4 → k.bytes.length = 11 + k.bucket.length := by
  intro h3
  unfold Key.bytes Key.tail
  rw [if_neg (by omega), if_pos h3]
  simp only [List.length_append, front_len, List.length_cons, len8]; omega
theorem blen5 {k : Key} (h : k.right = true) : k.kind = 5 → k.bytes.length = 12 + k.bucket.length := by
  intro h3
  unfold Key.bytes Key.tail
  rw [if_neg (by omega), if_neg (by omega), if_pos h3]
  simp only [List.length_append, front_len, List.length_cons, len8, len1]; omega

theorem U73 (t : Int) (H : AHeap) : AC A 73 [.int .i64 t] H = some (.str (bucketsp t), H) := by
  refine one_val (x := ReFns.c73) rfl rfl rfl rfl rfl ?_ H
  have u := U116 2 t [97] [] 0 0 2 (by simp) (by omega) (fun _ => by rw [bytes2, List.length_append, front_len]; simp)
  rw [cutk2] at u
  have z : ((0 : Nat) : Int) = 0 := rfl
  have z2 : ((2 : Nat) : Int) = 2 := rfl
  rw [z, z2] at u
  simp only [c73, u, rwA, rwB, Nat.reduceAdd, Nat.reduceMul, Nat.reduceLeDiff, Int.reduceEq, Int.reduceLT, Int.reduceLE, Int.reduceAdd, Int.reduceSub, Int.reduceMul, ↓reduceIte, Nat.reduceEqDiff, reduceCtorEq, ↓cnd_true, ↓cnd_false]
theorem w3 (n : Nat) (h : n ≤ 1000) : IntKind.i64.wrap (3 + (n : Int)) = ((3 + n : Nat) : Int) := by rw [wrap_i64] <;> omega
theorem w4 (n : Nat) (h : n ≤ 1000) : IntKind.i64.wrap (4 + (n : Int)) = ((4 + n : Nat) : Int) := by rw [wrap_i64] <;> omega
theorem w11 (n : Nat) (h : n ≤ 1000) : IntKind.i64.wrap (11 + (n : Int)) = ((11 + n : Nat) : Int) := by rw [wrap_i64] <;> omega
theorem w44 (n m : Nat) (h : n ≤ 1000) (h2 : m ≤ 1000) : IntKind.i64.wrap (((4 + n : Nat) : Int) + (m : Int)) = ((4 + n + m : Nat) : Int) := by rw [wrap_i64] <;> omega
theorem allp_no (k t : Int) (b : List UInt8) (h : ¬ (3 ≤ k ∧ k ≤ 5)) : allp k t b = [] := by
  unfold allp
  have : (decide (3 ≤ k) && decide (k < 6)) = false := by
    rw [Bool.and_eq_false_iff]
    by_cases h3 : 3 ≤ k
    · exact .inr (decide_eq_false (by omega))
    · exact .inl (decide_eq_false h3)
  rw [this, Bool.false_and, sure_f]
theorem U75 (k t : Int) (b : List UInt8) (hb : b.length ≤ 1000) (H : AHeap) : AC A 75 [.int .i64 k, .int .i64 t, .str b] H = some (.str (allp k t b), H) := by
  refine one_val (x := ReFns.c75) rfl rfl rfl rfl rfl ?_ H
  have ww := w3 b.length hb
  have z : ((0 : Nat) : Int) = 0 := rfl
  have u3 := U116 3 t b [97] 0 0 (3 + b.length) (by simp) (by omega) (fun h => by have := blen h rfl; simp only at this; omega)
  have u4 := U116 4 t b [] 0 0 (3 + b.length) (by simp) (by omega) (fun h => by have := blen4 h rfl; simp only at this; omega)
  have u5 := U116 5 t b [] 0 1 (3 + b.length) (by simp) (by omega) (fun h => by have := blen5 h rfl; simp only at this; omega)
  rw [cutk3, z] at u3
  rw [cutk4, z] at u4
  rw [cutk5, z] at u5
  by_cases k3 : k = 3
  · subst k3
    simp only [c75, ww, u3, rwA, rwB, Nat.reduceAdd, Nat.reduceMul, Nat.reduceLeDiff, Int.reduceEq, Int.reduceLT, Int.reduceLE, Int.reduceAdd, Int.reduceSub, Int.reduceMul, ↓reduceIte, Nat.reduceEqDiff, reduceCtorEq, ↓cnd_true, ↓cnd_false]
  · have e3 : decide (k = 3) = false := decide_eq_false k3
    by_cases k4 : k = 4
    · subst k4
      simp only [c75, ww, u4, rwA, rwB, Nat.reduceAdd, Nat.reduceMul, Nat.reduceLeDiff, Int.reduceEq, Int.reduceLT, Int.reduceLE, Int.reduceAdd, Int.reduceSub, Int.reduceMul, ↓reduceIte, Nat.reduceEqDiff, reduceCtorEq, ↓cnd_true, ↓cnd_false]
    · have e4 : decide (k = 4) = false := decide_eq_false k4
      by_cases k5 : k = 5
      · subst k5
        simp only [c75, ww, u5, rwA, rwB, Nat.reduceAdd, Nat.reduceMul, Nat.reduceLeDiff, Int.reduceEq, Int.reduceLT, Int.reduceLE, Int.reduceAdd, Int.reduceSub, Int.reduceMul, ↓reduceIte, Nat.reduceEqDiff, reduceCtorEq, ↓cnd_true, ↓cnd_false]
      · have e5 : decide (k = 5) = false := decide_eq_false k5
        rw [allp_no k t b (by omega)]
        simp only [c75, e3, e4, e5, rwA, rwB, Nat.reduceAdd, Nat.reduceMul, Nat.reduceLeDiff, Int.reduceEq, Int.reduceLT, Int.reduceLE, Int.reduceAdd, Int.reduceSub, Int.reduceMul, ↓reduceIte, Nat.reduceEqDiff, reduceCtorEq, ↓cnd_true, ↓cnd_false]
theorem U77 (t : Int) (b s : List UInt8) (hb : b.length ≤ 1000) (hs : s.length ≤ 1000) (H : AHeap) : AC A 77 [.int .i64 t, .str b, .str s] H = some (.str (chainp t b s), H) := by
  refine one_val (x := ReFns.c77) rfl rfl rfl rfl rfl ?_ H
  have u := U116 3 t b s 0 0 (4 + b.length + s.length) (by omega) (by omega) (fun h => by have := blen h rfl; simp only at this; omega)
  have z : ((0 : Nat) : Int) = 0 := rfl
  rw [cutkC, z, Nat.add_assoc] at u
  have ww : IntKind.i64.wrap (((4 + b.length : Nat) : Int) + (s.length : Int)) = ((4 + (b.length + s.length) : Nat) : Int) := by rw [w44 _ _ hb hs, Nat.add_assoc]
  simp only [c77, w4 _ hb, ww, u, rwA, rwB, Nat.reduceAdd, Nat.reduceMul, Nat.reduceLeDiff, Int.reduceEq, Int.reduceLT, Int.reduceLE, Int.reduceAdd, Int.reduceSub, Int.reduceMul, ↓reduceIte, Nat.reduceEqDiff, reduceCtorEq, ↓cnd_true, ↓cnd_false]
theorem U79 (t : Int) (b : List UInt8) (n : Nat) (hb : b.length ≤ 1000) (hn : n < 18446744073709551616) (H : AHeap) : AC A 79 [.int .i64 t, .str b, .int .u64 (n : Int)] H = some (.str (piecep t b n), H) := by
  refine one_val (x := ReFns.c79) rfl rfl rfl rfl rfl ?_ H
  have u := U116 5 t b [] n 1 (11 + b.length) (by simp) hn (fun h => by have := blen5 h rfl; simp only at this; omega)
  rw [cutkP] at u
  simp only [c79, w11 _ hb, u, rwA, rwB, Nat.reduceAdd, Nat.reduceMul, Nat.reduceLeDiff, Int.reduceEq, Int.reduceLT, Int.reduceLE, Int.reduceAdd, Int.reduceSub, Int.reduceMul, ↓reduceIte, Nat.reduceEqDiff, reduceCtorEq, ↓cnd_true, ↓cnd_false]

/-! ### Cut -/
def b112 : ACode := (.seq (.seq (.region [⟨(some 5), (.mv (.tmp 4)), none, none⟩, ⟨(some 6), (.mv (.tmp 0)), none, none⟩, ⟨(some 7), (.len true (.tmp 6)), none, none⟩, ⟨(some 8), (.bin .lss (.tmp 5) (.tmp 7)), none, none⟩]) (.cond (.tmp 8) .skip (.exit 0))) (.seq (.block 1 (.seq (.region [⟨(some 11), (.mv (.tmp 0)), none, none⟩, ⟨(some 12), (.mv (.tmp 4)), none, none⟩, ⟨(some 13), (.idxStr (.tmp 11) (.tmp 12)), none, none⟩, ⟨(some 14), (.bin .eql (.tmp 13) (.con (.int .u8 0))), none, none⟩]) (.cond (.tmp 14) (.seq (.draw [⟨(some 15), (.mv (.tmp 0)), none, none⟩, ⟨(some 16), (.mv (.tmp 4)), none, none⟩, ⟨(some 17), (.slcStr (.tmp 15) none (some (.tmp 16))), none, none⟩, ⟨(some 18), (.mv (.tmp 0)), none, none⟩, ⟨(some 19), (.mv (.tmp 4)), none, none⟩, ⟨(some 20), (.bin .add (.tmp 19) (.con (.int .i64 1))), none, none⟩, ⟨(some 21), (.slcStr (.tmp 18) (some (.tmp 20)) none), none, none⟩, ⟨(some 2), (.mv (.tmp 17)), none, none⟩, ⟨(some 3), (.mv (.tmp 21)), none, none⟩]) .ret) .skip))) (.region [⟨(some 9), (.mv (.tmp 4)), none, none⟩, ⟨(some 10), (.bin .add (.tmp 9) (.con (.int .i64 1))), none, none⟩, ⟨(some 4), (.mv (.tmp 10)), none, none⟩])))
theorem cut_at {s : List UInt8} {j : Nat} (hj : j < s.length) (h0 : s[j] = 0) (hz : ∀ i (hi : i < s.length), i < j → s[i] ≠ 0) : ncutA s = s.take j ∧ ncutB s = s.drop (j + 1) := by
  have e : s = s.take j ++ 0 :: s.drop (j + 1) := by
    rw [← h0, List.getElem_cons_drop, List.take_append_drop]
  have ha : (s.take j).all (· != 0) = true := by
    rw [List.all_eq_true]
    intro x hx
    obtain ⟨i, hi, rfl⟩ := List.mem_iff_getElem.1 hx
    rw [List.length_take] at hi
    rw [List.getElem_take, bne_iff_ne]
    exact hz i (by omega) (by omega)
  have := cut_zero (s.take j) (s.drop (j + 1)) ha
  rw [← e] at this
  exact this
theorem loop112 {s : List UInt8} (hs : s.length ≤ 4611686018427387904) {env : Env} {H : AHeap} (h0 : env 0 = .str s) (h4 : env 4 = .int .i64 0) :
    Outs (AX A (.loop b112) env H) fun e env' K => K = H ∧ ((e = .exit 0 ∧ env' 0 = .str s ∧ ncutA s = s ∧ ncutB s = []) ∨ (e = .ret ∧ env' 2 = .str (ncutA s) ∧ env' 3 = .str (ncutB s))) := by
  refine loop_ends (I := fun (j : Nat) env' K => j ≤ s.length ∧ K = H ∧ env' 0 = .str s ∧ env' 4 = .int .i64 (j : Int) ∧ ∀ i (hi : i < s.length), i < j → s[i] ≠ 0) (fun j => s.length - j) ?_ 0 env H ⟨Nat.zero_le _, rfl, h0, h4, fun i _ h => by omega⟩
  rintro j env' K ⟨hj, rfl, h0, h4, hz⟩
  by_cases hlt : j < s.length
  · have e1 : decide ((j : Int) < (s.length : Int)) = true := by simp; omega
    have w1 : IntKind.i64.wrap ((j : Int) + 1) = ((j + 1 : Nat) : Int) := by rw [wrap_i64]; omega
    have ha : aidx s.length (.int .i64 (j : Int)) = some j := by simp [aidx]; omega
    have hg : s[j]? = some s[j] := List.getElem?_eq_getElem hlt
    by_cases c1 : s[j] = 0
    · have d1 : decide ((s[j].toNat : Int) = 0) = true := by rw [c1]; rfl
      have s1 := slc_hi s j (by omega) (by omega)
      have s2 := slc_lo s ((j + 1 : Nat) : Int) (by omega) (by omega)
      rw [Int.toNat_natCast] at s1 s2
      obtain ⟨f1, f2⟩ := cut_at hlt c1 hz
      simp only [b112, h0, h4, e1, w1, ha, hg, d1, s1, s2, List.drop_zero, List.take_length, rwA, rwB, Nat.reduceAdd, Nat.reduceMul, Nat.reduceLeDiff, Int.reduceEq, Int.reduceLT, Int.reduceLE, Int.reduceAdd, Int.reduceSub, Int.reduceMul, ↓reduceIte, Nat.reduceEqDiff, reduceCtorEq, ↓cnd_true, ↓cnd_false]
      rw [outs_some]
      exact .inr ⟨by simp, rfl, .inr ⟨rfl, by simp only [f1, rwA, rwB, Nat.reduceAdd, Nat.reduceMul, Nat.reduceLeDiff, Int.reduceEq, Int.reduceLT, Int.reduceLE, Int.reduceAdd, Int.reduceSub, Int.reduceMul, ↓reduceIte, Nat.reduceEqDiff, reduceCtorEq, ↓cnd_true, ↓cnd_false], by simp only [f2, rwA, rwB, Nat.reduceAdd, Nat.reduceMul, Nat.reduceLeDiff, Int.reduceEq, Int.reduceLT, Int.reduceLE, Int.reduceAdd, Int.reduceSub, Int.reduceMul, ↓reduceIte, Nat.reduceEqDiff, reduceCtorEq, ↓cnd_true, ↓cnd_false]⟩⟩
    · have d1 : decide ((s[j].toNat : Int) = 0) = false := by
        rw [decide_eq_false_iff_not]
        intro h
        exact c1 (UInt8.toNat_inj.1 (by have : s[j].toNat = 0 := by omega
                                        rw [this]; rfl))
      simp only [b112, h0, h4, e1, w1, ha, hg, d1, rwA, rwB, Nat.reduceAdd, Nat.reduceMul, Nat.reduceLeDiff, Int.reduceEq, Int.reduceLT, Int.reduceLE, Int.reduceAdd, Int.reduceSub, Int.reduceMul, ↓reduceIte, Nat.reduceEqDiff, reduceCtorEq, ↓cnd_true, ↓cnd_false]
      rw [outs_some]
      refine .inl ⟨rfl, j + 1, by omega, by omega, rfl, by simp only [h0, rwA, rwB, Nat.reduceAdd, Nat.reduceMul, Nat.reduceLeDiff, Int.reduceEq, Int.reduceLT, Int.reduceLE, Int.reduceAdd, Int.reduceSub, Int.reduceMul, ↓reduceIte, Nat.reduceEqDiff, reduceCtorEq, ↓cnd_true, ↓cnd_false], by simp only [rwA, rwB, Nat.reduceAdd, Nat.reduceMul, Nat.reduceLeDiff, Int.reduceEq, Int.reduceLT, Int.reduceLE, Int.reduceAdd, Int.reduceSub, Int.reduceMul, ↓reduceIte, Nat.reduceEqDiff, reduceCtorEq, ↓cnd_true, ↓cnd_false], ?_⟩
      intro i hi hij
      by_cases h : i = j
      · subst h; exact c1
      · exact hz i hi (by omega)
  · have e1 : decide ((j : Int) < (s.length : Int)) = false := by simp; omega
    have ha : s.all (· != 0) = true := by
      rw [List.all_eq_true]
      intro x hx
      obtain ⟨i, hi, rfl⟩ := List.mem_iff_getElem.1 hx
      rw [bne_iff_ne]
      exact hz i hi (by omega)
    obtain ⟨f1, f2⟩ := cut_none s ha
    simp only [b112, h0, h4, e1, rwA, rwB, Nat.reduceAdd, Nat.reduceMul, Nat.reduceLeDiff, Int.reduceEq, Int.reduceLT, Int.reduceLE, Int.reduceAdd, Int.reduceSub, Int.reduceMul, ↓reduceIte, Nat.reduceEqDiff, reduceCtorEq, ↓cnd_true, ↓cnd_false]
    rw [outs_some]
    exact .inr ⟨by simp, rfl, .inl ⟨rfl, by simp only [h0, rwA, rwB, Nat.reduceAdd, Nat.reduceMul, Nat.reduceLeDiff, Int.reduceEq, Int.reduceLT, Int.reduceLE, Int.reduceAdd, Int.reduceSub, Int.reduceMul, ↓reduceIte, Nat.reduceEqDiff, reduceCtorEq, ↓cnd_true, ↓cnd_false], f1, f2⟩⟩
theorem U112 (s : List UInt8) (hs : s.length ≤ 4611686018427387904) (H : AHeap) : AC A 112 [.str s] H = some (.tuple [.str (ncutA s), .str (ncutB s)], H) := by
  refine one_val (x := ReFns.c112) rfl rfl rfl rfl rfl ?_ H
  simp only [c112, rwA, rwB, Nat.reduceAdd, Nat.reduceMul, Nat.reduceLeDiff, Int.reduceEq, Int.reduceLT, Int.reduceLE, Int.reduceAdd, Int.reduceSub, Int.reduceMul, ↓reduceIte, Nat.reduceEqDiff, reduceCtorEq, ↓cnd_true, ↓cnd_false]
  repeat (first | refine outs_seq ?_ | refine outs_block ?_ | refine outs_step ?_ | refine outs_stepD ?_ | refine rets_end ?_ | refine ans_end ?_)
  refine (loop112 hs ?_ ?_).mono ?_
  · simp only [rwA, rwB, Nat.reduceAdd, Nat.reduceMul, Nat.reduceLeDiff, Int.reduceEq, Int.reduceLT, Int.reduceLE, Int.reduceAdd, Int.reduceSub, Int.reduceMul, ↓reduceIte, Nat.reduceEqDiff, reduceCtorEq, ↓cnd_true, ↓cnd_false]
  · simp only [rwA, rwB, Nat.reduceAdd, Nat.reduceMul, Nat.reduceLeDiff, Int.reduceEq, Int.reduceLT, Int.reduceLE, Int.reduceAdd, Int.reduceSub, Int.reduceMul, ↓reduceIte, Nat.reduceEqDiff, reduceCtorEq, ↓cnd_true, ↓cnd_false]
  · rintro e env K ⟨rfl, ⟨rfl, e0, f1, f2⟩ | ⟨rfl, e2, e3⟩⟩
    · simp only [outs_some, e0, rwA, rwB, Nat.reduceAdd, Nat.reduceMul, Nat.reduceLeDiff, Int.reduceEq, Int.reduceLT, Int.reduceLE, Int.reduceAdd, Int.reduceSub, Int.reduceMul, ↓reduceIte, Nat.reduceEqDiff, reduceCtorEq, ↓cnd_true, ↓cnd_false]
      rw [f1, f2]
    · simp only [outs_some, e2, e3, rwA, rwB, Nat.reduceAdd, Nat.reduceMul, Nat.reduceLeDiff, Int.reduceEq, Int.reduceLT, Int.reduceLE, Int.reduceAdd, Int.reduceSub, Int.reduceMul, ↓reduceIte, Nat.reduceEqDiff, reduceCtorEq, ↓cnd_true, ↓cnd_false]

end Go.Proofs.Ytmicohgachjcgaa.Re
