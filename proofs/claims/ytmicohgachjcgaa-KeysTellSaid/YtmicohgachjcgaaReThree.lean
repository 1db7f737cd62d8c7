/- The writers of the octets' chapter, and the law of them. -/
import Derived.Test.YtmicohgachjcgaaReTwo
set_option maxRecDepth 100000
set_option linter.unusedSimpArgs false
set_option linter.unusedVariables false
set_option maxHeartbeats 4000000
namespace Go.Proofs.Ytmicohgachjcgaa.Re
open Go Go.Proofs.Ytmicohgachjcgaa.Am ReFns Go.RowKit

/-! ### The reference's number -/
theorem t_256 (m : Nat) : ((m : Nat) : Int).tmod 256 = ((m % 256 : Nat) : Int) := by rw [Int.tmod_eq_emod_of_nonneg (by omega)]; rfl
theorem q_256 (m : Nat) : ((m : Nat) : Int).tdiv 256 = ((m / 256 : Nat) : Int) := by rw [Int.tdiv_eq_ediv_of_nonneg (by omega)]; rfl
theorem by_256 (m : Nat) : by8 (UInt8.ofNat (m % 256)) = by8 (UInt8.ofNat m) := by
  simp only [by8, AVal.int.injEq, true_and]
  have a : (UInt8.ofNat (m % 256)).toNat = (UInt8.ofNat m).toNat := by simp
  rw [a]

def b22 : ACode := (.seq (.seq (.region [⟨(some 17), (.mv (.tmp 6)), none, none⟩, ⟨(some 18), (.bin .geq (.tmp 17) (.con (.int .i64 0))), none, none⟩]) (.cond (.tmp 18) .skip (.exit 0))) (.seq (.block 1 (.seq (.region [⟨(some 21), (.mv (.tmp 5)), none, none⟩, ⟨(some 22), (.mv (.tmp 6)), none, none⟩, ⟨(some 23), (.mv (.tmp 1)), none, none⟩, ⟨(some 24), (.bin .rem (.tmp 23) (.con (.int .u64 256))), none, none⟩, ⟨(some 25), (.toInt .u8 (.tmp 24)), none, none⟩, ⟨(some 26), (.idxASl 1 (.tmp 21) (.tmp 22)), none, none⟩, ⟨none, (.store 1 (.tmp 26) (.tmp 25)), none, none⟩]) (.region [⟨(some 27), (.mv (.tmp 1)), none, none⟩, ⟨(some 28), (.bin .quo (.tmp 27) (.con (.int .u64 256))), none, none⟩, ⟨(some 1), (.mv (.tmp 28)), none, none⟩]))) (.region [⟨(some 19), (.mv (.tmp 6)), none, none⟩, ⟨(some 20), (.bin .sub (.tmp 19) (.con (.int .i64 1))), none, none⟩, ⟨(some 6), (.mv (.tmp 20)), none, none⟩])))

theorem loop22 {w n : Nat} (hn : n < 18446744073709551616) {env : Env} {H : AHeap} {q : Nat} {c : List AVal} (h1 : env 1 = .int .u64 (n : Int)) (h5 : env 5 = .slice q 0 w w none) (h6 : env 6 = .int .i64 ((w : Int) - 1)) (ho : H.obj q = some (.cells c true)) (hc : c.length = w) (hw : w ≤ 8) :
    Outs (AX A (.loop b22) env H) fun e env' H' => e = .exit 0 ∧ env' 5 = .slice q 0 w w none ∧ H'.obj q = some (.cells ((encl w n).map by8) true) := by
  refine loop_ends (I := fun (j : Nat) env' H' => j ≤ w ∧ env' 1 = .int .u64 ((n / 256 ^ j : Nat) : Int) ∧ env' 5 = .slice q 0 w w none ∧ env' 6 = .int .i64 ((w : Int) - 1 - (j : Int)) ∧ ∃ c, H'.obj q = some (.cells c true) ∧ c.length = w ∧ ∀ k, k < j → c[w - 1 - k]? = some (by8 (UInt8.ofNat (n / 256 ^ k)))) (fun j => w - j) ?_ 0 env H
    ⟨Nat.zero_le _, by rw [h1, Nat.pow_zero, Nat.div_one], h5, by rw [h6]; simp, c, ho, hc, by intro k hk; omega⟩
  rintro j env' H' ⟨hj, h1, h5, h6, c, ho, hc, hk⟩
  by_cases hlt : j < w
  · have e1 : decide ((0 : Int) ≤ (w : Int) - 1 - (j : Int)) = true := by simp; omega
    have w1 : IntKind.i64.wrap ((w : Int) - 1 - (j : Int) - 1) = (w : Int) - 1 - ((j + 1 : Nat) : Int) := by rw [wrap_i64]; omega
    have hd : n / 256 ^ j ≤ n := Nat.div_le_self _ _
    have w2 : IntKind.u64.wrap ((n / 256 ^ j / 256 : Nat) : Int) = ((n / 256 ^ (j + 1) : Nat) : Int) := by
      rw [wrap_u64 _ (by omega), Nat.div_div_eq_div_mul, Nat.pow_succ]
    have ha : aidx w (.int .i64 ((w : Int) - 1 - (j : Int))) = some (w - 1 - j) := by simp only [aidx]; rw [if_pos ⟨by omega, by omega⟩]; congr 1; omega
    have st := store_one H' q (w - 1 - j) (by8 (UInt8.ofNat (n / 256 ^ j))) c (by omega)
    simp only [b22, h1, h5, h6, e1, w1, w2, ha, ho, t_256, q_256, w_8, by_256, c_8, t_8, st, rwA, rwB, Nat.reduceAdd, Nat.reduceMul, Nat.reduceLeDiff, Int.reduceEq, Int.reduceLT, Int.reduceLE, Int.reduceAdd, Int.reduceSub, Int.reduceMul, ↓reduceIte, Nat.reduceEqDiff, reduceCtorEq, ↓cnd_true, ↓cnd_false]
    rw [outs_some]
    refine .inl ⟨rfl, j + 1, by omega, by omega, by simp [Env.set], by simp [Env.set, h5], by simp [Env.set], c.set (w - 1 - j) (by8 (UInt8.ofNat (n / 256 ^ j))), by simp [AHeap.set], by simp [hc], ?_⟩
    intro k hk'
    by_cases h : k = j
    · subst h
      rw [List.getElem?_set_self (by omega)]
    · rw [List.getElem?_set_ne (by omega)]
      exact hk k (by omega)
  · have : j = w := by omega
    subst this
    have e1 : decide ((0 : Int) ≤ (j : Int) - 1 - (j : Int)) = false := by simp; omega
    simp only [b22, h6, e1, rwA, rwB, Nat.reduceAdd, Nat.reduceMul, Nat.reduceLeDiff, Int.reduceEq, Int.reduceLT, Int.reduceLE, Int.reduceAdd, Int.reduceSub, Int.reduceMul, ↓reduceIte, Nat.reduceEqDiff, reduceCtorEq, ↓cnd_true, ↓cnd_false]
    rw [outs_some]
    refine .inr ⟨by simp, rfl, by simp [Env.set, h5], ?_⟩
    rw [ho]
    congr 2
    apply List.ext_getElem?
    intro i
    by_cases hi : i < j
    · rw [List.getElem?_map, encl_get _ _ _ hi]
      have := hk (j - 1 - i) (by omega)
      rw [show j - 1 - (j - 1 - i) = i by omega] at this
      exact this
    · rw [List.getElem?_eq_none (by omega), List.getElem?_eq_none (by rw [List.length_map, encl_len]; omega)]

theorem arep_one (v : AVal) : ∀ n, arep [v] n = List.replicate n v
  | 0 => rfl
  | n + 1 => by simp [arep, arep_one v n, List.replicate_succ]

theorem mk8 (n : Nat) (hn : n ≤ 281474976710656) (H : AHeap) : amkS H 1 1 [.int .u8 0] (.int .i64 (n : Int)) (.int .i64 (n : Int)) = some (.slice H.next 0 n n none, H.new (.cells (List.replicate n (by8 0)) true)) := by
  simp only [amkS]
  rw [if_pos ⟨by omega, by omega, by omega, by omega, rfl⟩, Int.toNat_natCast, arep_one]
  rfl

theorem U22 (w : Int) (n : Nat) (hn : n < 18446744073709551616) (H : AHeap) : AC A 22 [.int .i64 w, .int .u64 (n : Int)] H = some (.str (num w n), H) := by
  refine one_val (x := ReFns.c22) rfl rfl rfl rfl rfl ?_ H
  by_cases hw : 1 ≤ w ∧ w ≤ 8
  · obtain ⟨k, rfl⟩ : ∃ k : Nat, w = (k : Int) := ⟨w.toNat, by omega⟩
    have e : num (k : Int) n = encl k n := by
      simp only [num]
      rw [if_pos hw, Int.toNat_natCast]
    have c1 : decide ((k : Int) < 1) = false := by simp; omega
    have c2 : decide ((8 : Int) < (k : Int)) = false := by simp; omega
    have w1 : IntKind.i64.wrap ((k : Int) - 1) = (k : Int) - 1 := by rw [wrap_i64]; omega
    simp only [c22, c1, c2, mk8 k (by omega), w1, e, rwA, rwB, Nat.reduceAdd, Nat.reduceMul, Nat.reduceLeDiff, Int.reduceEq, Int.reduceLT, Int.reduceLE, Int.reduceAdd, Int.reduceSub, Int.reduceMul, ↓reduceIte, Nat.reduceEqDiff, reduceCtorEq, ↓cnd_true, ↓cnd_false]
    repeat (first | refine outs_seq ?_ | refine outs_block ?_ | refine outs_step ?_ | refine outs_stepD ?_ | refine rets_end ?_ | refine ans_end ?_)
    refine (loop22 (w := k) (q := 0) (c := List.replicate k (by8 0)) hn ?_ ?_ ?_ ?_ ?_ (by omega)).mono ?_
    · simp [Env.set, ainit]
    · simp [Env.set]
    · simp [Env.set]
    · simp [AHeap.new, noH]
    · simp
    · rintro e' env H ⟨rfl, h5, ho⟩
      have hb := bToS_sl (H := H) (v := .slice 0 0 k k none) (s := encl k n) (.inr ⟨0, 0, k, k, none, rfl, by simp [encl_len], .inr ⟨_, true, ho, by simp [encl_len], by simp [encl_len, List.take_of_length_le]⟩⟩)
      simp only [outs_some, h5, hb, rwA, rwB, Nat.reduceAdd, Nat.reduceMul, Nat.reduceLeDiff, Int.reduceEq, Int.reduceLT, Int.reduceLE, Int.reduceAdd, Int.reduceSub, Int.reduceMul, ↓reduceIte, Nat.reduceEqDiff, reduceCtorEq, ↓cnd_true, ↓cnd_false]
  · have e : num w n = [] := by
      simp only [num]
      rw [if_neg hw]
    cases c1 : decide (w < 1)
    · have c2 : decide (8 < w) = true := by simp at c1 ⊢; omega
      simp only [c22, c1, c2, e, rwA, rwB, Nat.reduceAdd, Nat.reduceMul, Nat.reduceLeDiff, Int.reduceEq, Int.reduceLT, Int.reduceLE, Int.reduceAdd, Int.reduceSub, Int.reduceMul, ↓reduceIte, Nat.reduceEqDiff, reduceCtorEq, ↓cnd_true, ↓cnd_false]
    · simp only [c22, c1, e, rwA, rwB, Nat.reduceAdd, Nat.reduceMul, Nat.reduceLeDiff, Int.reduceEq, Int.reduceLT, Int.reduceLE, Int.reduceAdd, Int.reduceSub, Int.reduceMul, ↓reduceIte, Nat.reduceEqDiff, reduceCtorEq, ↓cnd_true, ↓cnd_false]

/-! ### A number read off eight bytes -/
def of (s : List UInt8) : Nat := if s.length = 8 then be s else 0
def ofe (s : List UInt8) : Int := if s.length = 8 then 0 else 19
def off (s : List UInt8) : Nat := if s.length = 8 then 18446744073709551615 - be s else 0

theorem raw8 (s : List UInt8) : (s.length = 8 ∧ raw s 0 8 = ([], 0, s)) ∨ (s.length ≠ 8 ∧ ending (raw s 0 8).1 (raw s 0 8).2.1 ≠ 0) := by
  unfold raw
  rw [if_neg (by simp), if_neg (by decide)]
  by_cases h : (s.length : Int) < 8
  · rw [if_pos h]
    exact .inr ⟨by omega, by unfold ending; simp⟩
  · rw [if_neg h]
    by_cases h8 : s.length = 8
    · exact .inl ⟨h8, by rw [show (8 : Int).toNat = 8 from rfl, List.drop_of_length_le (by omega), List.take_of_length_le (by omega)]⟩
    · refine .inr ⟨h8, ?_⟩
      unfold ending
      rw [if_neg (by simp), if_pos (by rw [show (8 : Int).toNat = 8 from rfl, List.length_drop]; omega)]
      decide

theorem U18 (s : List UInt8) (H : AHeap) : AC A 18 [.str s] H = some (.tuple [.int .u64 (of s : Int), .int .i64 (ofe s)], H) := by
  refine one_val (x := ReFns.c18) rfl rfl rfl rfl rfl ?_ H
  have r0 : Rd (noH.new (rd s 0)) 0 s 0 := by unfold Rd; simp [AHeap.new, noH, rd]
  have u34 := U34 r0 8
  rw [show wid 8 = 8 from rfl] at u34
  obtain ⟨H1, eH1⟩ : ∃ K, ((noH.new (rd s 0)).set 0 (rd (raw s 0 8).1 (raw s 0 8).2.1)).new (.cells ((raw s 0 8).2.2.map by8) true) = K := ⟨_, rfl⟩
  rw [eH1] at u34
  have r1 : Rd H1 0 (raw s 0 8).1 (raw s 0 8).2.1 := by
    unfold Rd; rw [← eH1]; simp [AHeap.new, AHeap.set, noH, rd]
  rcases raw8 s with ⟨h8, e8⟩ | ⟨h8, e8⟩
  · have c1 : decide (ending (raw s 0 8).1 (raw s 0 8).2.1 = 0) = true := by rw [e8]; rfl
    have ev : of s = be (raw s 0 8).2.2 := by rw [e8, of, if_pos h8]
    have ee : ofe s = 0 := by rw [ofe, if_pos h8]
    simp only [c18, U32, u34, U41 r1, c1, ev, ee, rwA, rwB, Nat.reduceAdd, Nat.reduceMul, Nat.reduceLeDiff, Int.reduceEq, Int.reduceLT, Int.reduceLE, Int.reduceAdd, Int.reduceSub, Int.reduceMul, ↓reduceIte, Nat.reduceEqDiff, reduceCtorEq, ↓cnd_true, ↓cnd_false]
  · have c1 : decide (ending (raw s 0 8).1 (raw s 0 8).2.1 = 0) = false := by simpa using e8
    have ev : of s = 0 := by rw [of, if_neg h8]
    have ee : ofe s = 19 := by rw [ofe, if_neg h8]
    simp only [c18, U32, u34, U41 r1, c1, ev, ee, rwA, rwB, Nat.reduceAdd, Nat.reduceMul, Nat.reduceLeDiff, Int.reduceEq, Int.reduceLT, Int.reduceLE, Int.reduceAdd, Int.reduceSub, Int.reduceMul, ↓reduceIte, Nat.reduceEqDiff, reduceCtorEq, ↓cnd_true, ↓cnd_false]
    rfl

theorem U20 (s : List UInt8) (H : AHeap) : AC A 20 [.str s] H = some (.tuple [.int .u64 (off s : Int), .int .i64 (ofe s)], H) := by
  refine one_val (x := ReFns.c20) rfl rfl rfl rfl rfl ?_ H
  by_cases h8 : s.length = 8
  · have ev : of s = be s := by rw [of, if_pos h8]
    have ef : off s = 18446744073709551615 - be s := by rw [off, if_pos h8]
    have ee : ofe s = 0 := by rw [ofe, if_pos h8]
    simp only [c20, U18, ev, ef, ee, not_u64 _ (be_lt8 s (by omega)), rwA, rwB, Nat.reduceAdd, Nat.reduceMul, Nat.reduceLeDiff, Int.reduceEq, Int.reduceLT, Int.reduceLE, Int.reduceAdd, Int.reduceSub, Int.reduceMul, ↓reduceIte, Nat.reduceEqDiff, reduceCtorEq, ↓cnd_true, ↓cnd_false]
  · have ev : of s = 0 := by rw [of, if_neg h8]
    have ef : off s = 0 := by rw [off, if_neg h8]
    have ee : ofe s = 19 := by rw [ofe, if_neg h8]
    have d : decide ((19 : Int) = 0) = false := by decide
    simp only [c20, U18, ev, ef, ee, d, rwA, rwB, Nat.reduceAdd, Nat.reduceMul, Nat.reduceLeDiff, Int.reduceEq, Int.reduceLT, Int.reduceLE, Int.reduceAdd, Int.reduceSub, Int.reduceMul, ↓reduceIte, Nat.reduceEqDiff, reduceCtorEq, ↓cnd_true, ↓cnd_false]
    rfl

theorem U19 (s : List UInt8) (H : AHeap) : AC A 19 [.str s] H = some (.tuple [.int .u64 (of s : Int), .int .i64 (ofe s)], H) := by
  refine one_val (x := ReFns.c19) rfl rfl rfl rfl rfl ?_ H
  have u33 := U33 s 0 8
  rw [show wid 8 = 8 from rfl] at u33
  rcases raw8 s with ⟨h8, e8⟩ | ⟨h8, _⟩
  · have c1 : decide ((s.length : Int) = 8) = true := by simp; omega
    have ev : of s = be s := by rw [of, if_pos h8]
    have ee : ofe s = 0 := by rw [ofe, if_pos h8]
    rw [e8] at u33
    simp only [c19, c1, u33, ev, ee, rwA, rwB, Nat.reduceAdd, Nat.reduceMul, Nat.reduceLeDiff, Int.reduceEq, Int.reduceLT, Int.reduceLE, Int.reduceAdd, Int.reduceSub, Int.reduceMul, ↓reduceIte, Nat.reduceEqDiff, reduceCtorEq, ↓cnd_true, ↓cnd_false]
  · have c1 : decide ((s.length : Int) = 8) = false := by simp; omega
    have ev : of s = 0 := by rw [of, if_neg h8]
    have ee : ofe s = 19 := by rw [ofe, if_neg h8]
    simp only [c19, c1, ev, ee, rwA, rwB, Nat.reduceAdd, Nat.reduceMul, Nat.reduceLeDiff, Int.reduceEq, Int.reduceLT, Int.reduceLE, Int.reduceAdd, Int.reduceSub, Int.reduceMul, ↓reduceIte, Nat.reduceEqDiff, reduceCtorEq, ↓cnd_true, ↓cnd_false]
    rfl

/-! ### A text -/
def txt (s : List UInt8) : List UInt8 := if 65535 < s.length then [] else num 2 s.length ++ s
def txe (s : List UInt8) : Int := if 65535 < s.length then 11 else 0
theorem num2_len (n : Nat) : (num 2 n).length = 2 := by
  unfold num; rw [if_pos (by decide), encl_len]; rfl

theorem U16 (s : List UInt8) (H : AHeap) : AC A 16 [.str s] H = some (.tuple [.str (txt s), .int .i64 (txe s)], H) := by
  refine one_val (x := ReFns.c16) rfl rfl rfl rfl rfl ?_ H
  unfold txt txe
  cases c1 : decide ((65535 : Int) < (s.length : Int))
  · have h : ¬ 65535 < s.length := by simp at c1; omega
    rw [if_neg h, if_neg h]
    have w1 : IntKind.u64.wrap (s.length : Int) = (s.length : Int) := wrap_u64 _ (by omega)
    simp only [c16, c1, w1, U21, b_cat _ _ (show (num 2 s.length).length + s.length ≤ _ by rw [num2_len]; omega), rwA, rwB, Nat.reduceAdd, Nat.reduceMul, Nat.reduceLeDiff, Int.reduceEq, Int.reduceLT, Int.reduceLE, Int.reduceAdd, Int.reduceSub, Int.reduceMul, ↓reduceIte, Nat.reduceEqDiff, reduceCtorEq, ↓cnd_true, ↓cnd_false]
  · have h : 65535 < s.length := by simp at c1; omega
    rw [if_pos h, if_pos h]
    simp only [c16, c1, rwA, rwB, Nat.reduceAdd, Nat.reduceMul, Nat.reduceLeDiff, Int.reduceEq, Int.reduceLT, Int.reduceLE, Int.reduceAdd, Int.reduceSub, Int.reduceMul, ↓reduceIte, Nat.reduceEqDiff, reduceCtorEq, ↓cnd_true, ↓cnd_false]

theorem U17 (s : List UInt8) (H : AHeap) : AC A 17 [.str s] H = some (.tuple [.str (txt s), .int .i64 (txe s)], H) := by
  refine one_val (x := ReFns.c17) rfl rfl rfl rfl rfl ?_ H
  unfold txt txe
  cases c1 : decide ((65535 : Int) < (s.length : Int))
  · have h : ¬ 65535 < s.length := by simp at c1; omega
    rw [if_neg h, if_neg h]
    have w1 : IntKind.u64.wrap (s.length : Int) = (s.length : Int) := wrap_u64 _ (by omega)
    simp only [c17, c1, w1, U22 2 s.length (by omega), b_cat _ _ (show (num 2 s.length).length + s.length ≤ _ by rw [num2_len]; omega), rwA, rwB, Nat.reduceAdd, Nat.reduceMul, Nat.reduceLeDiff, Int.reduceEq, Int.reduceLT, Int.reduceLE, Int.reduceAdd, Int.reduceSub, Int.reduceMul, ↓reduceIte, Nat.reduceEqDiff, reduceCtorEq, ↓cnd_true, ↓cnd_false]
  · have h : 65535 < s.length := by simp at c1; omega
    rw [if_pos h, if_pos h]
    simp only [c17, c1, rwA, rwB, Nat.reduceAdd, Nat.reduceMul, Nat.reduceLeDiff, Int.reduceEq, Int.reduceLT, Int.reduceLE, Int.reduceAdd, Int.reduceSub, Int.reduceMul, ↓reduceIte, Nat.reduceEqDiff, reduceCtorEq, ↓cnd_true, ↓cnd_false]

/-! ### Padded -/
def pad (s : List UInt8) (m : Int) : List UInt8 := if 65536 < m ∨ m ≤ s.length then s else s ++ List.replicate (m.toNat - s.length) 0
theorem rep_one (n : Nat) : Lib.repeatL [0] n = List.replicate n 0 := by
  induction n with
  | zero => rfl
  | succ n ih => rw [Lib.repeatL, ih]; rfl

theorem U25 (s : List UInt8) (m : Int) (H : AHeap) : AC A 25 [.str s, .int .i64 m] H = some (.str (pad s m), H) := by
  refine one_val (x := ReFns.c25) rfl rfl rfl rfl rfl ?_ H
  unfold pad
  cases c1 : decide ((65536 : Int) < m)
  · have h1 : ¬ 65536 < m := by simpa using c1
    cases c2 : decide (m ≤ (s.length : Int))
    · have h2 : ¬ m ≤ (s.length : Int) := by simpa using c2
      rw [if_neg (by omega)]
      have w1 : IntKind.i64.wrap (m - (s.length : Int)) = ((m.toNat - s.length : Nat) : Int) := by rw [wrap_i64]; omega
      have u82 : ∀ H, AC A 82 [.str [0], .int .i64 ((m.toNat - s.length : Nat) : Int)] H = some (.str (List.replicate (m.toNat - s.length) 0), H) := fun H => by
        refine AC_ext_of (g := gRep) rfl ?_ H
        simp only [gRep]
        rw [if_pos ⟨by omega, by omega, by simp; omega⟩, Int.toNat_natCast, rep_one]
      simp only [c25, c1, c2, w1, u82, b_cat _ _ (show s.length + (List.replicate (m.toNat - s.length) (0 : UInt8)).length ≤ _ by rw [List.length_replicate]; omega), rwA, rwB, Nat.reduceAdd, Nat.reduceMul, Nat.reduceLeDiff, Int.reduceEq, Int.reduceLT, Int.reduceLE, Int.reduceAdd, Int.reduceSub, Int.reduceMul, ↓reduceIte, Nat.reduceEqDiff, reduceCtorEq, ↓cnd_true, ↓cnd_false]
    · have h2 : m ≤ (s.length : Int) := by simpa using c2
      rw [if_pos (.inr h2)]
      simp only [c25, c1, c2, rwA, rwB, Nat.reduceAdd, Nat.reduceMul, Nat.reduceLeDiff, Int.reduceEq, Int.reduceLT, Int.reduceLE, Int.reduceAdd, Int.reduceSub, Int.reduceMul, ↓reduceIte, Nat.reduceEqDiff, reduceCtorEq, ↓cnd_true, ↓cnd_false]
  · have h1 : 65536 < m := by simpa using c1
    rw [if_pos (.inl h1)]
    simp only [c25, c1, rwA, rwB, Nat.reduceAdd, Nat.reduceMul, Nat.reduceLeDiff, Int.reduceEq, Int.reduceLT, Int.reduceLE, Int.reduceAdd, Int.reduceSub, Int.reduceMul, ↓reduceIte, Nat.reduceEqDiff, reduceCtorEq, ↓cnd_true, ↓cnd_false]

theorem lput_app : ∀ (l a b : List AVal), l.length = a.length → lput (a ++ b) 0 l = l ++ b := by
  have key : ∀ (l a pre b : List AVal), l.length = a.length → lput (pre ++ (a ++ b)) pre.length l = pre ++ (l ++ b) := by
    intro l
    induction l with
    | nil => intro a pre b h; cases a with
      | nil => exact put_nil _ _
      | cons x a => simp at h
    | cons x l ih => intro a pre b h; cases a with
      | nil => simp at h
      | cons y a =>
        rw [put_cons]
        have e : (pre ++ (y :: a ++ b)).set pre.length x = (pre ++ [x]) ++ (a ++ b) := by simp
        rw [e]
        have := ih a (pre ++ [x]) b (by simpa using h)
        simp only [List.length_append, List.length_singleton] at this
        rw [this]; simp
  intro l a b h
  simpa using key l a [] b h
theorem copy_str (H : AHeap) (s : List UInt8) (m q : Nat) (hm : s.length ≤ m) (ho : H.obj q = some (.cells (List.replicate m (by8 0)) true)) :
    ∃ K, acopy H 1 (.slice q 0 m m none) (.str s) = some (.int .i64 (s.length : Int), K) ∧ K.obj q = some (.cells ((s ++ List.replicate (m - s.length) 0).map by8) true) := by
  simp only [acopy, alen, Option.bind_some, Nat.min_eq_left hm]
  have hc : acells H 1 s.length (.str s) = some (s.map by8) := by
    simp only [acells]
    rw [if_pos ⟨Nat.le_refl _, trivial⟩, List.take_of_length_le (Nat.le_refl _)]
    rfl
  simp only [hc, Option.bind_some]
  by_cases h0 : s.length = 0
  · have : s = [] := List.eq_nil_of_length_eq_zero h0
    subst this
    refine ⟨H, by simp, ?_⟩
    rw [ho]; simp
  · rw [if_neg h0]
    simp only [ho]
    rw [if_pos (by simp; omega)]
    refine ⟨_, rfl, ?_⟩
    have e : List.replicate m (by8 0) = List.replicate s.length (by8 0) ++ List.replicate (m - s.length) (by8 0) := by
      rw [List.replicate_append_replicate]; congr 1; omega
    simp only [AHeap.set, if_true]
    congr 2
    rw [e, lput_app _ _ _ (by simp)]
    simp

theorem U26 (s : List UInt8) (m : Int) (H : AHeap) : AC A 26 [.str s, .int .i64 m] H = some (.str (pad s m), H) := by
  refine one_val (x := ReFns.c26) rfl rfl rfl rfl rfl ?_ H
  unfold pad
  cases c1 : decide ((65536 : Int) < m)
  · have h1 : ¬ 65536 < m := by simpa using c1
    cases c2 : decide (m ≤ (s.length : Int))
    · have h2 : ¬ m ≤ (s.length : Int) := by simpa using c2
      rw [if_neg (by omega)]
      obtain ⟨k, rfl⟩ : ∃ k : Nat, m = (k : Int) := ⟨m.toNat, by omega⟩
      rw [Int.toNat_natCast]
      obtain ⟨K, cp, oK⟩ := copy_str (noH.new (.cells (List.replicate k (by8 0)) true)) s k 0 (by omega) (by simp [AHeap.new, noH])
      have hb := bToS_sl (H := K) (v := .slice 0 0 k k none) (s := s ++ List.replicate (k - s.length) 0) (.inr ⟨0, 0, k, k, none, rfl, by simp; omega, .inr ⟨_, true, oK, by simp; omega, by simp only [Nat.mul_one, List.drop_zero]; rw [List.take_of_length_le (by simp; omega)]⟩⟩)
      simp only [c26, c1, c2, mk8 k (by omega), cp, hb, rwA, rwB, Nat.reduceAdd, Nat.reduceMul, Nat.reduceLeDiff, Int.reduceEq, Int.reduceLT, Int.reduceLE, Int.reduceAdd, Int.reduceSub, Int.reduceMul, ↓reduceIte, Nat.reduceEqDiff, reduceCtorEq, ↓cnd_true, ↓cnd_false]
    · have h2 : m ≤ (s.length : Int) := by simpa using c2
      rw [if_pos (.inr h2)]
      simp only [c26, c1, c2, rwA, rwB, Nat.reduceAdd, Nat.reduceMul, Nat.reduceLeDiff, Int.reduceEq, Int.reduceLT, Int.reduceLE, Int.reduceAdd, Int.reduceSub, Int.reduceMul, ↓reduceIte, Nat.reduceEqDiff, reduceCtorEq, ↓cnd_true, ↓cnd_false]
  · have h1 : 65536 < m := by simpa using c1
    rw [if_pos (.inl h1)]
    simp only [c26, c1, rwA, rwB, Nat.reduceAdd, Nat.reduceMul, Nat.reduceLeDiff, Int.reduceEq, Int.reduceLT, Int.reduceLE, Int.reduceAdd, Int.reduceSub, Int.reduceMul, ↓reduceIte, Nat.reduceEqDiff, reduceCtorEq, ↓cnd_true, ↓cnd_false]

/-! ### Nothing but noughts -/
theorem U30 (s : List UInt8) (H : AHeap) : AC A 30 [.str s] H = some (.bool (s.all (· == 0)), H) := by
  refine one_val (x := ReFns.c30) rfl rfl rfl rfl rfl ?_ H
  have u84 : ∀ H, AC A 84 [.str s, .str [0]] H = some (.int .i64 (Lib.countByte s 0 : Nat), H) := fun H => AC_ext_of (g := gCount) rfl rfl H
  have e : decide (((Lib.countByte s 0 : Nat) : Int) = (s.length : Int)) = s.all (· == 0) := by
    rw [Bool.eq_iff_iff]
    simp only [decide_eq_true_eq, List.all_eq_true, beq_iff_eq, Lib.countByte]
    constructor
    · intro h x hx
      have h' : s.count 0 = s.length := by have h0 := of_decide_eq_true h; exact_mod_cast h0
      exact ((List.count_eq_length.1 h') x hx).symm
    · intro h
      have h' : s.count 0 = s.length := List.count_eq_length.2 fun x hx => (h x hx).symm
      exact decide_eq_true (by exact_mod_cast h')
  simp only [c30, u84, e, rwA, rwB, Nat.reduceAdd, Nat.reduceMul, Nat.reduceLeDiff, Int.reduceEq, Int.reduceLT, Int.reduceLE, Int.reduceAdd, Int.reduceSub, Int.reduceMul, ↓reduceIte, Nat.reduceEqDiff, reduceCtorEq, ↓cnd_true, ↓cnd_false]

def b31 : ACode := (.seq (.seq (.region [⟨(some 4), (.mv (.tmp 3)), none, none⟩, ⟨(some 5), (.mv (.tmp 0)), none, none⟩, ⟨(some 6), (.len true (.tmp 5)), none, none⟩, ⟨(some 7), (.bin .lss (.tmp 4) (.tmp 6)), none, none⟩]) (.cond (.tmp 7) .skip (.exit 0))) (.seq (.block 1 (.seq (.region [⟨(some 10), (.mv (.tmp 0)), none, none⟩, ⟨(some 11), (.mv (.tmp 3)), none, none⟩, ⟨(some 12), (.idxStr (.tmp 10) (.tmp 11)), none, none⟩, ⟨(some 13), (.bin .neq (.tmp 12) (.con (.int .u8 0))), none, none⟩]) (.cond (.tmp 13) (.seq (.region [⟨(some 2), (.mv (.con (.bool false))), none, none⟩]) .ret) .skip))) (.region [⟨(some 8), (.mv (.tmp 3)), none, none⟩, ⟨(some 9), (.bin .add (.tmp 8) (.con (.int .i64 1))), none, none⟩, ⟨(some 3), (.mv (.tmp 9)), none, none⟩])))
theorem loop31 {s : List UInt8} (hs : s.length ≤ 4611686018427387904) {env : Env} {H : AHeap} (h0 : env 0 = .str s) (h3 : env 3 = .int .i64 0) :
    Outs (AX A (.loop b31) env H) fun e env' H' => (e = .exit 0 ∧ s.all (· == 0) = true) ∨ (e = .ret ∧ env' 2 = .bool false ∧ s.all (· == 0) = false) := by
  refine loop_ends (I := fun (j : Nat) env' H' => j ≤ s.length ∧ env' 0 = .str s ∧ env' 3 = .int .i64 (j : Int) ∧ ∀ i (hi : i < s.length), i < j → s[i] = 0) (fun j => s.length - j) ?_ 0 env H ⟨Nat.zero_le _, h0, h3, fun i _ h => by omega⟩
  rintro j env' H' ⟨hj, h0, h3, hz⟩
  by_cases hlt : j < s.length
  · have e1 : decide ((j : Int) < (s.length : Int)) = true := by simp; omega
    have w1 : IntKind.i64.wrap ((j : Int) + 1) = ((j + 1 : Nat) : Int) := by rw [wrap_i64]; omega
    have ha : aidx s.length (.int .i64 (j : Int)) = some j := by simp [aidx]; omega
    have hg : s[j]? = some s[j] := List.getElem?_eq_getElem hlt
    cases c1 : decide ((s[j].toNat : Int) = 0)
    · simp only [b31, h0, h3, e1, w1, ha, hg, c1, rwA, rwB, Nat.reduceAdd, Nat.reduceMul, Nat.reduceLeDiff, Int.reduceEq, Int.reduceLT, Int.reduceLE, Int.reduceAdd, Int.reduceSub, Int.reduceMul, ↓reduceIte, Nat.reduceEqDiff, reduceCtorEq, ↓cnd_true, ↓cnd_false]
      rw [outs_some]
      refine .inr ⟨by simp, .inr ⟨rfl, by simp [Env.set], ?_⟩⟩
      rw [List.all_eq_false]
      refine ⟨s[j], List.getElem_mem hlt, ?_⟩
      intro he
      have he' : s[j] = 0 := by simpa using he
      rw [he'] at c1
      simp at c1
    · simp only [b31, h0, h3, e1, w1, ha, hg, c1, rwA, rwB, Nat.reduceAdd, Nat.reduceMul, Nat.reduceLeDiff, Int.reduceEq, Int.reduceLT, Int.reduceLE, Int.reduceAdd, Int.reduceSub, Int.reduceMul, ↓reduceIte, Nat.reduceEqDiff, reduceCtorEq, ↓cnd_true, ↓cnd_false]
      rw [outs_some]
      refine .inl ⟨rfl, j + 1, by omega, by omega, by simp [Env.set, h0], by simp [Env.set], ?_⟩
      intro i hi hij
      by_cases h : i = j
      · subst h
        have h0 : s[i].toNat = 0 := by simpa using c1
        exact UInt8.toNat_inj.1 h0
      · exact hz i hi (by omega)
  · have e1 : decide ((j : Int) < (s.length : Int)) = false := by simp; omega
    simp only [b31, h0, h3, e1, rwA, rwB, Nat.reduceAdd, Nat.reduceMul, Nat.reduceLeDiff, Int.reduceEq, Int.reduceLT, Int.reduceLE, Int.reduceAdd, Int.reduceSub, Int.reduceMul, ↓reduceIte, Nat.reduceEqDiff, reduceCtorEq, ↓cnd_true, ↓cnd_false]
    rw [outs_some]
    refine .inr ⟨by simp, .inl ⟨rfl, ?_⟩⟩
    rw [List.all_eq_true]
    intro x hx
    obtain ⟨i, hi, rfl⟩ := List.mem_iff_getElem.1 hx
    simpa using hz i hi (by omega)

theorem U31 (s : List UInt8) (hs : s.length ≤ 4611686018427387904) (H : AHeap) : AC A 31 [.str s] H = some (.bool (s.all (· == 0)), H) := by
  refine one_val (x := ReFns.c31) rfl rfl rfl rfl rfl ?_ H
  simp only [c31, rwA, rwB, Nat.reduceAdd, Nat.reduceMul, Nat.reduceLeDiff, Int.reduceEq, Int.reduceLT, Int.reduceLE, Int.reduceAdd, Int.reduceSub, Int.reduceMul, ↓reduceIte, Nat.reduceEqDiff, reduceCtorEq, ↓cnd_true, ↓cnd_false]
  repeat (first | refine outs_seq ?_ | refine outs_block ?_ | refine outs_step ?_ | refine outs_stepD ?_ | refine rets_end ?_ | refine ans_end ?_)
  refine (loop31 hs ?_ ?_).mono ?_
  · simp [Env.set, ainit]
  · simp [Env.set]
  · rintro e env H (⟨rfl, e0⟩ | ⟨rfl, h2, e0⟩)
    · simp only [outs_some, e0, rwA, rwB, Nat.reduceAdd, Nat.reduceMul, Nat.reduceLeDiff, Int.reduceEq, Int.reduceLT, Int.reduceLE, Int.reduceAdd, Int.reduceSub, Int.reduceMul, ↓reduceIte, Nat.reduceEqDiff, reduceCtorEq, ↓cnd_true, ↓cnd_false]
    · simp only [outs_some, h2, e0, rwA, rwB, Nat.reduceAdd, Nat.reduceMul, Nat.reduceLeDiff, Int.reduceEq, Int.reduceLT, Int.reduceLE, Int.reduceAdd, Int.reduceSub, Int.reduceMul, ↓reduceIte, Nat.reduceEqDiff, reduceCtorEq, ↓cnd_true, ↓cnd_false]

/-! ### Cut in pieces -/
def chop (n : Nat) : Nat → List UInt8 → List (List UInt8)
  | 0, _ => []
  | f + 1, s => if s = [] then [] else s.take n :: chop n f (s.drop n)
def pieces (n : Nat) (s : List UInt8) : List (List UInt8) := if n = 0 then [] else chop n s.length s
theorem chop_more {n : Nat} (hn : 0 < n) : ∀ (f : Nat) (s : List UInt8), s.length ≤ f → chop n f s = chop n s.length s
  | 0, s, h => by
    have : s.length = 0 := by omega
    rw [this]
  | f + 1, s, h => by
    cases hs : s with
    | nil => simp [chop]
    | cons x t =>
      rw [hs] at h
      simp only [List.length_cons] at h ⊢
      simp only [chop]
      rw [if_neg (by simp), if_neg (by simp)]
      congr 1
      have hl : ((x :: t).drop n).length ≤ t.length := by rw [List.length_drop]; simp; omega
      rw [chop_more hn f _ (by omega), chop_more hn t.length _ hl]
theorem pieces_nil (n : Nat) : pieces n [] = [] := by unfold pieces; split <;> rfl
theorem pieces_zero (s : List UInt8) : pieces 0 s = [] := rfl
theorem pieces_cons {n : Nat} (hn : 0 < n) {s : List UInt8} (hs : s ≠ []) : pieces n s = s.take n :: pieces n (s.drop n) := by
  unfold pieces
  rw [if_neg (by omega), if_neg (by omega)]
  cases s with
  | nil => exact absurd rfl hs
  | cons x t =>
    rw [List.length_cons]
    simp only [chop]
    rw [if_neg (by simp)]
    congr 1
    exact chop_more hn _ _ (by rw [List.length_drop]; simp; omega)

/-- A slice that append made, or one made empty. -/
def Bt (K : AHeap) (v : AVal) (cs : List AVal) : Prop := Ow K 1 v cs ∨ (cs = [] ∧ ∃ id, v = .slice id 0 0 0 none ∧ id < K.next ∧ K.obj id = some (.cells [] true))
theorem Bt.lt {K : AHeap} {v : AVal} {cs : List AVal} (h : Bt K v cs) : ∀ i, i ∈ v.ids → i < K.next := by
  rcases h with h | ⟨_, id, rfl, h, _⟩
  · exact h.lt
  · intro i hi
    simp [AVal.ids] at hi
    omega
theorem bt_push {K : AHeap} {v : AVal} {cs : List AVal} (h : Bt K v cs) (x : AVal) (hb : cs.length ≤ 4294967296) :
    ∃ v' K', aappend (K.new (.cells [x] true)) 1 16 v (.slice K.next 0 1 1 none) = some (v', K') ∧ Bt K' v' (cs ++ [x]) ∧ K.next ≤ K'.next ∧ (∀ i, i ∈ v'.ids → K.next ≤ i) ∧ ∀ i, i < K.next → i ∉ v.ids → K'.obj i = K.obj i := by
  rcases h with h | ⟨rfl, id, rfl, h1, h2⟩
  · refine ⟨_, _, h.push2 x (by omega), .inl (Ow_pushed _ _ _ _), by rw [pushH_next]; omega, ?_, fun i hi hv => pushH_obj hi hv⟩
    intro i hi
    simp [AVal.ids] at hi
    omega
  · have e : aappend (K.new (.cells [x] true)) 1 16 (.slice id 0 0 0 none) (.slice K.next 0 1 1 none) = some (.slice (K.next + 1) 0 1 1 (some 1), (K.new (.cells [x] true)).new (.cells [x] true)) :=
      app_known (H := K.new (.cells [x] true)) (es := 1) (by' := 16) (n := 1) (old := []) (new := [x]) (by decide) rfl (by simp [acells, AHeap.new]) rfl (by decide) (by decide)
    refine ⟨_, _, e, .inl (.inr ⟨_, 1, rfl, rfl, ?_, ?_, by decide⟩), ?_, ?_, ?_⟩
    · simp [AHeap.new]
    · simp [AHeap.new]
    · simp only [new_next]; omega
    · intro i hi
      simp [AVal.ids] at hi
      omega
    · intro i hi _
      simp only [new_obj, new_next]
      rw [if_neg (by omega), if_neg (by omega)]

theorem one_bt {f : FuncId} {x : AFn} {args cs : List AVal} {H : AHeap} (he : A.ext f = none) (hm : A.mode f = 1) (h : A.fn f = some x) (hp : plains args = true) (hc : oldl 0 cs = true)
    (hr : Rets (endX x.results (AX A x.body (ainit args) noH)) fun v K => Bt K v cs) : ∃ v K, AC A f args H = some (v, K) ∧ Sl K 1 v cs ∧ Keeps H K ∧ ∀ i, i ∈ v.ids → i < K.next := by
  obtain ⟨v, K, hr, hb⟩ := hr
  rcases hb with (⟨rfl, rfl⟩ | ⟨id, n, rfl, hl, _, ho, hn⟩) | ⟨rfl, id, rfl, _, ho⟩
  · refine ⟨.nils, H, ?_, .inl ⟨rfl, rfl⟩, Keeps.refl H, by simp [AVal.ids]⟩
    rw [AC_one he hm h args hp, s_body, hr]
    simp only [gcX, gc_old (show AVal.old 0 .nils = true from rfl)]
  · have e := one_new (u := .slice H.next 0 n n (some 1)) (cs := cs) (H := H) he hm h hp ⟨_, K, hr, one_slice (Nat.zero_le _) ho hc⟩
    refine ⟨_, _, e, .inr ⟨_, 0, n, n, some 1, rfl, hl, .inr ⟨cs, true, by simp [AHeap.new], by omega, by rw [List.drop_zero, List.take_of_length_le (by omega)]⟩⟩, Keeps.new _ _, ?_⟩
    intro i hi
    simp [AVal.ids] at hi
    simp only [new_next]; omega
  · have e := one_new (u := .slice H.next 0 0 0 none) (cs := []) (H := H) he hm h hp ⟨_, K, hr, one_slice (Nat.zero_le _) ho rfl⟩
    refine ⟨_, _, e, .inr ⟨_, 0, 0, 0, none, rfl, rfl, .inl rfl⟩, Keeps.new _ _, ?_⟩
    intro i hi
    simp [AVal.ids] at hi
    simp only [new_next]; omega

theorem strs_old (l : List (List UInt8)) : oldl 0 (l.map .str) = true := by
  induction l with
  | nil => rfl
  | cons x l ih => simp only [List.map_cons, oldl, AVal.old, ih, Bool.and_self]

theorem take_min (s : List UInt8) (n : Int) (h : 0 ≤ n) : s.take (if (s.length : Int) < n then (s.length : Int) else n).toNat = s.take n.toNat ∧ s.drop (if (s.length : Int) < n then (s.length : Int) else n).toNat = s.drop n.toNat := by
  split
  · rw [Int.toNat_natCast, List.take_of_length_le (Nat.le_refl _), List.take_of_length_le (by omega), List.drop_of_length_le (Nat.le_refl _), List.drop_of_length_le (by omega)]
    exact ⟨rfl, rfl⟩
  · exact ⟨rfl, rfl⟩

theorem U83 {H : AHeap} {a b : Nat} {s : List UInt8} {n : Int} (ha : H.obj a = some (.cells [.int .i64 n] true)) (hb : H.obj b = some (.cells [.str s] true)) (hn : 0 ≤ n) :
    AC A 83 [.ptr a 0, .ptr b 0] H = some (.str (s.take n.toNat), H.set b (.cells [.str (s.drop n.toNat)] true)) := by
  rw [s_fn (A := A) (f := 83) (x := ReFns.c83) rfl rfl rfl]
  obtain ⟨t1, t2⟩ := take_min s n hn
  obtain ⟨m, em⟩ : ∃ m : Int, (if (s.length : Int) < n then (s.length : Int) else n) = m := ⟨_, rfl⟩
  have m0 : 0 ≤ m := by rw [← em]; split <;> omega
  have m1 : m ≤ s.length := by rw [← em]; split <;> omega
  rw [em] at t1 t2
  simp only [c83, ha, hb, em, slc_lo s m m0 m1, slc_hi s m m0 m1, t1, t2, List.take_length, rwA, rwB, Nat.reduceAdd, Nat.reduceMul, Nat.reduceLeDiff, Int.reduceEq, Int.reduceLT, Int.reduceLE, Int.reduceAdd, Int.reduceSub, Int.reduceMul, ↓reduceIte, Nat.reduceEqDiff, reduceCtorEq, ↓cnd_true, ↓cnd_false]

def b28 : ACode := (.seq (.seq (.region [⟨(some 8), (.load false 1 (.tmp 3)), none, none⟩, ⟨(some 9), (.bin .gtr (.tmp 8) (.con (.int .i64 0))), none, none⟩, ⟨(some 10), (.mv (.tmp 9)), none, none⟩, ⟨(some 11), (.load false 1 (.tmp 2)), (some (10, true)), none⟩, ⟨(some 12), (.bin .neq (.tmp 11) (.con (.str []))), (some (10, true)), none⟩, ⟨(some 13), (.pick (.tmp 10) (.tmp 12) (.con (.bool false))), none, none⟩]) (.cond (.tmp 13) .skip (.exit 0))) (.block 1 (.region [⟨(some 14), (.mv (.tmp 5)), none, none⟩, ⟨(some 15), (.mv (.tmp 6)), none, none⟩, ⟨(some 16), (.call (.tmp 15) []), none, none⟩, ⟨(some 17), (.buildS 1 [(.str [])] [(0, (1, (.tmp 16)))]), none, none⟩, ⟨(some 18), (.append 1 16 (.tmp 14) (.tmp 17)), none, none⟩, ⟨(some 5), (.mv (.tmp 18)), none, none⟩])))

theorem loop28 {s : List UInt8} {n : Int} (hs : s.length ≤ 4294967296) {env : Env} {H : AHeap} (h2 : env 2 = .ptr 0 0) (h3 : env 3 = .ptr 1 0) (h5 : env 5 = .nils) (h6 : env 6 = .func 83 [] [.ptr 1 0, .ptr 0 0]) (o0 : H.obj 0 = some (.cells [.str s] true)) (o1 : H.obj 1 = some (.cells [.int .i64 n] true)) (hn : 2 ≤ H.next) :
    Outs (AX A (.loop b28) env H) fun e env' K => e = .exit 0 ∧ Bt K (env' 5) ((pieces n.toNat s).map .str) := by
  refine loop_ends (I := fun (r : List UInt8) env' K => env' 2 = .ptr 0 0 ∧ env' 3 = .ptr 1 0 ∧ env' 6 = .func 83 [] [.ptr 1 0, .ptr 0 0] ∧ K.obj 0 = some (.cells [.str r] true) ∧ K.obj 1 = some (.cells [.int .i64 n] true) ∧ 2 ≤ K.next ∧
    ∃ done, Bt K (env' 5) (done.map .str) ∧ (∀ i, i ∈ (env' 5).ids → 2 ≤ i) ∧ done ++ pieces n.toNat r = pieces n.toNat s ∧ done.length + r.length ≤ s.length) (fun r => r.length) ?_ s env H ⟨h2, h3, h6, o0, o1, hn, [], by rw [h5]; exact .inl (.inl ⟨rfl, rfl⟩), by rw [h5]; simp [AVal.ids], rfl, by simp⟩
  rintro r env' K ⟨h2, h3, h6, o0, o1, hn, done, hb, hi, hd, hl⟩
  cases c1 : decide ((0 : Int) < n)
  · simp only [b28, h2, h3, o0, o1, c1, rwA, rwB, Nat.reduceAdd, Nat.reduceMul, Nat.reduceLeDiff, Int.reduceEq, Int.reduceLT, Int.reduceLE, Int.reduceAdd, Int.reduceSub, Int.reduceMul, ↓reduceIte, Nat.reduceEqDiff, reduceCtorEq, ↓cnd_true, ↓cnd_false]
    rw [outs_some]
    refine .inr ⟨by simp, rfl, ?_⟩
    have n0 : n.toNat = 0 := by simp at c1; omega
    rw [n0, pieces_zero] at hd ⊢
    simp at hd
    subst hd
    simpa [Env.set, pieces_zero] using hb
  · cases c2 : decide (r = [])
    · have hne : r ≠ [] := by simpa using c2
      have hn0 : 0 < n := by simpa using c1
      have hr := List.length_pos_iff.2 hne
      obtain ⟨K1, eK1⟩ : ∃ X, K.set 0 (.cells [.str (r.drop n.toNat)] true) = X := ⟨_, rfl⟩
      have b1 : Bt K1 (env' 5) (done.map .str) := by
        rw [← eK1]
        rcases hb with hb | ⟨e, id, e', l, o⟩
        · exact .inl ((Ow_set (fun hx => by have := hi 0 hx; omega)).2 hb)
        · refine .inr ⟨e, id, e', by simp only [set_next]; exact l, ?_⟩
          have := hi id (by rw [e']; simp [AVal.ids])
          simp only [set_obj]
          rw [if_neg (by omega)]
          exact o
      have n1 : K1.next = K.next := by rw [← eK1]; rfl
      obtain ⟨v, K2, ap, b2, hn2, hi2, hk2⟩ := bt_push b1 (.str (r.take n.toNat)) (by simp; omega)
      rw [n1] at ap
      simp only [b28, h2, h3, h6, o0, o1, c1, c2, U83 o1 o0 (by omega), eK1, n1, ap, rwA, rwB, Nat.reduceAdd, Nat.reduceMul, Nat.reduceLeDiff, Int.reduceEq, Int.reduceLT, Int.reduceLE, Int.reduceAdd, Int.reduceSub, Int.reduceMul, ↓reduceIte, Nat.reduceEqDiff, reduceCtorEq, ↓cnd_true, ↓cnd_false]
      rw [outs_some]
      refine .inl ⟨rfl, r.drop n.toNat, by simp; omega, by simp [Env.set, h2], by simp [Env.set, h3], by simp [Env.set, h6], ?_, ?_, by omega, done ++ [r.take n.toNat], ?_, ?_, ?_, ?_⟩
      · rw [hk2 0 (by omega) (fun hx => by have := hi 0 hx; omega), ← eK1]; simp [AHeap.set]
      · rw [hk2 1 (by omega) (fun hx => by have := hi 1 hx; omega), ← eK1]; simp only [set_obj]; rw [if_neg (by omega)]; exact o1
      · simpa [Env.set] using b2
      · intro i hx
        have := hi2 i (by simpa [Env.set] using hx)
        omega
      · rw [List.append_assoc, List.singleton_append, ← pieces_cons (by omega) hne]
        exact hd
      · simp; omega
    · have he : r = [] := by simpa using c2
      subst he
      simp only [b28, h2, h3, o0, o1, c1, c2, rwA, rwB, Nat.reduceAdd, Nat.reduceMul, Nat.reduceLeDiff, Int.reduceEq, Int.reduceLT, Int.reduceLE, Int.reduceAdd, Int.reduceSub, Int.reduceMul, ↓reduceIte, Nat.reduceEqDiff, reduceCtorEq, ↓cnd_true, ↓cnd_false]
      rw [outs_some]
      refine .inr ⟨by simp, rfl, ?_⟩
      rw [pieces_nil, List.append_nil] at hd
      subst hd
      simpa [Env.set] using hb

theorem U28 (s : List UInt8) (n : Int) (hs : s.length ≤ 4294967296) (H : AHeap) : ∃ v K, AC A 28 [.str s, .int .i64 n] H = some (v, K) ∧ Sl K 1 v ((pieces n.toNat s).map .str) ∧ Keeps H K ∧ ∀ i, i ∈ v.ids → i < K.next := by
  refine one_bt (x := ReFns.c28) rfl rfl rfl rfl (strs_old _) ?_
  simp only [c28, rwA, rwB, Nat.reduceAdd, Nat.reduceMul, Nat.reduceLeDiff, Int.reduceEq, Int.reduceLT, Int.reduceLE, Int.reduceAdd, Int.reduceSub, Int.reduceMul, ↓reduceIte, Nat.reduceEqDiff, reduceCtorEq, ↓cnd_true, ↓cnd_false]
  repeat (first | refine outs_seq ?_ | refine outs_block ?_ | refine outs_step ?_ | refine outs_stepD ?_ | refine rets_end ?_ | refine ans_end ?_)
  refine (loop28 (s := s) (n := n) hs ?_ ?_ ?_ ?_ ?_ ?_ ?_).mono ?_
  · simp [Env.set]
  · simp [Env.set]
  · simp [Env.set]
  · simp [Env.set]
  · simp [AHeap.new, noH, ainit]
  · simp [AHeap.new, noH, ainit]
  · simp [AHeap.new, noH]
  · rintro e env K ⟨rfl, hb⟩
    simp only [outs_some, rwA, rwB, Nat.reduceAdd, Nat.reduceMul, Nat.reduceLeDiff, Int.reduceEq, Int.reduceLT, Int.reduceLE, Int.reduceAdd, Int.reduceSub, Int.reduceMul, ↓reduceIte, Nat.reduceEqDiff, reduceCtorEq, ↓cnd_true, ↓cnd_false]
    rw [rets_some]
    simpa [Env.set] using hb

def b29 : ACode := (.seq (.seq (.region [⟨(some 7), (.mv (.tmp 1)), none, none⟩, ⟨(some 8), (.bin .gtr (.tmp 7) (.con (.int .i64 0))), none, none⟩, ⟨(some 9), (.mv (.tmp 8)), none, none⟩, ⟨(some 10), (.mv (.tmp 0)), (some (9, true)), none⟩, ⟨(some 11), (.len true (.tmp 10)), (some (9, true)), none⟩, ⟨(some 12), (.mv (.tmp 1)), (some (9, true)), none⟩, ⟨(some 13), (.bin .gtr (.tmp 11) (.tmp 12)), (some (9, true)), none⟩, ⟨(some 14), (.pick (.tmp 9) (.tmp 13) (.con (.bool false))), none, none⟩]) (.cond (.tmp 14) .skip (.exit 0))) (.block 1 (.seq (.region [⟨(some 15), (.mv (.tmp 5)), none, none⟩, ⟨(some 16), (.mv (.tmp 0)), none, none⟩, ⟨(some 17), (.mv (.tmp 1)), none, none⟩, ⟨(some 18), (.slcStr (.tmp 16) none (some (.tmp 17))), none, none⟩, ⟨(some 19), (.buildS 1 [(.str [])] [(0, (1, (.tmp 18)))]), none, none⟩, ⟨(some 20), (.append 1 16 (.tmp 15) (.tmp 19)), none, none⟩, ⟨(some 5), (.mv (.tmp 20)), none, none⟩]) (.region [⟨(some 21), (.mv (.tmp 0)), none, none⟩, ⟨(some 22), (.mv (.tmp 1)), none, none⟩, ⟨(some 23), (.slcStr (.tmp 21) (some (.tmp 22)) none), none, none⟩, ⟨(some 0), (.mv (.tmp 23)), none, none⟩]))))

theorem loop29 {s : List UInt8} {n : Int} (hs : s.length ≤ 4294967296) {env : Env} {H : AHeap} (h0 : env 0 = .str s) (h1 : env 1 = .int .i64 n) (h5 : Bt H (env 5) []) :
    Outs (AX A (.loop b29) env H) fun e env' K => e = .exit 0 ∧ ∃ r done, env' 0 = .str r ∧ env' 1 = .int .i64 n ∧ Bt K (env' 5) (done.map .str) ∧ done ++ pieces n.toNat r = pieces n.toNat s ∧ done.length + r.length ≤ s.length ∧ (n ≤ 0 ∨ (r.length : Int) ≤ n) := by
  refine loop_ends (I := fun (r : List UInt8) env' K => env' 0 = .str r ∧ env' 1 = .int .i64 n ∧
    ∃ done, Bt K (env' 5) (done.map .str) ∧ done ++ pieces n.toNat r = pieces n.toNat s ∧ done.length + r.length ≤ s.length) (fun r => r.length) ?_ s env H ⟨h0, h1, [], h5, rfl, by simp⟩
  rintro r env' K ⟨h0, h1, done, hb, hd, hl⟩
  cases c1 : decide ((0 : Int) < n)
  · simp only [b29, h0, h1, c1, rwA, rwB, Nat.reduceAdd, Nat.reduceMul, Nat.reduceLeDiff, Int.reduceEq, Int.reduceLT, Int.reduceLE, Int.reduceAdd, Int.reduceSub, Int.reduceMul, ↓reduceIte, Nat.reduceEqDiff, reduceCtorEq, ↓cnd_true, ↓cnd_false]
    rw [outs_some]
    exact .inr ⟨by simp, rfl, r, done, by simp [Env.set, h0], by simp [Env.set, h1], by simpa [Env.set] using hb, hd, hl, .inl (by simpa using c1)⟩
  · cases c2 : decide (n < (r.length : Int))
    · simp only [b29, h0, h1, c1, c2, rwA, rwB, Nat.reduceAdd, Nat.reduceMul, Nat.reduceLeDiff, Int.reduceEq, Int.reduceLT, Int.reduceLE, Int.reduceAdd, Int.reduceSub, Int.reduceMul, ↓reduceIte, Nat.reduceEqDiff, reduceCtorEq, ↓cnd_true, ↓cnd_false]
      rw [outs_some]
      exact .inr ⟨by simp, rfl, r, done, by simp [Env.set, h0], by simp [Env.set, h1], by simpa [Env.set] using hb, hd, hl, .inr (by simpa using c2)⟩
    · have hn0 : 0 < n := by simpa using c1
      have hn1 : n < (r.length : Int) := by simpa using c2
      have hne : r ≠ [] := fun h => by rw [h] at hn1; simp at hn1; omega
      obtain ⟨v, K2, ap, b2, hn2, hi2, hk2⟩ := bt_push hb (.str (r.take n.toNat)) (by simp; omega)
      simp only [b29, h0, h1, c1, c2, slc_lo r n (by omega) (by omega), slc_hi r n (by omega) (by omega), List.take_length, ap, rwA, rwB, Nat.reduceAdd, Nat.reduceMul, Nat.reduceLeDiff, Int.reduceEq, Int.reduceLT, Int.reduceLE, Int.reduceAdd, Int.reduceSub, Int.reduceMul, ↓reduceIte, Nat.reduceEqDiff, reduceCtorEq, ↓cnd_true, ↓cnd_false]
      rw [outs_some]
      refine .inl ⟨rfl, r.drop n.toNat, by simp; omega, by simp [Env.set], by simp [Env.set, h1], done ++ [r.take n.toNat], by simpa [Env.set] using b2, ?_, by simp; omega⟩
      rw [List.append_assoc, List.singleton_append, ← pieces_cons (by omega) hne]
      exact hd

theorem U29 (s : List UInt8) (n : Int) (hs : s.length ≤ 4294967296) (H : AHeap) : ∃ v K, AC A 29 [.str s, .int .i64 n] H = some (v, K) ∧ Sl K 1 v ((pieces n.toNat s).map .str) ∧ Keeps H K ∧ ∀ i, i ∈ v.ids → i < K.next := by
  refine one_bt (x := ReFns.c29) rfl rfl rfl rfl (strs_old _) ?_
  simp only [c29, rwA, rwB, Nat.reduceAdd, Nat.reduceMul, Nat.reduceLeDiff, Int.reduceEq, Int.reduceLT, Int.reduceLE, Int.reduceAdd, Int.reduceSub, Int.reduceMul, ↓reduceIte, Nat.reduceEqDiff, reduceCtorEq, ↓cnd_true, ↓cnd_false]
  repeat (first | refine outs_seq ?_ | refine outs_block ?_ | refine outs_step ?_ | refine outs_stepD ?_ | refine rets_end ?_ | refine ans_end ?_)
  refine (loop29 (s := s) (n := n) hs ?_ ?_ ?_).mono ?_
  · simp [Env.set, ainit]
  · simp [Env.set, ainit]
  · refine .inr ⟨rfl, 0, by simp [Env.set, noH], by simp [AHeap.new, noH], by simp [AHeap.new, noH]⟩
  · rintro e env K ⟨rfl, r, done, h0, h1, hb, hd, hl, hr⟩
    cases c1 : decide ((0 : Int) < n)
    · simp only [outs_some, h0, h1, c1, rwA, rwB, Nat.reduceAdd, Nat.reduceMul, Nat.reduceLeDiff, Int.reduceEq, Int.reduceLT, Int.reduceLE, Int.reduceAdd, Int.reduceSub, Int.reduceMul, ↓reduceIte, Nat.reduceEqDiff, reduceCtorEq, ↓cnd_true, ↓cnd_false]
      rw [rets_some]
      have n0 : n.toNat = 0 := by simp at c1; omega
      rw [n0, pieces_zero] at hd ⊢
      simp at hd
      subst hd
      simpa [Env.set, pieces_zero] using hb
    · have hn0 : 0 < n := by simpa using c1
      cases c2 : decide ((0 : Int) < (r.length : Int))
      · simp only [outs_some, h0, h1, c1, c2, rwA, rwB, Nat.reduceAdd, Nat.reduceMul, Nat.reduceLeDiff, Int.reduceEq, Int.reduceLT, Int.reduceLE, Int.reduceAdd, Int.reduceSub, Int.reduceMul, ↓reduceIte, Nat.reduceEqDiff, reduceCtorEq, ↓cnd_true, ↓cnd_false]
        rw [rets_some]
        have he : r = [] := List.eq_nil_of_length_eq_zero (by have := of_decide_eq_false c2; omega)
        subst he
        rw [pieces_nil, List.append_nil] at hd
        subst hd
        simpa [Env.set] using hb
      · have hne : r ≠ [] := fun h => by rw [h] at c2; simp at c2
        obtain ⟨v, K2, ap, b2, hn2, hi2, hk2⟩ := bt_push hb (.str r) (by simp; omega)
        simp only [outs_some, h0, h1, c1, c2, ap, rwA, rwB, Nat.reduceAdd, Nat.reduceMul, Nat.reduceLeDiff, Int.reduceEq, Int.reduceLT, Int.reduceLE, Int.reduceAdd, Int.reduceSub, Int.reduceMul, ↓reduceIte, Nat.reduceEqDiff, reduceCtorEq, ↓cnd_true, ↓cnd_false]
        rw [rets_some]
        have e1 : pieces n.toNat r = [r] := by
          rw [pieces_cons (by omega) hne, List.take_of_length_le (by omega), List.drop_of_length_le (by omega), pieces_nil]
        rw [e1] at hd
        rw [← hd, List.map_append]
        simpa [Env.set] using b2

/-! ### The same, or not -/
def b27 : ACode := (.seq (.seq (.region [⟨(some 11), (.mv (.tmp 5)), none, none⟩, ⟨(some 12), (.mv (.tmp 0)), none, none⟩, ⟨(some 13), (.len false (.tmp 12)), none, none⟩, ⟨(some 14), (.bin .lss (.tmp 11) (.tmp 13)), none, none⟩]) (.cond (.tmp 14) .skip (.exit 0))) (.seq (.block 1 (.seq (.draw [⟨(some 17), (.mv (.tmp 0)), none, none⟩, ⟨(some 18), (.mv (.tmp 5)), none, none⟩, ⟨(some 19), (.idxASl 1 (.tmp 17) (.tmp 18)), none, none⟩, ⟨(some 20), (.load false 1 (.tmp 19)), none, none⟩, ⟨(some 21), (.mv (.tmp 1)), none, none⟩, ⟨(some 22), (.mv (.tmp 5)), none, none⟩, ⟨(some 23), (.idxASl 1 (.tmp 21) (.tmp 22)), none, none⟩, ⟨(some 24), (.load false 1 (.tmp 23)), none, none⟩, ⟨(some 25), (.bin .neq (.tmp 20) (.tmp 24)), none, none⟩]) (.cond (.tmp 25) (.seq (.region [⟨(some 4), (.mv (.con (.bool false))), none, none⟩]) .ret) .skip))) (.region [⟨(some 15), (.mv (.tmp 5)), none, none⟩, ⟨(some 16), (.bin .add (.tmp 15) (.con (.int .i64 1))), none, none⟩, ⟨(some 5), (.mv (.tmp 16)), none, none⟩])))

theorem loop27 {xs : List (List UInt8)} (hx : xs.length ≤ 4294967296) {v u : AVal} {env : Env} {H : AHeap} (h0 : env 0 = v) (h1 : env 1 = u) (h5 : env 5 = .int .i64 0) (hv : Sl H 1 v (xs.map .str)) (hu : Sl H 1 u (xs.map .str)) :
    Outs (AX A (.loop b27) env H) fun e env' K => e = .exit 0 := by
  refine loop_ends (I := fun (j : Nat) env' K => j ≤ xs.length ∧ K = H ∧ env' 0 = v ∧ env' 1 = u ∧ env' 5 = .int .i64 (j : Int)) (fun j => xs.length - j) ?_ 0 env H ⟨Nat.zero_le _, rfl, h0, h1, h5⟩
  rintro j env' _ ⟨hj, rfl, h0, h1, h5⟩
  have lv := hv.len1
  have lu := hu.len1
  rw [List.length_map] at lv lu
  by_cases hlt : j < xs.length
  · have e1 : decide ((j : Int) < (xs.length : Int)) = true := by simp; omega
    have w1 : IntKind.i64.wrap ((j : Int) + 1) = ((j + 1 : Nat) : Int) := by rw [wrap_i64]; omega
    have ha : aidx xs.length (.int .i64 (j : Int)) = some j := by simp [aidx]; omega
    have sv : slen v = xs.length := by have := hv.length; simp at this; omega
    have su : slen u = xs.length := by have := hu.length; simp at this; omega
    obtain ⟨i1, f1, k1, g1, l1, w1', ev, o1, _, c1, _⟩ := hv.at (i := j) (by omega)
    obtain ⟨i2, f2, k2, g2, l2, w2', eu, o2, _, c2, _⟩ := hu.at (i := j) (by omega)
    have d1 := c1 0 (by decide)
    have d2 := c2 0 (by decide)
    simp only [Nat.mul_one, Nat.add_zero] at d1 d2
    rw [List.getElem?_map, List.getElem?_eq_getElem hlt, Option.map_some] at d1 d2
    rw [sv] at ev
    rw [su] at eu
    subst ev eu
    simp only [b27, h0, h1, h5, lv, e1, w1, ha, o1, o2, d1, d2, rwA, rwB, Nat.reduceAdd, Nat.reduceMul, Nat.reduceLeDiff, Int.reduceEq, Int.reduceLT, Int.reduceLE, Int.reduceAdd, Int.reduceSub, Int.reduceMul, ↓reduceIte, Nat.reduceEqDiff, reduceCtorEq, ↓cnd_true, ↓cnd_false]
    rw [outs_some]
    exact .inl ⟨rfl, j + 1, by omega, by omega, rfl, by simp [Env.set, h0], by simp [Env.set, h1], by simp [Env.set]⟩
  · have e1 : decide ((j : Int) < (xs.length : Int)) = false := by simp; omega
    simp only [b27, h0, h5, lv, e1, rwA, rwB, Nat.reduceAdd, Nat.reduceMul, Nat.reduceLeDiff, Int.reduceEq, Int.reduceLT, Int.reduceLE, Int.reduceAdd, Int.reduceSub, Int.reduceMul, ↓reduceIte, Nat.reduceEqDiff, reduceCtorEq, ↓cnd_true, ↓cnd_false]
    rw [outs_some]
    exact .inr ⟨by simp, rfl⟩

theorem U27 {H : AHeap} {v u : AVal} {xs : List (List UInt8)} (hx : xs.length ≤ 4294967296) (hv : Sl H 1 v (xs.map .str)) (hu : Sl H 1 u (xs.map .str)) : AC A 27 [v, u] H = some (.bool true, H) := by
  refine look_val (x := ReFns.c27) rfl rfl rfl rfl ?_
  have lv := hv.len1
  have lu := hu.len1
  rw [List.length_map] at lv lu
  have d : decide ((xs.length : Int) = (xs.length : Int)) = true := by simp
  simp only [c27, lv, lu, d, rwA, rwB, Nat.reduceAdd, Nat.reduceMul, Nat.reduceLeDiff, Int.reduceEq, Int.reduceLT, Int.reduceLE, Int.reduceAdd, Int.reduceSub, Int.reduceMul, ↓reduceIte, Nat.reduceEqDiff, reduceCtorEq, ↓cnd_true, ↓cnd_false]
  repeat (first | refine outs_seq ?_ | refine outs_block ?_ | refine outs_step ?_ | refine outs_stepD ?_ | refine rets_end ?_ | refine ans_end ?_)
  refine (loop27 hx (v := v) (u := u) ?_ ?_ ?_ hv.frz hu.frz).mono ?_
  · simp [Env.set, ainit]
  · simp [Env.set, ainit]
  · simp [Env.set]
  · rintro e env K rfl
    simp only [outs_some, rwA, rwB, Nat.reduceAdd, Nat.reduceMul, Nat.reduceLeDiff, Int.reduceEq, Int.reduceLT, Int.reduceLE, Int.reduceAdd, Int.reduceSub, Int.reduceMul, ↓reduceIte, Nat.reduceEqDiff, reduceCtorEq, ↓cnd_true, ↓cnd_false]

theorem pieces_len (n : Nat) (s : List UInt8) : (pieces n s).length ≤ s.length := by
  have key : ∀ (f : Nat) (s : List UInt8), (chop n f s).length ≤ f := by
    intro f
    induction f with
    | zero => intro s; simp [chop]
    | succ f ih => intro s; simp only [chop]; split
                   · simp
                   · have := ih (s.drop n); simp; omega
  unfold pieces
  split
  · simp
  · exact key _ _

/-! ### The law of the writers -/
theorem run3 (w : Int) (n : Nat) (hn : n < 18446744073709551616) (s : List UInt8) (m k : Int) (H : AHeap) : Ans (AC A 3 [.int .i64 w, .int .u64 (n : Int), .str s, .int .i64 m, .int .i64 k] H) (.bool true) := by
  rw [s_fn (A := A) (f := 3) (x := ReFns.c3) rfl rfl rfl]
  cases c1 : decide ((131072 : Int) < (s.length : Int))
  · have hs : s.length ≤ 131072 := by have := of_decide_eq_false c1; omega
    obtain ⟨v, K1, u28, s1, k1, i1⟩ := U28 s k (by omega) H
    obtain ⟨u, K2, u29, s2, k2, _⟩ := U29 s k (by omega) K1
    have u27 := U27 (by have := pieces_len k.toNat s; omega) (s1.keep i1 k2) s2
    have wn : IntKind.u64.wrap (18446744073709551615 - (n : Int)) = ((18446744073709551615 - n : Nat) : Int) := by
      rw [show (18446744073709551615 : Int) - (n : Int) = ((18446744073709551615 - n : Nat) : Int) by omega, wrap_u64 _ (by omega)]
    have dd : ∀ x : Int, decide (x = x) = true := fun x => by simp
    have dl : ∀ x : List UInt8, decide (x = x) = true := fun x => by simp
    have u31 := U31 s (by omega)
    have u22 := U22 w n hn
    have u22' := U22 8 n hn
    have u22'' := U22 8 (18446744073709551615 - n) (by omega)
    have u24 := U24 n hn
    by_cases h8 : s.length = 8
    · have ef : off s = 18446744073709551615 - be s := by rw [off, if_pos h8]
      have ev : of s = be s := by rw [of, if_pos h8]
      have ee : ofe s = 0 := by rw [ofe, if_pos h8]
      have hb := be_lt8 s (by omega)
      have wo : IntKind.u64.wrap (18446744073709551615 - (be s : Int)) = ((18446744073709551615 - be s : Nat) : Int) := by
        rw [show (18446744073709551615 : Int) - (be s : Int) = ((18446744073709551615 - be s : Nat) : Int) by omega, wrap_u64 _ (by omega)]
      cases c2 : decide ((8192 : Int) < m)
      · simp only [c3, c1, c2, U16, U17, U18, U19, U20, ev, ef, ee, wo, dd, dl, U15, U21, u22, u22', u22'', U23, u24, wn, U25, U26, u28, u29, u27, U30, u31, rwA, rwB, Nat.reduceAdd, Nat.reduceMul, Nat.reduceLeDiff, Int.reduceEq, Int.reduceLT, Int.reduceLE, Int.reduceAdd, Int.reduceSub, Int.reduceMul, ↓reduceIte, Nat.reduceEqDiff, reduceCtorEq, ↓cnd_true, ↓cnd_false]
      · cases c4 : decide (m ≤ 65536)
        · simp only [c3, c1, c2, c4, U16, U17, U18, U19, U20, ev, ef, ee, wo, dd, dl, U15, U21, u22, u22', u22'', U23, u24, wn, U25, U26, u28, u29, u27, U30, u31, rwA, rwB, Nat.reduceAdd, Nat.reduceMul, Nat.reduceLeDiff, Int.reduceEq, Int.reduceLT, Int.reduceLE, Int.reduceAdd, Int.reduceSub, Int.reduceMul, ↓reduceIte, Nat.reduceEqDiff, reduceCtorEq, ↓cnd_true, ↓cnd_false]
        · simp only [c3, c1, c2, c4, U15, rwA, rwB, Nat.reduceAdd, Nat.reduceMul, Nat.reduceLeDiff, Int.reduceEq, Int.reduceLT, Int.reduceLE, Int.reduceAdd, Int.reduceSub, Int.reduceMul, ↓reduceIte, Nat.reduceEqDiff, reduceCtorEq, ↓cnd_true, ↓cnd_false]
    · have ef : off s = 0 := by rw [off, if_neg h8]
      have ev : of s = 0 := by rw [of, if_neg h8]
      have ee : ofe s = 19 := by rw [ofe, if_neg h8]
      have d19 : decide ((19 : Int) = 0) = false := by decide
      have z : ((0 : Nat) : Int) = 0 := rfl
      cases c2 : decide ((8192 : Int) < m)
      · simp only [c3, c1, c2, U16, U17, U18, U19, U20, ev, ef, ee, d19, z, dd, dl, U15, U21, u22, u22', u22'', U23, u24, wn, U25, U26, u28, u29, u27, U30, u31, rwA, rwB, Nat.reduceAdd, Nat.reduceMul, Nat.reduceLeDiff, Int.reduceEq, Int.reduceLT, Int.reduceLE, Int.reduceAdd, Int.reduceSub, Int.reduceMul, ↓reduceIte, Nat.reduceEqDiff, reduceCtorEq, ↓cnd_true, ↓cnd_false]
      · cases c4 : decide (m ≤ 65536)
        · simp only [c3, c1, c2, c4, U16, U17, U18, U19, U20, ev, ef, ee, d19, z, dd, dl, U15, U21, u22, u22', u22'', U23, u24, wn, U25, U26, u28, u29, u27, U30, u31, rwA, rwB, Nat.reduceAdd, Nat.reduceMul, Nat.reduceLeDiff, Int.reduceEq, Int.reduceLT, Int.reduceLE, Int.reduceAdd, Int.reduceSub, Int.reduceMul, ↓reduceIte, Nat.reduceEqDiff, reduceCtorEq, ↓cnd_true, ↓cnd_false]
        · simp only [c3, c1, c2, c4, U15, rwA, rwB, Nat.reduceAdd, Nat.reduceMul, Nat.reduceLeDiff, Int.reduceEq, Int.reduceLT, Int.reduceLE, Int.reduceAdd, Int.reduceSub, Int.reduceMul, ↓reduceIte, Nat.reduceEqDiff, reduceCtorEq, ↓cnd_true, ↓cnd_false]
  · simp only [c3, c1, U15, rwA, rwB, Nat.reduceAdd, Nat.reduceMul, Nat.reduceLeDiff, Int.reduceEq, Int.reduceLT, Int.reduceLE, Int.reduceAdd, Int.reduceSub, Int.reduceMul, ↓reduceIte, Nat.reduceEqDiff, reduceCtorEq, ↓cnd_true, ↓cnd_false]

theorem law3 (H : AHeap) (args : List AVal) (dats : List Dat) (h : AArgs Try.prog H [3, 22, 9, 3, 3] args dats) : ∃ k H', acall A k 3 args H = some (.bool true, H') := by
  obtain ⟨v0, r, d0, ds, rfl, rfl, h0, h⟩ := args_cons h
  obtain ⟨v1, r, d1, ds, rfl, rfl, h1, h⟩ := args_cons h
  obtain ⟨v2, r, d2, ds, rfl, rfl, h2, h⟩ := args_cons h
  obtain ⟨v3, r, d3, ds, rfl, rfl, h3, h⟩ := args_cons h
  obtain ⟨v4, r, d4, ds, rfl, rfl, h4, h⟩ := args_cons h
  obtain rfl := args_nil h
  obtain ⟨w, rfl, _⟩ := arg_int Try.underlying3 h0
  obtain ⟨n, rfl, n0, n1⟩ := arg_int Try.underlying22 h1
  obtain ⟨s, rfl, _⟩ := arg_str Try.underlying9 h2
  obtain ⟨m, rfl, _⟩ := arg_int Try.underlying3 h3
  obtain ⟨k, rfl, _⟩ := arg_int Try.underlying3 h4
  simp [IntKind.min, IntKind.max, IntKind.signed, IntKind.bits] at n0 n1
  obtain ⟨n, rfl⟩ : ∃ j : Nat, n = (j : Int) := ⟨n.toNat, by omega⟩
  obtain ⟨H', hr⟩ := run3 w n (by omega) s m k H
  obtain ⟨k, hk⟩ := AC_iff.1 hr
  exact ⟨k, H', hk⟩

end Go.Proofs.Ytmicohgachjcgaa.Re
