/- The law of sectors there and back. -/
import Derived.Test.YtfmjdlahabgkpaaSei
import Derived.Test.YtfmjdlahabgkpaaAmCut
set_option maxRecDepth 100000
set_option linter.unusedSimpArgs false
set_option linter.unusedVariables false
set_option maxHeartbeats 4000000
namespace Go.Proofs.Ytfmjdlahabgkpaa.Sd
open Go Go.Proofs.Ytfmjdlahabgkpaa.Am SdFns Go.RowKit

def b5 : ACode := (.seq (.region [⟨(some 107), (.bin .lss (.tmp 106) (.con (.int .i64 4))), none, none⟩]) (.seq (.cond (.tmp 107) .skip (.exit 0)) (.seq (.block 1 (.seq (.region [⟨(some 108), (.mv (.tmp 106)), none, none⟩, ⟨(some 18), (.mv (.tmp 108)), none, none⟩]) (.draw [⟨(some 109), (.mv (.tmp 17)), none, none⟩, ⟨(some 110), (.mv (.tmp 1)), none, none⟩, ⟨(some 111), (.mv (.tmp 18)), none, none⟩, ⟨(some 112), (.bin .add (.tmp 110) (.tmp 111)), none, none⟩, ⟨(some 113), (.idxASl 1 (.tmp 109) (.tmp 112)), none, none⟩, ⟨(some 114), (.load false 1 (.tmp 113)), none, none⟩, ⟨(some 115), (.mv (.tmp 2)), none, none⟩, ⟨(some 116), (.mv (.tmp 18)), none, none⟩, ⟨(some 117), (.bin .mul (.con (.int .i64 8)) (.tmp 116)), none, none⟩, ⟨(some 118), (.bin .shr (.tmp 115) (.tmp 117)), none, none⟩, ⟨(some 119), (.toInt .u8 (.tmp 118)), none, none⟩, ⟨(some 120), (.bin .xor (.tmp 114) (.tmp 119)), none, none⟩, ⟨(some 121), (.idxASl 1 (.tmp 109) (.tmp 112)), none, none⟩, ⟨none, (.store 1 (.tmp 121) (.tmp 120)), none, none⟩]))) (.region [⟨(some 122), (.bin .add (.tmp 106) (.con (.int .i64 1))), none, none⟩, ⟨(some 106), (.mv (.tmp 122)), none, none⟩]))))
theorem loop5 {s : List UInt8} {at' q : Nat} {x : BitVec 32} (hat : at' + 4 ≤ s.length) (hs : s.length ≤ 4096) {env : Env} {H : AHeap} (h1 : env 1 = .int .i64 (at' : Int)) (h2 : env 2 = u x) (h17 : env 17 = .slice q 0 s.length s.length (some 1)) (h106 : env 106 = .int .i64 0)
    (ho : H.obj q = some (.cells (s.map by8) true)) :
    Outs (AX A (.loop b5) env H) fun e env' H' => e = .exit 0 ∧ env' 2 = u x ∧ env' 17 = .slice q 0 s.length s.length (some 1) ∧ H'.obj q = some (.cells ((chg s at' x 4).map by8) true) := by
  refine loop_ends (I := fun (j : Nat) env' H' => j ≤ 4 ∧ env' 1 = .int .i64 (at' : Int) ∧ env' 2 = u x ∧ env' 17 = .slice q 0 s.length s.length (some 1) ∧ env' 106 = .int .i64 (j : Int) ∧ H'.obj q = some (.cells ((chg s at' x j).map by8) true)) (fun j => 4 - j) ?_ 0 env H ⟨by decide, h1, h2, h17, h106, ho⟩
  rintro j env' H' ⟨hj, h1, h2, h17, h106, ho⟩
  by_cases hlt : j < 4
  · have e1 : decide ((j : Int) < 4) = true := by simp; omega
    have w1 : IntKind.i64.wrap ((j : Int) + 1) = ((j + 1 : Nat) : Int) := by rw [wrap_i64]; omega
    have w2 : IntKind.i64.wrap ((at' : Int) + (j : Int)) = ((at' + j : Nat) : Int) := by rw [wrap_i64]; omega
    have w3 : IntKind.i64.wrap (8 * (j : Int)) = ((8 * j : Nat) : Int) := by rw [wrap_i64]; omega
    have ha : aidx s.length (.int .i64 ((at' + j : Nat) : Int)) = some (at' + j) := by simp only [aidx]; rw [if_pos ⟨by omega, by omega⟩]; rfl
    have hl := chg_len s at' x j
    have hg := get8 (L := chg s at' x j) (i := at' + j) (by omega)
    have st := store_one H' q (at' + j) (by8 ((chg s at' x j).getD (at' + j) 0 ^^^ part x j)) ((chg s at' x j).map by8) (by rw [List.length_map]; omega)
    have hp : UInt8.ofNat (x >>> (8 * j)).toNat = part x j := rfl
    simp only [b5, h1, h2, h17, h106, e1, w1, w2, w3, ha, ho, hg, x_shr, to8, hp, x8, c_8, t_8, st, rwA, rwB, Nat.reduceAdd, Nat.reduceMul, Nat.reduceLeDiff, Int.reduceEq, Int.reduceLT, Int.reduceLE, Int.reduceAdd, Int.reduceSub, Int.reduceMul, ↓reduceIte, Nat.reduceEqDiff, reduceCtorEq, ↓cnd_true, ↓cnd_false]
    rw [outs_some]
    refine .inl ⟨rfl, j + 1, by omega, by omega, by simp only [h1, rwA, rwB, Nat.reduceAdd, Nat.reduceMul, Nat.reduceLeDiff, Int.reduceEq, Int.reduceLT, Int.reduceLE, Int.reduceAdd, Int.reduceSub, Int.reduceMul, ↓reduceIte, Nat.reduceEqDiff, reduceCtorEq, ↓cnd_true, ↓cnd_false], by simp only [h2, rwA, rwB, Nat.reduceAdd, Nat.reduceMul, Nat.reduceLeDiff, Int.reduceEq, Int.reduceLT, Int.reduceLE, Int.reduceAdd, Int.reduceSub, Int.reduceMul, ↓reduceIte, Nat.reduceEqDiff, reduceCtorEq, ↓cnd_true, ↓cnd_false], by simp only [h17, rwA, rwB, Nat.reduceAdd, Nat.reduceMul, Nat.reduceLeDiff, Int.reduceEq, Int.reduceLT, Int.reduceLE, Int.reduceAdd, Int.reduceSub, Int.reduceMul, ↓reduceIte, Nat.reduceEqDiff, reduceCtorEq, ↓cnd_true, ↓cnd_false], by simp only [rwA, rwB, Nat.reduceAdd, Nat.reduceMul, Nat.reduceLeDiff, Int.reduceEq, Int.reduceLT, Int.reduceLE, Int.reduceAdd, Int.reduceSub, Int.reduceMul, ↓reduceIte, Nat.reduceEqDiff, reduceCtorEq, ↓cnd_true, ↓cnd_false], ?_⟩
    simp [AHeap.set, chg, List.map_set]
  · have e1 : decide ((j : Int) < 4) = false := by simp; omega
    have : j = 4 := by omega
    subst this
    simp only [b5, h106, e1, rwA, rwB, Nat.reduceAdd, Nat.reduceMul, Nat.reduceLeDiff, Int.reduceEq, Int.reduceLT, Int.reduceLE, Int.reduceAdd, Int.reduceSub, Int.reduceMul, ↓reduceIte, Nat.reduceEqDiff, reduceCtorEq, ↓cnd_true, ↓cnd_false]
    rw [outs_some]
    exact .inr ⟨by simp, rfl, by simp only [h2, rwA, rwB, Nat.reduceAdd, Nat.reduceMul, Nat.reduceLeDiff, Int.reduceEq, Int.reduceLT, Int.reduceLE, Int.reduceAdd, Int.reduceSub, Int.reduceMul, ↓reduceIte, Nat.reduceEqDiff, reduceCtorEq, ↓cnd_true, ↓cnd_false], by simp only [h17, rwA, rwB, Nat.reduceAdd, Nat.reduceMul, Nat.reduceLeDiff, Int.reduceEq, Int.reduceLT, Int.reduceLE, Int.reduceAdd, Int.reduceSub, Int.reduceMul, ↓reduceIte, Nat.reduceEqDiff, reduceCtorEq, ↓cnd_true, ↓cnd_false], ho⟩

def d5 : ACode := rest 10 SdFns.c5.body
theorem bToS_one {K : AHeap} {i : Nat} {c : UInt8} (h : i = K.next) : bToSX (K.new (.cells [by8 c] true)) (.slice i 0 1 1 none) = some (.str [c], K.new (.cells [by8 c] true)) := by
  subst h
  exact bToS_sl (s := [c]) (.inr ⟨K.next, 0, 1, 1, none, rfl, rfl, .inr ⟨[by8 c], true, by simp only [new_obj]; rw [if_pos trivial], by simp, rfl⟩⟩)
theorem unfit_is (b : List UInt8) : decide (unfit b = 0) = fits b := by unfold unfit; cases fits b <;> rfl

theorem d5_ok {s : List UInt8} (hf : fits s = true) {at' q : Nat} {x : BitVec 32} (h4 : at' + 4 ≤ 512) (hat : at' ≤ 24 ∨ at' = 28 ∨ 32 ≤ at') {env : Env} {H : AHeap} (h1 : env 1 = .int .i64 (at' : Int)) (h2 : env 2 = u x) (h17 : env 17 = .slice q 0 s.length s.length (some 1))
    (ho : H.obj q = some (.cells (s.map by8) true)) : Ans (endX [.tmp 8] (AX A d5 env H)) (.bool true) := by
  have ls := fits_len hf
  have k0' : AVal.int .u32 0 = u 0#32 := k0
  simp only [d5, rest, SdFns.c5, rwA, rwB, Nat.reduceAdd, Nat.reduceMul, Nat.reduceLeDiff, Int.reduceEq, Int.reduceLT, Int.reduceLE, Int.reduceAdd, Int.reduceSub, Int.reduceMul, ↓reduceIte, Nat.reduceEqDiff, reduceCtorEq, ↓cnd_true, ↓cnd_false]
  repeat (first | refine outs_seq ?_ | refine outs_block ?_ | refine outs_step ?_ | refine outs_stepD ?_ | refine rets_end ?_ | refine ans_end ?_)
  refine (loop5 (s := s) (at' := at') (q := q) (x := x) (by omega) (by omega) ?_ ?_ ?_ ?_ ho).mono ?_
  · simp only [h1, rwA, rwB, Nat.reduceAdd, Nat.reduceMul, Nat.reduceLeDiff, Int.reduceEq, Int.reduceLT, Int.reduceLE, Int.reduceAdd, Int.reduceSub, Int.reduceMul, ↓reduceIte, Nat.reduceEqDiff, reduceCtorEq, ↓cnd_true, ↓cnd_false]
  · simp only [h2, rwA, rwB, Nat.reduceAdd, Nat.reduceMul, Nat.reduceLeDiff, Int.reduceEq, Int.reduceLT, Int.reduceLE, Int.reduceAdd, Int.reduceSub, Int.reduceMul, ↓reduceIte, Nat.reduceEqDiff, reduceCtorEq, ↓cnd_true, ↓cnd_false]
  · simp only [h17, rwA, rwB, Nat.reduceAdd, Nat.reduceMul, Nat.reduceLeDiff, Int.reduceEq, Int.reduceLT, Int.reduceLE, Int.reduceAdd, Int.reduceSub, Int.reduceMul, ↓reduceIte, Nat.reduceEqDiff, reduceCtorEq, ↓cnd_true, ↓cnd_false]
  · simp only [rwA, rwB, Nat.reduceAdd, Nat.reduceMul, Nat.reduceLeDiff, Int.reduceEq, Int.reduceLT, Int.reduceLE, Int.reduceAdd, Int.reduceSub, Int.reduceMul, ↓reduceIte, Nat.reduceEqDiff, reduceCtorEq, ↓cnd_true, ↓cnd_false]
  · rintro e env' H' ⟨rfl, g2, g17, go⟩
    have hs : Sl H' 1 (.slice q 0 s.length s.length (some 1)) ((chg s at' x 4).map by8) := .inr ⟨q, 0, s.length, s.length, some 1, rfl, by simp [chg_len], .inr ⟨_, true, go, by simp [chg_len], by simp [chg_len, List.take_of_length_le]⟩⟩
    have fs := found_sec hf at' h4 hat x
    have u14 := U14 (chg s at' x 4)
    have hu := unfit_is (chg s at' x 4)
    rw [fs] at hu
    have db : ∀ x : Bool, (x == x) = true := fun x => by simp
    cases ho2 : opened (chg s at' x 4) with
    | mk k2 e2 n2 a2 m2 p2 =>
      rw [ho2] at u14
      simp only [Sec.cells] at u14
      generalize unfit (chg s at' x 4) = w at *
      simp only [outs_some, g2, g17, bToS_sl hs, u14, hu, k0', x_eql, db, rwA, rwB, Nat.reduceAdd, Nat.reduceMul, Nat.reduceLeDiff, Int.reduceEq, Int.reduceLT, Int.reduceLE, Int.reduceAdd, Int.reduceSub, Int.reduceMul, ↓reduceIte, Nat.reduceEqDiff, reduceCtorEq, ↓cnd_true, ↓cnd_false]

theorem run5 (k : Int) (e n : Nat) (a m : Int) (p : List UInt8) (he : e < 18446744073709551616) (hn : n < 18446744073709551616) (g : Int) (x : BitVec 32) (c : UInt8) (H : AHeap) :
    Ans (AC A 5 [.agg [.int .i64 k, .int .u64 (e : Int), .int .u64 (n : Int), .int .i64 a, .int .i64 m, .str p], .int .i64 g, u x, by8 c] H) (.bool true) := by
  rw [s_fn (A := A) (f := 5) (x := SdFns.c5) rfl rfl rfl]
  have hk : SdFns.c5.body = upto 10 SdFns.c5.body d5 := cut 10 SdFns.c5.body
  rw [hk]
  have u12 := U12 k e n a m p
  have u11 := U11 k e n a m p
  have u16 := U16 k e n a m p
  have dl : ∀ x : List UInt8, decide (x = x) = true := fun x => by simp
  have di : ∀ x : Int, decide (x = x) = true := fun x => by simp
  have nl : decide (([] : List UInt8) = []) = true := rfl
  cases ok : Sec.ok ⟨k, e, n, a, m, p⟩
  · obtain ⟨e1, e2⟩ := seal_no ok
    rw [e1, e2] at u11
    rw [e2] at u16
    simp only [c5, upto, U10, u11, u12, u16, nl, rwA, rwB, Nat.reduceAdd, Nat.reduceMul, Nat.reduceLeDiff, Int.reduceEq, Int.reduceLT, Int.reduceLE, Int.reduceAdd, Int.reduceSub, Int.reduceMul, ↓reduceIte, Nat.reduceEqDiff, reduceCtorEq, ↓cnd_true, ↓cnd_false]
  · obtain ⟨e1, e2⟩ := seal_ok ok
    obtain ⟨o1, o2⟩ := opened_bytes ok ⟨he, hn⟩
    have hf := fits_bytes ok ⟨he, hn⟩
    have lb := fits_len hf
    have u14 := U14 (Sec.bytes ⟨k, e, n, a, m, p⟩)
    rw [e1, e2] at u11
    rw [o1, o2] at u14
    simp only [Sec.cells] at u14
    have dl' : ∀ x : List UInt8, decide (x = x) = true := fun x => by simp
    clear e1 e2 o1 o2
    generalize Sec.bytes ⟨k, e, n, a, m, p⟩ = b at *
    have w0 : IntKind.i64.wrap 511 = 511 := by decide
    have sh := slc_hi b 511 (by omega) (by omega)
    rw [lb] at sh
    have v1 : ∀ H, AC A 14 [.str (b.take 511)] H = some (.tuple [.agg (opened (b.take 511)).cells, .int .i64 19], H) := fun H => by
      have : fits (b.take 511) = false := by unfold fits; rw [decide_eq_false (by rw [List.length_take]; omega)]; rfl
      rw [U14]; unfold unfit; rw [this]; rfl
    have v2 : ∀ H, AC A 14 [.str (b ++ [c])] H = some (.tuple [.agg (opened (b ++ [c])).cells, .int .i64 19], H) := fun H => by
      have : fits (b ++ [c]) = false := by unfold fits; rw [decide_eq_false (by rw [List.length_append, lb]; simp)]; rfl
      rw [U14]; unfold unfit; rw [this]; rfl
    have t511 : (511 : Int).toNat = 511 := rfl
    have lc : ((512 : Nat) : Int) = 512 := rfl
    have w4 : IntKind.i64.wrap 508 = 508 := by decide
    cases o3 : opened (b.take 511) with
    | mk k3 e3 n3 a3 m3 p3 =>
      cases o4 : opened (b ++ [c]) with
      | mk k4 e4 n4 a4 m4 p4 =>
        rw [o3] at v1
        rw [o4] at v2
        simp only [Sec.cells] at v1 v2
        generalize (e3 : Int) = e3 at *
        generalize (n3 : Int) = n3 at *
        generalize (e4 : Int) = e4 at *
        generalize (n4 : Int) = n4 at *
        have hcat : abin .add (.str b) (.str [c]) = some (.str (b ++ [c])) := b_cat _ _ (by rw [lb]; simp)
        cases c1 : decide (g < 0)
        · cases c2 : decide ((508 : Int) < g)
          · have hg : 0 ≤ g ∧ g ≤ 508 := ⟨by have := of_decide_eq_false c1; omega, by have := of_decide_eq_false c2; omega⟩
            obtain ⟨at', rfl⟩ : ∃ m : Nat, g = (m : Int) := ⟨g.toNat, by omega⟩
            cases c3 : decide ((24 : Int) < (at' : Int)) <;> cases c4 : decide ((at' : Int) < 32) <;> cases c6 : decide ((at' : Int) = 28) <;>
              simp only [c5, upto, U10, u11, u12, u14, w0, sh, t511, List.drop_zero, v1, bToS_one, c_8, t_8, hcat, v2, di, dl, lb, lc, w4, c1, c2, c3, c4, c6, Bool.and_self, rwA, rwB, Nat.reduceAdd, Nat.reduceMul, Nat.reduceLeDiff, Int.reduceEq, Int.reduceLT, Int.reduceLE, Int.reduceAdd, Int.reduceSub, Int.reduceMul, ↓reduceIte, Nat.reduceEqDiff, reduceCtorEq, ↓cnd_true, ↓cnd_false] <;>
              (try (refine d5_ok hf (at' := at') (q := H.next + 5) (x := x) (by omega) (by simp at c3 c4 c6; omega) ?_ ?_ ?_ ?_ <;> simp only [lb, by8_fun, rwA, rwB, Nat.reduceAdd, Nat.reduceMul, Nat.reduceLeDiff, Int.reduceEq, Int.reduceLT, Int.reduceLE, Int.reduceAdd, Int.reduceSub, Int.reduceMul, ↓reduceIte, Nat.reduceEqDiff, reduceCtorEq, ↓cnd_true, ↓cnd_false]))
          · simp only [c5, upto, U10, u11, u12, u14, w0, sh, t511, List.drop_zero, v1, bToS_one, c_8, t_8, hcat, v2, di, dl, lb, lc, w4, c1, c2, Bool.and_self, rwA, rwB, Nat.reduceAdd, Nat.reduceMul, Nat.reduceLeDiff, Int.reduceEq, Int.reduceLT, Int.reduceLE, Int.reduceAdd, Int.reduceSub, Int.reduceMul, ↓reduceIte, Nat.reduceEqDiff, reduceCtorEq, ↓cnd_true, ↓cnd_false]
        · simp only [c5, upto, U10, u11, u12, u14, w0, sh, t511, List.drop_zero, v1, bToS_one, c_8, t_8, hcat, v2, di, dl, lb, lc, w4, c1, Bool.and_self, rwA, rwB, Nat.reduceAdd, Nat.reduceMul, Nat.reduceLeDiff, Int.reduceEq, Int.reduceLT, Int.reduceLE, Int.reduceAdd, Int.reduceSub, Int.reduceMul, ↓reduceIte, Nat.reduceEqDiff, reduceCtorEq, ↓cnd_true, ↓cnd_false]

end Go.Proofs.Ytfmjdlahabgkpaa.Sd
