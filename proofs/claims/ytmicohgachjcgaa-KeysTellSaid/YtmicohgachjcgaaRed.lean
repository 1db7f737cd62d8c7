/- The law of the records' writers. -/
import Derived.Test.YtmicohgachjcgaaRec
set_option maxRecDepth 100000
set_option linter.unusedSimpArgs false
set_option linter.unusedVariables false
set_option maxHeartbeats 4000000
namespace Go.Proofs.Ytmicohgachjcgaa.Re
open Go Go.Proofs.Ytmicohgachjcgaa.Am ReFns Go.RowKit

theorem U43_is : (arun (acall A 3000) 3000 (some ReFns.c43) [] noH).map (·.1) = some (.bool true) := by kernel_rfl
theorem U43 (H : AHeap) : AC A 43 [] H = some (.bool true, H) := one_closed (x := ReFns.c43) rfl rfl rfl rfl rfl U43_is H

theorem vok_is (d : Bool) (c a b : Int) : vok d c a b = (blobok a b && (!d || (decide (c = 0) && decide (b = 0)))) := by
  unfold vok blobok
  by_cases h1 : a = 0
  · subst h1; simp
  · by_cases h2 : b = 0
    · subst h2; simp [h1]
    · simp [h1, h2]

theorem q11 (n : Nat) (x : UInt8) : abin .add (.str (num 8 n)) (.str [x]) = some (.str (num 8 n ++ [x])) := b_cat _ _ (by rw [len8]; simp)
theorem q12 (n : Nat) (x : UInt8) (c a b : Int) : abin .add (.str (num 8 n ++ [x])) (.str (body c a b)) = some (.str (num 8 n ++ [x] ++ body c a b)) := b_cat _ _ (by rw [List.length_append, len8, body_len]; simp)

theorem U49 (n : Nat) (hn : n < 18446744073709551616) (d : Bool) (c a b : Int) (H : AHeap) : AC A 49 [.agg [.int .u64 (n : Int), .bool d, .int .u32 c, .int .i64 a, .int .i64 b]] H = some (.tuple [.str (sure (vok d c a b) (vval n d c a b)), .int .i64 (chk (vok d c a b))], H) := by
  refine one_val (x := ReFns.c49) rfl rfl rfl rfl rfl ?_ H
  rw [vok_is]
  unfold vval bit sure chk
  have i1 : (if true = true then (1 : Nat) else 0) = 1 := rfl
  have i0 : (if false = true then (1 : Nat) else 0) = 0 := rfl
  cases d <;> cases c1 : blobok a b <;> cases c2 : decide (c = 0) <;> cases c4 : decide (b = 0) <;> simp only [c49, c1, c2, c4, i1, i0, bit_1, bit_0, U95, U96, U22 8 n hn, q11, q12, rwA, rwB, Nat.reduceAdd, Nat.reduceMul, Nat.reduceLeDiff, Int.reduceEq, Int.reduceLT, Int.reduceLE, Int.reduceAdd, Int.reduceSub, Int.reduceMul, ↓reduceIte, Nat.reduceEqDiff, reduceCtorEq, ↓cnd_true, ↓cnd_false] <;> rfl

/-! ### A key -/
def preok (s : List UInt8) : Bool := decide (s.length ≤ 24) && s.all (· != 0)
def keyok (s : List UInt8) : Bool := !decide (s = []) && preok s

theorem U131 (b : Bool) (H : AHeap) : AC A 131 [.bool b] H = some (.int .i64 (chk b), H) := by
  refine one_val (x := ReFns.c131) rfl rfl rfl rfl rfl ?_ H
  unfold chk
  cases b <;> simp only [c131, rwA, rwB, Nat.reduceAdd, Nat.reduceMul, Nat.reduceLeDiff, Int.reduceEq, Int.reduceLT, Int.reduceLE, Int.reduceAdd, Int.reduceSub, Int.reduceMul, ↓reduceIte, Nat.reduceEqDiff, reduceCtorEq, ↓cnd_true, ↓cnd_false] <;> rfl

theorem U150 (x : Int) (H : AHeap) : AC A 150 [.int .u8 x] H = some (.bool (!decide (x = 0)), H) := by
  refine one_val (x := ReFns.c150) rfl rfl rfl rfl rfl ?_ H
  simp only [c150, rwA, rwB, Nat.reduceAdd, Nat.reduceMul, Nat.reduceLeDiff, Int.reduceEq, Int.reduceLT, Int.reduceLE, Int.reduceAdd, Int.reduceSub, Int.reduceMul, ↓reduceIte, Nat.reduceEqDiff, reduceCtorEq, ↓cnd_true, ↓cnd_false]

theorem U154 {H : AHeap} {b : Nat} (hb : H.obj b = some (.cells [.func 150 [] []] true)) (x : Int) : AC A 154 [.int .u8 x, .ptr b 0] H = some (.bool (decide (x = 0)), H) := by
  rw [s_fn (A := A) (f := 154) (x := ReFns.c154) rfl rfl rfl]
  cases c1 : decide (x = 0) <;> simp only [c154, hb, c1, U150, rwA, rwB, Nat.reduceAdd, Nat.reduceMul, Nat.reduceLeDiff, Int.reduceEq, Int.reduceLT, Int.reduceLE, Int.reduceAdd, Int.reduceSub, Int.reduceMul, ↓reduceIte, Nat.reduceEqDiff, reduceCtorEq, ↓cnd_true, ↓cnd_false] <;> rfl

def b161 : ACode := (.seq (.region [⟨(some 9), (.bin .lss (.tmp 8) (.tmp 7)), none, none⟩]) (.seq (.cond (.tmp 9) .skip (.exit 0)) (.seq (.block 1 (.seq (.region [⟨(some 10), (.mv (.tmp 8)), none, none⟩, ⟨(some 5), (.mv (.tmp 10)), none, none⟩]) (.seq (.region [⟨(some 11), (.mv (.tmp 1)), none, none⟩, ⟨(some 12), (.mv (.tmp 0)), none, none⟩, ⟨(some 13), (.mv (.tmp 5)), none, none⟩, ⟨(some 14), (.idxASl 1 (.tmp 12) (.tmp 13)), none, none⟩, ⟨(some 15), (.load false 1 (.tmp 14)), none, none⟩, ⟨(some 16), (.call (.tmp 11) [(.tmp 15)]), none, none⟩]) (.cond (.tmp 16) (.seq (.region [⟨(some 17), (.mv (.tmp 5)), none, none⟩, ⟨(some 4), (.mv (.tmp 17)), none, none⟩]) .ret) .skip)))) (.region [⟨(some 18), (.bin .add (.tmp 8) (.con (.int .i64 1))), none, none⟩, ⟨(some 8), (.mv (.tmp 18)), none, none⟩]))))
theorem loop161 {s : List UInt8} (hs : s.length ≤ 4611686018427387904) {v : AVal} {b : Nat} {env : Env} {H : AHeap} (h0 : env 0 = v) (h1 : env 1 = .func 154 [] [.ptr b 0]) (h7 : env 7 = .int .i64 (s.length : Int)) (h8 : env 8 = .int .i64 0) (hv : Sl H 1 v (s.map by8)) (hb : H.obj b = some (.cells [.func 150 [] []] true)) :
    Outs (AX A (.loop b161) env H) fun e env' K => K = H ∧ ((e = .exit 0 ∧ s.all (· != 0) = true) ∨ (e = .ret ∧ (∃ i : Nat, env' 4 = .int .i64 (i : Int)) ∧ s.all (· != 0) = false)) := by
  refine loop_ends (I := fun (j : Nat) env' K => j ≤ s.length ∧ K = H ∧ env' 0 = v ∧ env' 1 = .func 154 [] [.ptr b 0] ∧ env' 7 = .int .i64 (s.length : Int) ∧ env' 8 = .int .i64 (j : Int) ∧ ∀ i (hi : i < s.length), i < j → s[i] ≠ 0) (fun j => s.length - j) ?_ 0 env H ⟨Nat.zero_le _, rfl, h0, h1, h7, h8, fun i _ h => by omega⟩
  rintro j env' K ⟨hj, rfl, h0, h1, h7, h8, hz⟩
  by_cases hlt : j < s.length
  · have e1 : decide ((j : Int) < (s.length : Int)) = true := by simp; omega
    have w1 : IntKind.i64.wrap ((j : Int) + 1) = ((j + 1 : Nat) : Int) := by rw [wrap_i64]; omega
    have ha : aidx s.length (.int .i64 (j : Int)) = some j := by simp [aidx]; omega
    have sv : slen v = s.length := by have := hv.length; simp at this; omega
    obtain ⟨id, off, cap, g, l, own, et, ho, _, hc, _⟩ := hv.at (i := j) (by omega)
    have hc0 := hc 0 (by decide)
    simp only [Nat.mul_one, Nat.add_zero] at hc0
    rw [List.getElem?_map, List.getElem?_eq_getElem hlt, Option.map_some] at hc0
    rw [sv] at et
    subst et
    cases c1 : decide ((s[j].toNat : Int) = 0)
    · simp only [b161, h0, h1, h7, h8, e1, w1, ha, ho, hc0, by8, U154 hb, c1, rwA, rwB, Nat.reduceAdd, Nat.reduceMul, Nat.reduceLeDiff, Int.reduceEq, Int.reduceLT, Int.reduceLE, Int.reduceAdd, Int.reduceSub, Int.reduceMul, ↓reduceIte, Nat.reduceEqDiff, reduceCtorEq, ↓cnd_true, ↓cnd_false]
      rw [outs_some]
      refine .inl ⟨rfl, j + 1, by omega, by omega, rfl, by simp [Env.set, h0], by simp [Env.set, h1], by simp [Env.set, h7], by simp [Env.set], ?_⟩
      intro i hi hij
      by_cases h : i = j
      · subst h
        intro he
        rw [he] at c1
        simp at c1
      · exact hz i hi (by omega)
    · simp only [b161, h0, h1, h7, h8, e1, w1, ha, ho, hc0, by8, U154 hb, c1, rwA, rwB, Nat.reduceAdd, Nat.reduceMul, Nat.reduceLeDiff, Int.reduceEq, Int.reduceLT, Int.reduceLE, Int.reduceAdd, Int.reduceSub, Int.reduceMul, ↓reduceIte, Nat.reduceEqDiff, reduceCtorEq, ↓cnd_true, ↓cnd_false]
      rw [outs_some]
      refine .inr ⟨by simp, rfl, .inr ⟨rfl, ⟨j, by simp [Env.set]⟩, ?_⟩⟩
      rw [List.all_eq_false]
      refine ⟨s[j], List.getElem_mem hlt, ?_⟩
      have h0 : s[j].toNat = 0 := by simpa using c1
      have : s[j] = 0 := UInt8.toNat_inj.1 h0
      simp [this]
  · have e1 : decide ((j : Int) < (s.length : Int)) = false := by simp; omega
    simp only [b161, h7, h8, e1, rwA, rwB, Nat.reduceAdd, Nat.reduceMul, Nat.reduceLeDiff, Int.reduceEq, Int.reduceLT, Int.reduceLE, Int.reduceAdd, Int.reduceSub, Int.reduceMul, ↓reduceIte, Nat.reduceEqDiff, reduceCtorEq, ↓cnd_true, ↓cnd_false]
    rw [outs_some]
    refine .inr ⟨by simp, rfl, .inl ⟨rfl, ?_⟩⟩
    rw [List.all_eq_true]
    intro x hx
    obtain ⟨i, hi, rfl⟩ := List.mem_iff_getElem.1 hx
    simpa using hz i hi (by omega)

theorem U161 {s : List UInt8} (hs : s.length ≤ 4611686018427387904) {v : AVal} {b : Nat} {H : AHeap} (hv : Sl H 1 v (s.map by8)) (hb : H.obj b = some (.cells [.func 150 [] []] true)) :
    ∃ i : Int, AC A 161 [v, .func 154 [] [.ptr b 0]] H = some (.int .i64 i, H) ∧ decide (0 ≤ i) = !s.all (· != 0) := by
  have key : Rets (AC A 161 [v, .func 154 [] [.ptr b 0]] H) fun u K => K = H ∧ ∃ i : Int, u = .int .i64 i ∧ decide (0 ≤ i) = !s.all (· != 0) := by
    have lv := hv.len1
    rw [List.length_map] at lv
    rw [s_fn (A := A) (f := 161) (x := ReFns.c161) rfl rfl rfl]
    simp only [c161, lv, rwA, rwB, Nat.reduceAdd, Nat.reduceMul, Nat.reduceLeDiff, Int.reduceEq, Int.reduceLT, Int.reduceLE, Int.reduceAdd, Int.reduceSub, Int.reduceMul, ↓reduceIte, Nat.reduceEqDiff, reduceCtorEq, ↓cnd_true, ↓cnd_false]
    repeat (first | refine outs_seq ?_ | refine outs_block ?_ | refine outs_step ?_ | refine outs_stepD ?_ | refine rets_end ?_ | refine ans_end ?_)
    refine (loop161 hs (v := v) (b := b) ?_ ?_ ?_ ?_ hv hb).mono ?_
    · simp [Env.set, ainit]
    · simp [Env.set, ainit]
    · simp [Env.set]
    · simp [Env.set]
    · rintro e env K ⟨rfl, ⟨rfl, e0⟩ | ⟨rfl, ⟨i, h4⟩, e0⟩⟩
      · simp only [outs_some, e0, rwA, rwB, Nat.reduceAdd, Nat.reduceMul, Nat.reduceLeDiff, Int.reduceEq, Int.reduceLT, Int.reduceLE, Int.reduceAdd, Int.reduceSub, Int.reduceMul, ↓reduceIte, Nat.reduceEqDiff, reduceCtorEq, ↓cnd_true, ↓cnd_false]
        rw [rets_some]
        exact ⟨rfl, -1, rfl, rfl⟩
      · simp only [outs_some, h4, e0, rwA, rwB, Nat.reduceAdd, Nat.reduceMul, Nat.reduceLeDiff, Int.reduceEq, Int.reduceLT, Int.reduceLE, Int.reduceAdd, Int.reduceSub, Int.reduceMul, ↓reduceIte, Nat.reduceEqDiff, reduceCtorEq, ↓cnd_true, ↓cnd_false]
        rw [rets_some]
        exact ⟨rfl, i, rfl, by simp⟩
  obtain ⟨u, K, h1, rfl, i, rfl, h2⟩ := key
  exact ⟨i, h1, h2⟩

theorem c_fn : AVal.cells (.func 150 [] []) = [.func 150 [] []] := hid rfl
theorem t_fn : AVal.tup (.func 150 [] []) = false := hid rfl
theorem U138 (s : List UInt8) (hs : s.length ≤ 4611686018427387904) (H : AHeap) : ∃ K, AC A 138 [.str s, .func 150 [] []] H = some (.bool (s.all (· != 0)), K) := by
  obtain ⟨K, eK⟩ : ∃ K, (H.new (.cells [.func 150 [] []] true)).new (.cells (s.map by8) true) = K := ⟨_, rfl⟩
  have hb : K.obj H.next = some (.cells [.func 150 [] []] true) := by rw [← eK]; simp [AHeap.new]
  have hv : Sl K 1 (.slice (H.next + 1) 0 s.length s.length (some 1)) (s.map by8) := .inr ⟨_, 0, s.length, s.length, some 1, rfl, by simp, .inr ⟨s.map by8, true, by rw [← eK]; simp [AHeap.new], by simp, by simp [List.take_of_length_le]⟩⟩
  obtain ⟨i, u161, hi⟩ := U161 hs hv hb
  have u153 : AC A 153 [.slice (H.next + 1) 0 s.length s.length (some 1), .func 154 [] [.ptr H.next 0]] K = some (.bool (!s.all (· != 0)), K) := by
    rw [s_fn (A := A) (f := 153) (x := ReFns.c153) rfl rfl rfl]
    simp only [c153, u161, hi, rwA, rwB, Nat.reduceAdd, Nat.reduceMul, Nat.reduceLeDiff, Int.reduceEq, Int.reduceLT, Int.reduceLE, Int.reduceAdd, Int.reduceSub, Int.reduceMul, ↓reduceIte, Nat.reduceEqDiff, reduceCtorEq, ↓cnd_true, ↓cnd_false]
  refine ⟨K, ?_⟩
  rw [s_fn (A := A) (f := 138) (x := ReFns.c138) rfl rfl rfl]
  simp only [c138, c_fn, t_fn, by8_fun, eK, u153, Bool.not_not, rwA, rwB, Nat.reduceAdd, Nat.reduceMul, Nat.reduceLeDiff, Int.reduceEq, Int.reduceLT, Int.reduceLE, Int.reduceAdd, Int.reduceSub, Int.reduceMul, ↓reduceIte, Nat.reduceEqDiff, reduceCtorEq, ↓cnd_true, ↓cnd_false]

theorem U132 (s : List UInt8) (H : AHeap) : AC A 132 [.str s] H = some (.int .i64 (chk (preok s)), H) := by
  refine one_val (x := ReFns.c132) rfl rfl rfl rfl rfl ?_ H
  unfold preok
  have e : decide (s.length ≤ 24) = decide ((s.length : Int) ≤ 24) := by rw [Bool.eq_iff_iff]; simp; omega
  rw [e]
  cases c1 : decide ((s.length : Int) ≤ 24)
  · simp only [c132, c1, U131, rwA, rwB, Nat.reduceAdd, Nat.reduceMul, Nat.reduceLeDiff, Int.reduceEq, Int.reduceLT, Int.reduceLE, Int.reduceAdd, Int.reduceSub, Int.reduceMul, ↓reduceIte, Nat.reduceEqDiff, reduceCtorEq, ↓cnd_true, ↓cnd_false] <;> rfl
  · have hl : s.length ≤ 24 := by have := of_decide_eq_true c1; omega
    obtain ⟨K, u138⟩ := U138 s (by omega) noH
    simp only [c132, c1, u138, U131, rwA, rwB, Nat.reduceAdd, Nat.reduceMul, Nat.reduceLeDiff, Int.reduceEq, Int.reduceLT, Int.reduceLE, Int.reduceAdd, Int.reduceSub, Int.reduceMul, ↓reduceIte, Nat.reduceEqDiff, reduceCtorEq, ↓cnd_true, ↓cnd_false] <;> rfl

theorem U97 (s : List UInt8) (H : AHeap) : AC A 97 [.str s] H = some (.int .i64 (chk (keyok s)), H) := by
  refine one_val (x := ReFns.c97) rfl rfl rfl rfl rfl ?_ H
  unfold keyok
  cases c1 : decide (s = []) <;> simp only [c97, c1, U132, U131, chk_0, rwA, rwB, Nat.reduceAdd, Nat.reduceMul, Nat.reduceLeDiff, Int.reduceEq, Int.reduceLT, Int.reduceLE, Int.reduceAdd, Int.reduceSub, Int.reduceMul, ↓reduceIte, Nat.reduceEqDiff, reduceCtorEq, ↓cnd_true, ↓cnd_false] <;> rfl

def b133 : ACode := (.seq (.seq (.region [⟨(some 4), (.mv (.tmp 3)), none, none⟩, ⟨(some 5), (.mv (.tmp 0)), none, none⟩, ⟨(some 6), (.len true (.tmp 5)), none, none⟩, ⟨(some 7), (.bin .lss (.tmp 4) (.tmp 6)), none, none⟩]) (.cond (.tmp 7) .skip (.exit 0))) (.seq (.block 1 (.seq (.region [⟨(some 10), (.mv (.tmp 0)), none, none⟩, ⟨(some 11), (.mv (.tmp 3)), none, none⟩, ⟨(some 12), (.idxStr (.tmp 10) (.tmp 11)), none, none⟩, ⟨(some 13), (.bin .eql (.tmp 12) (.con (.int .u8 0))), none, none⟩]) (.cond (.tmp 13) (.seq (.region [⟨(some 2), (.mv (.con (.bool false))), none, none⟩]) .ret) .skip))) (.region [⟨(some 8), (.mv (.tmp 3)), none, none⟩, ⟨(some 9), (.bin .add (.tmp 8) (.con (.int .i64 1))), none, none⟩, ⟨(some 3), (.mv (.tmp 9)), none, none⟩])))
theorem loop133 {s : List UInt8} (hs : s.length ≤ 4611686018427387904) {env : Env} {H : AHeap} (h0 : env 0 = .str s) (h3 : env 3 = .int .i64 0) :
    Outs (AX A (.loop b133) env H) fun e env' H' => (e = .exit 0 ∧ env' 0 = .str s ∧ s.all (· != 0) = true) ∨ (e = .ret ∧ env' 2 = .bool false ∧ s.all (· != 0) = false) := by
  refine loop_ends (I := fun (j : Nat) env' H' => j ≤ s.length ∧ env' 0 = .str s ∧ env' 3 = .int .i64 (j : Int) ∧ ∀ i (hi : i < s.length), i < j → s[i] ≠ 0) (fun j => s.length - j) ?_ 0 env H ⟨Nat.zero_le _, h0, h3, fun i _ h => by omega⟩
  rintro j env' H' ⟨hj, h0, h3, hz⟩
  by_cases hlt : j < s.length
  · have e1 : decide ((j : Int) < (s.length : Int)) = true := by simp; omega
    have w1 : IntKind.i64.wrap ((j : Int) + 1) = ((j + 1 : Nat) : Int) := by rw [wrap_i64]; omega
    have ha : aidx s.length (.int .i64 (j : Int)) = some j := by simp [aidx]; omega
    have hg : s[j]? = some s[j] := List.getElem?_eq_getElem hlt
    cases c1 : decide ((s[j].toNat : Int) = 0)
    · simp only [b133, h0, h3, e1, w1, ha, hg, c1, rwA, rwB, Nat.reduceAdd, Nat.reduceMul, Nat.reduceLeDiff, Int.reduceEq, Int.reduceLT, Int.reduceLE, Int.reduceAdd, Int.reduceSub, Int.reduceMul, ↓reduceIte, Nat.reduceEqDiff, reduceCtorEq, ↓cnd_true, ↓cnd_false]
      rw [outs_some]
      refine .inl ⟨rfl, j + 1, by omega, by omega, by simp [Env.set, h0], by simp [Env.set], ?_⟩
      intro i hi hij
      by_cases h : i = j
      · subst h
        intro he
        rw [he] at c1
        simp at c1
      · exact hz i hi (by omega)
    · simp only [b133, h0, h3, e1, w1, ha, hg, c1, rwA, rwB, Nat.reduceAdd, Nat.reduceMul, Nat.reduceLeDiff, Int.reduceEq, Int.reduceLT, Int.reduceLE, Int.reduceAdd, Int.reduceSub, Int.reduceMul, ↓reduceIte, Nat.reduceEqDiff, reduceCtorEq, ↓cnd_true, ↓cnd_false]
      rw [outs_some]
      refine .inr ⟨by simp, .inr ⟨rfl, by simp [Env.set], ?_⟩⟩
      rw [List.all_eq_false]
      refine ⟨s[j], List.getElem_mem hlt, ?_⟩
      have h0 : s[j].toNat = 0 := by simpa using c1
      have : s[j] = 0 := UInt8.toNat_inj.1 h0
      simp [this]
  · have e1 : decide ((j : Int) < (s.length : Int)) = false := by simp; omega
    simp only [b133, h0, h3, e1, rwA, rwB, Nat.reduceAdd, Nat.reduceMul, Nat.reduceLeDiff, Int.reduceEq, Int.reduceLT, Int.reduceLE, Int.reduceAdd, Int.reduceSub, Int.reduceMul, ↓reduceIte, Nat.reduceEqDiff, reduceCtorEq, ↓cnd_true, ↓cnd_false]
    rw [outs_some]
    refine .inr ⟨by simp, .inl ⟨rfl, by simp [Env.set, h0], ?_⟩⟩
    rw [List.all_eq_true]
    intro x hx
    obtain ⟨i, hi, rfl⟩ := List.mem_iff_getElem.1 hx
    simpa using hz i hi (by omega)

theorem U133 (s : List UInt8) (hs : s.length ≤ 4611686018427387904) (H : AHeap) : AC A 133 [.str s] H = some (.bool (preok s), H) := by
  refine one_val (x := ReFns.c133) rfl rfl rfl rfl rfl ?_ H
  unfold preok
  have e : decide (s.length ≤ 24) = decide ((s.length : Int) ≤ 24) := by rw [Bool.eq_iff_iff]; simp; omega
  simp only [c133, e, rwA, rwB, Nat.reduceAdd, Nat.reduceMul, Nat.reduceLeDiff, Int.reduceEq, Int.reduceLT, Int.reduceLE, Int.reduceAdd, Int.reduceSub, Int.reduceMul, ↓reduceIte, Nat.reduceEqDiff, reduceCtorEq, ↓cnd_true, ↓cnd_false]
  repeat (first | refine outs_seq ?_ | refine outs_block ?_ | refine outs_step ?_ | refine outs_stepD ?_ | refine rets_end ?_ | refine ans_end ?_)
  refine (loop133 hs ?_ ?_).mono ?_
  · simp [Env.set, ainit]
  · simp [Env.set]
  · rintro e env H (⟨rfl, h0, e0⟩ | ⟨rfl, h2, e0⟩)
    · simp only [outs_some, h0, e0, Bool.and_true, rwA, rwB, Nat.reduceAdd, Nat.reduceMul, Nat.reduceLeDiff, Int.reduceEq, Int.reduceLT, Int.reduceLE, Int.reduceAdd, Int.reduceSub, Int.reduceMul, ↓reduceIte, Nat.reduceEqDiff, reduceCtorEq, ↓cnd_true, ↓cnd_false]
    · simp only [outs_some, h2, e0, Bool.and_false, rwA, rwB, Nat.reduceAdd, Nat.reduceMul, Nat.reduceLeDiff, Int.reduceEq, Int.reduceLT, Int.reduceLE, Int.reduceAdd, Int.reduceSub, Int.reduceMul, ↓reduceIte, Nat.reduceEqDiff, reduceCtorEq, ↓cnd_true, ↓cnd_false]

theorem U98 (s : List UInt8) (hs : s.length ≤ 4611686018427387904) (H : AHeap) : AC A 98 [.str s] H = some (.bool (keyok s), H) := by
  refine one_val (x := ReFns.c98) rfl rfl rfl rfl rfl ?_ H
  unfold keyok
  have e : (!decide (s = [])) = decide ((0 : Int) < (s.length : Int)) := by
    cases s with
    | nil => rfl
    | cons x l => simp
  rw [e]
  cases c1 : decide ((0 : Int) < (s.length : Int)) <;> simp only [c98, c1, U133 s hs, rwA, rwB, Nat.reduceAdd, Nat.reduceMul, Nat.reduceLeDiff, Int.reduceEq, Int.reduceLT, Int.reduceLE, Int.reduceAdd, Int.reduceSub, Int.reduceMul, ↓reduceIte, Nat.reduceEqDiff, reduceCtorEq, ↓cnd_true, ↓cnd_false] <;> rfl

theorem U50 (s : List UInt8) (H : AHeap) : AC A 50 [.agg [.str s]] H = some (.tuple [.str (sure (keyok s) s), .int .i64 (chk (keyok s))], H) := by
  refine one_val (x := ReFns.c50) rfl rfl rfl rfl rfl ?_ H
  simp only [c50, U97, U87, chk_0, rwA, rwB, Nat.reduceAdd, Nat.reduceMul, Nat.reduceLeDiff, Int.reduceEq, Int.reduceLT, Int.reduceLE, Int.reduceAdd, Int.reduceSub, Int.reduceMul, ↓reduceIte, Nat.reduceEqDiff, reduceCtorEq, ↓cnd_true, ↓cnd_false]

theorem U51 (s : List UInt8) (hs : s.length ≤ 4611686018427387904) (H : AHeap) : AC A 51 [.str s] H = some (.tuple [.str (sure (keyok s) s), .int .i64 (chk (keyok s))], H) := by
  refine one_val (x := ReFns.c51) rfl rfl rfl rfl rfl ?_ H
  unfold sure chk
  cases c1 : keyok s <;> simp only [c51, c1, U98 s hs, rwA, rwB, Nat.reduceAdd, Nat.reduceMul, Nat.reduceLeDiff, Int.reduceEq, Int.reduceLT, Int.reduceLE, Int.reduceAdd, Int.reduceSub, Int.reduceMul, ↓reduceIte, Nat.reduceEqDiff, reduceCtorEq, ↓cnd_true, ↓cnd_false] <;> rfl
theorem U52 (c : Int) (a : Int) (b : Int) (H : AHeap) : AC A 52 [.agg [.int .u32 c, .int .i64 a, .int .i64 b]] H = some (.tuple [.str (sure (blobok a b) (body c a b)), .int .i64 (chk (blobok a b))], H) := by
  refine one_val (x := ReFns.c52) rfl rfl rfl rfl rfl ?_ H
  simp only [c52, U93, U94, U87, rwA, rwB, Nat.reduceAdd, Nat.reduceMul, Nat.reduceLeDiff, Int.reduceEq, Int.reduceLT, Int.reduceLE, Int.reduceAdd, Int.reduceSub, Int.reduceMul, ↓reduceIte, Nat.reduceEqDiff, reduceCtorEq, ↓cnd_true, ↓cnd_false]

theorem U53 (c : Int) (a : Int) (b : Int) (H : AHeap) : AC A 53 [.agg [.int .u32 c, .int .i64 a, .int .i64 b]] H = some (.tuple [.str (sure (blobok a b) (body c a b)), .int .i64 (chk (blobok a b))], H) := by
  refine one_val (x := ReFns.c53) rfl rfl rfl rfl rfl ?_ H
  unfold sure chk
  cases c1 : blobok a b <;> simp only [c53, c1, U95, U96, rwA, rwB, Nat.reduceAdd, Nat.reduceMul, Nat.reduceLeDiff, Int.reduceEq, Int.reduceLT, Int.reduceLE, Int.reduceAdd, Int.reduceSub, Int.reduceMul, ↓reduceIte, Nat.reduceEqDiff, reduceCtorEq, ↓cnd_true, ↓cnd_false] <;> rfl

/-! ### The law -/
theorem run8 (a b c d : Int) (k a2 b2 c2 d2 : Int) (n2 : Nat) (h2 : n2 < 18446744073709551616) (n3 : Nat) (h3 : n3 < 18446744073709551616) (m3 : Bool) (s3 a3 b3 : Int) (s : List UInt8) (s5 a5 b5 : Int) (H : AHeap) :
    Ans (AC A 8 [.agg [.int .i64 a, .int .i64 b, .int .i64 c, .int .i64 d], .agg [.int .i64 k, .int .i64 a2, .int .i64 b2, .int .i64 c2, .int .i64 d2, .int .u64 (n2 : Int)],
      .agg [.int .u64 (n3 : Int), .bool m3, .int .u32 s3, .int .i64 a3, .int .i64 b3], .str s, .agg [.int .u32 s5, .int .i64 a5, .int .i64 b5]] H) (.bool true) := by
  rw [s_fn (A := A) (f := 8) (x := ReFns.c8) rfl rfl rfl]
  cases c1 : decide ((1000 : Int) < (s.length : Int))
  · have hs : s.length ≤ 1000 := by have := of_decide_eq_false c1; omega
    have dd : ∀ x : Int, decide (x = x) = true := fun x => by simp
    have dl : ∀ x : List UInt8, decide (x = x) = true := fun x => by simp
    have u47 := U47 k a2 b2 c2 d2 n2 h2
    have u49 := U49 n3 h3 m3 s3 a3 b3
    have u51 := U51 s (by omega)
    simp only [c8, c1, U43, U44, U45, U46, u47, U48, u49, U50, u51, U52, U53, dd, dl, rwA, rwB, Nat.reduceAdd, Nat.reduceMul, Nat.reduceLeDiff, Int.reduceEq, Int.reduceLT, Int.reduceLE, Int.reduceAdd, Int.reduceSub, Int.reduceMul, ↓reduceIte, Nat.reduceEqDiff, reduceCtorEq, ↓cnd_true, ↓cnd_false]
  · simp only [c8, c1, U43, rwA, rwB, Nat.reduceAdd, Nat.reduceMul, Nat.reduceLeDiff, Int.reduceEq, Int.reduceLT, Int.reduceLE, Int.reduceAdd, Int.reduceSub, Int.reduceMul, ↓reduceIte, Nat.reduceEqDiff, reduceCtorEq, ↓cnd_true, ↓cnd_false]

theorem reads_pair {P : Program} {H : AHeap} {t : TypeId} {f0 f1 : Field} {j k : IntKind} {f : Nat} {cs : List AVal} {d : Dat} (hu : P.underlying t = some (.struct #[f0, f1])) (h0 : P.underlying f0.type = some (.int j)) (h1 : P.underlying f1.type = some (.int k))
    (o0 : f0.offset = 0) (o1 : f1.offset = 1) (c0 : P.cellsOf f0.type = 1) (c1 : P.cellsOf f1.type = 1) (ct : P.cellsOf t = 2) (h : AReads P H f t cs d) :
    ∃ n m, cs = [.int j n, .int k m] := by
  have ha : AArg P H t (.agg cs) d := ⟨f, cs, h, by rw [hu]⟩
  obtain ⟨n, m, e, _, _⟩ := arg_pair hu h0 h1 o0 o1 c0 c1 ct ha
  simp only [AVal.agg.injEq] at e
  exact ⟨n, m, e⟩

theorem cl3 : Try.prog.cellsOf 3 = 1 := by kernel_rfl
theorem cl4 : Try.prog.cellsOf 4 = 1 := by kernel_rfl
theorem cl22 : Try.prog.cellsOf 22 = 1 := by kernel_rfl
theorem cl63 : Try.prog.cellsOf 63 = 1 := by kernel_rfl
theorem cl58 : Try.prog.cellsOf 58 = 2 := by kernel_rfl
theorem cl65 : Try.prog.cellsOf 65 = 2 := by kernel_rfl
theorem cl60 : Try.prog.cellsOf 60 = 4 := by kernel_rfl
theorem cl62 : Try.prog.cellsOf 62 = 6 := by kernel_rfl
theorem cl67 : Try.prog.cellsOf 67 = 5 := by kernel_rfl
theorem cl69 : Try.prog.cellsOf 69 = 3 := by kernel_rfl

theorem rd58 {H : AHeap} {f : Nat} {cs : List AVal} {d : Dat} (h : AReads Try.prog H f 58 cs d) : ∃ n m, cs = [.int .i64 n, .int .i64 m] :=
  reads_pair Try.underlying58 Try.underlying3 Try.underlying3 rfl rfl cl3 cl3 cl58 h
theorem rd65 {H : AHeap} {f : Nat} {cs : List AVal} {d : Dat} (h : AReads Try.prog H f 65 cs d) : ∃ n m, cs = [.int .i64 n, .int .i64 m] :=
  reads_pair Try.underlying65 Try.underlying3 Try.underlying3 rfl rfl cl3 cl3 cl65 h
theorem rd_bool {P : Program} {H : AHeap} {t : TypeId} {f : Nat} {cs : List AVal} {d : Dat} (hu : P.underlying t = some .bool) (h : AReads P H f t cs d) : ∃ b, cs = [.bool b] := by
  cases f with
  | zero => simp [AReads] at h
  | succ f =>
    simp only [AReads, hu] at h
    obtain ⟨b, h1, _⟩ := h
    exact ⟨b, h1⟩

theorem arg60 {H : AHeap} {v : AVal} {d : Dat} (h : AArg Try.prog H 60 v d) : ∃ a b c e, v = .agg [.int .i64 a, .int .i64 b, .int .i64 c, .int .i64 e] := by
  obtain ⟨f, cs, ds, rfl, hl, hd, hr⟩ := arg_struct Try.underlying60 h
  rw [cl60] at hl
  simp at hd
  match cs, hl, ds, hd with
  | [x, y, z, w], _, [d0, d1], _ =>
    have r0 : AReads Try.prog H f 58 ((([x, y, z, w] : List AVal).drop 0).take (Try.prog.cellsOf 58)) d0 := hr 0 _ d0 rfl rfl
    have r1 : AReads Try.prog H f 58 ((([x, y, z, w] : List AVal).drop 2).take (Try.prog.cellsOf 58)) d1 := hr 1 _ d1 rfl rfl
    rw [cl58] at r0 r1
    obtain ⟨a, b, e0⟩ := rd58 r0
    obtain ⟨c, e, e1⟩ := rd58 r1
    simp at e0 e1
    obtain ⟨rfl, rfl⟩ := e0
    obtain ⟨rfl, rfl⟩ := e1
    exact ⟨a, b, c, e, rfl⟩
theorem arg62 {H : AHeap} {v : AVal} {d : Dat} (h : AArg Try.prog H 62 v d) : ∃ k a b c e, ∃ n : Nat, v = .agg [.int .i64 k, .int .i64 a, .int .i64 b, .int .i64 c, .int .i64 e, .int .u64 (n : Int)] ∧ n < 18446744073709551616 := by
  obtain ⟨f, cs, ds, rfl, hl, hd, hr⟩ := arg_struct Try.underlying62 h
  rw [cl62] at hl
  simp at hd
  match cs, hl, ds, hd with
  | [p, x, y, z, w, q], _, [d0, d1, d2, d3], _ =>
    have r0 : AReads Try.prog H f 3 ((([p, x, y, z, w, q] : List AVal).drop 0).take (Try.prog.cellsOf 3)) d0 := hr 0 _ d0 rfl rfl
    have r1 : AReads Try.prog H f 58 ((([p, x, y, z, w, q] : List AVal).drop 1).take (Try.prog.cellsOf 58)) d1 := hr 1 _ d1 rfl rfl
    have r2 : AReads Try.prog H f 58 ((([p, x, y, z, w, q] : List AVal).drop 3).take (Try.prog.cellsOf 58)) d2 := hr 2 _ d2 rfl rfl
    have r3 : AReads Try.prog H f 22 ((([p, x, y, z, w, q] : List AVal).drop 5).take (Try.prog.cellsOf 22)) d3 := hr 3 _ d3 rfl rfl
    rw [cl58] at r1 r2
    rw [cl3] at r0
    rw [cl22] at r3
    obtain ⟨k, ek, _⟩ := reads_int Try.underlying3 r0
    obtain ⟨a, b, e0⟩ := rd58 r1
    obtain ⟨c, e, e1⟩ := rd58 r2
    obtain ⟨n, en, n0, n1⟩ := reads_int Try.underlying22 r3
    simp at ek e0 e1 en
    obtain ⟨rfl, rfl⟩ := e0
    obtain ⟨rfl, rfl⟩ := e1
    subst ek en
    simp [IntKind.min, IntKind.max, IntKind.signed, IntKind.bits] at n0 n1
    exact ⟨k, a, b, c, e, n.toNat, by rw [Int.toNat_of_nonneg n0], by omega⟩
theorem arg67 {H : AHeap} {v : AVal} {d : Dat} (h : AArg Try.prog H 67 v d) : ∃ (n : Nat) (m : Bool) (c a b : Int), v = .agg [.int .u64 (n : Int), .bool m, .int .u32 c, .int .i64 a, .int .i64 b] ∧ n < 18446744073709551616 := by
  obtain ⟨f, cs, ds, rfl, hl, hd, hr⟩ := arg_struct Try.underlying67 h
  rw [cl67] at hl
  simp at hd
  match cs, hl, ds, hd with
  | [p, x, y, z, w], _, [d0, d1, d2, d3], _ =>
    have r0 : AReads Try.prog H f 22 ((([p, x, y, z, w] : List AVal).drop 0).take (Try.prog.cellsOf 22)) d0 := hr 0 _ d0 rfl rfl
    have r1 : AReads Try.prog H f 4 ((([p, x, y, z, w] : List AVal).drop 1).take (Try.prog.cellsOf 4)) d1 := hr 1 _ d1 rfl rfl
    have r2 : AReads Try.prog H f 63 ((([p, x, y, z, w] : List AVal).drop 2).take (Try.prog.cellsOf 63)) d2 := hr 2 _ d2 rfl rfl
    have r3 : AReads Try.prog H f 65 ((([p, x, y, z, w] : List AVal).drop 3).take (Try.prog.cellsOf 65)) d3 := hr 3 _ d3 rfl rfl
    rw [cl22] at r0
    rw [cl4] at r1
    rw [cl63] at r2
    rw [cl65] at r3
    obtain ⟨n, en, n0, n1⟩ := reads_int Try.underlying22 r0
    obtain ⟨m, em⟩ := rd_bool Try.underlying4 r1
    obtain ⟨c, ec, _⟩ := reads_int Try.underlying63 r2
    obtain ⟨a, b, e0⟩ := rd65 r3
    simp at en em ec e0
    obtain ⟨rfl, rfl⟩ := e0
    subst en em ec
    simp [IntKind.min, IntKind.max, IntKind.signed, IntKind.bits] at n0 n1
    exact ⟨n.toNat, m, c, a, b, by rw [Int.toNat_of_nonneg n0], by omega⟩
theorem arg69 {H : AHeap} {v : AVal} {d : Dat} (h : AArg Try.prog H 69 v d) : ∃ c a b : Int, v = .agg [.int .u32 c, .int .i64 a, .int .i64 b] := by
  obtain ⟨f, cs, ds, rfl, hl, hd, hr⟩ := arg_struct Try.underlying69 h
  rw [cl69] at hl
  simp at hd
  match cs, hl, ds, hd with
  | [p, x, y], _, [d0, d1], _ =>
    have r0 : AReads Try.prog H f 63 ((([p, x, y] : List AVal).drop 0).take (Try.prog.cellsOf 63)) d0 := hr 0 _ d0 rfl rfl
    have r1 : AReads Try.prog H f 65 ((([p, x, y] : List AVal).drop 1).take (Try.prog.cellsOf 65)) d1 := hr 1 _ d1 rfl rfl
    rw [cl63] at r0
    rw [cl65] at r1
    obtain ⟨c, ec, _⟩ := reads_int Try.underlying63 r0
    obtain ⟨a, b, e0⟩ := rd65 r1
    simp at ec e0
    obtain ⟨rfl, rfl⟩ := e0
    subst ec
    exact ⟨c, a, b, rfl⟩

theorem law8 (H : AHeap) (args : List AVal) (dats : List Dat) (h : AArgs Try.prog H [60, 62, 67, 9, 69] args dats) : ∃ k H', acall A k 8 args H = some (.bool true, H') := by
  obtain ⟨v0, r, d0, ds, rfl, rfl, h0, h⟩ := args_cons h
  obtain ⟨v1, r, d1, ds, rfl, rfl, h1, h⟩ := args_cons h
  obtain ⟨v2, r, d2, ds, rfl, rfl, h2, h⟩ := args_cons h
  obtain ⟨v3, r, d3, ds, rfl, rfl, h3, h⟩ := args_cons h
  obtain ⟨v4, r, d4, ds, rfl, rfl, h4, h⟩ := args_cons h
  obtain rfl := args_nil h
  obtain ⟨a, b, c, d, rfl⟩ := arg60 h0
  obtain ⟨k, a2, b2, c2, d2, n2, rfl, hn2⟩ := arg62 h1
  obtain ⟨n3, m3, s3, a3, b3, rfl, hn3⟩ := arg67 h2
  obtain ⟨s, rfl, _⟩ := arg_str Try.underlying9 h3
  obtain ⟨s5, a5, b5, rfl⟩ := arg69 h4
  obtain ⟨H', hr⟩ := run8 a b c d k a2 b2 c2 d2 n2 hn2 n3 hn3 m3 s3 a3 b3 s s5 a5 b5 H
  obtain ⟨k, hk⟩ := AC_iff.1 hr
  exact ⟨k, H', hk⟩

end Go.Proofs.Ytmicohgachjcgaa.Re
