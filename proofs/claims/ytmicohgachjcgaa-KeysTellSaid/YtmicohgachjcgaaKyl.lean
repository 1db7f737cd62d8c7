/- The keys' chapter: what comes back is what went in. -/
import Derived.Test.YtmicohgachjcgaaKyk
set_option maxRecDepth 100000
set_option linter.unusedSimpArgs false
set_option linter.unusedVariables false
set_option maxHeartbeats 4000000
namespace Go.Proofs.Ytmicohgachjcgaa.Re
open Go Go.Proofs.Ytmicohgachjcgaa.Am ReFns Go.RowKit

theorem opn_bytes {k : Key} (h : k.right = true) (hn : k.nr < 18446744073709551616) : opn k.bytes = k ∧ opnOk k.bytes = true := by
  have hc := cand_bytes h hn
  have ho : opnOk k.bytes = true := by unfold opnOk; rw [hc, h]; simp
  refine ⟨?_, ho⟩
  unfold opn; rw [if_pos ho, hc]
theorem opn_ok {s : List UInt8} (h : opnOk s = true) : (opn s).right = true ∧ (opn s).bytes = s := by
  have e : opn s = cand s := by unfold opn; rw [if_pos h]
  rw [e]
  unfold opnOk at h
  simp only [Bool.and_eq_true, decide_eq_true_eq] at h
  exact h
theorem opn_nr (s : List UInt8) : (opn s).nr < 18446744073709551616 := by
  unfold opn; split
  · exact cand_nr s
  · exact (by decide : (0:Nat) < 18446744073709551616)

theorem same_bytes {a b : Key} (ha : a.right = true) (hb : b.right = true) (na : a.nr < 18446744073709551616) (nb : b.nr < 18446744073709551616) :
    decide (a.bytes = b.bytes) = (decide (a.kind = b.kind) && (decide (a.ten = b.ten) && (decide (a.bucket = b.bucket) && (decide (a.name = b.name) && (decide ((a.nr : Int) = (b.nr : Int)) && (decide (a.part = b.part) && true)))))) := by
  rw [Bool.eq_iff_iff]
  simp only [Bool.and_eq_true, decide_eq_true_eq, and_true]
  constructor
  · intro h
    have := congrArg cand h
    rw [cand_bytes ha na, cand_bytes hb nb] at this
    subst this
    exact ⟨rfl, rfl, rfl, rfl, rfl, rfl⟩
  · obtain ⟨k1, t1, u1, s1, n1, p1⟩ := a
    obtain ⟨k2, t2, u2, s2, n2, p2⟩ := b
    simp only
    rintro ⟨rfl, rfl, rfl, rfl, h5, rfl⟩
    have : n1 = n2 := by omega
    subst this
    rfl

theorem bad_t : bad true = 0 := hid rfl
theorem bad_f : bad false = 19 := hid rfl
theorem run12 (k t : Int) (b s : List UInt8) (n : Nat) (p : Int) (k2 t2 : Int) (b2 s2 : List UInt8) (n2 : Nat) (p2 : Int) (x : List UInt8) (hx : x.length ≤ 4611686018427387904) (hn : n < 18446744073709551616) (hn2 : n2 < 18446744073709551616) (H : AHeap) :
    Ans (AC A 12 [.agg [.int .i64 k, .int .i64 t, .str b, .str s, .int .u64 (n : Int), .int .i64 p], .agg [.int .i64 k2, .int .i64 t2, .str b2, .str s2, .int .u64 (n2 : Int), .int .i64 p2], .str x] H) (.bool true) := by
  have u68 := U68 x hx
  have nx := opn_nr x
  have hxo : opnOk x = true → (opn x).right = true ∧ (opn x).bytes = x := opn_ok
  obtain ⟨ok, ot, ob, os, on, op, hX⟩ : ∃ ok ot ob os on op, opn x = ⟨ok, ot, ob, os, on, op⟩ := ⟨_, _, _, _, _, _, rfl⟩
  rw [hX] at u68 nx hxo
  simp only [Key.cells] at u68 nx
  have u65x := U65 ok ot ob os on op nx
  have u65a := U65 k t b s n p hn
  have u65b := U65 k2 t2 b2 s2 n2 p2 hn2
  have u66a := U66 k t b s n p
  have u66b := U66 k2 t2 b2 s2 n2 p2
  have db : ∀ x : Bool, (x == x) = true := fun x => by simp
  have key : ∀ O, opnOk x = O → Ans (AC A 12 [.agg [.int .i64 k, .int .i64 t, .str b, .str s, .int .u64 (n : Int), .int .i64 p], .agg [.int .i64 k2, .int .i64 t2, .str b2, .str s2, .int .u64 (n2 : Int), .int .i64 p2], .str x] H) (.bool true) := by
    intro O hO
    rw [s_fn (A := A) (f := 12) (x := ReFns.c12) rfl rfl rfl]
    rw [hO] at u68 hxo
    have h65x : O = true → ∀ H, AC A 65 [.agg [.int .i64 ok, .int .i64 ot, .str ob, .str os, .int .u64 (on : Int), .int .i64 op]] H = some (.tuple [.str x, .int .i64 0], H) := by
      intro hh
      obtain ⟨h1, h2⟩ := hxo hh
      rw [h1, h2] at u65x
      exact u65x
    clear u65x hxo
    cases R1 : Key.right ⟨k, t, b, s, n, p⟩ <;> rw [R1] at u65a
    · simp only [chk_f, sure_f] at u65a
      generalize Key.bytes ⟨k2, t2, b2, s2, n2, p2⟩ = Y at *
      generalize Key.right ⟨k2, t2, b2, s2, n2, p2⟩ = R2 at *
      generalize sure R2 Y = Z at *
      generalize chk R2 = W at *
      cases O
      · simp only [bad_f] at u68
        simp only [c12, U64, u68, u66a, u66b, u65a, u65b, rwA, rwB, Nat.reduceAdd, Nat.reduceMul, Nat.reduceLeDiff, Int.reduceEq, Int.reduceLT, Int.reduceLE, Int.reduceAdd, Int.reduceSub, Int.reduceMul, ↓reduceIte, Nat.reduceEqDiff, reduceCtorEq, ↓cnd_true, ↓cnd_false]
      · simp only [bad_t] at u68
        have h65 := h65x rfl
        simp only [c12, U64, u68, h65, u66a, u66b, u65a, u65b, lbe, dl, rwA, rwB, Nat.reduceAdd, Nat.reduceMul, Nat.reduceLeDiff, Int.reduceEq, Int.reduceLT, Int.reduceLE, Int.reduceAdd, Int.reduceSub, Int.reduceMul, ↓reduceIte, Nat.reduceEqDiff, reduceCtorEq, ↓cnd_true, ↓cnd_false]
    · simp only [chk_t, sure_t] at u65a
      cases R2 : Key.right ⟨k2, t2, b2, s2, n2, p2⟩ <;> rw [R2] at u65b
      · simp only [chk_f, sure_f] at u65b
        generalize Key.bytes ⟨k, t, b, s, n, p⟩ = X at *
        cases O
        · simp only [bad_f] at u68
          simp only [c12, U64, u68, u66a, u66b, u65a, u65b, rwA, rwB, Nat.reduceAdd, Nat.reduceMul, Nat.reduceLeDiff, Int.reduceEq, Int.reduceLT, Int.reduceLE, Int.reduceAdd, Int.reduceSub, Int.reduceMul, ↓reduceIte, Nat.reduceEqDiff, reduceCtorEq, ↓cnd_true, ↓cnd_false]
        · simp only [bad_t] at u68
          have h65 := h65x rfl
          simp only [c12, U64, u68, h65, u66a, u66b, u65a, u65b, lbe, dl, rwA, rwB, Nat.reduceAdd, Nat.reduceMul, Nat.reduceLeDiff, Int.reduceEq, Int.reduceLT, Int.reduceLE, Int.reduceAdd, Int.reduceSub, Int.reduceMul, ↓reduceIte, Nat.reduceEqDiff, reduceCtorEq, ↓cnd_true, ↓cnd_false]
      · simp only [chk_t, sure_t] at u65b
        have hl := key_len R1
        have hs := same_bytes R1 R2 hn hn2
        have u68a := U68 (Key.bytes ⟨k, t, b, s, n, p⟩) (by omega)
        obtain ⟨e1, e2⟩ := opn_bytes R1 hn
        rw [e1, e2] at u68a
        simp only [Key.cells, bad_t] at u68a hs
        generalize Key.bytes ⟨k, t, b, s, n, p⟩ = X at *
        generalize Key.bytes ⟨k2, t2, b2, s2, n2, p2⟩ = Y at *
        have lx : decide ((X.length : Int) ≤ 64) = true := decide_eq_true (by omega)
        clear e1 e2
        cases O
        · simp only [bad_f] at u68
          simp only [c12, U64, u68, u66a, u66b, u65a, u65b, u68a, lbe, dl, di, hs, lx, db, Bool.and_self, rwA, rwB, Nat.reduceAdd, Nat.reduceMul, Nat.reduceLeDiff, Int.reduceEq, Int.reduceLT, Int.reduceLE, Int.reduceAdd, Int.reduceSub, Int.reduceMul, ↓reduceIte, Nat.reduceEqDiff, reduceCtorEq, ↓cnd_true, ↓cnd_false]
        · simp only [bad_t] at u68
          have h65 := h65x rfl
          simp only [c12, U64, u68, h65, u66a, u66b, u65a, u65b, u68a, lbe, dl, di, hs, lx, db, Bool.and_self, rwA, rwB, Nat.reduceAdd, Nat.reduceMul, Nat.reduceLeDiff, Int.reduceEq, Int.reduceLT, Int.reduceLE, Int.reduceAdd, Int.reduceSub, Int.reduceMul, ↓reduceIte, Nat.reduceEqDiff, reduceCtorEq, ↓cnd_true, ↓cnd_false]
  exact key _ rfl

theorem law12 (H : AHeap) (args : List AVal) (dats : List Dat) (h : AArgs Try.prog H [98, 98, 9] args dats) : ∃ k H', acall A k 12 args H = some (.bool true, H') := by
  obtain ⟨v0, r, d0, ds, rfl, rfl, h0, h⟩ := args_cons h
  obtain ⟨v1, r, d1, ds, rfl, rfl, h1, h⟩ := args_cons h
  obtain ⟨v2, r, d2, ds, rfl, rfl, h2, h⟩ := args_cons h
  obtain rfl := args_nil h
  obtain ⟨k, t, b, s, n, p, rfl, hn, _, _⟩ := arg98 h0
  obtain ⟨k2, t2, b2, s2, n2, p2, rfl, hn2, _, _⟩ := arg98 h1
  obtain ⟨x, rfl, hx⟩ := arg_str Try.underlying9 h2
  obtain ⟨H', hr⟩ := run12 k t b s n p k2 t2 b2 s2 n2 p2 x (by unfold reachBytes at hx; omega) hn hn2 H
  obtain ⟨k, hk⟩ := AC_iff.1 hr
  exact ⟨k, H', hk⟩

end Go.Proofs.Ytmicohgachjcgaa.Re
