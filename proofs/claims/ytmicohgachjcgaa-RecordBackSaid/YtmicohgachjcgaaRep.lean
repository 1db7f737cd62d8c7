/- There and back: the law. -/
import Derived.Test.YtmicohgachjcgaaReo
import Derived.Test.YtmicohgachjcgaaAmCut
set_option maxRecDepth 100000
set_option linter.unusedSimpArgs false
set_option linter.unusedVariables false
set_option maxHeartbeats 4000000
namespace Go.Proofs.Ytmicohgachjcgaa.Re
open Go Go.Proofs.Ytmicohgachjcgaa.Am ReFns Go.RowKit

theorem keep_t (x : Int) : keep true x = x := hid rfl
theorem keepb_t (x : Bool) : keepb true x = x := hid rfl
theorem bad_t : bad true = 0 := hid rfl
theorem bad_f : bad false = 19 := hid rfl
theorem sure_t (s : List UInt8) : sure true s = s := hid rfl
theorem sure_f (s : List UInt8) : sure false s = [] := hid rfl
theorem chk_t : chk true = 0 := hid rfl
theorem chk_f : chk false = 18 := hid rfl
theorem dl (x : List UInt8) : decide (x = x) = true := by simp
theorem di (x : Int) : decide (x = x) = true := by simp

def d10 : ACode := rest 10 ReFns.c10.body
def e10 : ACode := rest 11 ReFns.c10.body
def f10 : ACode := rest 12 ReFns.c10.body

theorem f10_ok (s : List UInt8) (env : Env) (H : AHeap) (h3 : env 3 = .str s) : Ans (endX [.tmp 8] (AX A f10 env H)) (.bool true) := by
  cases c : BFit s
  · have u : ∀ H, AC A 56 [.str s] H = some (.tuple [.agg [.int .i64 0, .int .i64 0, .int .i64 0, .int .i64 0, .int .i64 0, .int .u64 0], .int .i64 19], H) := fun H => by
      rw [U56', c]; simp only [keep_f, bad_f]
    simp only [f10, rest, ReFns.c10, h3, u, rwA, rwB, Nat.reduceAdd, Nat.reduceMul, Nat.reduceLeDiff, Int.reduceEq, Int.reduceLT, Int.reduceLE, Int.reduceAdd, Int.reduceSub, Int.reduceMul, ↓reduceIte, Nat.reduceEqDiff, reduceCtorEq, ↓cnd_true, ↓cnd_false]
  · obtain ⟨p1, p2⟩ := B_put c
    have u : ∀ H, AC A 56 [.str s] H = some (.tuple [.agg [.int .i64 (BK s), .int .i64 (BA s), .int .i64 (BB s), .int .i64 (BC s), .int .i64 (BD s), .int .u64 (BN s : Int)], .int .i64 0], H) := fun H => by
      rw [U56', c]; simp only [keep_t, bad_t]
    have v : ∀ H, AC A 46 [.agg [.int .i64 (BK s), .int .i64 (BA s), .int .i64 (BB s), .int .i64 (BC s), .int .i64 (BD s), .int .u64 (BN s : Int)]] H = some (.tuple [.str s, .int .i64 0], H) := fun H => by
      rw [U46, p1, p2, sure_t, chk_t]
    generalize BK s = k at u v
    generalize BA s = a at u v
    generalize BB s = b at u v
    generalize BC s = e at u v
    generalize BD s = d at u v
    generalize (BN s : Int) = n at u v
    simp only [f10, rest, ReFns.c10, h3, u, v, dl, rwA, rwB, Nat.reduceAdd, Nat.reduceMul, Nat.reduceLeDiff, Int.reduceEq, Int.reduceLT, Int.reduceLE, Int.reduceAdd, Int.reduceSub, Int.reduceMul, ↓reduceIte, Nat.reduceEqDiff, reduceCtorEq, ↓cnd_true, ↓cnd_false]

theorem e10_ok (s : List UInt8) (env : Env) (H : AHeap) (h3 : env 3 = .str s) : Ans (endX [.tmp 8] (AX A e10 env H)) (.bool true) := by
  have hk : e10 = upto 1 e10 f10 := cut 1 e10
  rw [hk]
  cases c : VFit s
  · have u : ∀ H, AC A 58 [.str s] H = some (.tuple [.agg [.int .u64 0, .bool false, .int .u32 0, .int .i64 0, .int .i64 0], .int .i64 19], H) := fun H => by
      rw [U58', c]; simp only [keep_f, keepb_f, bad_f]
    simp only [e10, upto, rest, ReFns.c10, h3, u, rwA, rwB, Nat.reduceAdd, Nat.reduceMul, Nat.reduceLeDiff, Int.reduceEq, Int.reduceLT, Int.reduceLE, Int.reduceAdd, Int.reduceSub, Int.reduceMul, ↓reduceIte, Nat.reduceEqDiff, reduceCtorEq, ↓cnd_true, ↓cnd_false]
    exact f10_ok s _ _ (by simp [Env.set, h3])
  · obtain ⟨p1, p2⟩ := V_put c
    have u : ∀ H, AC A 58 [.str s] H = some (.tuple [.agg [.int .u64 (VN s : Int), .bool (VM s), .int .u32 (VC s), .int .i64 (VA s), .int .i64 (VB s)], .int .i64 0], H) := fun H => by
      rw [U58', c]; simp only [keep_t, keepb_t, bad_t]
    have v : ∀ H, AC A 48 [.agg [.int .u64 (VN s : Int), .bool (VM s), .int .u32 (VC s), .int .i64 (VA s), .int .i64 (VB s)]] H = some (.tuple [.str s, .int .i64 0], H) := fun H => by
      rw [U48, p1, p2, sure_t, chk_t]
    generalize (VN s : Int) = n at u v
    generalize VM s = m at u v
    generalize VC s = k at u v
    generalize VA s = a at u v
    generalize VB s = b at u v
    simp only [e10, upto, rest, ReFns.c10, h3, u, v, dl, rwA, rwB, Nat.reduceAdd, Nat.reduceMul, Nat.reduceLeDiff, Int.reduceEq, Int.reduceLT, Int.reduceLE, Int.reduceAdd, Int.reduceSub, Int.reduceMul, ↓reduceIte, Nat.reduceEqDiff, reduceCtorEq, ↓cnd_true, ↓cnd_false]
    exact f10_ok s _ _ (by simp [Env.set, h3])

theorem d10_ok (s : List UInt8) (env : Env) (H : AHeap) (h3 : env 3 = .str s) : Ans (endX [.tmp 8] (AX A d10 env H)) (.bool true) := by
  have hk : d10 = upto 1 d10 e10 := cut 1 d10
  rw [hk]
  cases c : PFit s
  · have u : ∀ H, AC A 62 [.str s] H = some (.tuple [.agg [.int .u32 0, .int .i64 0, .int .i64 0], .int .i64 19], H) := fun H => by
      rw [U62', c]; simp only [keep_f, bad_f]
    simp only [d10, upto, rest, ReFns.c10, h3, u, rwA, rwB, Nat.reduceAdd, Nat.reduceMul, Nat.reduceLeDiff, Int.reduceEq, Int.reduceLT, Int.reduceLE, Int.reduceAdd, Int.reduceSub, Int.reduceMul, ↓reduceIte, Nat.reduceEqDiff, reduceCtorEq, ↓cnd_true, ↓cnd_false]
    exact e10_ok s _ _ (by simp [Env.set, h3])
  · obtain ⟨p1, p2⟩ := P_put c
    have u : ∀ H, AC A 62 [.str s] H = some (.tuple [.agg [.int .u32 (PC s), .int .i64 (PA s), .int .i64 (PB s)], .int .i64 0], H) := fun H => by
      rw [U62', c]; simp only [keep_t, bad_t]
    have v : ∀ H, AC A 52 [.agg [.int .u32 (PC s), .int .i64 (PA s), .int .i64 (PB s)]] H = some (.tuple [.str s, .int .i64 0], H) := fun H => by
      rw [U52, p1, p2, sure_t, chk_t]
    generalize PC s = k at u v
    generalize PA s = a at u v
    generalize PB s = b at u v
    simp only [d10, upto, rest, ReFns.c10, h3, u, v, dl, rwA, rwB, Nat.reduceAdd, Nat.reduceMul, Nat.reduceLeDiff, Int.reduceEq, Int.reduceLT, Int.reduceLE, Int.reduceAdd, Int.reduceSub, Int.reduceMul, ↓reduceIte, Nat.reduceEqDiff, reduceCtorEq, ↓cnd_true, ↓cnd_false]
    exact e10_ok s _ _ (by simp [Env.set, h3])

/-- What a put and the get behind it answer: an error, or the same again. -/
theorem T_cases (a b c d : Int) : ∃ (x : List UInt8) (w e p q r t : Int), (∀ H, AC A 44 [.agg [.int .i64 a, .int .i64 b, .int .i64 c, .int .i64 d]] H = some (.tuple [.str x, .int .i64 w], H)) ∧
    (∀ H, AC A 54 [.str x] H = some (.tuple [.agg [.int .i64 p, .int .i64 q, .int .i64 r, .int .i64 t], .int .i64 e], H)) ∧ decide (64 < (x.length : Int)) = false ∧ (decide (w = 0) = false ∨ (w = 0 ∧ e = 0 ∧ p = a ∧ q = b ∧ r = c ∧ t = d)) := by
  cases h : rightc a b c d
  · refine ⟨[], 18, _, _, _, _, _, fun H => by rw [U44, h, sure_f, chk_f], fun H => U54' [] H, by decide, .inl (by decide)⟩
  · obtain ⟨f, ha, hb, hc, hd⟩ := T_back h
    refine ⟨pc a b c d, 0, 0, a, b, c, d, fun H => by rw [U44, h, sure_t, chk_t], fun H => by rw [U54', f, ha, hb, hc, hd]; simp only [keep_t, bad_t], by rw [pc_len]; decide, .inr ⟨rfl, rfl, rfl, rfl, rfl, rfl⟩⟩
theorem B_cases (k a b c d : Int) (n : Nat) (hn : n < 18446744073709551616) : ∃ (x : List UInt8) (w e o p q r t u : Int), (∀ H, AC A 46 [.agg [.int .i64 k, .int .i64 a, .int .i64 b, .int .i64 c, .int .i64 d, .int .u64 (n : Int)]] H = some (.tuple [.str x, .int .i64 w], H)) ∧
    (∀ H, AC A 56 [.str x] H = some (.tuple [.agg [.int .i64 o, .int .i64 p, .int .i64 q, .int .i64 r, .int .i64 t, .int .u64 u], .int .i64 e], H)) ∧ decide (64 < (x.length : Int)) = false ∧ (decide (w = 0) = false ∨ (w = 0 ∧ e = 0 ∧ o = k ∧ p = a ∧ q = b ∧ r = c ∧ t = d ∧ u = (n : Int))) := by
  cases h : bok k a b c d
  · refine ⟨[], 18, _, _, _, _, _, _, _, fun H => by rw [U46, h, sure_f, chk_f], fun H => U56' [] H, by decide, .inl (by decide)⟩
  · obtain ⟨f, hk, ha, hb, hc, hd, hn⟩ := B_back h hn
    refine ⟨bval k a b c d n, 0, 0, k, a, b, c, d, n, fun H => by rw [U46, h, sure_t, chk_t], fun H => by rw [U56', f, hk, ha, hb, hc, hd, hn]; simp only [keep_t, bad_t], ?_, .inr ⟨rfl, rfl, rfl, rfl, rfl, rfl, rfl, rfl⟩⟩
    unfold bval; simp only [List.length_append, len1, pc_len, len8]; decide
theorem V_cases (n : Nat) (m : Bool) (c a b : Int) (hn : n < 18446744073709551616) (hc : 0 ≤ c ∧ c < 4294967296) : ∃ (x : List UInt8) (w e o : Int) (p : Bool) (q r t : Int), (∀ H, AC A 48 [.agg [.int .u64 (n : Int), .bool m, .int .u32 c, .int .i64 a, .int .i64 b]] H = some (.tuple [.str x, .int .i64 w], H)) ∧
    (∀ H, AC A 58 [.str x] H = some (.tuple [.agg [.int .u64 o, .bool p, .int .u32 q, .int .i64 r, .int .i64 t], .int .i64 e], H)) ∧ decide (64 < (x.length : Int)) = false ∧ (decide (w = 0) = false ∨ (w = 0 ∧ e = 0 ∧ o = (n : Int) ∧ p = m ∧ q = c ∧ r = a ∧ t = b)) := by
  cases h : vok m c a b
  · refine ⟨[], 18, _, _, _, _, _, _, fun H => by rw [U48, h, sure_f, chk_f], fun H => U58' [] H, by decide, .inl (by decide)⟩
  · obtain ⟨f, h1, h2, h3, h4, h5⟩ := V_back h hn hc
    refine ⟨vval n m c a b, 0, 0, n, m, c, a, b, fun H => by rw [U48, h, sure_t, chk_t], fun H => by rw [U58', f, h1, h2, h3, h4, h5]; simp only [keep_t, keepb_t, bad_t], ?_, .inr ⟨rfl, rfl, rfl, rfl, rfl, rfl, rfl⟩⟩
    unfold vval; simp only [List.length_append, len1, body_len, len8]; decide

theorem run10 (a b c d : Int) (k a2 b2 c2 d2 : Int) (n2 : Nat) (h2 : n2 < 18446744073709551616) (n3 : Nat) (h3 : n3 < 18446744073709551616) (m3 : Bool) (s3 a3 b3 : Int) (hs3 : 0 ≤ s3 ∧ s3 < 4294967296) (s : List UInt8) (H : AHeap) :
    Ans (AC A 10 [.agg [.int .i64 a, .int .i64 b, .int .i64 c, .int .i64 d], .agg [.int .i64 k, .int .i64 a2, .int .i64 b2, .int .i64 c2, .int .i64 d2, .int .u64 (n2 : Int)],
      .agg [.int .u64 (n3 : Int), .bool m3, .int .u32 s3, .int .i64 a3, .int .i64 b3], .str s] H) (.bool true) := by
  rw [s_fn (A := A) (f := 10) (x := ReFns.c10) rfl rfl rfl]
  have hk : ReFns.c10.body = upto 10 ReFns.c10.body d10 := cut 10 ReFns.c10.body
  rw [hk]
  cases c1 : decide ((1000 : Int) < (s.length : Int))
  · have db : ∀ x : Bool, (x == x) = true := fun x => by simp
    obtain ⟨x, w1, e1, t1, t2, t3, t4, u44, u54, l1, z1⟩ := T_cases a b c d
    obtain ⟨y, w2, e2, o1, o2, o3, o4, o5, o6, u46, u56, l2, z2⟩ := B_cases k a2 b2 c2 d2 n2 h2
    obtain ⟨z, w3, e3, p1, p2, p3, p4, p5, u48, u58, l3, z3⟩ := V_cases n3 m3 s3 a3 b3 h3 hs3
    generalize (n2 : Int) = n2 at *
    generalize (n3 : Int) = n3 at *
    rcases z1 with z1 | ⟨z1, rfl, rfl, rfl, rfl, rfl⟩ <;> rcases z2 with z2 | ⟨z2, rfl, rfl, rfl, rfl, rfl, rfl, rfl⟩ <;> rcases z3 with z3 | ⟨z3, rfl, rfl, rfl, rfl, rfl, rfl⟩ <;>
      (simp only [ReFns.c10, upto, c1, U43, u44, u54, u46, u56, u48, u58, l1, l2, l3, z1, z2, z3, di, db, Bool.and_self, rwA, rwB, Nat.reduceAdd, Nat.reduceMul, Nat.reduceLeDiff, Int.reduceEq, Int.reduceLT, Int.reduceLE, Int.reduceAdd, Int.reduceSub, Int.reduceMul, ↓reduceIte, Nat.reduceEqDiff, reduceCtorEq, ↓cnd_true, ↓cnd_false]) <;> refine d10_ok s _ _ ?_ <;> simp only [rwA, rwB, Nat.reduceAdd, Nat.reduceMul, Nat.reduceLeDiff, Int.reduceEq, Int.reduceLT, Int.reduceLE, Int.reduceAdd, Int.reduceSub, Int.reduceMul, ↓reduceIte, Nat.reduceEqDiff, reduceCtorEq, ↓cnd_true, ↓cnd_false]
  · simp only [ReFns.c10, upto, c1, U43, rwA, rwB, Nat.reduceAdd, Nat.reduceMul, Nat.reduceLeDiff, Int.reduceEq, Int.reduceLT, Int.reduceLE, Int.reduceAdd, Int.reduceSub, Int.reduceMul, ↓reduceIte, Nat.reduceEqDiff, reduceCtorEq, ↓cnd_true, ↓cnd_false]

theorem arg67' {H : AHeap} {v : AVal} {d : Dat} (h : AArg Try.prog H 67 v d) : ∃ (n : Nat) (m : Bool) (c a b : Int), v = .agg [.int .u64 (n : Int), .bool m, .int .u32 c, .int .i64 a, .int .i64 b] ∧ n < 18446744073709551616 ∧ 0 ≤ c ∧ c < 4294967296 := by
  obtain ⟨f, cs, ds, rfl, hl, hd, hr⟩ := arg_struct Try.underlying67 h
  rw [cl67] at hl
  simp at hd
  match cs, hl, ds, hd with
  | [p, x, y, z, w], _, [d0, d1, d2, d3], _ =>
    have r0 : AReads Try.prog H f 22 ((([p, x, y, z, w] : List AVal).drop 0).take (Try.prog.cellsOf 22)) d0 := hr 0 _ d0 rfl rfl
    have r1 : AReads Try.prog H f 4 ((([p, x, y, z, w] : List AVal).drop 1).take (Try.prog.cellsOf 4)) d1 := hr 1 _ d1 rfl rfl
    have r2 : AReads Try.prog H f 63 ((([p, x, y, z, w] : List AVal).drop 2).take (Try.prog.cellsOf 63)) d2 := hr 2 _ d2 rfl rfl
    have r3 : AReads Try.prog H f 65 ((([p, x, y, z, w] : List AVal).drop 3).take (Try.prog.cellsOf 65)) d3 := hr 3 _ d3 rfl rfl
    rw [cl22] at r0
    rw [cl4] at r1
    rw [cl63] at r2
    rw [cl65] at r3
    obtain ⟨n, en, n0, n1⟩ := reads_int Try.underlying22 r0
    obtain ⟨m, em⟩ := rd_bool Try.underlying4 r1
    obtain ⟨c, ec, c0, c1⟩ := reads_int Try.underlying63 r2
    obtain ⟨a, b, e0⟩ := rd65 r3
    simp at en em ec e0
    obtain ⟨rfl, rfl⟩ := e0
    subst en em ec
    simp [IntKind.min, IntKind.max, IntKind.signed, IntKind.bits] at n0 n1 c0 c1
    exact ⟨n.toNat, m, c, a, b, by rw [Int.toNat_of_nonneg n0], by omega, c0, by omega⟩

theorem law10 (H : AHeap) (args : List AVal) (dats : List Dat) (h : AArgs Try.prog H [60, 62, 67, 9] args dats) : ∃ k H', acall A k 10 args H = some (.bool true, H') := by
  obtain ⟨v0, r, d0, ds, rfl, rfl, h0, h⟩ := args_cons h
  obtain ⟨v1, r, d1, ds, rfl, rfl, h1, h⟩ := args_cons h
  obtain ⟨v2, r, d2, ds, rfl, rfl, h2, h⟩ := args_cons h
  obtain ⟨v3, r, d3, ds, rfl, rfl, h3, h⟩ := args_cons h
  obtain rfl := args_nil h
  obtain ⟨a, b, c, d, rfl⟩ := arg60 h0
  obtain ⟨k, a2, b2, c2, d2, n2, rfl, hn2⟩ := arg62 h1
  obtain ⟨n3, m3, s3, a3, b3, rfl, hn3, hs3⟩ := arg67' h2
  obtain ⟨s, rfl, _⟩ := arg_str Try.underlying9 h3
  obtain ⟨H', hr⟩ := run10 a b c d k a2 b2 c2 d2 n2 hn2 n3 hn3 m3 s3 a3 b3 hs3 s H
  obtain ⟨k, hk⟩ := AC_iff.1 hr
  exact ⟨k, H', hk⟩

end Go.Proofs.Ytmicohgachjcgaa.Re
