/- The keys' chapter: the arguments opened, the law of the order. -/
import Derived.Test.YtmicohgachjcgaaKyd
set_option maxRecDepth 100000
set_option linter.unusedSimpArgs false
set_option linter.unusedVariables false
set_option maxHeartbeats 4000000
namespace Go.Proofs.Ytmicohgachjcgaa.Re
open Go Go.Proofs.Ytmicohgachjcgaa.Am ReFns Go.RowKit

theorem kcl3 : Try.prog.cellsOf 3 = 1 := by kernel_rfl
theorem kcl9 : Try.prog.cellsOf 9 = 1 := by kernel_rfl
theorem kcl22 : Try.prog.cellsOf 22 = 1 := by kernel_rfl
theorem kcl98 : Try.prog.cellsOf 98 = 6 := by kernel_rfl
theorem krd_str {P : Program} {H : AHeap} {t : TypeId} {f : Nat} {cs : List AVal} {d : Dat} (hu : P.underlying t = some .string) (h : AReads P H f t cs d) : ∃ s : List UInt8, cs = [.str s] := by
  cases f with
  | zero => simp [AReads] at h
  | succ f =>
    simp only [AReads, hu] at h
    obtain ⟨s, h1, _⟩ := h
    exact ⟨s, h1⟩

theorem arg98 {H : AHeap} {v : AVal} {d : Dat} (h : AArg Try.prog H 98 v d) : ∃ (k t : Int) (b s : List UInt8) (n : Nat) (p : Int), v = .agg [.int .i64 k, .int .i64 t, .str b, .str s, .int .u64 (n : Int), .int .i64 p] ∧ n < 18446744073709551616 ∧ (-9223372036854775808 ≤ t ∧ t ≤ 9223372036854775807) ∧ (-9223372036854775808 ≤ k ∧ k ≤ 9223372036854775807) := by
  obtain ⟨f, cs, ds, rfl, hl, hd, hr⟩ := arg_struct Try.underlying98 h
  rw [kcl98] at hl
  simp at hd
  match cs, hl, ds, hd with
  | [x0, x1, x2, x3, x4, x5], _, [d0, d1, d2, d3, d4, d5], _ =>
    have r0 : AReads Try.prog H f 3 ((([x0, x1, x2, x3, x4, x5] : List AVal).drop 0).take (Try.prog.cellsOf 3)) d0 := hr 0 _ d0 rfl rfl
    have r1 : AReads Try.prog H f 3 ((([x0, x1, x2, x3, x4, x5] : List AVal).drop 1).take (Try.prog.cellsOf 3)) d1 := hr 1 _ d1 rfl rfl
    have r2 : AReads Try.prog H f 9 ((([x0, x1, x2, x3, x4, x5] : List AVal).drop 2).take (Try.prog.cellsOf 9)) d2 := hr 2 _ d2 rfl rfl
    have r3 : AReads Try.prog H f 9 ((([x0, x1, x2, x3, x4, x5] : List AVal).drop 3).take (Try.prog.cellsOf 9)) d3 := hr 3 _ d3 rfl rfl
    have r4 : AReads Try.prog H f 22 ((([x0, x1, x2, x3, x4, x5] : List AVal).drop 4).take (Try.prog.cellsOf 22)) d4 := hr 4 _ d4 rfl rfl
    have r5 : AReads Try.prog H f 3 ((([x0, x1, x2, x3, x4, x5] : List AVal).drop 5).take (Try.prog.cellsOf 3)) d5 := hr 5 _ d5 rfl rfl
    rw [kcl3] at r0 r1 r5
    rw [kcl22] at r4
    rw [kcl9] at r2 r3
    obtain ⟨k, ek, k0, k1⟩ := reads_int Try.underlying3 r0
    obtain ⟨t, et, t0, t1⟩ := reads_int Try.underlying3 r1
    obtain ⟨b, eb⟩ := krd_str Try.underlying9 r2
    obtain ⟨s, es⟩ := krd_str Try.underlying9 r3
    obtain ⟨n, en, n0, n1⟩ := reads_int Try.underlying22 r4
    obtain ⟨p, ep, p0, p1⟩ := reads_int Try.underlying3 r5
    simp at ek et eb es en ep
    subst ek et eb es en ep
    simp [IntKind.min, IntKind.max, IntKind.signed, IntKind.bits] at n0 n1 t0 t1 k0 k1
    exact ⟨k, t, b, s, n.toNat, p, by rw [Int.toNat_of_nonneg n0], by omega, by omega, by omega⟩

theorem law13 (H : AHeap) (args : List AVal) (dats : List Dat) (h : AArgs Try.prog H [98, 98, 9] args dats) : ∃ k H', acall A k 13 args H = some (.bool true, H') := by
  obtain ⟨v0, r, d0, ds, rfl, rfl, h0, h⟩ := args_cons h
  obtain ⟨v1, r, d1, ds, rfl, rfl, h1, h⟩ := args_cons h
  obtain ⟨v2, r, d2, ds, rfl, rfl, h2, h⟩ := args_cons h
  obtain rfl := args_nil h
  obtain ⟨k, t, b, s, n, p, rfl, hn, _, _⟩ := arg98 h0
  obtain ⟨k2, t2, b2, s2, n2, p2, rfl, hn2, _, _⟩ := arg98 h1
  obtain ⟨x, rfl, _⟩ := arg_str Try.underlying9 h2
  obtain ⟨H', hr⟩ := run13 k t b s n p k2 t2 b2 s2 n2 p2 x hn hn2 H
  obtain ⟨k, hk⟩ := AC_iff.1 hr
  exact ⟨k, H', hk⟩

end Go.Proofs.Ytmicohgachjcgaa.Re
