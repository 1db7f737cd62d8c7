/- The laws of the sectors: the arguments opened. -/
import Derived.Test.YtfmjdlahabgkpaaSeg
set_option maxRecDepth 100000
set_option linter.unusedSimpArgs false
set_option linter.unusedVariables false
set_option maxHeartbeats 4000000
namespace Go.Proofs.Ytfmjdlahabgkpaa.Sd
open Go Go.Proofs.Ytfmjdlahabgkpaa.Am SdFns Go.RowKit

theorem cl3 : Try.prog.cellsOf 3 = 1 := by kernel_rfl
theorem cl9 : Try.prog.cellsOf 9 = 1 := by kernel_rfl
theorem cl22 : Try.prog.cellsOf 22 = 1 := by kernel_rfl
theorem cl24 : Try.prog.cellsOf 24 = 6 := by kernel_rfl
theorem rd_str {P : Program} {H : AHeap} {t : TypeId} {f : Nat} {cs : List AVal} {d : Dat} (hu : P.underlying t = some .string) (h : AReads P H f t cs d) : ∃ s : List UInt8, cs = [.str s] := by
  cases f with
  | zero => simp [AReads] at h
  | succ f =>
    simp only [AReads, hu] at h
    obtain ⟨s, h1, _⟩ := h
    exact ⟨s, h1⟩

theorem arg24 {H : AHeap} {v : AVal} {d : Dat} (h : AArg Try.prog H 24 v d) : ∃ (k : Int) (e n : Nat) (a m : Int) (p : List UInt8), v = .agg [.int .i64 k, .int .u64 (e : Int), .int .u64 (n : Int), .int .i64 a, .int .i64 m, .str p] ∧ e < 18446744073709551616 ∧ n < 18446744073709551616 := by
  obtain ⟨f, cs, ds, rfl, hl, hd, hr⟩ := arg_struct Try.underlying24 h
  rw [cl24] at hl
  simp at hd
  match cs, hl, ds, hd with
  | [x0, x1, x2, x3, x4, x5], _, [d0, d1, d2, d3, d4, d5], _ =>
    have r0 : AReads Try.prog H f 3 ((([x0, x1, x2, x3, x4, x5] : List AVal).drop 0).take (Try.prog.cellsOf 3)) d0 := hr 0 _ d0 rfl rfl
    have r1 : AReads Try.prog H f 22 ((([x0, x1, x2, x3, x4, x5] : List AVal).drop 1).take (Try.prog.cellsOf 22)) d1 := hr 1 _ d1 rfl rfl
    have r2 : AReads Try.prog H f 22 ((([x0, x1, x2, x3, x4, x5] : List AVal).drop 2).take (Try.prog.cellsOf 22)) d2 := hr 2 _ d2 rfl rfl
    have r3 : AReads Try.prog H f 3 ((([x0, x1, x2, x3, x4, x5] : List AVal).drop 3).take (Try.prog.cellsOf 3)) d3 := hr 3 _ d3 rfl rfl
    have r4 : AReads Try.prog H f 3 ((([x0, x1, x2, x3, x4, x5] : List AVal).drop 4).take (Try.prog.cellsOf 3)) d4 := hr 4 _ d4 rfl rfl
    have r5 : AReads Try.prog H f 9 ((([x0, x1, x2, x3, x4, x5] : List AVal).drop 5).take (Try.prog.cellsOf 9)) d5 := hr 5 _ d5 rfl rfl
    rw [cl3] at r0 r3 r4
    rw [cl22] at r1 r2
    rw [cl9] at r5
    obtain ⟨k, ek, _⟩ := reads_int Try.underlying3 r0
    obtain ⟨e, ee, e0, e1⟩ := reads_int Try.underlying22 r1
    obtain ⟨n, en, n0, n1⟩ := reads_int Try.underlying22 r2
    obtain ⟨a, ea, _⟩ := reads_int Try.underlying3 r3
    obtain ⟨m, em, _⟩ := reads_int Try.underlying3 r4
    obtain ⟨p, ep⟩ := rd_str Try.underlying9 r5
    simp at ek ee en ea em ep
    subst ek ee en ea em ep
    simp [IntKind.min, IntKind.max, IntKind.signed, IntKind.bits] at e0 e1 n0 n1
    exact ⟨k, e.toNat, n.toNat, a, m, p, by rw [Int.toNat_of_nonneg e0, Int.toNat_of_nonneg n0], by omega, by omega⟩

theorem law3 (H : AHeap) (args : List AVal) (dats : List Dat) (h : AArgs Try.prog H [24, 9] args dats) : ∃ k H', acall A k 3 args H = some (.bool true, H') := by
  obtain ⟨v0, r, d0, ds, rfl, rfl, h0, h⟩ := args_cons h
  obtain ⟨v1, r, d1, ds, rfl, rfl, h1, h⟩ := args_cons h
  obtain rfl := args_nil h
  obtain ⟨k, e, n, a, m, p, rfl, he, hn⟩ := arg24 h0
  obtain ⟨b, rfl, _⟩ := arg_str Try.underlying9 h1
  obtain ⟨H', hr⟩ := run3 k e n a m p b he hn H
  obtain ⟨k, hk⟩ := AC_iff.1 hr
  exact ⟨k, H', hk⟩
theorem law4 (H : AHeap) (args : List AVal) (dats : List Dat) (h : AArgs Try.prog H [3, 9, 9, 3] args dats) : ∃ k H', acall A k 4 args H = some (.bool true, H') := by
  obtain ⟨v0, r, d0, ds, rfl, rfl, h0, h⟩ := args_cons h
  obtain ⟨v1, r, d1, ds, rfl, rfl, h1, h⟩ := args_cons h
  obtain ⟨v2, r, d2, ds, rfl, rfl, h2, h⟩ := args_cons h
  obtain ⟨v3, r, d3, ds, rfl, rfl, h3, h⟩ := args_cons h
  obtain rfl := args_nil h
  obtain ⟨a, rfl, _⟩ := arg_int Try.underlying3 h0
  obtain ⟨t, rfl, _⟩ := arg_str Try.underlying9 h1
  obtain ⟨b, rfl, _⟩ := arg_str Try.underlying9 h2
  obtain ⟨g, rfl, _⟩ := arg_int Try.underlying3 h3
  obtain ⟨H', hr⟩ := run4 a t b g H
  obtain ⟨k, hk⟩ := AC_iff.1 hr
  exact ⟨k, H', hk⟩

end Go.Proofs.Ytfmjdlahabgkpaa.Sd
