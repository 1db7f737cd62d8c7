/- The law of sectors there and back: the arguments opened. -/
import Derived.Test.YtfmjdlahabgkpaaSej
set_option maxRecDepth 100000
set_option linter.unusedSimpArgs false
set_option linter.unusedVariables false
set_option maxHeartbeats 4000000
namespace Go.Proofs.Ytfmjdlahabgkpaa.Sd
open Go Go.Proofs.Ytfmjdlahabgkpaa.Am SdFns Go.RowKit

theorem law5 (H : AHeap) (args : List AVal) (dats : List Dat) (h : AArgs Try.prog H [24, 3, 42, 5] args dats) : ∃ k H', acall A k 5 args H = some (.bool true, H') := by
  obtain ⟨v0, r, d0, ds, rfl, rfl, h0, h⟩ := args_cons h
  obtain ⟨v1, r, d1, ds, rfl, rfl, h1, h⟩ := args_cons h
  obtain ⟨v2, r, d2, ds, rfl, rfl, h2, h⟩ := args_cons h
  obtain ⟨v3, r, d3, ds, rfl, rfl, h3, h⟩ := args_cons h
  obtain rfl := args_nil h
  obtain ⟨k, e, n, a, m, p, rfl, he, hn⟩ := arg24 h0
  obtain ⟨g, rfl, _⟩ := arg_int Try.underlying3 h1
  obtain ⟨x, rfl, _, x0, x1⟩ := arg_int Try.underlying42 h2
  obtain ⟨c, rfl, _, c0, c1⟩ := arg_int Try.underlying5 h3
  simp [IntKind.min, IntKind.max, IntKind.signed, IntKind.bits] at x0 x1 c0 c1
  have ex : AVal.int .u32 x = u (BitVec.ofNat 32 x.toNat) := by
    have := k_u x.toNat (by omega)
    rw [Int.toNat_of_nonneg x0] at this
    exact this
  have ec : AVal.int .u8 c = by8 (UInt8.ofNat c.toNat) := by
    have h : (UInt8.ofNat c.toNat).toNat = c.toNat := by simp; omega
    unfold by8
    rw [h, Int.toNat_of_nonneg c0]
  rw [ex, ec]
  obtain ⟨H', hr⟩ := run5 k e n a m p he hn g (BitVec.ofNat 32 x.toNat) (UInt8.ofNat c.toNat) H
  obtain ⟨k, hk⟩ := AC_iff.1 hr
  exact ⟨k, H', hk⟩

end Go.Proofs.Ytfmjdlahabgkpaa.Sd
