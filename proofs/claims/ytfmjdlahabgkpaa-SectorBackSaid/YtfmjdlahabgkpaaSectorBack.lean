/- The statement 'SectorBackSaid': for whatever arguments, the call returns true, and the arguments read behind it as before. No condition. -/
import Derived.Test.YtfmjdlahabgkpaaRows
import Derived.Test.YtfmjdlahabgkpaaSek
namespace Go.Proofs.Ytfmjdlahabgkpaa.sectorBack
open Go Go.ChangeShapes Go.WideShapes Go.ChangeAt Go.RowKit

theorem own : ownKnob Try.prog.godebug = none := by kernel_rfl

set_option maxRecDepth 100000 in
theorem lifted (os : Os) (started : os.Started) (H : Type) (enc : TypeId × Value → H) :
    ReturnsInHanded {} Try.checked os 5 .any (Rows.sectorBackSpec.pre6 enc Try.prog Try.f5 Rows.sectorBackRow.domain false) (Rows.sectorBackSpec.post enc Try.prog Try.f5 false true false false) := by
  have hp : Try.f5.params.toList = [24, 3, 42, 5] := by kernel_rfl
  refine Go.Proofs.Ytfmjdlahabgkpaa.Am.lifted (C := Try.checked) (enc := enc) own started (by kernel_rfl) Try.func5
    (ChangeSpec.witness6 (enc := enc) (C := Try.checked) false ⟨#[], #[.agg #[.int .i64 0, .int .u64 0, .int .u64 0, .int .i64 0, .int .i64 0, .string ⟨#[]⟩], .int .i64 0, .int .u32 0, .int .u8 0], []⟩ 8 (by kernel_rfl) (by kernel_rfl) (by kernel_rfl) (by kernel_rfl))
    (tb := 4) (by kernel_rfl) Try.underlying4 rfl ?_ (by kernel_rfl) (by rw [hp]; kernel_rfl) (by rw [hp]; kernel_rfl) Sd.A Sd.A_sound ?_
  · intro ds hl
    rw [hp] at hl
    match ds, hl with
    | [_, _, _, _], _ => rfl
  · intro H args dats h
    rw [hp] at h
    exact Sd.law5 H args dats h

theorem over : Rows.sectorBackRow.holds Try.pinned (OpenSpec.ofChange Rows.sectorBackSpec) :=
  OpenClaim.holds_of_wide 5 Try.f5 rfl rfl rfl rfl rfl rfl rfl ⟨rfl, rfl, rfl, rfl, rfl⟩ rfl rfl rfl rfl rfl (by kernel_rfl) Try.func5 (by kernel_rfl)
    (of_decide_eq_true (by kernel_rfl)) (by unfold Func.isWrapper; first | (rw [if_pos (by decide +kernel)]; kernel_rfl) | (rw [if_neg (by decide +kernel)]; exact ⟨rfl, rfl⟩))
    (fun os started H enc _ => lifted os started H enc)

/-- The statement. -/
theorem proved : Rows.SectorBackSaid := over
#print axioms proved
end Go.Proofs.Ytfmjdlahabgkpaa.sectorBack
