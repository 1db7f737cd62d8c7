/- The statement 'TopHomesSaid': for whatever arguments, the call returns true, and the arguments read behind it as before. No condition. -/
import Derived.Test.YtilhjcnkaelheaaRows
import Derived.Test.YtilhjcnkaelheaaTopHomesP3
namespace Go.Proofs.Ytilhjcnkaelheaa.topHomes
open Go Go.ChangeShapes Go.WideShapes Go.ChangeAt Go.RowKit

theorem own : ownKnob Try.prog.godebug = none := by kernel_rfl

set_option maxRecDepth 100000 in
theorem lifted (os : Os) (started : os.Started) (H : Type) (enc : TypeId × Value → H) :
    ReturnsInHanded {} Try.checked os 8 .any (Rows.topHomesSpec.pre6 enc Try.prog Try.f8 Rows.topHomesRow.domain false) (Rows.topHomesSpec.post enc Try.prog Try.f8 false true false false) := by
  have hp : Try.f8.params.toList = [5, 77, 3, 23] := by kernel_rfl
  refine Go.Proofs.Ytilhjcnkaelheaa.Am.lifted (C := Try.checked) (enc := enc) own started (by kernel_rfl) Try.func8
    (ChangeSpec.witness6 (enc := enc) (C := Try.checked) false ⟨#[], #[.int .u8 0,.slice none 0 0,.int .i64 0,.slice none 0 0], []⟩ 8 (by kernel_rfl) (by kernel_rfl) (by kernel_rfl) (by kernel_rfl))
    (tb := 4) (by kernel_rfl) Try.underlying4 rfl ?_ (by kernel_rfl) (by rw [hp]; kernel_rfl) (by rw [hp]; kernel_rfl) Dk.A Dk.A_sound ?_
  · intro ds hl
    rw [hp] at hl
    match ds, hl with
    | [_, _, _, _], _ => rfl
  · intro H args dats h
    rw [hp] at h
    exact Dk.law8 H args dats h

theorem over : Rows.topHomesRow.holds Try.pinned (OpenSpec.ofChange Rows.topHomesSpec) :=
  OpenClaim.holds_of_wide 8 Try.f8 rfl rfl rfl rfl rfl rfl rfl ⟨rfl, rfl, rfl, rfl, rfl⟩ rfl rfl rfl rfl rfl (by kernel_rfl) Try.func8 (by kernel_rfl)
    (of_decide_eq_true (by kernel_rfl)) (by unfold Func.isWrapper; first | (rw [if_pos (by decide +kernel)]; kernel_rfl) | (rw [if_neg (by decide +kernel)]; exact ⟨rfl, rfl⟩))
    (fun os started H enc _ => lifted os started H enc)

/-- The statement. -/
theorem proved : Rows.TopHomesSaid := over
#print axioms proved
end Go.Proofs.Ytilhjcnkaelheaa.topHomes
