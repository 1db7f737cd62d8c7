/- The statement 'NodeTellsSaid': for whatever arguments, the call returns true, and the arguments read behind it as before. No condition. -/
import Derived.Test.YtfmjdlahabgkpaaRows
import Derived.Test.YtfmjdlahabgkpaaNodeTellsP2
namespace Go.Proofs.Ytfmjdlahabgkpaa.nodeTells
open Go Go.ChangeShapes Go.WideShapes Go.ChangeAt Go.RowKit

theorem own : ownKnob Try.prog.godebug = none := by kernel_rfl

set_option maxRecDepth 100000 in
theorem lifted (os : Os) (started : os.Started) (H : Type) (enc : TypeId × Value → H) :
    ReturnsInHanded {} Try.checked os 6 .any (Rows.nodeTellsSpec.pre6 enc Try.prog Try.f6 Rows.nodeTellsRow.domain false) (Rows.nodeTellsSpec.post enc Try.prog Try.f6 false true false false) := by
  have hp : Try.f6.params.toList = [48, 9] := by kernel_rfl
  refine Go.Proofs.Ytfmjdlahabgkpaa.Am.lifted (C := Try.checked) (enc := enc) own started (by kernel_rfl) Try.func6
    (ChangeSpec.witness6 (enc := enc) (C := Try.checked) false ⟨#[], #[.agg #[.slice none 0 0, .slice none 0 0], .string ⟨#[]⟩], []⟩ 8 (by kernel_rfl) (by kernel_rfl) (by kernel_rfl) (by kernel_rfl))
    (tb := 4) (by kernel_rfl) Try.underlying4 rfl ?_ (by kernel_rfl) (by rw [hp]; kernel_rfl) (by rw [hp]; kernel_rfl) Sd.A Sd.A_sound ?_
  · intro ds hl
    rw [hp] at hl
    match ds, hl with
    | [_, _], _ => rfl
  · intro H args dats h
    rw [hp] at h
    exact Sd.law6 H args dats h

theorem over : Rows.nodeTellsRow.holds Try.pinned (OpenSpec.ofChange Rows.nodeTellsSpec) :=
  OpenClaim.holds_of_wide 6 Try.f6 rfl rfl rfl rfl rfl rfl rfl ⟨rfl, rfl, rfl, rfl, rfl⟩ rfl rfl rfl rfl rfl (by kernel_rfl) Try.func6 (by kernel_rfl)
    (of_decide_eq_true (by kernel_rfl)) (by unfold Func.isWrapper; first | (rw [if_pos (by decide +kernel)]; kernel_rfl) | (rw [if_neg (by decide +kernel)]; exact ⟨rfl, rfl⟩))
    (fun os started H enc _ => lifted os started H enc)

/-- The statement. -/
theorem proved : Rows.NodeTellsSaid := over
#print axioms proved
end Go.Proofs.Ytfmjdlahabgkpaa.nodeTells
