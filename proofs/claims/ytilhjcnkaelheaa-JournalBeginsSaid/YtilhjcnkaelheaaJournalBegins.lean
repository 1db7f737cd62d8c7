/- The statement 'JournalBeginsSaid': for whatever arguments, the call returns true, and the arguments read behind it as before. No condition. -/
import Derived.Test.YtilhjcnkaelheaaRows
import Derived.Test.YtilhjcnkaelheaaJournalBeginsP3
namespace Go.Proofs.Ytilhjcnkaelheaa.journalBegins
open Go Go.ChangeShapes Go.WideShapes Go.ChangeAt Go.RowKit

theorem own : ownKnob Try.prog.godebug = none := by kernel_rfl

set_option maxRecDepth 100000 in
theorem lifted (os : Os) (started : os.Started) (H : Type) (enc : TypeId × Value → H) :
    ReturnsInHanded {} Try.checked os 7 .any (Rows.journalBeginsSpec.pre6 enc Try.prog Try.f7 Rows.journalBeginsRow.domain false) (Rows.journalBeginsSpec.post enc Try.prog Try.f7 false true false false) := by
  have hp : Try.f7.params.toList = [3, 71, 71, 23, 3, 23] := by kernel_rfl
  refine Go.Proofs.Ytilhjcnkaelheaa.Am.lifted (C := Try.checked) (enc := enc) own started (by kernel_rfl) Try.func7
    (ChangeSpec.witness6 (enc := enc) (C := Try.checked) false ⟨#[], #[.int .i64 0,.slice none 0 0,.slice none 0 0,.slice none 0 0,.int .i64 0,.slice none 0 0], []⟩ 8 (by kernel_rfl) (by kernel_rfl) (by kernel_rfl) (by kernel_rfl))
    (tb := 4) (by kernel_rfl) Try.underlying4 rfl ?_ (by kernel_rfl) (by rw [hp]; kernel_rfl) (by rw [hp]; kernel_rfl) Dk.A Dk.A_sound ?_
  · intro ds hl
    rw [hp] at hl
    match ds, hl with
    | [_, _, _, _, _, _], _ => rfl
  · intro H args dats h
    rw [hp] at h
    exact Dk.law7 H args dats h

theorem over : Rows.journalBeginsRow.holds Try.pinned (OpenSpec.ofChange Rows.journalBeginsSpec) :=
  OpenClaim.holds_of_wide 7 Try.f7 rfl rfl rfl rfl rfl rfl rfl ⟨rfl, rfl, rfl, rfl, rfl⟩ rfl rfl rfl rfl rfl (by kernel_rfl) Try.func7 (by kernel_rfl)
    (of_decide_eq_true (by kernel_rfl)) (by unfold Func.isWrapper; first | (rw [if_pos (by decide +kernel)]; kernel_rfl) | (rw [if_neg (by decide +kernel)]; exact ⟨rfl, rfl⟩))
    (fun os started H enc _ => lifted os started H enc)

/-- The statement. -/
theorem proved : Rows.JournalBeginsSaid := over
#print axioms proved
end Go.Proofs.Ytilhjcnkaelheaa.journalBegins
