/- The statement 'HistoryLastSaid': for whatever arguments, the call returns true, and the arguments read behind it as before. No condition. -/
import Derived.Test.YtfpbmoiconopcaaRows
import Derived.Test.YtfpbmoiconopcaaGhQ
namespace Go.Proofs.Ytfpbmoiconopcaa.historyLast
open Go Go.ChangeShapes Go.WideShapes Go.ChangeAt Go.RowKit

theorem own : ownKnob Try.prog.godebug = none := by kernel_rfl

set_option maxRecDepth 100000 in
theorem lifted (os : Os) (started : os.Started) (H : Type) (enc : TypeId × Value → H) :
    ReturnsInHanded {} Try.checked os 9 .any (Rows.historyLastSpec.pre6 enc Try.prog Try.f9 Rows.historyLastRow.domain false) (Rows.historyLastSpec.post enc Try.prog Try.f9 false true false false) := by
  have hp : Try.f9.params.toList = [3, 44] := by kernel_rfl
  refine Go.Proofs.Ytfpbmoiconopcaa.Am.lifted (C := Try.checked) (enc := enc) own started (by kernel_rfl) Try.func9
    (ChangeSpec.witness6 (enc := enc) (C := Try.checked) false ⟨#[], #[.int .i64 0, .slice none 0 0], []⟩ 8 (by kernel_rfl) (by kernel_rfl) (by kernel_rfl) (by kernel_rfl))
    (tb := 4) (by kernel_rfl) Try.underlying4 rfl ?_ (by kernel_rfl) (by rw [hp]; kernel_rfl) (by rw [hp]; kernel_rfl) Gh.A Gh.A_sound ?_
  · intro ds hl
    rw [hp] at hl
    match ds, hl with
    | [_, _], _ => rfl
  · intro H args dats h
    rw [hp] at h
    exact Gh.law9 H args dats h

theorem over : Rows.historyLastRow.holds Try.pinned (OpenSpec.ofChange Rows.historyLastSpec) :=
  OpenClaim.holds_of_wide 9 Try.f9 rfl rfl rfl rfl rfl rfl rfl ⟨rfl, rfl, rfl, rfl, rfl⟩ rfl rfl rfl rfl rfl (by kernel_rfl) Try.func9 (by kernel_rfl)
    (of_decide_eq_true (by kernel_rfl)) (by unfold Func.isWrapper; first | (rw [if_pos (by decide +kernel)]; kernel_rfl) | (rw [if_neg (by decide +kernel)]; exact ⟨rfl, rfl⟩))
    (fun os started H enc _ => lifted os started H enc)

/-- The statement. -/
theorem proved : Rows.HistoryLastSaid := over
#print axioms proved
end Go.Proofs.Ytfpbmoiconopcaa.historyLast
