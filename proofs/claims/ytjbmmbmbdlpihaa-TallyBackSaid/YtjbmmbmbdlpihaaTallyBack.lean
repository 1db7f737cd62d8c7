/- The statement 'TallyBackSaid': for whatever arguments, the call returns true, and the arguments read behind it as before. No condition. -/
import Derived.Test.YtjbmmbmbdlpihaaRows
import Derived.Test.YtjbmmbmbdlpihaaTsAll
namespace Go.Proofs.Ytjbmmbmbdlpihaa.tallyBack
open Go Go.ChangeShapes Go.WideShapes Go.ChangeAt Go.RowKit

theorem own : ownKnob Try.prog.godebug = none := by kernel_rfl

set_option maxRecDepth 100000 in
theorem lifted (os : Os) (started : os.Started) (H : Type) (enc : TypeId × Value → H) :
    ReturnsInHanded {} Try.checked os 13 .any (Rows.tallyBackSpec.pre6 enc Try.prog Try.f13 Rows.tallyBackRow.domain false) (Rows.tallyBackSpec.post enc Try.prog Try.f13 false true false false) := by
  have hp : Try.f13.params.toList = [80, 80, 47, 3] := by kernel_rfl
  refine Go.Proofs.Ytjbmmbmbdlpihaa.Am.lifted (C := Try.checked) (enc := enc) own started (by kernel_rfl) Try.func13
    (ChangeSpec.witness6 (enc := enc) (C := Try.checked) false ⟨#[], #[.agg #[.int .i64 0, .int .i64 0], .agg #[.int .i64 0, .int .i64 0], .slice none 0 0, .int .i64 0], []⟩ 8 (by kernel_rfl) (by kernel_rfl) (by kernel_rfl) (by kernel_rfl))
    (tb := 4) (by kernel_rfl) Try.underlying4 rfl ?_ (by kernel_rfl) (by rw [hp]; kernel_rfl) (by rw [hp]; kernel_rfl) Ts.A Ts.A_sound ?_
  · intro ds hl
    rw [hp] at hl
    match ds, hl with
    | [_, _, _, _], _ => rfl
  · intro H args dats h
    rw [hp] at h
    exact Ts.law13 H args dats h

theorem over : Rows.tallyBackRow.holds Try.pinned (OpenSpec.ofChange Rows.tallyBackSpec) :=
  OpenClaim.holds_of_wide 13 Try.f13 rfl rfl rfl rfl rfl rfl rfl ⟨rfl, rfl, rfl, rfl, rfl⟩ rfl rfl rfl rfl rfl (by kernel_rfl) Try.func13 (by kernel_rfl)
    (of_decide_eq_true (by kernel_rfl)) (by unfold Func.isWrapper; first | (rw [if_pos (by decide +kernel)]; kernel_rfl) | (rw [if_neg (by decide +kernel)]; exact ⟨rfl, rfl⟩))
    (fun os started H enc _ => lifted os started H enc)

/-- The statement. -/
theorem proved : Rows.TallyBackSaid := over
#print axioms proved
end Go.Proofs.Ytjbmmbmbdlpihaa.tallyBack
