/- The statement 'JournalPlaysSaid': for whatever arguments, the call returns true, and the arguments read behind it as before. No condition. -/
import Derived.Test.YtilhjcnkaelheaaGreatRows
import Derived.Test.YtilhjcnkaelheaaGreatJournalPlaysP3
namespace Go.Proofs.YtilhjcnkaelheaaGreat.journalPlays
open Go Go.ChangeShapes Go.WideShapes Go.ChangeAt Go.RowKit

theorem own : ownKnob Tryz.prog.godebug = none := by kernel_rfl

set_option maxRecDepth 100000 in
theorem lifted (os : Os) (started : os.Started) (H : Type) (enc : TypeId × Value → H) :
    ReturnsInHanded {} Tryz.checked os 3 .any (Rows.journalPlaysSpec.pre6 enc Tryz.prog Tryz.f3 Rows.journalPlaysRow.domain false) (Rows.journalPlaysSpec.post enc Tryz.prog Tryz.f3 false true false false) := by
  have hp : Tryz.f3.params.toList = [3, 3, 22, 23] := by kernel_rfl
  refine Go.Proofs.YtilhjcnkaelheaaGreat.Am.lifted (C := Tryz.checked) (enc := enc) own started (by kernel_rfl) Tryz.func3
    (ChangeSpec.witness6 (enc := enc) (C := Tryz.checked) false ⟨#[], #[.int .i64 0, .int .i64 0, .int .u64 0, .slice none 0 0], []⟩ 8 (by kernel_rfl) (by kernel_rfl) (by kernel_rfl) (by kernel_rfl))
    (tb := 4) (by kernel_rfl) Tryz.underlying4 rfl ?_ (by kernel_rfl) (by rw [hp]; kernel_rfl) (by rw [hp]; kernel_rfl) Dk.A Dk.A_sound ?_
  · intro ds hl
    rw [hp] at hl
    match ds, hl with
    | [_, _, _, _], _ => rfl
  · intro H args dats h
    rw [hp] at h
    exact Dk.law3 H args dats h

theorem over : Rows.journalPlaysRow.holds Tryz.pinned (OpenSpec.ofChange Rows.journalPlaysSpec) :=
  OpenClaim.holds_of_wide 3 Tryz.f3 rfl rfl rfl rfl rfl rfl rfl ⟨rfl, rfl, rfl, rfl, rfl⟩ rfl rfl rfl rfl rfl (by kernel_rfl) Tryz.func3 (by kernel_rfl)
    (of_decide_eq_true (by kernel_rfl)) (by unfold Func.isWrapper; first | (rw [if_pos (by decide +kernel)]; kernel_rfl) | (rw [if_neg (by decide +kernel)]; exact ⟨rfl, rfl⟩))
    (fun os started H enc _ => lifted os started H enc)

/-- The statement. -/
theorem proved : Rows.JournalPlaysSaid := over
#print axioms proved
end Go.Proofs.YtilhjcnkaelheaaGreat.journalPlays
