/- The statement 'KeysBeginSaid': for whatever arguments, the call returns true, and the arguments read behind it as before. No condition. -/
import Derived.Test.YtmicohgachjcgaaRows
import Derived.Test.YtmicohgachjcgaaKyh
namespace Go.Proofs.Ytmicohgachjcgaa.keysBegin
open Go Go.ChangeShapes Go.WideShapes Go.ChangeAt Go.RowKit

theorem own : ownKnob Try.prog.godebug = none := by kernel_rfl

set_option maxRecDepth 100000 in
theorem lifted (os : Os) (started : os.Started) (H : Type) (enc : TypeId × Value → H) :
    ReturnsInHanded {} Try.checked os 14 .any (Rows.keysBeginSpec.pre6 enc Try.prog Try.f14 Rows.keysBeginRow.domain false) (Rows.keysBeginSpec.post enc Try.prog Try.f14 false true false false) := by
  have hp : Try.f14.params.toList = [98, 3, 3, 9, 9, 22] := by kernel_rfl
  refine Go.Proofs.Ytmicohgachjcgaa.Am.lifted (C := Try.checked) (enc := enc) own started (by kernel_rfl) Try.func14
    (ChangeSpec.witness6 (enc := enc) (C := Try.checked) false ⟨#[], #[.agg #[.int .i64 0, .int .i64 0, .string ⟨#[]⟩, .string ⟨#[]⟩, .int .u64 0, .int .i64 0], .int .i64 0, .int .i64 0, .string ⟨#[]⟩, .string ⟨#[]⟩, .int .u64 0], []⟩ 8 (by kernel_rfl) (by kernel_rfl) (by kernel_rfl) (by kernel_rfl))
    (tb := 4) (by kernel_rfl) Try.underlying4 rfl ?_ (by kernel_rfl) (by rw [hp]; kernel_rfl) (by rw [hp]; kernel_rfl) Re.A Re.A_sound ?_
  · intro ds hl
    rw [hp] at hl
    match ds, hl with
    | [_, _, _, _, _, _], _ => rfl
  · intro H args dats h
    rw [hp] at h
    exact Re.law14 H args dats h

theorem over : Rows.keysBeginRow.holds Try.pinned (OpenSpec.ofChange Rows.keysBeginSpec) :=
  OpenClaim.holds_of_wide 14 Try.f14 rfl rfl rfl rfl rfl rfl rfl ⟨rfl, rfl, rfl, rfl, rfl⟩ rfl rfl rfl rfl rfl (by kernel_rfl) Try.func14 (by kernel_rfl)
    (of_decide_eq_true (by kernel_rfl)) (by unfold Func.isWrapper; first | (rw [if_pos (by decide +kernel)]; kernel_rfl) | (rw [if_neg (by decide +kernel)]; exact ⟨rfl, rfl⟩))
    (fun os started H enc _ => lifted os started H enc)

/-- The statement. -/
theorem proved : Rows.KeysBeginSaid := over
#print axioms proved
end Go.Proofs.Ytmicohgachjcgaa.keysBegin
