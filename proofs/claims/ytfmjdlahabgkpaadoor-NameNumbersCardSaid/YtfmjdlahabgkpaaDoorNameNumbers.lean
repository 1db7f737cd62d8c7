/- The statement 'NameNumbersCardSaid': for whatever arguments, the call returns true, and the arguments read behind it as before; the listed variables are as the program's text lays them. No other condition. -/
import Derived.Test.YtfmjdlahabgkpaaDoorCards
import Derived.Test.YtfmjdlahabgkpaaDoorTie
import Derived.Test.YtfmjdlahabgkpaaDoorNameNumbersP1
import Derived.LaidLaws
import Derived.LaidMore
namespace Go.Proofs.YtfmjdlahabgkpaaDoor.nameNumbers
open Go Go.ChangeShapes Go.WideShapes Go.ChangeAt Go.RowKit

theorem own : ownKnob Tryd.prog.godebug = none := by kernel_rfl

/-- The cells of plain data. -/
def flatL : Lit → List Value
  | .int k n => [.int k n]
  | .bool b => [.bool b]
  | _ => []
mutual
def flat : DataW Unit → List Value
  | .lit l => flatL l
  | .agg l => flats l
  | _ => []
def flats : List (DataW Unit) → List Value
  | [] => []
  | d :: r => flat d ++ flats r
end
def laidIn (d : DataW Unit) : Obj → Obj
  | .cells _ t frozen => .cells (flat d).toArray t frozen
  | o => o
/-- A world for the witness: the listed variables as they are laid. -/
noncomputable def laidWorld (os : Os) : World :=
  { World.holding Tryd.prog os ⟨#[], #[], []⟩ with heap := (((World.holding Tryd.prog os ⟨#[], #[], []⟩).heap.modify 2 (laidIn Rows.laid_unicode_utf8_acceptRanges)).modify 1 (laidIn Rows.laid_unicode_utf8_first)) }
theorem laid_met (os : Os) : laidMetH Tryd.prog Rows.nameNumbersRow.laid ((laidWorld os).forCall (fun _ _ => 0) ⟨#[], #[.int .u64 0, .string ⟨#[]⟩], []⟩).memory :=
  laidMetH_of_parts3 (fuel := 8) (laidMet_of_run' 8 (by kernel_rfl) (by kernel_rfl)) (by kernel_rfl) (by kernel_rfl)
theorem reads (os : Os) {H : Type} (enc : TypeId × Value → H) : ∃ places, DataW.whole enc Tryd.prog ((laidWorld os).forCall (fun _ _ => 0) ⟨#[], #[.int .u64 0, .string ⟨#[]⟩], []⟩).memory Tryd.f4.params.toList Rows.nameNumbersSpec.vars false (#[.int .u64 0, .string ⟨#[]⟩] : Array Value).toList 8 = some ([.lit (.int .u64 0), .lit (.string [])], [], places) :=
  ⟨[], by kernel_rfl⟩

set_option maxRecDepth 100000 in
theorem lifted (os : Os) (started : os.Started) (H : Type) (enc : TypeId × Value → H) (F : Stop.Interp) :
    ReturnsInHanded {} Tryd.checked os 4 .any ((OpenSpec.ofChange Rows.nameNumbersSpec).preRow enc Tryd.prog Tryd.f4 Rows.nameNumbersRow.domain false Rows.nameNumbersRow.laid) (((OpenSpec.ofChange Rows.nameNumbersSpec).at F).post enc Tryd.prog Tryd.f4 false true false false) := by
  have hp : Tryd.f4.params.toList = [34, 9] := by kernel_rfl
  obtain ⟨places, hx⟩ := reads os enc
  refine Go.Proofs.YtfmjdlahabgkpaaDoor.Am.liftedR (C := Tryd.checked) (enc := enc) (s := Rows.nameNumbersSpec) (S := OpenSpec.ofChange Rows.nameNumbersSpec) rfl (by kernel_rfl) (fun _ _ _ _ h => h) own started (by kernel_rfl) Tryd.func4
    (witness_row_at (enc := enc) (C := Tryd.checked) false (laidWorld os) #[.int .u64 0, .string ⟨#[]⟩] rfl (by kernel_rfl) (by kernel_rfl) (by kernel_rfl)
      (OpenSpec.preRow_of_cond 8 hx (by kernel_rfl) (fun k hk => by cases hk) (by kernel_rfl) (laid_met os)))
    (tb := 4) (by kernel_rfl) Tryd.underlying4 rfl ?_ (by kernel_rfl) (by rw [hp]; kernel_rfl) (by rw [hp]; kernel_rfl) Nm.A Nm.A_sound (Q := fun _ => True) ?_ ?_
  · intro ds hl
    rw [hp] at hl
    match ds, hl with
    | [_, _], _ => rfl
  · intro _ _ _ _; trivial
  · intro H args dats h _
    rw [hp] at h
    exact Nm.law4 H args dats h

theorem over : Rows.nameNumbersRow.holds Tryd.pinned (OpenSpec.ofChange Rows.nameNumbersSpec) :=
  OpenClaim.holds_of_cond 4 Tryd.f4 rfl rfl rfl rfl rfl rfl rfl ⟨rfl, rfl, rfl, rfl, rfl⟩ rfl rfl rfl rfl rfl (by kernel_rfl) Tryd.func4 (by kernel_rfl)
    (of_decide_eq_true (by kernel_rfl)) (by unfold Func.isWrapper; first | (rw [if_pos (by decide +kernel)]; kernel_rfl) | (rw [if_neg (by decide +kernel)]; exact ⟨rfl, rfl⟩))
    (fun os started H enc _ F => by rw [OpenClaim.pre_eq_preRow]; exact lifted os started H enc F)

theorem plain (f : FuncId) (fn : Func) (hf : Tryd.pinned.checked.prog.funcNamed Rows.nameNumbersRow.func = some f) (hfn : Tryd.pinned.checked.prog.funcs[f]? = some fn) :
    false = Tryd.pinned.checked.prog.looks [] ∧ ∀ (j : Nat) t, fn.params[j]? = some t → Tryd.pinned.checked.prog.wantsStandIn t = false := by
  obtain rfl : f = 4 := Option.some.inj ((show Tryd.prog.funcNamed Rows.nameNumbersRow.func = some 4 by kernel_rfl).symm.trans hf) |>.symm
  obtain rfl : fn = Tryd.f4 := (Option.some.inj (Tryd.func4.symm.trans hfn)).symm
  refine ⟨by kernel_rfl, fun j t ht => ?_⟩
  have hm : t ∈ [34, 9] := by
    have := Array.mem_of_getElem? ht
    have hp : Tryd.f4.params.toList = [34, 9] := by kernel_rfl
    rw [← hp]; exact Array.mem_def.1 this
  have hall : ([34, 9].all fun u => !Tryd.prog.wantsStandIn u) = true := by kernel_rfl
  exact (show Tryd.prog.wantsStandIn t = false by simpa using List.all_eq_true.1 hall t hm)

/-- The statement. -/
theorem proved : Rows.NameNumbersCardSaid :=
  Claim7.holds_tied_plain_at .later [] _ _ _ _ over (fun _ h => by cases h) (by kernel_rfl) (fun _ h => by cases h) nameNumbers_row_tie rfl ⟨rfl, rfl⟩ (by kernel_rfl) rfl plain (by kernel_rfl)
#print axioms proved
end Go.Proofs.YtfmjdlahabgkpaaDoor.nameNumbers
