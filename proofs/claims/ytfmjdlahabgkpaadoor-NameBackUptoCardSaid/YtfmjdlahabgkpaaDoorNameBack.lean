/- The statement 'NameBackUptoCardSaid': for whatever arguments of bulk at most 1048576, the call returns true, and the arguments read behind it as before; the listed variables are as the program's text lays them. No other condition. -/
import Derived.Test.YtfmjdlahabgkpaaDoorCards
import Derived.Test.YtfmjdlahabgkpaaDoorTie
import Derived.Test.YtfmjdlahabgkpaaDoorNameBackP2
import Derived.LaidLaws
import Derived.LaidMore
namespace Go.Proofs.YtfmjdlahabgkpaaDoor.nameBack
open Go Go.ChangeShapes Go.WideShapes Go.ChangeAt Go.RowKit

theorem own : ownKnob Tryd.prog.godebug = none := by kernel_rfl

/-- The cells of plain data. -/
def flatL : Lit → List Value
  | .int k n => [.int k n]
  | .bool b => [.bool b]
  | _ => []
mutual
def flat : DataW Unit → List Value
  | .lit l => flatL l
  | .agg l => flats l
  | _ => []
def flats : List (DataW Unit) → List Value
  | [] => []
  | d :: r => flat d ++ flats r
end
def laidIn (d : DataW Unit) : Obj → Obj
  | .cells _ t frozen => .cells (flat d).toArray t frozen
  | o => o
/-- A world for the witness: the listed variables as they are laid. -/
noncomputable def laidWorld (os : Os) : World :=
  { World.holding Tryd.prog os ⟨#[], #[], []⟩ with heap := (((World.holding Tryd.prog os ⟨#[], #[], []⟩).heap.modify 2 (laidIn Rows.laid_unicode_utf8_acceptRanges)).modify 1 (laidIn Rows.laid_unicode_utf8_first)) }
theorem laid_met (os : Os) : laidMetH Tryd.prog Rows.nameBackUptoRow.laid ((laidWorld os).forCall (fun _ _ => 0) ⟨#[], #[.string ⟨#[]⟩, .string ⟨#[]⟩, .int .u64 0, .slice none 0 0], []⟩).memory :=
  laidMetH_of_parts3 (fuel := 8) (laidMet_of_run' 8 (by kernel_rfl) (by kernel_rfl)) (by kernel_rfl) (by kernel_rfl)
theorem reads (os : Os) {H : Type} (enc : TypeId × Value → H) : ∃ places, DataW.whole enc Tryd.prog ((laidWorld os).forCall (fun _ _ => 0) ⟨#[], #[.string ⟨#[]⟩, .string ⟨#[]⟩, .int .u64 0, .slice none 0 0], []⟩).memory Tryd.f5.params.toList Rows.nameBackSpec.vars false (#[.string ⟨#[]⟩, .string ⟨#[]⟩, .int .u64 0, .slice none 0 0] : Array Value).toList 8 = some ([.lit (.string []), .lit (.string []), .lit (.int .u64 0), .nil], [], places) :=
  ⟨[], by kernel_rfl⟩

mutual
theorem bulk_is {H : Type} : ∀ d : DataW H, Rows.uptoBulk d = Go.Proofs.YtfmjdlahabgkpaaDoor.Am.bulkW d
  | .lit l => by cases l <;> rfl
  | .nil => rfl
  | .ptr d => by rw [Rows.uptoBulk, Go.Proofs.YtfmjdlahabgkpaaDoor.Am.bulkW, bulk_is d]
  | .slice a b => by rw [Rows.uptoBulk, Go.Proofs.YtfmjdlahabgkpaaDoor.Am.bulkW, bulks_is a, bulks_is b]
  | .agg a => by rw [Rows.uptoBulk, Go.Proofs.YtfmjdlahabgkpaaDoor.Am.bulkW, bulks_is a]
  | .iface _ d => by rw [Rows.uptoBulk, Go.Proofs.YtfmjdlahabgkpaaDoor.Am.bulkW, bulk_is d]
  | .map a => by rw [Rows.uptoBulk, Go.Proofs.YtfmjdlahabgkpaaDoor.Am.bulkW, bulke_is a]
  | .held _ => rfl
theorem bulks_is {H : Type} : ∀ l : List (DataW H), Rows.uptoBulkAll l = Go.Proofs.YtfmjdlahabgkpaaDoor.Am.bulkWs l
  | [] => rfl
  | d :: r => by rw [Rows.uptoBulkAll, Go.Proofs.YtfmjdlahabgkpaaDoor.Am.bulkWs, bulk_is d, bulks_is r]
theorem bulke_is {H : Type} : ∀ l : List (Lit × DataW H), Rows.uptoBulkEntries l = Go.Proofs.YtfmjdlahabgkpaaDoor.Am.bulkWe l
  | [] => rfl
  | x :: r => by rw [Rows.uptoBulkEntries, Go.Proofs.YtfmjdlahabgkpaaDoor.Am.bulkWe, bulk1_is x, bulke_is r]
theorem bulk1_is {H : Type} : ∀ x : Lit × DataW H, Rows.uptoBulkEntry x = Go.Proofs.YtfmjdlahabgkpaaDoor.Am.bulkW1 x
  | (l, d) => by cases l <;> simp only [Rows.uptoBulkEntry, Go.Proofs.YtfmjdlahabgkpaaDoor.Am.bulkW1, bulk_is d]
end

set_option maxRecDepth 100000 in
theorem lifted (os : Os) (started : os.Started) (H : Type) (enc : TypeId × Value → H) (F : Stop.Interp) :
    ReturnsInHanded {} Tryd.checked os 5 .any ((Rows.OpenSpec.upto Rows.nameBackSpec).preRow enc Tryd.prog Tryd.f5 Rows.nameBackUptoRow.domain false Rows.nameBackUptoRow.laid) (((Rows.OpenSpec.upto Rows.nameBackSpec).at F).post enc Tryd.prog Tryd.f5 false true false false) := by
  have hp : Tryd.f5.params.toList = [9, 9, 34, 22] := by kernel_rfl
  obtain ⟨places, hx⟩ := reads os enc
  refine Go.Proofs.YtfmjdlahabgkpaaDoor.Am.liftedR (C := Tryd.checked) (enc := enc) (s := Rows.nameBackSpec) (S := Rows.OpenSpec.upto Rows.nameBackSpec) rfl (by kernel_rfl) (fun _ _ _ _ h => h) own started (by kernel_rfl) Tryd.func5
    (witness_row_at (enc := enc) (C := Tryd.checked) false (laidWorld os) #[.string ⟨#[]⟩, .string ⟨#[]⟩, .int .u64 0, .slice none 0 0] rfl (by kernel_rfl) (by kernel_rfl) (by kernel_rfl)
      (OpenSpec.preRow_of_cond 8 hx (by kernel_rfl) (fun k hk => by cases hk; kernel_rfl) (by kernel_rfl) (laid_met os)))
    (tb := 4) (by kernel_rfl) Tryd.underlying4 rfl ?_ (by kernel_rfl) (by rw [hp]; kernel_rfl) (by rw [hp]; kernel_rfl) Nm.A Nm.A_sound (Q := fun n => n ≤ 1048576) ?_ ?_
  · intro ds hl
    rw [hp] at hl
    match ds, hl with
    | [_, _, _, _], _ => rfl
  · intro ds hc n hn
    have := hc _ rfl
    unfold Rows.uptoSmall at this
    rw [decide_eq_true_eq, bulks_is] at this
    exact Nat.le_trans hn this
  · intro H args dats h hb
    rw [hp] at h
    exact Nm.law5 H args dats h hb

theorem over : Rows.nameBackUptoRow.holds Tryd.pinned (Rows.OpenSpec.upto Rows.nameBackSpec) :=
  OpenClaim.holds_of_cond 5 Tryd.f5 rfl rfl rfl rfl rfl rfl rfl ⟨rfl, rfl, rfl, rfl, rfl⟩ rfl rfl rfl rfl rfl (by kernel_rfl) Tryd.func5 (by kernel_rfl)
    (of_decide_eq_true (by kernel_rfl)) (by unfold Func.isWrapper; first | (rw [if_pos (by decide +kernel)]; kernel_rfl) | (rw [if_neg (by decide +kernel)]; exact ⟨rfl, rfl⟩))
    (fun os started H enc _ F => by rw [OpenClaim.pre_eq_preRow]; exact lifted os started H enc F)

theorem plain (f : FuncId) (fn : Func) (hf : Tryd.pinned.checked.prog.funcNamed Rows.nameBackUptoRow.func = some f) (hfn : Tryd.pinned.checked.prog.funcs[f]? = some fn) :
    false = Tryd.pinned.checked.prog.looks [] ∧ ∀ (j : Nat) t, fn.params[j]? = some t → Tryd.pinned.checked.prog.wantsStandIn t = false := by
  obtain rfl : f = 5 := Option.some.inj ((show Tryd.prog.funcNamed Rows.nameBackUptoRow.func = some 5 by kernel_rfl).symm.trans hf) |>.symm
  obtain rfl : fn = Tryd.f5 := (Option.some.inj (Tryd.func5.symm.trans hfn)).symm
  refine ⟨by kernel_rfl, fun j t ht => ?_⟩
  have hm : t ∈ [9, 9, 34, 22] := by
    have := Array.mem_of_getElem? ht
    have hp : Tryd.f5.params.toList = [9, 9, 34, 22] := by kernel_rfl
    rw [← hp]; exact Array.mem_def.1 this
  have hall : ([9, 9, 34, 22].all fun u => !Tryd.prog.wantsStandIn u) = true := by kernel_rfl
  exact (show Tryd.prog.wantsStandIn t = false by simpa using List.all_eq_true.1 hall t hm)

/-- The statement. -/
theorem proved : Rows.NameBackUptoCardSaid :=
  Claim7.holds_tied_plain_at .later [] _ _ _ _ over (fun _ h => by cases h) (by kernel_rfl) (fun _ h => by cases h) nameBackUpto_row_tie rfl ⟨rfl, rfl⟩ (by kernel_rfl) rfl plain (by kernel_rfl)
#print axioms proved
end Go.Proofs.YtfmjdlahabgkpaaDoor.nameBack
