/- A law's row from a run of the abstract machine: whatever the arguments read as, the machine answers true: so the row's form holds. -/
import Derived.Test.YtilhjcnkaelheaaAmArgs
import Derived.WalkKit
import Derived.ProofKit
import Derived.ShutString
import Derived.ChangeOld
import Derived.Below
set_option linter.unusedSimpArgs false
set_option linter.unusedVariables false
namespace Go.Proofs.Ytilhjcnkaelheaa.Am
open Go Go.RowKit Go.ChangeShapes

/-- One argument: its cells read as a datum of its type. -/
def AArg (P : Program) (H : AHeap) (t : TypeId) (v : AVal) (d : Dat) : Prop :=
  ∃ fuel cs, AReads P H fuel t cs d ∧ (match P.underlying t with | some (.struct _) | some (.array _ _) => v = .agg cs | _ => cs = [v])

def AArgs (P : Program) (H : AHeap) : List TypeId → List AVal → List Dat → Prop
  | [], [], [] => True
  | t :: ts, v :: vs, d :: ds => AArg P H t v d ∧ AArgs P H ts vs ds
  | _, _, _ => False

section
variable {Hh : Type} {enc : TypeId × Value → Hh} {P : Program}

theorem cell_agg {w : World} {r : Reach} {b : Nat} {t : TypeId} {c : Array Value} : ¬ Cell.okWide P w r b t (.agg c) := by
  unfold Cell.okWide
  split <;> simp_all [Cell.ok]

theorem cell_tuple {w : World} {r : Reach} {b : Nat} {t : TypeId} {c : Array Value} : ¬ Cell.okWide P w r b t (.tuple c) := by
  unfold Cell.okWide
  split <;> simp_all [Cell.ok]

theorem arg_img {w : World} {r : Reach} {b : Nat} {t : TypeId} {v : Value} {d : DataW Hh} {ps : List MemPlace} (hok : Value.okWide P w r b t v) (hg : fullB P 99 t = true)
    (h : DataW.Trod enc P w 0 (fun _ => true) true t v d ps) (hw : Weighed P t d) :
    (∃ dat, AArg P (imgHeap w) t (absArg w.heap.size (maxSize w) v) dat) ∧ VRel (imgInj w) (absArg w.heap.size (maxSize w) v) v := by
  obtain ⟨fuel, h⟩ := h
  refine ⟨?_, absArg_rel w (all_unit fuel 99 t _ d ps hg h).2⟩
  obtain ⟨dat, hd⟩ := reads_img fuel 99 t _ d ps hg h hw
  refine ⟨dat, fuel, _, hd, ?_⟩
  unfold Value.okWide at hok
  split at hok
  · obtain ⟨cs, rfl, k1, k2⟩ := hok
    rename_i heq
    rw [heq]
    rfl
  · obtain ⟨cs, rfl, k1, k2⟩ := hok
    rename_i heq
    rw [heq]
    rfl
  · rename_i hs ha
    have : (v.cells.toList.map (absV w.heap.size (maxSize w))) = [absArg w.heap.size (maxSize w) v] := by
      cases v with
      | agg c => exact absurd hok cell_agg
      | tuple c => exact absurd hok cell_tuple
      | _ => rfl
    split
    · rename_i hu; exact absurd hu (hs _)
    · rename_i hu; exact absurd hu (ha _ _)
    · exact this

theorem args_img {w : World} {r : Reach} {b : Nat} : ∀ {ts : List TypeId} {vs : List Value} {ds : List (DataW Hh)} {ps : List MemPlace},
    (∀ (j : Nat) t v, ts[j]? = some t → vs[j]? = some v → Value.okWide P w r b t v) → ts.all (fullB P 99) = true →
    DataW.TrodAll enc P w 0 (fun _ => true) true ts vs ds ps → (∀ n, n ∈ DataW.weightsEach P ts ds → n ≤ reachBytes) →
    (∃ dats, AArgs P (imgHeap w) ts (vs.map (absArg w.heap.size (maxSize w))) dats) ∧ All2 (VRel (imgInj w)) (vs.map (absArg w.heap.size (maxSize w))) vs
  | [], vs, ds, ps, hok, hg, h, hw => by
    obtain ⟨rfl, rfl, rfl⟩ := trodAll_nil h
    exact ⟨⟨[], trivial⟩, .nil⟩
  | t :: ts, vs, ds, ps, hok, hg, h, hw => by
    obtain ⟨v, vs', d, ds', p, q, rfl, rfl, rfl, h1, h2⟩ := trodAll_cons h
    simp only [List.all_cons, Bool.and_eq_true] at hg
    simp only [DataW.weightsEach, List.mem_append] at hw
    obtain ⟨⟨dat, hd⟩, hv⟩ := arg_img (hok 0 t v rfl rfl) hg.1 h1 (fun n hn => hw n (.inl hn))
    obtain ⟨⟨dats, hds⟩, hvs⟩ := args_img (fun j t v ht hv => hok (j + 1) t v (by simpa using ht) (by simpa using hv)) hg.2 h2 (fun n hn => hw n (.inr hn))
    exact ⟨⟨dat :: dats, hd, hds⟩, .cons hv hvs⟩

theorem trodAll_stays (hl : laidOutB P = true) {W W' : World} (hb : Below W.heap.size W W') : ∀ {ts : List TypeId} {vs : List Value} {ds : List (DataW Hh)} {ps : List MemPlace},
    (ts.all fun t => P.readableRec t && decide (t < P.types.size)) = true → (∀ x ∈ ps, x.block < W.heap.size) →
    DataW.TrodAll enc P W 0 (fun _ => true) true ts vs ds ps → DataW.TrodAll enc P W' 0 (fun b => decide (b < W.heap.size)) true ts vs ds ps
  | [], vs, ds, ps, _, _, h => by
    obtain ⟨rfl, rfl, rfl⟩ := trodAll_nil h
    rfl
  | t :: ts, vs, ds, ps, hg, hlt, h => by
    obtain ⟨v, vs', d, ds', p, q, rfl, rfl, rfl, h1, h2⟩ := trodAll_cons h
    simp only [List.all_cons, Bool.and_eq_true, decide_eq_true_eq] at hg
    exact ⟨p, q, Below.trod hl hg.1.1 hg.1.2 h1 hb (fun x hx => hlt x (by simp [hx])), trodAll_stays hl hb hg.2 (fun x hx => hlt x (by simp [hx])) h2, rfl⟩

theorem trodAll_len {W : World} {b : Nat} {sp : Nat → Bool} {hd : Bool} : ∀ {ts : List TypeId} {vs : List Value} {ds : List (DataW Hh)} {ps : List MemPlace}, DataW.TrodAll enc P W b sp hd ts vs ds ps → ds.length = ts.length
  | [], vs, ds, ps, h => by
    obtain ⟨rfl, rfl, rfl⟩ := trodAll_nil h
    rfl
  | t :: ts, vs, ds, ps, h => by
    obtain ⟨v, vs', d, ds', p, q, rfl, rfl, rfl, h1, h2⟩ := trodAll_cons h
    simp [trodAll_len h2]

end

theorem lifted {Hh : Type} {enc : TypeId × Value → Hh} {C : Checked} {os : Os} {f : FuncId} {fn : Func} {s : ChangeSpec} {conds : List PathCond}
    (own : ownKnob C.prog.godebug = none) (started : os.Started) (noInit : C.prog.inits.idxOf? f = none) (hfn : C.prog.funcs[f]? = some fn)
    (witness : ∃ (w : World) (tape : Tape) (i : Input), w.os = os ∧ (w.forCall tape i).Shaped C.prog ∧ i.vars = [] ∧ Input.okWide C.prog (w.forCall tape i) .any w.heap.size f i ∧
      s.pre6 enc C.prog fn conds false (w.forCall tape i).memory i.args ∧ ({} : Assume).holds C.prog (lone (Frame.enter C.prog f i.args .normal) [] (w.forCall tape i)))
    {tb : TypeId} (hres : fn.resultTypes = #[tb]) (htb : C.prog.underlying tb = some .bool) (hvars : s.vars = [])
    (hs : ∀ ds : List (DataW Hh), ds.length = fn.params.toList.length → s.fn Hh ds = { results := [.lit (.bool true)], args := ds })
    (laid : laidOutB C.prog = true) (hfull : fn.params.toList.all (fullB C.prog 99) = true)
    (hread : (fn.params.toList.all fun t => C.prog.readableRec t && decide (t < C.prog.types.size)) = true)
    (A : AProg) (hA : ∀ w0 B, Sound C.prog w0 B A)
    (run : ∀ (H : AHeap) (args : List AVal) (dats : List Dat), AArgs C.prog H fn.params.toList args dats → ∃ k H', acall A k f args H = some (.bool true, H')) :
    ReturnsInHanded {} C os f .any (s.pre6 enc C.prog fn conds false) (s.post enc C.prog fn false true false false) := by
  refine returnsInHanded_of_change_sized own started noInit hfn witness ?_
  intro W base args ds gs before hval hW hcnd hsz _
  have hW' := hW
  have hlt := hW.lt
  obtain ⟨p, q, hA0, hV, hpq, hfz, hnd⟩ := hW
  rw [hvars] at hV
  obtain ⟨rfl, rfl⟩ := trodVars_none hV
  simp only [List.append_nil] at hpq
  have hA1 := hpq ▸ hA0
  have hw : ∀ n, n ∈ DataW.weightsEach C.prog fn.params.toList ds → n ≤ reachBytes := by
    have hpt : s.plain.varTypes C.prog = [] := by simp [ChangeSpec.plain, DataSpec.varTypes, hvars]
    rw [hpt] at hsz
    simp only [List.append_nil] at hsz
    intro n hn
    simpa using List.all_eq_true.1 hsz n hn
  obtain ⟨⟨dats, hd⟩, hrel⟩ := args_img (P := C.prog) (w := W) (r := .any) (b := base) (ts := fn.params.toList) (vs := args.toList) (fun j t v ht hv => hval j t v (by simpa using ht) (by simpa using hv)) hfull hA0 hw
  obtain ⟨k, H', hk⟩ := run _ _ _ hd
  obtain ⟨_, _, hcall⟩ := sound_call k W (lowK W.heap.size) hA _ _ _ _ _ hk
  have hc := hcall _ _ _ (fun _ => rfl) (srel_img W) hrel
  simp only [Array.toArray_toList] at hc
  refine hc.mono fun e W' ⟨v', m', he, _, hS, hv⟩ => ?_
  subst he
  cases hv
  have hlen : ds.length = fn.params.toList.length := trodAll_len hA0
  refine ⟨_, rfl, ds, [], before, [], before, [], hW', ?_, ?_, ?_, hS.below.below.frame _, fun h => by cases h⟩
  · simp only [List.append_nil, hs ds hlen, hres]
    exact trodAll_mk1 ⟨1, by simp [DataW.trod, Value.cells, Value.resultList, htb]⟩
  · simp only [List.append_nil, hs ds hlen]
    exact trodAll_stays laid hS.below.below hread hlt hA1
  · simp only [List.append_nil, hs ds hlen, hvars]
    rfl

end Go.Proofs.Ytilhjcnkaelheaa.Am
