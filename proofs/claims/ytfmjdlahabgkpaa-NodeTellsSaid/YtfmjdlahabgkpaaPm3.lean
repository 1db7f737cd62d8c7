/- Texts put together by program: YtfmjdlahabgkpaaAmArgs, YtfmjdlahabgkpaaAmRow, YtfmjdlahabgkpaaAmFree, YtfmjdlahabgkpaaAmSym, YtfmjdlahabgkpaaAmExt, YtfmjdlahabgkpaaAmLook, YtfmjdlahabgkpaaAmSet, YtfmjdlahabgkpaaAmCut, YtfmjdlahabgkpaaAmRng, YtfmjdlahabgkpaaAmFr, YtfmjdlahabgkpaaAmStr. -/
import Derived.Carry
import Derived.SizedLaws
import Derived.OpenShut
import Derived.WalkKit
import Derived.ProofKit
import Derived.ShutString
import Derived.ChangeOld
import Derived.Below
import Derived.Deep.DeepHandedRow
import Derived.Test.YtfmjdlahabgkpaaPm2
section
/- The arguments of a law, as the abstract machine sees them: the image of a world, and what a typed reading says of it. -/
set_option linter.unusedSimpArgs false
set_option linter.unusedVariables false
namespace Go.Proofs.Ytfmjdlahabgkpaa.Am
open Go Go.RowKit

/-! ### The image of a world: an object for each place of each block: the cells from there on -/
def isUnit (v : Value) : Bool := v.oneCell'

def absV (n M : Nat) : Value → AVal
  | .bool b => .bool b
  | .int k x => .int k x
  | .float k b => .flt k b
  | .string s => .str s.data.toList
  | .pointer none => .nilp
  | .pointer (some ⟨b, o, none⟩) => if b < n ∧ o < M then .ptr (b * M + o) 0 else .junk
  | .slice none 0 0 => .nils
  | .slice (some a) l c => if a.block < n ∧ a.off < M ∧ l ≤ c ∧ a.spot = none then .slice (a.block * M + a.off) 0 l c none else if l = 0 ∧ c = 0 then .slice (n * M) 0 0 0 none else .junk
  | .map none => .nilm
  | .nilFunc => .nilFunc
  | .nilIface => .nilIface
  | _ => .junk

def absArg (n M : Nat) : Value → AVal
  | .agg c => .agg (c.toList.map (absV n M))
  | v => absV n M v

def maxSize (w : World) : Nat := w.heap.toList.foldr (fun o m => match o with | .cells c _ _ => max (c.size + 1) m | _ => m) 1

def goodRun (c : List Value) (o : Nat) : List Value := (c.drop o).takeWhile isUnit

def imgHeap (w : World) : AHeap :=
  { obj := fun id => match w.heap[id / maxSize w]? with
      | some (.cells c _ _) => some (.cells ((goodRun c.toList (id % maxSize w)).map (absV w.heap.size (maxSize w))) false)
      | _ => none
    next := w.heap.size * maxSize w + 1 }

def imgInj (w : World) : Inj := { n := w.heap.size * maxSize w + 1, loc := fun id => ⟨id / maxSize w, id % maxSize w, 0⟩ }

theorem foldr_max_pos (l : List Obj) : 1 ≤ l.foldr (fun o m => match o with | .cells c _ _ => max (c.size + 1) m | _ => m) 1 := by
  induction l with
  | nil => simp
  | cons o l ih =>
    simp only [List.foldr_cons]
    split
    · omega
    · exact ih

theorem maxSize_pos (w : World) : 0 < maxSize w := foldr_max_pos _

theorem foldr_max_mem (l : List Obj) {c : Array Value} {e : TypeId} {fz : Nat × Nat} (h : Obj.cells c e fz ∈ l) : c.size < l.foldr (fun o m => match o with | .cells c _ _ => max (c.size + 1) m | _ => m) 1 := by
  induction l with
  | nil => simp at h
  | cons o l ih =>
    simp only [List.foldr_cons]
    rcases List.mem_cons.1 h with rfl | h
    · simp only; omega
    · have := ih h
      split
      · omega
      · exact this

theorem maxSize_lt {w : World} {b : Nat} {c : Array Value} {e : TypeId} {fz : Nat × Nat} (h : w.heap[b]? = some (.cells c e fz)) : c.size < maxSize w := by
  refine foldr_max_mem _ (e := e) (fz := fz) ?_
  obtain ⟨hb, he⟩ := Array.getElem?_eq_some_iff.1 h
  rw [← he]
  simp

theorem id_div {b o M : Nat} (h : o < M) : (b * M + o) / M = b := by
  rw [Nat.mul_comm, Nat.mul_add_div (by omega), Nat.div_eq_of_lt h, Nat.add_zero]
theorem id_mod {b o M : Nat} (h : o < M) : (b * M + o) % M = o := by
  rw [Nat.mul_comm, Nat.mul_add_mod, Nat.mod_eq_of_lt h]
theorem id_lt {b o M n : Nat} (hb : b < n) (h : o < M) : b * M + o < n * M := by
  calc b * M + o < b * M + M := by omega
    _ = (b + 1) * M := by rw [Nat.add_mul]; omega
    _ ≤ n * M := Nat.mul_le_mul_right _ hb

theorem absV_rel (w : World) {v : Value} (h : v.oneCell' = true) : VRel (imgInj w) (absV w.heap.size (maxSize w) v) v := by
  unfold absV
  split
  · exact .bool _
  · exact .int _ _
  · exact .flt _ _
  · exact .str _
  · exact .nilp
  · split
    · rename_i b o hc
      have := VRel.ptr (m := imgInj w) (b * maxSize w + o) 0 ⟨Nat.lt_succ_of_lt (id_lt hc.1 hc.2), rfl⟩
      simp only [imgInj, id_div hc.2, id_mod hc.2, Nat.add_zero] at this
      exact this
    · exact .junk _ h (by simp)
  · exact .nils
  · rename_i ad l c
    split
    · rename_i hc
      have := VRel.slice (m := imgInj w) (ad.block * maxSize w + ad.off) 0 l c none ad c ⟨Nat.lt_succ_of_lt (id_lt hc.1 hc.2.1), rfl⟩ hc.2.2.1 (Nat.le_refl _) (fun _ => rfl) (by simp) (.inl (by
        simp only [imgInj, id_mod hc.2.1, id_div hc.2.1, Nat.add_zero]
        obtain ⟨b, o, s⟩ := ad
        simp at hc
        rw [hc.2.2.2]))
      exact this
    · split
      · rename_i hc
        obtain ⟨rfl, rfl⟩ := hc
        exact .slice _ _ _ _ _ _ _ ⟨by simp [imgInj], rfl⟩ (Nat.le_refl _) (Nat.le_refl _) (fun _ => rfl) (by simp) (.inr ⟨rfl, rfl⟩)
      · exact .junk _ h (by simp)
  · exact .nilm
  · exact .nilFunc
  · exact .nilIface
  · rename_i h1 _ _ _ _ _ _ _ _ _ _
    exact .junk _ h (fun b hb => h1 b hb)

theorem all2_map (w : World) : ∀ {l : List Value}, (∀ x, x ∈ l → x.oneCell' = true) → All2 (VRel (imgInj w)) (l.map (absV w.heap.size (maxSize w))) l
  | [], _ => .nil
  | v :: l, h => .cons (absV_rel w (h v (by simp))) (all2_map w fun x hx => h x (by simp [hx]))

theorem absArg_rel (w : World) {v : Value} (h : ∀ x, x ∈ v.cells.toList → x.oneCell' = true) : VRel (imgInj w) (absArg w.heap.size (maxSize w) v) v := by
  cases v with
  | agg c =>
    simp only [Value.cells] at h
    have := VRel.agg (m := imgInj w) _ _ (all2_map w h) h
    simpa [absArg] using this
  | tuple c => have := h (.tuple c) (by simp [Value.cells]); simp [Value.oneCell'] at this
  | _ => simp only [absArg]; exact absV_rel w (h _ (by simp [Value.cells]))

theorem mem_goodRun {c : List Value} {o : Nat} {v : Value} (h : v ∈ goodRun c o) : v.oneCell' = true := by
  unfold goodRun at h
  generalize c.drop o = l at h
  induction l with
  | nil => simp at h
  | cons x l ih =>
    simp only [List.takeWhile_cons] at h
    split at h
    · rename_i hx
      rcases List.mem_cons.1 h with rfl | h
      · exact hx
      · exact ih h
    · simp at h

theorem srel_img (w : World) : SRel w (lowK w.heap.size) (imgInj w) (imgHeap w) w := by
  refine ⟨Keep.refl _ _, fun k hk => by simpa [lowK] using hk, rfl, ?_, ?_, fun id t ht => by cases ht⟩
  · intro id o ho
    simp only [imgHeap] at ho
    split at ho
    · rename_i c e fz hb
      simp at ho; subst ho
      have hlt : id / maxSize w < w.heap.size := (Array.getElem?_eq_some_iff.1 hb).1
      refine ⟨?_, c, e, fz, hb, ?_, by simp⟩
      · refine ⟨?_, rfl⟩
        show id < w.heap.size * maxSize w + 1
        refine Nat.lt_succ_of_lt ?_
        exact (Nat.div_lt_iff_lt_mul (maxSize_pos w)).1 hlt
      · intro i x hx
        rw [List.getElem?_map, Option.map_eq_some_iff] at hx
        obtain ⟨v, hv, rfl⟩ := hx
        have hpre : goodRun c.toList (id % maxSize w) <+: c.toList.drop (id % maxSize w) := List.takeWhile_prefix _
        have hv' : (c.toList.drop (id % maxSize w))[i]? = some v := by
          obtain ⟨t, ht⟩ := hpre
          rw [← ht, List.getElem?_append_left]
          · exact hv
          · exact (List.getElem?_eq_some_iff.1 hv).1
        have hu : v.oneCell' = true := by
          have := List.mem_of_getElem? hv
          exact mem_goodRun this
        refine ⟨v, ?_, absV_rel w hu, hu⟩
        rw [List.getElem?_drop] at hv'
        simpa [imgInj] using hv'
    · simp at ho
  · intro i j o o' hi _ hown
    simp only [imgHeap] at hi
    split at hi
    · simp at hi; subst hi; simp [AObj.own] at hown
    · simp at hi

/-! ### What a typed reading says of the image -/
inductive Dat where
  | bool (b : Bool)
  | int (n : Int)
  | flt (bits : Nat)
  | str (s : List UInt8)
  | nil
  | slice (l : List Dat)
  | agg (l : List Dat)
  | other
  deriving Inhabited

def Dat.bulk : Dat → Nat
  | .str s => s.length + 1
  | .slice l => bulks l + 1
  | .agg l => bulks l + 1
  | _ => 1
where bulks : List Dat → Nat
  | [] => 0
  | d :: r => d.bulk + bulks r
abbrev bulks := Dat.bulk.bulks
mutual
def bulkW {H : Type} : DataW H → Nat
  | .lit (.string bytes) => bytes.length + 1
  | .lit _ => 1
  | .nil => 1
  | .ptr d => bulkW d + 1
  | .slice elems spare => bulkWs elems + bulkWs spare + 1
  | .agg parts => bulkWs parts + 1
  | .iface _ d => bulkW d + 1
  | .map entries => bulkWe entries + 1
  | .held _ => 1
def bulkWs {H : Type} : List (DataW H) → Nat
  | [] => 0
  | d :: r => bulkW d + bulkWs r
def bulkWe {H : Type} : List (Lit × DataW H) → Nat
  | [] => 0
  | x :: r => bulkW1 x + bulkWe r
def bulkW1 {H : Type} : Lit × DataW H → Nat
  | (.string bytes, d) => bytes.length + bulkW d + 1
  | (_, d) => bulkW d + 1
end
theorem bulkW_pos {H : Type} (d : DataW H) : 1 ≤ bulkW d := by
  cases d with
  | lit l => cases l <;> simp [bulkW]
  | _ => simp [bulkW]
theorem bulks_le {H : Type} : ∀ (l : List Dat) (k : List (DataW H)), l.length = k.length → (∀ (i : Nat) x y, l[i]? = some x → k[i]? = some y → x.bulk ≤ bulkW y) → bulks l ≤ bulkWs k
  | [], _, _, _ => Nat.zero_le _
  | x :: l, [], h, _ => by simp at h
  | x :: l, y :: k, h, hb => by
    have h1 := hb 0 x y rfl rfl
    have h2 := bulks_le l k (by simpa using h) fun i a b ha hb' => hb (i + 1) a b (by simpa using ha) (by simpa using hb')
    show x.bulk + Dat.bulk.bulks l ≤ _
    rw [bulkWs]
    have : bulks l = Dat.bulk.bulks l := rfl
    omega

def AReads (P : Program) (H : AHeap) : Nat → TypeId → List AVal → Dat → Prop
  | 0, _, _, _ => False
  | f + 1, t, cs, d =>
    match P.underlying t with
    | some .bool => ∃ b, cs = [.bool b] ∧ d = .bool b
    | some (.int k) => ∃ n, cs = [.int k n] ∧ d = .int n ∧ k.min ≤ n ∧ n ≤ k.max
    | some (.float k) => ∃ b, cs = [.flt k b] ∧ d = .flt b
    | some .string => ∃ s, cs = [.str s] ∧ d = .str s ∧ s.length ≤ reachBytes
    | some (.slice e) => (cs = [.nils] ∧ d = .nil) ∨ ∃ id cap l ds, id < H.next ∧ cs = [.slice id 0 ds.length cap none] ∧ d = .slice ds ∧ ds.length ≤ cap ∧ cap ≤ maxLen ∧ cap * P.bytesOf e ≤ reachBytes ∧ (0 < cap → H.obj id = some (.cells l false)) ∧
        cap * P.cellsOf e ≤ l.length ∧ ∀ (i : Nat) (x : Dat), ds[i]? = some x → AReads P H f e ((l.drop (i * P.cellsOf e)).take (P.cellsOf e)) x
    | some (.struct fs) => ∃ ds, d = .agg ds ∧ cs.length = P.cellsOf t ∧ ds.length = fs.size ∧ ∀ (i : Nat) (fd : Field) (x : Dat), fs[i]? = some fd → ds[i]? = some x → AReads P H f fd.type ((cs.drop fd.offset).take (P.cellsOf fd.type)) x
    | some (.array n e) => ∃ ds, d = .agg ds ∧ cs.length = P.cellsOf t ∧ ds.length = n ∧ ∀ (i : Nat) (x : Dat), ds[i]? = some x → AReads P H f e ((cs.drop (i * P.cellsOf e)).take (P.cellsOf e)) x
    | _ => d = .other

def fullB (P : Program) : Nat → TypeId → Bool
  | 0, _ => false
  | f + 1, t =>
    match P.underlying t with
    | some .bool | some (.int _) | some (.float _) | some .string | some (.pointer _) => P.cellsOf t == 1
    | some (.slice e) => P.cellsOf t == 1 && fullB P f e && 0 < P.cellsOf e
    | some (.struct fs) => (fs.all fun fd => fullB P f fd.type) && (List.range (P.cellsOf t)).all fun k => fs.any fun fd => fd.offset ≤ k && k < fd.offset + P.cellsOf fd.type
    | some (.array n e) => fullB P f e && P.cellsOf t == n * P.cellsOf e
    | _ => false

theorem mapM_some_get {α β : Type} {f : α → Option β} : ∀ {l : List α} {r : List β}, l.mapM f = some r → r.length = l.length ∧ ∀ (i : Nat) x, l[i]? = some x → ∃ y, r[i]? = some y ∧ f x = some y
  | [], r, h => by simp at h; subst h; simp
  | a :: l, r, h => by
    rw [List.mapM_cons] at h
    simp only [bind, Option.bind_eq_some_iff, pure, Option.some.injEq] at h
    obtain ⟨b, hb, r', hr, rfl⟩ := h
    obtain ⟨h1, h2⟩ := mapM_some_get hr
    refine ⟨by simp [h1], fun i x hx => ?_⟩
    cases i with
    | zero => simp at hx; subst hx; exact ⟨b, rfl, hb⟩
    | succ i => simpa using h2 i x (by simpa using hx)

theorem cells_get {w : World} {base : Nat} {a : Addr} {n : Nat} {cs : List Value} (h : w.cells? base a n = some cs) : cs.length = n ∧ ∀ i v, cs[i]? = some v → w.cell? (a.add i) = some v := by
  unfold World.cells? at h
  split at h
  · obtain ⟨h1, h2⟩ := mapM_some_get h
    simp at h1
    refine ⟨h1, fun i v hv => ?_⟩
    have hi : i < n := by
      rw [← h1]; exact (List.getElem?_eq_some_iff.1 hv).1
    obtain ⟨y, hy, hf⟩ := h2 i i (by simp [hi])
    rw [hv] at hy; simp at hy; subst hy; exact hf
  · simp at h

theorem cell_heap {w : World} {a : Addr} {v : Value} (h : w.cell? a = some v) : ∃ c e fz, w.heap[a.block]? = some (.cells c e fz) ∧ a.spot = none ∧ c[a.off]? = some v := by
  unfold World.cell? at h
  split at h
  · rename_i c e fz hb
    split at h
    · simp at h
    · rename_i hs
      exact ⟨c, e, fz, hb, by simpa using hs, h⟩
  · simp at h

theorem addr_add_add (a : Addr) (m n : Nat) : (a.add m).add n = a.add (m + n) := by
  unfold Addr.add
  by_cases hm : m = 0 <;> by_cases hn : n = 0 <;> simp [hm, hn, Nat.add_assoc]

theorem list_of {α : Type} {R : Nat → α → Prop} : ∀ (n : Nat), (∀ i, i < n → ∃ x, R i x) → ∃ l : List α, l.length = n ∧ ∀ (i : Nat) x, l[i]? = some x → R i x
  | 0, _ => ⟨[], rfl, by simp⟩
  | n + 1, h => by
    obtain ⟨l, hl, hr⟩ := list_of n fun i hi => h i (by omega)
    obtain ⟨x, hx⟩ := h n (by omega)
    refine ⟨l ++ [x], by simp [hl], fun i y hy => ?_⟩
    by_cases hi : i < n
    · rw [List.getElem?_append_left (by omega)] at hy; exact hr i y hy
    · have hin : i = n := by
        have := (List.getElem?_eq_some_iff.1 hy).1
        simp [hl] at this; omega
      subst hin
      rw [List.getElem?_append_right (by omega), hl] at hy
      simp at hy; subst hy; exact hx

section
variable {Hh : Type} {enc : TypeId × Value → Hh} {P : Program} {w : World} {spare : Nat → Bool}

theorem all_unit : ∀ (f g : Nat) (t : TypeId) (cs : List Value) (d : DataW Hh) (ps : List MemPlace), fullB P g t = true → DataW.trod enc P w 0 spare true f t cs = some (d, ps) → cs.length = P.cellsOf t ∧ ∀ x, x ∈ cs → x.oneCell' = true
  | 0, g, t, cs, d, ps, hg, h => by simp [DataW.trod] at h
  | f + 1, 0, t, cs, d, ps, hg, h => by simp [fullB] at hg
  | f + 1, g + 1, t, cs, d, ps, hg, h => by
    simp only [DataW.trod] at h
    simp only [fullB] at hg
    have one : ∀ v : Value, cs = [v] → v.oneCell' = true → (P.cellsOf t == 1) = true → cs.length = P.cellsOf t ∧ ∀ x, x ∈ cs → x.oneCell' = true := by
      intro v hv h1 hc
      subst hv
      simp at hc
      exact ⟨by simp [hc], by simp [h1]⟩
    cases hu : P.underlying t with
    | none => rw [hu] at hg; simp at hg
    | some u =>
      rw [hu] at h hg
      cases u with
      | bool => simp only at h hg; split at h <;> first | exact one _ rfl rfl hg | (simp_all; done)
      | int k => simp only at h hg; split at h <;> first | exact one _ rfl rfl hg | (simp_all; done)
      | float k => simp only at h hg; split at h <;> first | exact one _ rfl rfl hg | (simp_all; done)
      | string => simp only at h hg; split at h <;> first | exact one _ rfl rfl hg | (simp_all; done)
      | pointer e => simp only at h hg; split at h <;> first | exact one _ rfl rfl hg | (simp_all; done)
      | slice e =>
        simp only [Bool.and_eq_true] at h hg
        split at h <;> first | (exact one _ rfl rfl hg.1.1) | (simp_all; done)
      | struct fs =>
        simp only [Bool.and_eq_true] at h hg
        split at h
        · rename_i hlen
          refine ⟨hlen, fun x hx => ?_⟩
          obtain ⟨k, hk, hkx⟩ := List.getElem_of_mem hx
          simp only [Option.map_eq_some_iff] at h
          obtain ⟨xs, hxs, _⟩ := h
          obtain ⟨h1, h2⟩ := mapM_some_get hxs
          have hcov := List.all_eq_true.1 hg.2 k (List.mem_range.2 (by omega))
          rw [Array.any_eq_true'] at hcov
          obtain ⟨fd, hfd, hin⟩ := hcov
          simp only [Bool.and_eq_true, decide_eq_true_eq] at hin
          obtain ⟨i, hi, hfi⟩ := List.getElem_of_mem (Array.mem_toList_iff.2 hfd)
          obtain ⟨y, hy, hf⟩ := h2 i fd (by rw [List.getElem?_eq_getElem hi, hfi])
          have hfull : fullB P g fd.type = true := Array.all_eq_true_iff_forall_mem.1 hg.1 fd hfd
          obtain ⟨_, hall⟩ := all_unit f g fd.type _ y.1 y.2 hfull (by rw [hf])
          refine hall x ?_
          rw [List.mem_iff_getElem?]
          refine ⟨k - fd.offset, ?_⟩
          rw [List.getElem?_take, if_pos (by omega), List.getElem?_drop, show fd.offset + (k - fd.offset) = k by omega, List.getElem?_eq_getElem hk, hkx]
        · simp at h
      | array n e =>
        simp only [Bool.and_eq_true] at h hg
        split at h
        · rename_i hlen
          refine ⟨hlen, fun x hx => ?_⟩
          obtain ⟨k, hk, hkx⟩ := List.getElem_of_mem hx
          simp only [Option.map_eq_some_iff] at h
          obtain ⟨xs, hxs, _⟩ := h
          obtain ⟨h1, h2⟩ := mapM_some_get hxs
          have hn : P.cellsOf t = n * P.cellsOf e := by simpa using hg.2
          have hpos : 0 < P.cellsOf e := by
            rcases Nat.eq_zero_or_pos (P.cellsOf e) with h0 | h0
            · rw [h0] at hn; simp at hn; omega
            · exact h0
          have hkn : k / P.cellsOf e < n := (Nat.div_lt_iff_lt_mul hpos).2 (by omega)
          obtain ⟨y, hy, hf⟩ := h2 (k / P.cellsOf e) (k / P.cellsOf e) (by simp [hkn])
          obtain ⟨_, hall⟩ := all_unit f g e _ y.1 y.2 hg.1 (by rw [hf])
          refine hall x ?_
          rw [List.mem_iff_getElem?]
          refine ⟨k % P.cellsOf e, ?_⟩
          have hdm := Nat.div_add_mod k (P.cellsOf e)
          rw [Nat.mul_comm] at hdm
          rw [List.getElem?_take, if_pos (Nat.mod_lt _ hpos), List.getElem?_drop, hdm, List.getElem?_eq_getElem hk, hkx]
        · simp at h
      | _ => simp at hg

theorem img_cells {b o : Nat} {c : Array Value} {e : TypeId} {fz : Nat × Nat} (hb : w.heap[b]? = some (.cells c e fz)) (ho : o < maxSize w) : (imgHeap w).obj (b * maxSize w + o) = some (.cells ((goodRun c.toList o).map (absV w.heap.size (maxSize w))) false) := by
  simp only [imgHeap, id_div ho, id_mod ho, hb]

theorem goodRun_get {c : List Value} {o : Nat} : ∀ {n : Nat} {cs : List Value}, cs.length = n → (∀ i, i < n → c[o + i]? = cs[i]?) → (∀ x, x ∈ cs → x.oneCell' = true) → (goodRun c o).take n = cs := by
  intro n
  unfold goodRun
  induction n generalizing o with
  | zero => intro cs h _ _; have := List.eq_nil_of_length_eq_zero h; subst this; simp
  | succ n ih =>
    intro cs hl hg h1
    cases cs with
    | nil => simp at hl
    | cons x cs =>
      have h0 := hg 0 (by omega)
      simp at h0
      have ho : o < c.length := (List.getElem?_eq_some_iff.1 h0).1
      have hx : c[o] = x := by rw [List.getElem?_eq_getElem ho] at h0; simpa using h0
      rw [List.drop_eq_getElem_cons ho, hx, List.takeWhile_cons]
      have hu : isUnit x = true := h1 x (by simp)
      rw [if_pos hu, List.take_succ_cons]
      congr 1
      exact ih (o := o + 1) (by simpa using hl) (fun i hi => by have := hg (i + 1) (by omega); simpa [Nat.add_assoc, Nat.add_comm 1 i] using this) (fun y hy => h1 y (by simp [hy]))

def Weighed (P : Program) (t : TypeId) (d : DataW Hh) : Prop := ∀ n, n ∈ d.weights P t → n ≤ reachBytes

theorem weights_all {e : TypeId} : ∀ {l : List (DataW Hh)} {i : Nat} {x : DataW Hh}, l[i]? = some x → ∀ n, n ∈ x.weights P e → n ∈ DataW.weightsAll P e l
  | [], i, x, h, _, _ => by simp at h
  | d :: l, 0, x, h, n, hn => by simp at h; subst h; simp [DataW.weightsAll, hn]
  | d :: l, i + 1, x, h, n, hn => by simp [DataW.weightsAll]; exact .inr (weights_all (by simpa using h) n hn)

theorem weights_each : ∀ {ts : List TypeId} {l : List (DataW Hh)} {i : Nat} {t : TypeId} {x : DataW Hh}, ts[i]? = some t → l[i]? = some x → ∀ n, n ∈ x.weights P t → n ∈ DataW.weightsEach P ts l
  | _, _, _, _, _, h1, h2, n, hn => DataW.weights_mem_each h1 h2 n hn

theorem reads_img : ∀ (f g : Nat) (t : TypeId) (cs : List Value) (d : DataW Hh) (ps : List MemPlace), fullB P g t = true → DataW.trod enc P w 0 (fun _ => true) true f t cs = some (d, ps) → Weighed P t d →
    ∃ dat, AReads P (imgHeap w) f t (cs.map (absV w.heap.size (maxSize w))) dat ∧ dat.bulk ≤ bulkW d
  | 0, g, t, cs, d, ps, hg, h, hw => by simp [DataW.trod] at h
  | f + 1, 0, t, cs, d, ps, hg, h, hw => by simp [fullB] at hg
  | f + 1, g + 1, t, cs, d, ps, hg, h, hw => by
    have hunit := all_unit (f + 1) (g + 1) t cs d ps hg h
    have h' := h
    simp only [DataW.trod] at h
    simp only [fullB] at hg
    simp only [AReads]
    cases hu : P.underlying t with
    | none => rw [hu] at hg; simp at hg
    | some u =>
      rw [hu] at h hg
      cases u with
      | bool => simp only at h hg ⊢; split at h <;> first | (simp_all; done) | (rename_i b _; exact ⟨.bool b, ⟨b, rfl, rfl⟩, bulkW_pos d⟩) | skip
      | int k =>
        simp only at h hg ⊢
        split at h <;> first
          | (simp_all; done)
          | skip
        split at h
        · rename_i heq hk
          obtain ⟨hk1, hwf⟩ := hk
          simp at heq
          subst heq; subst hk1
          refine ⟨.int _, ⟨_, rfl, rfl, ?_⟩, bulkW_pos _⟩
          simpa [Lit.wf] using hwf
        · simp at h
      | float k =>
        simp only at h hg ⊢
        split at h <;> first
          | (simp_all; done)
          | skip
        split at h
        · rename_i heq hk
          obtain ⟨hk1, hwf⟩ := hk
          simp at heq
          subst heq; subst hk1
          exact ⟨.flt _, ⟨_, rfl, rfl⟩, bulkW_pos _⟩
        · simp at h
      | string =>
        simp only at h hg ⊢
        split at h <;> first
          | (simp_all; done)
          | skip
        split at h
        · rename_i s _ hs
          simp at h
          obtain ⟨rfl, rfl⟩ := h
          refine ⟨.str s.data.toList, ⟨s.data.toList, rfl, rfl, ?_⟩, by simp [Dat.bulk, bulkW]⟩
          exact hw _ (by simp [DataW.weights])
        · simp at h
      | pointer e => exact ⟨.other, rfl, bulkW_pos _⟩
      | slice e =>
        simp only [Bool.and_eq_true] at hg
        split at h <;> first
          | (simp_all; done)
          | exact ⟨.nil, .inl ⟨rfl, rfl⟩, bulkW_pos _⟩
          | skip
        rename_i e' a len cap heq
        simp at heq
        subst heq
        have hC : 0 < P.cellsOf e := by simpa using hg.2
        split at h
        · rename_i hlc
          obtain ⟨hlc, hcap⟩ := hlc.2
          simp only [if_true, Option.bind_eq_some_iff, Option.map_eq_some_iff] at h
          obtain ⟨elems, he, rest, hr, hd⟩ := h
          simp at hd
          obtain ⟨rfl, rfl⟩ := hd
          obtain ⟨el, ee⟩ := mapM_some_get he
          obtain ⟨rl, re⟩ := mapM_some_get hr
          simp at el rl
          have hwt : ∀ n, n ∈ DataW.weights P t (.slice (elems.map (·.1)) (rest.map (·.1))) → n ≤ reachBytes := hw
          simp only [DataW.weights, hu] at hwt
          have hb := hwt _ (List.mem_cons_self)
          simp only [List.length_map, el, rl] at hb
          rw [show len + (cap - len) = cap by omega] at hb
          have each : ∀ i, i < cap → ∃ cs' x, w.cells? 0 (a.add (i * P.cellsOf e)) (P.cellsOf e) = some cs' ∧ DataW.trod enc P w 0 (fun _ => true) true f e cs' = some x ∧ Weighed P e x.1 ∧ (i < len → elems[i]? = some x) := by
            intro i hi
            by_cases h1 : i < len
            · obtain ⟨y, hy, hf⟩ := ee i i (by simp [h1])
              simp only [Option.bind_eq_some_iff] at hf
              obtain ⟨cs', hc', ht'⟩ := hf
              refine ⟨cs', y, hc', ht', fun n hn => hwt n (List.mem_cons_of_mem _ (List.mem_append_left _ ?_)), fun _ => hy⟩
              exact weights_all (i := i) (x := y.1) (by simp [hy]) n hn
            · obtain ⟨y, hy, hf⟩ := re (i - len) (i - len) (List.getElem?_range (by omega))
              simp only [Option.bind_eq_some_iff] at hf
              obtain ⟨cs', hc', ht'⟩ := hf
              rw [show len + (i - len) = i by omega] at hc'
              refine ⟨cs', y, hc', ht', fun n hn => hwt n (List.mem_cons_of_mem _ (List.mem_append_right _ ?_)), fun h => absurd h h1⟩
              exact weights_all (i := i - len) (x := y.1) (by simp [hy]) n hn
          -- each cell of the run
          have cell : ∀ k, k < cap * P.cellsOf e → ∃ v, w.cell? (a.add k) = some v ∧ v.oneCell' = true := by
            intro k hk
            have hq : k / P.cellsOf e < cap := (Nat.div_lt_iff_lt_mul hC).2 hk
            obtain ⟨cs', x, hc', ht', _⟩ := each _ hq
            obtain ⟨hlen, hall⟩ := all_unit f g e cs' x.1 x.2 hg.1.2 ht'
            obtain ⟨_, hget⟩ := cells_get hc'
            have hm : k % P.cellsOf e < cs'.length := by rw [hlen]; exact Nat.mod_lt _ hC
            refine ⟨cs'[k % P.cellsOf e], ?_, hall _ (List.getElem_mem hm)⟩
            have := hget (k % P.cellsOf e) _ (List.getElem?_eq_getElem hm)
            rw [addr_add_add, show k / P.cellsOf e * P.cellsOf e + k % P.cellsOf e = k by rw [Nat.mul_comm]; exact Nat.div_add_mod _ _] at this
            exact this
          by_cases h0 : cap = 0
          · subst h0
            have hl0 : len = 0 := by omega
            subst hl0
            have hid : ∃ id, id < (imgHeap w).next ∧ [Value.slice (some a) 0 0].map (absV w.heap.size (maxSize w)) = [.slice id 0 0 0 none] := by
              simp only [List.map_cons, List.map_nil, absV]
              split
              · rename_i hc
                exact ⟨_, Nat.lt_succ_of_lt (id_lt hc.1 hc.2.1), rfl⟩
              · exact ⟨w.heap.size * maxSize w, Nat.lt_succ_self _, by simp⟩
            obtain ⟨id, hlt, hid⟩ := hid
            exact ⟨.slice [], .inr ⟨id, 0, [], [], hlt, hid, rfl, by simp, by simp, by simp, by simp, by simp, by simp⟩, by simp [Dat.bulk, Dat.bulk.bulks, bulkW]⟩
          · have hn : 0 < cap * P.cellsOf e := Nat.mul_pos (by omega) hC
            obtain ⟨v0, hv0, _⟩ := cell 0 hn
            obtain ⟨c, et, fz, hheap, hspot, hoff⟩ := cell_heap hv0
            simp only [Addr.add, if_true] at hheap hspot hoff
            have hM := maxSize_lt hheap
            have hoM : a.off < maxSize w := by
              have := (Array.getElem?_eq_some_iff.1 hoff).1
              omega
            have hbn : a.block < w.heap.size := (Array.getElem?_eq_some_iff.1 hheap).1
            have hid : [Value.slice (some a) len cap].map (absV w.heap.size (maxSize w)) = [.slice (a.block * maxSize w + a.off) 0 len cap none] := by
              simp only [List.map_cons, List.map_nil, absV]
              rw [if_pos ⟨hbn, hoM, hlc, hspot⟩]
            have hat : ∀ k, k < cap * P.cellsOf e → ∃ v, c[a.off + k]? = some v ∧ v.oneCell' = true := by
              intro k hk
              obtain ⟨v, hv, h1⟩ := cell k hk
              obtain ⟨c', et', fz', hheap', _, hoff'⟩ := cell_heap hv
              have hblk : (a.add k).block = a.block := by unfold Addr.add; split <;> rfl
              have hof : (a.add k).off = a.off + k := by unfold Addr.add; split <;> simp_all
              rw [hblk, hheap] at hheap'
              simp at hheap'
              rw [hof, ← hheap'.1] at hoff'
              exact ⟨v, hoff', h1⟩
            have hsz : a.off + cap * P.cellsOf e ≤ c.size := by
              obtain ⟨v, hv, _⟩ := hat (cap * P.cellsOf e - 1) (by omega)
              have := (Array.getElem?_eq_some_iff.1 hv).1
              omega
            have hrun : (goodRun c.toList a.off).take (cap * P.cellsOf e) = (c.toList.drop a.off).take (cap * P.cellsOf e) := by
              refine goodRun_get (by simp; omega) (fun i hi => ?_) (fun x hx => ?_)
              · rw [List.getElem?_take, if_pos hi, List.getElem?_drop]
              · obtain ⟨k, hk⟩ := List.mem_iff_getElem?.1 hx
                rw [List.getElem?_take] at hk
                split at hk
                · rename_i hkn
                  rw [List.getElem?_drop] at hk
                  obtain ⟨v, hv, h1⟩ := hat k hkn
                  have : some v = some x := by rw [← hv, ← hk]; simp
                  simp at this; subst this; exact h1
                · simp at hk
            have hobj := img_cells hheap hoM
            have hlong : cap * P.cellsOf e ≤ (goodRun c.toList a.off).length := by
              have := congrArg List.length hrun
              simp at this
              omega
            -- the data of each element
            have dats : ∀ i, i < len → ∃ x, AReads P (imgHeap w) f e ((((goodRun c.toList a.off).map (absV w.heap.size (maxSize w))).drop (i * P.cellsOf e)).take (P.cellsOf e)) x ∧ ∀ y, elems[i]? = some y → x.bulk ≤ bulkW y.1 := by
              intro i hi
              obtain ⟨cs', x, hc', ht', hwx, hex⟩ := each i (by omega)
              obtain ⟨y, hy, hyb⟩ := reads_img f g e cs' x.1 x.2 hg.1.2 ht' hwx
              refine ⟨y, ?_, fun z hz => by rw [hex hi] at hz; cases hz; exact hyb⟩
              obtain ⟨hcl, hget⟩ := cells_get hc'
              have hmul : (i + 1) * P.cellsOf e ≤ cap * P.cellsOf e := Nat.mul_le_mul_right _ (by omega)
              rw [Nat.add_mul, Nat.one_mul] at hmul
              have : ((goodRun c.toList a.off).drop (i * P.cellsOf e)).take (P.cellsOf e) = cs' := by
                apply List.ext_getElem?
                intro k
                by_cases hk : k < P.cellsOf e
                · rw [List.getElem?_take, if_pos hk, List.getElem?_drop]
                  have h1 : (goodRun c.toList a.off)[i * P.cellsOf e + k]? = c.toList[a.off + (i * P.cellsOf e + k)]? := by
                    have := congrArg (·[i * P.cellsOf e + k]?) hrun
                    simp only [List.getElem?_take, List.getElem?_drop] at this
                    rw [if_pos (by omega), if_pos (by omega)] at this
                    exact this
                  have hkl : k < cs'.length := by omega
                  have h2 := hget k _ (List.getElem?_eq_getElem hkl)
                  rw [addr_add_add] at h2
                  obtain ⟨c', et', fz', hheap', _, hoff'⟩ := cell_heap h2
                  have hblk : (a.add (i * P.cellsOf e + k)).block = a.block := by unfold Addr.add; split <;> rfl
                  have hof : (a.add (i * P.cellsOf e + k)).off = a.off + (i * P.cellsOf e + k) := by unfold Addr.add; split <;> simp_all
                  rw [hblk, hheap] at hheap'
                  simp at hheap'
                  rw [hof, ← hheap'.1] at hoff'
                  rw [h1, List.getElem?_eq_getElem hkl, ← hoff']
                  simp
                · rw [List.getElem?_eq_none (by simp; omega), List.getElem?_eq_none (by omega)]
              rw [← List.map_drop, ← List.map_take, this]
              exact hy
            obtain ⟨ds, hdl, hds⟩ := list_of len dats
            refine ⟨.slice ds, .inr ⟨_, cap, _, ds, Nat.lt_succ_of_lt (id_lt hbn hoM), by rw [hdl]; exact hid, rfl, by omega, hcap, hb, fun _ => hobj, by simpa using hlong, fun i x hx => ?_⟩, ?_⟩
            · exact (hds i x hx).1
            · have := bulks_le ds (elems.map (·.1)) (by rw [hdl, List.length_map, el]) (fun i x y hx hy => by
                rw [List.getElem?_map, Option.map_eq_some_iff] at hy
                obtain ⟨z, hz, rfl⟩ := hy
                exact (hds i x hx).2 z hz)
              simp only [Dat.bulk, bulkW]
              have e : bulks ds = Dat.bulk.bulks ds := rfl
              omega
        · simp at h
      | struct fs =>
        simp only [Bool.and_eq_true] at hg
        obtain ⟨xs, m, hm, hd, hlen, hxl, hxs⟩ := DataW.trod_struct hu h'
        simp at hm hd
        subst hm
        obtain ⟨rfl, rfl⟩ := hd
        simp only [Weighed, DataW.weights, hu] at hw
        have dats : ∀ i, i < fs.size → ∃ x, ∀ fd, (fs[i]? = some fd → AReads P (imgHeap w) f fd.type (((cs.map (absV w.heap.size (maxSize w))).drop fd.offset).take (P.cellsOf fd.type)) x) ∧ ∀ y, xs[i]? = some y → x.bulk ≤ bulkW y.1 := by
          intro i hi
          have hxi : i < xs.length := by omega
          have hf := hxs i fs[i] (by simp [hi])
          rw [List.getElem?_eq_getElem hxi] at hf
          obtain ⟨z, hz, hzb⟩ := reads_img f g fs[i].type _ xs[i].1 xs[i].2 (Array.all_eq_true_iff_forall_mem.1 hg.1 fs[i] (Array.getElem_mem hi)) hf (fun n hn => hw n (weights_each (i := i) (by simp [hi]) (by simp [hxi]) n hn))
          refine ⟨z, fun fd => ⟨fun hfd => ?_, fun y hy => by rw [List.getElem?_eq_getElem hxi] at hy; cases hy; exact hzb⟩⟩
          rw [Array.getElem?_eq_getElem hi] at hfd
          simp at hfd; subst hfd
          rw [← List.map_drop, ← List.map_take]
          exact hz
        obtain ⟨ds, hdl, hds⟩ := list_of fs.size dats
        refine ⟨.agg ds, ⟨ds, rfl, by simpa using hlen, hdl, fun i fd x h1 h2 => (hds i x h2 fd).1 h1⟩, ?_⟩
        have := bulks_le ds (xs.map (·.1)) (by rw [hdl, List.length_map, hxl]) (fun i x y hx hy => by
          rw [List.getElem?_map, Option.map_eq_some_iff] at hy
          obtain ⟨z, hz, rfl⟩ := hy
          have hi : i < fs.size := by have := (List.getElem?_eq_some_iff.1 hx).1; omega
          exact (hds i x hx fs[i]).2 z hz)
        simp only [Dat.bulk, bulkW]
        have e : bulks ds = Dat.bulk.bulks ds := rfl
        omega
      | array n e =>
        simp only [Bool.and_eq_true] at hg
        obtain ⟨xs, m, hm, hd, hlen, hxl, hxs⟩ := DataW.trod_array hu h'
        simp at hm hd
        subst hm
        obtain ⟨rfl, rfl⟩ := hd
        simp only [Weighed, DataW.weights, hu] at hw
        have dats : ∀ i, i < n → ∃ x, AReads P (imgHeap w) f e (((cs.map (absV w.heap.size (maxSize w))).drop (i * P.cellsOf e)).take (P.cellsOf e)) x ∧ ∀ y, xs[i]? = some y → x.bulk ≤ bulkW y.1 := by
          intro i hi
          have hxi : i < xs.length := by omega
          have hf := hxs i hi
          rw [List.getElem?_eq_getElem hxi] at hf
          obtain ⟨z, hz, hzb⟩ := reads_img f g e _ xs[i].1 xs[i].2 hg.1 hf (fun m hm => hw m (weights_all (i := i) (x := xs[i].1) (by simp [hxi]) m hm))
          refine ⟨z, ?_, fun y hy => by rw [List.getElem?_eq_getElem hxi] at hy; cases hy; exact hzb⟩
          rw [← List.map_drop, ← List.map_take]
          exact hz
        obtain ⟨ds, hdl, hds⟩ := list_of n dats
        refine ⟨.agg ds, ⟨ds, rfl, by simpa using hlen, hdl, fun i x h2 => (hds i x h2).1⟩, ?_⟩
        have := bulks_le ds (xs.map (·.1)) (by rw [hdl, List.length_map, hxl]) (fun i x y hx hy => by
          rw [List.getElem?_map, Option.map_eq_some_iff] at hy
          obtain ⟨z, hz, rfl⟩ := hy
          exact (hds i x hx).2 z hz)
        simp only [Dat.bulk, bulkW]
        have e : bulks ds = Dat.bulk.bulks ds := rfl
        omega
      | _ => simp at hg

end
end Go.Proofs.Ytfmjdlahabgkpaa.Am
end

section
/- A law's row from a run of the abstract machine: whatever the arguments read as, the machine answers true: so the row's form holds. -/
set_option linter.unusedSimpArgs false
set_option linter.unusedVariables false
namespace Go.Proofs.Ytfmjdlahabgkpaa.Am
open Go Go.RowKit Go.ChangeShapes

def AArg (P : Program) (H : AHeap) (t : TypeId) (v : AVal) (d : Dat) : Prop :=
  ∃ fuel cs, AReads P H fuel t cs d ∧ (match P.underlying t with | some (.struct _) | some (.array _ _) => v = .agg cs | _ => cs = [v])

def AArgs (P : Program) (H : AHeap) : List TypeId → List AVal → List Dat → Prop
  | [], [], [] => True
  | t :: ts, v :: vs, d :: ds => AArg P H t v d ∧ AArgs P H ts vs ds
  | _, _, _ => False

section
variable {Hh : Type} {enc : TypeId × Value → Hh} {P : Program}

theorem cell_agg {w : World} {r : Reach} {b : Nat} {t : TypeId} {c : Array Value} : ¬ Cell.okWide P w r b t (.agg c) := by
  unfold Cell.okWide
  split <;> simp_all [Cell.ok]

theorem cell_tuple {w : World} {r : Reach} {b : Nat} {t : TypeId} {c : Array Value} : ¬ Cell.okWide P w r b t (.tuple c) := by
  unfold Cell.okWide
  split <;> simp_all [Cell.ok]

theorem arg_img {w : World} {r : Reach} {b : Nat} {t : TypeId} {v : Value} {d : DataW Hh} {ps : List MemPlace} (hok : Value.okWide P w r b t v) (hg : fullB P 99 t = true)
    (h : DataW.Trod enc P w 0 (fun _ => true) true t v d ps) (hw : Weighed P t d) :
    (∃ dat, AArg P (imgHeap w) t (absArg w.heap.size (maxSize w) v) dat ∧ dat.bulk ≤ bulkW d) ∧ VRel (imgInj w) (absArg w.heap.size (maxSize w) v) v := by
  obtain ⟨fuel, h⟩ := h
  refine ⟨?_, absArg_rel w (all_unit fuel 99 t _ d ps hg h).2⟩
  obtain ⟨dat, hd, hdb⟩ := reads_img fuel 99 t _ d ps hg h hw
  refine ⟨dat, ⟨fuel, _, hd, ?_⟩, hdb⟩
  unfold Value.okWide at hok
  split at hok
  · obtain ⟨cs, rfl, k1, k2⟩ := hok
    rename_i heq
    rw [heq]
    rfl
  · obtain ⟨cs, rfl, k1, k2⟩ := hok
    rename_i heq
    rw [heq]
    rfl
  · rename_i hs ha
    have : (v.cells.toList.map (absV w.heap.size (maxSize w))) = [absArg w.heap.size (maxSize w) v] := by
      cases v with
      | agg c => exact absurd hok cell_agg
      | tuple c => exact absurd hok cell_tuple
      | _ => rfl
    split
    · rename_i hu; exact absurd hu (hs _)
    · rename_i hu; exact absurd hu (ha _ _)
    · exact this

theorem args_img {w : World} {r : Reach} {b : Nat} : ∀ {ts : List TypeId} {vs : List Value} {ds : List (DataW Hh)} {ps : List MemPlace},
    (∀ (j : Nat) t v, ts[j]? = some t → vs[j]? = some v → Value.okWide P w r b t v) → ts.all (fullB P 99) = true →
    DataW.TrodAll enc P w 0 (fun _ => true) true ts vs ds ps → (∀ n, n ∈ DataW.weightsEach P ts ds → n ≤ reachBytes) →
    (∃ dats, AArgs P (imgHeap w) ts (vs.map (absArg w.heap.size (maxSize w))) dats ∧ bulks dats ≤ bulkWs ds) ∧ All2 (VRel (imgInj w)) (vs.map (absArg w.heap.size (maxSize w))) vs
  | [], vs, ds, ps, hok, hg, h, hw => by
    obtain ⟨rfl, rfl, rfl⟩ := trodAll_nil h
    exact ⟨⟨[], trivial, Nat.zero_le _⟩, .nil⟩
  | t :: ts, vs, ds, ps, hok, hg, h, hw => by
    obtain ⟨v, vs', d, ds', p, q, rfl, rfl, rfl, h1, h2⟩ := trodAll_cons h
    simp only [List.all_cons, Bool.and_eq_true] at hg
    simp only [DataW.weightsEach, List.mem_append] at hw
    obtain ⟨⟨dat, hd, hdb⟩, hv⟩ := arg_img (hok 0 t v rfl rfl) hg.1 h1 (fun n hn => hw n (.inl hn))
    obtain ⟨⟨dats, hds, hdsb⟩, hvs⟩ := args_img (fun j t v ht hv => hok (j + 1) t v (by simpa using ht) (by simpa using hv)) hg.2 h2 (fun n hn => hw n (.inr hn))
    refine ⟨⟨dat :: dats, ⟨hd, hds⟩, ?_⟩, .cons hv hvs⟩
    show dat.bulk + Dat.bulk.bulks dats ≤ _
    rw [bulkWs]
    have e : bulks dats = Dat.bulk.bulks dats := rfl
    omega

theorem trodAll_stays (hl : laidOutB P = true) {W W' : World} (hb : Below W.heap.size W W') : ∀ {ts : List TypeId} {vs : List Value} {ds : List (DataW Hh)} {ps : List MemPlace},
    (ts.all fun t => P.readableRec t && decide (t < P.types.size)) = true → (∀ x ∈ ps, x.block < W.heap.size) →
    DataW.TrodAll enc P W 0 (fun _ => true) true ts vs ds ps → DataW.TrodAll enc P W' 0 (fun b => decide (b < W.heap.size)) true ts vs ds ps
  | [], vs, ds, ps, _, _, h => by
    obtain ⟨rfl, rfl, rfl⟩ := trodAll_nil h
    rfl
  | t :: ts, vs, ds, ps, hg, hlt, h => by
    obtain ⟨v, vs', d, ds', p, q, rfl, rfl, rfl, h1, h2⟩ := trodAll_cons h
    simp only [List.all_cons, Bool.and_eq_true, decide_eq_true_eq] at hg
    exact ⟨p, q, Below.trod hl hg.1.1 hg.1.2 h1 hb (fun x hx => hlt x (by simp [hx])), trodAll_stays hl hb hg.2 (fun x hx => hlt x (by simp [hx])) h2, rfl⟩

theorem trodAll_len {W : World} {b : Nat} {sp : Nat → Bool} {hd : Bool} : ∀ {ts : List TypeId} {vs : List Value} {ds : List (DataW Hh)} {ps : List MemPlace}, DataW.TrodAll enc P W b sp hd ts vs ds ps → ds.length = ts.length
  | [], vs, ds, ps, h => by
    obtain ⟨rfl, rfl, rfl⟩ := trodAll_nil h
    rfl
  | t :: ts, vs, ds, ps, h => by
    obtain ⟨v, vs', d, ds', p, q, rfl, rfl, rfl, h1, h2⟩ := trodAll_cons h
    simp [trodAll_len h2]

end

theorem contract_of {Hh : Type} {enc : TypeId × Value → Hh} {C : Checked} {f : FuncId} {fn : Func} {s : ChangeSpec}
    {tb : TypeId} (hres : fn.resultTypes = #[tb]) (htb : C.prog.underlying tb = some .bool) (hvars : s.vars = [])
    (hs : ∀ ds : List (DataW Hh), ds.length = fn.params.toList.length → s.fn Hh ds = { results := [.lit (.bool true)], args := ds })
    (laid : laidOutB C.prog = true) (hfull : fn.params.toList.all (fullB C.prog 99) = true)
    (hread : (fn.params.toList.all fun t => C.prog.readableRec t && decide (t < C.prog.types.size)) = true)
    (A : AProg) (hA : ∀ w0 B, Sound C.prog w0 B A) {Q : Nat → Prop}
    (run : ∀ (H : AHeap) (args : List AVal) (dats : List Dat), AArgs C.prog H fn.params.toList args dats → Q (bulks dats) → ∃ k H', acall A k f args H = some (.bool true, H'))
    {W : World} {base : Nat} {args : Array Value} {ds gs : List (DataW Hh)} {before : List MemPlace}
    (hval : ∀ (j : Nat) t v, fn.params[j]? = some t → args[j]? = some v → Value.okWide C.prog W .any base t v)
    (hW : DataW.Whole enc C.prog fn.params.toList s.vars false W args.toList ds gs before)
    (hw : ∀ n, n ∈ DataW.weightsEach C.prog fn.params.toList ds → n ≤ reachBytes) (hQ : ∀ n, n ≤ bulkWs ds → Q n) :
    Calls C.prog f args W fun e W' => ∃ v, e = .returned v ∧ s.post enc C.prog fn false true false false W args v W' := by
  have hW' := hW
  have hlt := hW.lt
  obtain ⟨p, q, hA0, hV, hpq, hfz, hnd⟩ := hW
  rw [hvars] at hV
  obtain ⟨rfl, rfl⟩ := trodVars_none hV
  simp only [List.append_nil] at hpq
  have hA1 := hpq ▸ hA0
  obtain ⟨⟨dats, hd, hdb⟩, hrel⟩ := args_img (P := C.prog) (w := W) (r := .any) (b := base) (ts := fn.params.toList) (vs := args.toList) (fun j t v ht hv => hval j t v (by simpa using ht) (by simpa using hv)) hfull hA0 hw
  obtain ⟨k, H', hk⟩ := run _ _ _ hd (hQ _ hdb)
  obtain ⟨_, _, hcall⟩ := sound_call k W (lowK W.heap.size) hA _ _ _ _ _ hk
  have hc := hcall _ _ _ (fun _ => rfl) (srel_img W) hrel
  simp only [Array.toArray_toList] at hc
  refine hc.mono fun e W' ⟨v', m', he, _, hS, hv⟩ => ?_
  subst he
  cases hv
  have hlen : ds.length = fn.params.toList.length := trodAll_len hA0
  refine ⟨_, rfl, ds, [], before, [], before, [], hW', ?_, ?_, ?_, hS.below.below.frame _, fun h => by cases h⟩
  · simp only [List.append_nil, hs ds hlen, hres]
    exact trodAll_mk1 ⟨1, by simp [DataW.trod, Value.cells, Value.resultList, htb]⟩
  · simp only [List.append_nil, hs ds hlen]
    exact trodAll_stays laid hS.below.below hread hlt hA1
  · simp only [List.append_nil, hs ds hlen, hvars]
    rfl

theorem lifted {Hh : Type} {enc : TypeId × Value → Hh} {C : Checked} {os : Os} {f : FuncId} {fn : Func} {s : ChangeSpec} {conds : List PathCond}
    (own : ownKnob C.prog.godebug = none) (started : os.Started) (noInit : C.prog.inits.idxOf? f = none) (hfn : C.prog.funcs[f]? = some fn)
    (witness : ∃ (w : World) (tape : Tape) (i : Input), w.os = os ∧ (w.forCall tape i).Shaped C.prog ∧ i.vars = [] ∧ Input.okWide C.prog (w.forCall tape i) .any w.heap.size f i ∧
      s.pre6 enc C.prog fn conds false (w.forCall tape i).memory i.args ∧ ({} : Assume).holds C.prog (lone (Frame.enter C.prog f i.args .normal) [] (w.forCall tape i)))
    {tb : TypeId} (hres : fn.resultTypes = #[tb]) (htb : C.prog.underlying tb = some .bool) (hvars : s.vars = [])
    (hs : ∀ ds : List (DataW Hh), ds.length = fn.params.toList.length → s.fn Hh ds = { results := [.lit (.bool true)], args := ds })
    (laid : laidOutB C.prog = true) (hfull : fn.params.toList.all (fullB C.prog 99) = true)
    (hread : (fn.params.toList.all fun t => C.prog.readableRec t && decide (t < C.prog.types.size)) = true)
    (A : AProg) (hA : ∀ w0 B, Sound C.prog w0 B A)
    (run : ∀ (H : AHeap) (args : List AVal) (dats : List Dat), AArgs C.prog H fn.params.toList args dats → ∃ k H', acall A k f args H = some (.bool true, H')) :
    ReturnsInHanded {} C os f .any (s.pre6 enc C.prog fn conds false) (s.post enc C.prog fn false true false false) := by
  refine returnsInHanded_of_change_sized own started noInit hfn witness ?_
  intro W base args ds gs before hval hW hcnd hsz _
  have hw : ∀ n, n ∈ DataW.weightsEach C.prog fn.params.toList ds → n ≤ reachBytes := by
    have hpt : s.plain.varTypes C.prog = [] := by simp [ChangeSpec.plain, DataSpec.varTypes, hvars]
    obtain ⟨p, q, hA0, hV, hpq, hfz, hnd⟩ := hW
    rw [hvars] at hV
    obtain ⟨rfl, rfl⟩ := trodVars_none hV
    rw [hpt] at hsz
    simp only [List.append_nil] at hsz
    intro n hn
    simpa using List.all_eq_true.1 hsz n hn
  exact contract_of hres htb hvars hs laid hfull hread A hA (Q := fun _ => True) (fun H args dats h _ => run H args dats h) hval hW hw (fun _ _ => trivial)

end Go.Proofs.Ytfmjdlahabgkpaa.Am
end

section
/- The abstract machine's runs without a bound: what a call answers, if any bound suffices; and the equations by which a run is followed. -/
set_option linter.unusedSimpArgs false
set_option linter.unusedVariables false
namespace Go.Proofs.Ytfmjdlahabgkpaa.Am
open Go

def CLe (c d : ACall) : Prop := ∀ f args H r, c f args H = some r → d f args H = some r

theorem CLe.refl (c : ACall) : CLe c c := fun _ _ _ _ h => h
theorem CLe.trans {a b c : ACall} (h : CLe a b) (k : CLe b c) : CLe a c := fun f x H r e => k f x H r (h f x H r e)

theorem ado_mono {c d : ACall} (hc : CLe c d) {o : AOp} {ρ : AOpd → AVal} {H : AHeap} {r : AVal × AHeap} (h : ado c o ρ H = some r) : ado d o ρ H = some r := by
  cases o <;> first | exact h | skip
  simp only [ado] at h ⊢
  split at h
  · exact hc _ _ _ _ h
  · simp at h

theorem aops_mono {c d : ACall} (hc : CLe c d) : ∀ {l : List AOper} {env : Env} {H : AHeap} {r : Env × AHeap}, aops c l env H = some r → aops d l env H = some r
  | [], env, H, r, h => h
  | o :: l, env, H, r, h => by
    simp only [aops] at h ⊢
    split at h
    · rename_i hg
      rw [if_pos hg]
      simp only [Option.bind_eq_some_iff] at h ⊢
      obtain ⟨x, hx, hr⟩ := h
      exact ⟨x, ado_mono hc hx, aops_mono hc hr⟩
    · rename_i hg
      rw [if_neg hg]
      exact aops_mono hc h

theorem adraw_mono {c d : ACall} (hc : CLe c d) : ∀ {l : List AOper} {env : Env} {H : AHeap} {st : List AHeap} {rs : List ARead} {r : Env × AHeap}, adraw c l env H st rs = some r → adraw d l env H st rs = some r
  | [], env, H, st, rs, r, h => h
  | o :: l, env, H, st, rs, r, h => by
    simp only [adraw] at h ⊢
    split at h
    · rename_i hg
      rw [if_pos hg]
      simp only [Option.bind_eq_some_iff] at h ⊢
      obtain ⟨x, hx, hr⟩ := h
      exact ⟨x, ado_mono hc hx, adraw_mono hc hr⟩
    · rename_i hg
      rw [if_neg hg]
      exact adraw_mono hc h

theorem aiter_mono {f g : ARun} (hf : ∀ env H r, f env H = some r → g env H = some r) : ∀ {n m : Nat} {env : Env} {H : AHeap} {r : AExit × Env × AHeap}, n ≤ m → aiter f n env H = some r → aiter g m env H = some r
  | 0, m, env, H, r, _, h => by simp [aiter] at h
  | n + 1, 0, env, H, r, hm, h => by omega
  | n + 1, m + 1, env, H, r, hm, h => by
    simp only [aiter, Option.bind_eq_some_iff] at h ⊢
    obtain ⟨x, hx, hr⟩ := h
    refine ⟨x, hf _ _ _ hx, ?_⟩
    obtain ⟨e, env1, H1⟩ := x
    cases e
    · exact aiter_mono hf (by omega) hr
    · exact hr
    · exact hr

/-! ### Ranges over functions -/
def YLe (y z : AYield) : Prop := ∀ st args H r, y st args H = some r → z st args H = some r

theorem ady_mono {c d : ACall} (hc : CLe c d) {y z : AYield} (hy : YLe y z) {tok : Nat} {o : AOp} {ρ : AOpd → AVal} {st : APend} {H : AHeap} {r : AVal × APend × AHeap} (h : ady c tok y o ρ st H = some r) : ady d tok z o ρ st H = some r := by
  cases o <;> first | exact h | skip
  rename_i f args
  simp only [ady] at h ⊢
  generalize ρ f = v at h ⊢
  cases v with
  | yield id =>
    simp only at h ⊢
    split at h
    · rename_i e
      rw [if_pos e]
      simp only [Option.map_eq_some_iff] at h ⊢
      obtain ⟨x, hx, rfl⟩ := h
      exact ⟨x, hy _ _ _ _ hx, rfl⟩
    · cases h
  | func g a b =>
    simp only [Option.map_eq_some_iff] at h ⊢
    obtain ⟨x, hx, rfl⟩ := h
    exact ⟨x, hc _ _ _ _ hx, rfl⟩
  | _ => cases h

theorem aopsY_mono {c d : ACall} (hc : CLe c d) {y z : AYield} (hy : YLe y z) {tok : Nat} : ∀ {l : List AOper} {st : APend} {env : Env} {H : AHeap} {r : APend × Env × AHeap}, aopsY c tok y l st env H = some r → aopsY d tok z l st env H = some r
  | [], st, env, H, r, h => h
  | o :: l, st, env, H, r, h => by
    simp only [aopsY] at h ⊢
    split at h
    · rename_i hg
      rw [if_pos hg]
      simp only [Option.bind_eq_some_iff] at h ⊢
      obtain ⟨x, hx, hr⟩ := h
      exact ⟨x, ady_mono hc hy hx, aopsY_mono hc hy hr⟩
    · rename_i hg
      rw [if_neg hg]
      exact aopsY_mono hc hy h

theorem aiterY_mono {f g : ARunY} (hf : ∀ st env H r, f st env H = some r → g st env H = some r) : ∀ {n m : Nat} {st : APend} {env : Env} {H : AHeap} {r : AExit × APend × Env × AHeap}, n ≤ m → aiterY f n st env H = some r → aiterY g m st env H = some r
  | 0, m, st, env, H, r, _, h => by simp [aiterY] at h
  | n + 1, 0, st, env, H, r, hm, h => by omega
  | n + 1, m + 1, st, env, H, r, hm, h => by
    simp only [aiterY, Option.bind_eq_some_iff] at h ⊢
    obtain ⟨x, hx, hr⟩ := h
    refine ⟨x, hf _ _ _ _ hx, ?_⟩
    obtain ⟨e, st1, env1, H1⟩ := x
    cases e
    · exact aiterY_mono hf (by omega) hr
    · exact hr
    · exact hr

theorem aexecY_mono {c d : ACall} (hc : CLe c d) {y z : AYield} (hy : YLe y z) {tok n m : Nat} (hm : n ≤ m) : ∀ (a : ACode) {st : APend} {env : Env} {H : AHeap} {r : AExit × APend × Env × AHeap}, aexecY c tok y n a st env H = some r → aexecY d tok z m a st env H = some r
  | .skip, st, env, H, r, h => h
  | .region ops, st, env, H, r, h => by
    simp only [aexecY, Option.map_eq_some_iff] at h ⊢
    obtain ⟨x, hx, rfl⟩ := h
    exact ⟨x, aopsY_mono hc hy hx, rfl⟩
  | .draw ops, st, env, H, r, h => by
    simp only [aexecY, Option.map_eq_some_iff] at h ⊢
    obtain ⟨x, hx, rfl⟩ := h
    exact ⟨x, adraw_mono hc hx, rfl⟩
  | .seq a b, st, env, H, r, h => by
    simp only [aexecY, Option.bind_eq_some_iff] at h ⊢
    obtain ⟨x, hx, hr⟩ := h
    refine ⟨x, aexecY_mono hc hy hm a hx, ?_⟩
    obtain ⟨e, st1, env1, H1⟩ := x
    cases e
    · exact aexecY_mono hc hy hm b hr
    · exact hr
    · exact hr
  | .cond x a b, st, env, H, r, h => by
    simp only [aexecY] at h ⊢
    split at h
    · rename_i t ht
      cases t
      · exact aexecY_mono hc hy hm b h
      · exact aexecY_mono hc hy hm a h
    · simp at h
  | .block id a, st, env, H, r, h => by
    simp only [aexecY, Option.map_eq_some_iff] at h ⊢
    obtain ⟨x, hx, hr⟩ := h
    exact ⟨x, aexecY_mono hc hy hm a hx, hr⟩
  | .loop a, st, env, H, r, h => by
    simp only [aexecY] at h ⊢
    exact aiterY_mono (fun st env H r h => aexecY_mono hc hy hm a h) hm h
  | .exit id, st, env, H, r, h => h
  | .ret, st, env, H, r, h => h
  | .range .., st, env, H, r, h => h

theorem ayield_mono {fa fb ga gb : ARun} (ha : ∀ env H r, fa env H = some r → ga env H = some r) (hb : ∀ env H r, fb env H = some r → gb env H = some r) {ps : List Nat} {env : Env} : YLe (ayield fa fb ps env) (ayield ga gb ps env) := by
  intro st args H r h
  simp only [ayield] at h ⊢
  split at h
  · rename_i hc
    rw [if_pos hc]
    simp only [Option.bind_eq_some_iff] at h ⊢
    obtain ⟨⟨e, env1, H1⟩, h1, h2⟩ := h
    refine ⟨_, ha _ _ _ h1, ?_⟩
    cases e with
    | normal =>
      simp only [Option.map_eq_some_iff] at h2 ⊢
      obtain ⟨x, hx, h3⟩ := h2
      exact ⟨x, hb _ _ _ hx, h3⟩
    | _ => cases h2
  · cases h

theorem arange_mono {c d : ACall} (hc : CLe c d) {it : FuncId → Option AFn} {n m : Nat} (hm : n ≤ m) {fa fb ga gb : ARun} (ha : ∀ env H r, fa env H = some r → ga env H = some r) (hb : ∀ env H r, fb env H = some r → gb env H = some r)
    {ps : List Nat} {env : Env} {H : AHeap} {v : AVal} {r : AExit × Env × AHeap} (h : arange c it n fa fb ps env H v = some r) : arange d it m ga gb ps env H v = some r := by
  unfold arange at h ⊢
  split at h
  · simp only [Option.bind_eq_some_iff] at h ⊢
    obtain ⟨fn, hfn, h⟩ := h
    refine ⟨fn, hfn, ?_⟩
    split at h
    · rename_i hr
      rw [if_pos hr]
      simp only [Option.bind_eq_some_iff] at h ⊢
      obtain ⟨x, hx, h⟩ := h
      exact ⟨x, aexecY_mono hc (ayield_mono ha hb) hm _ hx, h⟩
    · cases h
  · cases h

theorem aexec_mono {c d : ACall} (hc : CLe c d) {it : FuncId → Option AFn} {n m : Nat} (hm : n ≤ m) : ∀ (a : ACode) {env : Env} {H : AHeap} {r : AExit × Env × AHeap}, aexec c it n a env H = some r → aexec d it m a env H = some r
  | .skip, env, H, r, h => h
  | .region ops, env, H, r, h => by
    simp only [aexec, Option.map_eq_some_iff] at h ⊢
    obtain ⟨x, hx, rfl⟩ := h
    exact ⟨x, aops_mono hc hx, rfl⟩
  | .draw ops, env, H, r, h => by
    simp only [aexec, Option.map_eq_some_iff] at h ⊢
    obtain ⟨x, hx, rfl⟩ := h
    exact ⟨x, adraw_mono hc hx, rfl⟩
  | .seq a b, env, H, r, h => by
    simp only [aexec, Option.bind_eq_some_iff] at h ⊢
    obtain ⟨x, hx, hr⟩ := h
    refine ⟨x, aexec_mono hc hm a hx, ?_⟩
    obtain ⟨e, env1, H1⟩ := x
    cases e
    · exact aexec_mono hc hm b hr
    · exact hr
    · exact hr
  | .cond x a b, env, H, r, h => by
    simp only [aexec] at h ⊢
    split at h
    · rename_i t ht
      cases t
      · exact aexec_mono hc hm b h
      · exact aexec_mono hc hm a h
    · simp at h
  | .block id a, env, H, r, h => by
    simp only [aexec, Option.map_eq_some_iff] at h ⊢
    obtain ⟨x, hx, hr⟩ := h
    exact ⟨x, aexec_mono hc hm a hx, hr⟩
  | .loop a, env, H, r, h => by
    simp only [aexec] at h ⊢
    exact aiter_mono (fun env H r h => aexec_mono hc hm a h) hm h
  | .exit id, env, H, r, h => h
  | .ret, env, H, r, h => h
  | .range f ps a b, env, H, r, h => by
    simp only [aexec] at h ⊢
    exact arange_mono hc hm (fun _ _ _ h => aexec_mono hc hm a h) (fun _ _ _ h => aexec_mono hc hm b h) h

theorem arun_mono {c d : ACall} (hc : CLe c d) {it : FuncId → Option AFn} {n m : Nat} (hm : n ≤ m) {x : Option AFn} {args : List AVal} {H : AHeap} {r : AVal × AHeap} (h : arun c it n x args H = some r) : arun d it m x args H = some r := by
  simp only [arun, Option.bind_eq_some_iff] at h ⊢
  obtain ⟨fn, hf, x, hx, hr⟩ := h
  exact ⟨fn, hf, x, aexec_mono hc hm _ hx, hr⟩

theorem gcX_mono {n : Nat} {H : AHeap} {x y : Option (AVal × AHeap)} (hxy : ∀ r, x = some r → y = some r) {r : AVal × AHeap} (h : gcX n H x = some r) : gcX n H y = some r := by
  obtain ⟨v, H1⟩ := r
  obtain ⟨u, K, h1, rfl, rfl⟩ := gcX_some h
  rw [hxy _ h1]
  rfl

theorem acall_step (A : AProg) : ∀ k, CLe (acall A k) (acall A (k + 1))
  | 0 => fun f args H r h => by simp [acall] at h
  | k + 1 => fun f args H r h => by
    rw [acall] at h
    rw [acall]
    split at h
    · exact h
    · split at h
      · exact arun_mono (acall_step A k) (by omega) h
      · split at h
        · rename_i hp
          rw [if_pos hp]
          exact gcX_mono (fun r h => arun_mono (acall_step A k) (Nat.le_succ k) h) h
        · cases h
      · exact gcX_mono (fun r h => arun_mono (acall_step A k) (Nat.le_succ k) h) h

theorem acall_mono (A : AProg) {k m : Nat} (h : k ≤ m) : CLe (acall A k) (acall A m) := by
  induction m with
  | zero => have : k = 0 := by omega
            subst this; exact CLe.refl _
  | succ m ih =>
    by_cases hk : k = m + 1
    · subst hk; exact CLe.refl _
    · exact (ih (by omega)).trans (acall_step A m)

/-! ### Without a bound -/
noncomputable section
open Classical

def AC (A : AProg) : ACall := fun f args H => if h : ∃ k r, acall A k f args H = some r then some h.choose_spec.choose else none

def AX (A : AProg) (c : ACode) : ARun := fun env H => if h : ∃ k r, aexec (acall A k) A.fn k c env H = some r then some h.choose_spec.choose else none

end

variable {A : AProg}

theorem AC_iff {f : FuncId} {args : List AVal} {H : AHeap} {r : AVal × AHeap} : AC A f args H = some r ↔ ∃ k, acall A k f args H = some r := by
  unfold AC
  constructor
  · intro h
    split at h
    · rename_i he
      have := he.choose_spec.choose_spec
      simp only [Option.some.injEq] at h
      rw [h] at this
      exact ⟨_, this⟩
    · simp at h
  · rintro ⟨k, hk⟩
    have he : ∃ k r, acall A k f args H = some r := ⟨k, r, hk⟩
    rw [dif_pos he]
    have h1 := he.choose_spec.choose_spec
    generalize he.choose_spec.choose = x at *
    have h2 := acall_mono A (Nat.le_max_left he.choose k) _ _ _ _ h1
    have h3 := acall_mono A (Nat.le_max_right he.choose k) _ _ _ _ hk
    rw [h2] at h3
    exact h3

theorem AX_iff {c : ACode} {env : Env} {H : AHeap} {r : AExit × Env × AHeap} : AX A c env H = some r ↔ ∃ k, aexec (acall A k) A.fn k c env H = some r := by
  unfold AX
  constructor
  · intro h
    split at h
    · rename_i he
      have := he.choose_spec.choose_spec
      simp only [Option.some.injEq] at h
      rw [h] at this
      exact ⟨_, this⟩
    · simp at h
  · rintro ⟨k, hk⟩
    have he : ∃ k r, aexec (acall A k) A.fn k c env H = some r := ⟨k, r, hk⟩
    rw [dif_pos he]
    have h1 := he.choose_spec.choose_spec
    generalize he.choose_spec.choose = x at *
    have h2 := aexec_mono (acall_mono A (Nat.le_max_left he.choose k)) (Nat.le_max_left he.choose k) c h1
    have h3 := aexec_mono (acall_mono A (Nat.le_max_right he.choose k)) (Nat.le_max_right he.choose k) c hk
    rw [h2] at h3
    exact h3

theorem acall_AC (k : Nat) : CLe (acall A k) (AC A) := fun _ _ _ _ h => AC_iff.2 ⟨k, h⟩

theorem ado_AC {o : AOp} {ρ : AOpd → AVal} {H : AHeap} {r : AVal × AHeap} (h : ado (AC A) o ρ H = some r) : ∃ k, ado (acall A k) o ρ H = some r := by
  cases o <;> first | exact ⟨0, h⟩ | skip
  simp only [ado] at h ⊢
  split at h
  · exact AC_iff.1 h
  · simp at h

theorem aops_AC : ∀ {l : List AOper} {env : Env} {H : AHeap} {r : Env × AHeap}, aops (AC A) l env H = some r → ∃ k, aops (acall A k) l env H = some r
  | [], env, H, r, h => ⟨0, h⟩
  | o :: l, env, H, r, h => by
    simp only [aops] at h ⊢
    split at h
    · rename_i hg
      simp only [if_pos hg]
      simp only [Option.bind_eq_some_iff] at h ⊢
      obtain ⟨x, hx, hr⟩ := h
      obtain ⟨k, hk⟩ := ado_AC hx
      obtain ⟨m, hm⟩ := aops_AC hr
      exact ⟨max k m, x, ado_mono (acall_mono A (Nat.le_max_left _ _)) hk, aops_mono (acall_mono A (Nat.le_max_right _ _)) hm⟩
    · rename_i hg
      simp only [if_neg hg]
      exact aops_AC h

theorem adraw_AC : ∀ {l : List AOper} {env : Env} {H : AHeap} {st : List AHeap} {rs : List ARead} {r : Env × AHeap}, adraw (AC A) l env H st rs = some r → ∃ k, adraw (acall A k) l env H st rs = some r
  | [], env, H, st, rs, r, h => ⟨0, h⟩
  | o :: l, env, H, st, rs, r, h => by
    simp only [adraw] at h ⊢
    split at h
    · rename_i hg
      simp only [if_pos hg]
      simp only [Option.bind_eq_some_iff] at h ⊢
      obtain ⟨x, hx, hr⟩ := h
      obtain ⟨k, hk⟩ := ado_AC hx
      obtain ⟨m, hm⟩ := adraw_AC hr
      exact ⟨max k m, x, ado_mono (acall_mono A (Nat.le_max_left _ _)) hk, adraw_mono (acall_mono A (Nat.le_max_right _ _)) hm⟩
    · rename_i hg
      simp only [if_neg hg]
      exact adraw_AC h

theorem opt_ext {α : Type} {x y : Option α} (h : ∀ r, x = some r ↔ y = some r) : x = y := by
  cases x with
  | none =>
    cases y with
    | none => rfl
    | some b => have := (h b).2 rfl; simp at this
  | some a => exact ((h a).1 rfl).symm

@[simp] theorem AX_skip (env : Env) (H : AHeap) : AX A .skip env H = some (.normal, env, H) := AX_iff.2 ⟨0, rfl⟩
@[simp] theorem AX_exit (id : Nat) (env : Env) (H : AHeap) : AX A (.exit id) env H = some (.exit id, env, H) := AX_iff.2 ⟨0, rfl⟩
@[simp] theorem AX_ret (env : Env) (H : AHeap) : AX A .ret env H = some (.ret, env, H) := AX_iff.2 ⟨0, rfl⟩

theorem AX_region (ops : List AOper) (env : Env) (H : AHeap) : AX A (.region ops) env H = (aops (AC A) ops env H).map fun r => (.normal, r.1, r.2) := by
  refine opt_ext fun r => ?_
  rw [AX_iff]
  simp only [aexec, Option.map_eq_some_iff]
  constructor
  · rintro ⟨k, x, hx, rfl⟩
    exact ⟨x, aops_mono (acall_AC k) hx, rfl⟩
  · rintro ⟨x, hx, rfl⟩
    obtain ⟨k, hk⟩ := aops_AC hx
    exact ⟨k, x, hk, rfl⟩

theorem AX_draw (ops : List AOper) (env : Env) (H : AHeap) : AX A (.draw ops) env H = (adraw (AC A) ops env H [H] []).map fun r => (.normal, r.1, r.2) := by
  refine opt_ext fun r => ?_
  rw [AX_iff]
  simp only [aexec, Option.map_eq_some_iff]
  constructor
  · rintro ⟨k, x, hx, rfl⟩
    exact ⟨x, adraw_mono (acall_AC k) hx, rfl⟩
  · rintro ⟨x, hx, rfl⟩
    obtain ⟨k, hk⟩ := adraw_AC hx
    exact ⟨k, x, hk, rfl⟩

def thenX (f : ARun) (r : AExit × Env × AHeap) : Option (AExit × Env × AHeap) :=
  match r.1 with
  | .normal => f r.2.1 r.2.2
  | _ => some r

theorem both {c : ACode} {d : ACode} {env : Env} {H : AHeap} {r x : AExit × Env × AHeap} {k m : Nat} {env' : Env} {H' : AHeap} (h1 : aexec (acall A k) A.fn k c env H = some x) (h2 : aexec (acall A m) A.fn m d env' H' = some r) :
    aexec (acall A (max k m)) A.fn (max k m) c env H = some x ∧ aexec (acall A (max k m)) A.fn (max k m) d env' H' = some r :=
  ⟨aexec_mono (acall_mono A (Nat.le_max_left _ _)) (Nat.le_max_left _ _) c h1, aexec_mono (acall_mono A (Nat.le_max_right _ _)) (Nat.le_max_right _ _) d h2⟩

theorem AX_seq (a b : ACode) (env : Env) (H : AHeap) : AX A (.seq a b) env H = (AX A a env H).bind (thenX (AX A b)) := by
  refine opt_ext fun r => ?_
  rw [AX_iff]
  simp only [aexec, Option.bind_eq_some_iff]
  constructor
  · rintro ⟨k, x, hx, hr⟩
    refine ⟨x, AX_iff.2 ⟨k, hx⟩, ?_⟩
    obtain ⟨e, env1, H1⟩ := x
    cases e
    · exact AX_iff.2 ⟨k, hr⟩
    · exact hr
    · exact hr
  · rintro ⟨x, hx, hr⟩
    obtain ⟨k, hk⟩ := AX_iff.1 hx
    obtain ⟨e, env1, H1⟩ := x
    cases e
    · obtain ⟨m, hm⟩ := AX_iff.1 hr
      obtain ⟨h1, h2⟩ := both hk hm
      exact ⟨_, _, h1, h2⟩
    · exact ⟨k, _, hk, hr⟩
    · exact ⟨k, _, hk, hr⟩

theorem AX_cond (c : AOpd) (a b : ACode) (env : Env) (H : AHeap) (t : Bool) (h : aev env c = .bool t) : AX A (.cond c a b) env H = if t then AX A a env H else AX A b env H := by
  refine opt_ext fun r => ?_
  rw [AX_iff]
  simp only [aexec, h]
  cases t <;> simp [AX_iff]

theorem AX_block (id : Nat) (a : ACode) (env : Env) (H : AHeap) : AX A (.block id a) env H = (AX A a env H).map fun r => match r.1 with
    | .exit i => if i = id then (.normal, r.2) else r
    | _ => r := by
  refine opt_ext fun r => ?_
  rw [AX_iff]
  simp only [aexec, Option.map_eq_some_iff, AX_iff]
  constructor
  · rintro ⟨k, x, hx, hr⟩
    exact ⟨x, ⟨k, hx⟩, hr⟩
  · rintro ⟨x, ⟨k, hx⟩, hr⟩
    exact ⟨k, x, hx, hr⟩

theorem AX_loop (a : ACode) (env : Env) (H : AHeap) : AX A (.loop a) env H = (AX A a env H).bind (thenX (AX A (.loop a))) := by
  refine opt_ext fun r => ?_
  rw [AX_iff]
  simp only [Option.bind_eq_some_iff]
  constructor
  · rintro ⟨k, hk⟩
    simp only [aexec] at hk
    cases k with
    | zero => simp [aiter] at hk
    | succ k =>
      simp only [aiter, Option.bind_eq_some_iff] at hk
      obtain ⟨x, hx, hr⟩ := hk
      refine ⟨x, AX_iff.2 ⟨k + 1, hx⟩, ?_⟩
      obtain ⟨e, env1, H1⟩ := x
      cases e
      · refine AX_iff.2 ⟨k + 1, ?_⟩
        simp only [aexec]
        exact aiter_mono (fun _ _ _ h => h) (by omega) hr
      · exact hr
      · exact hr
  · rintro ⟨x, hx, hr⟩
    obtain ⟨k, hk⟩ := AX_iff.1 hx
    obtain ⟨e, env1, H1⟩ := x
    cases e
    · obtain ⟨m, hm⟩ := AX_iff.1 hr
      refine ⟨max k m + 1, ?_⟩
      simp only [aexec] at hm ⊢
      simp only [aiter, Option.bind_eq_some_iff]
      refine ⟨_, aexec_mono (acall_mono A (by omega)) (by omega) a hk, ?_⟩
      exact aiter_mono (fun _ _ _ h => aexec_mono (acall_mono A (by omega)) (by omega) a h) (by omega) hm
    · refine ⟨k + 1, ?_⟩
      simp only [aexec, aiter, Option.bind_eq_some_iff]
      exact ⟨_, aexec_mono (acall_mono A (by omega)) (by omega) a hk, hr⟩
    · refine ⟨k + 1, ?_⟩
      simp only [aexec, aiter, Option.bind_eq_some_iff]
      exact ⟨_, aexec_mono (acall_mono A (by omega)) (by omega) a hk, hr⟩

/-! ### A range, without a bound -/
theorem YLe.refl (y : AYield) : YLe y y := fun _ _ _ _ h => h

noncomputable section
open Classical
end

variable {tok : Nat} {yl : AYield}

section
variable {call : ACall} {ys : Nat → AYield}
end

theorem AC_ext {f : FuncId} {g : List AVal → AHeap → Option (AVal × AHeap)} (h : A.ext f = some g) (args : List AVal) (H : AHeap) : AC A f args H = g args H := by
  refine opt_ext fun r => ?_
  rw [AC_iff]
  constructor
  · rintro ⟨k, hk⟩
    cases k with
    | zero => simp [acall] at hk
    | succ k => rw [acall, h] at hk; exact hk
  · intro hr
    exact ⟨1, by rw [acall, h]; exact hr⟩

noncomputable def AB (A : AProg) (x : AFn) (args : List AVal) (H : AHeap) : Option (AVal × AHeap) := (AX A x.body (ainit args) H).bind (aend x)

theorem AB_iff {x : AFn} {args : List AVal} {H : AHeap} {r : AVal × AHeap} : AB A x args H = some r ↔ ∃ k, arun (acall A k) A.fn k (some x) args H = some r := by
  simp only [AB, arun, Option.bind_some, Option.bind_eq_some_iff]
  constructor
  · rintro ⟨y, hy, hr⟩
    obtain ⟨k, hk⟩ := AX_iff.1 hy
    exact ⟨k, y, hk, hr⟩
  · rintro ⟨k, y, hy, hr⟩
    exact ⟨y, AX_iff.2 ⟨k, hy⟩, hr⟩

theorem AC_fn {f : FuncId} {fn : AFn} (he : A.ext f = none) (hm : A.mode f = 0) (h : A.fn f = some fn) (args : List AVal) (H : AHeap) : AC A f args H = AB A fn args H := by
  refine opt_ext fun r => ?_
  rw [AC_iff, AB_iff]
  constructor
  · rintro ⟨k, hk⟩
    cases k with
    | zero => simp [acall] at hk
    | succ k =>
      rw [acall, he, hm, h] at hk
      exact ⟨k, hk⟩
  · rintro ⟨k, hk⟩
    refine ⟨k + 1, ?_⟩
    rw [acall, he, hm, h]
    exact hk

theorem gcX_iff {n : Nat} {H : AHeap} {x : Option (AVal × AHeap)} {r : AVal × AHeap} : gcX n H x = some r ↔ ∃ u, x = some u ∧ gc n H u.1 u.2 = r := by
  cases x with
  | none => simp [gcX]
  | some u => obtain ⟨v, K⟩ := u; simp [gcX]

theorem AC_one {f : FuncId} {fn : AFn} (he : A.ext f = none) (hm : A.mode f = 1) (h : A.fn f = some fn) (args : List AVal) (hp : plains args = true) (H : AHeap) : AC A f args H = gcX 0 H (AB A fn args noH) := by
  refine opt_ext fun r => ?_
  rw [AC_iff, gcX_iff]
  constructor
  · rintro ⟨k, hk⟩
    cases k with
    | zero => simp [acall] at hk
    | succ k =>
      rw [acall, he, hm, h] at hk
      simp only [hp, if_true] at hk
      obtain ⟨u, h1, h2⟩ := gcX_iff.1 hk
      exact ⟨u, AB_iff.2 ⟨k, h1⟩, h2⟩
  · rintro ⟨u, h1, h2⟩
    obtain ⟨k, hk⟩ := AB_iff.1 h1
    refine ⟨k + 1, ?_⟩
    rw [acall, he, hm, h]
    simp only [hp, if_true]
    exact gcX_iff.2 ⟨u, hk, h2⟩

theorem AC_two {f : FuncId} {fn : AFn} (he : A.ext f = none) (hm : A.mode f = 2) (h : A.fn f = some fn) (args : List AVal) (H : AHeap) : AC A f args H = gcX H.next H (AB A fn args (frz H)) := by
  refine opt_ext fun r => ?_
  rw [AC_iff, gcX_iff]
  constructor
  · rintro ⟨k, hk⟩
    cases k with
    | zero => simp [acall] at hk
    | succ k =>
      rw [acall, he, hm, h] at hk
      simp only at hk
      obtain ⟨u, h1, h2⟩ := gcX_iff.1 hk
      exact ⟨u, AB_iff.2 ⟨k, h1⟩, h2⟩
  · rintro ⟨u, h1, h2⟩
    obtain ⟨k, hk⟩ := AB_iff.1 h1
    refine ⟨k + 1, ?_⟩
    rw [acall, he, hm, h]
    simp only
    exact gcX_iff.2 ⟨u, hk, h2⟩

end Go.Proofs.Ytfmjdlahabgkpaa.Am
end

section
/- Following a run by rewriting: each operation by an equation of its own, what comes after held as data. -/
set_option linter.unusedSimpArgs false
set_option linter.unusedVariables false
namespace Go.Proofs.Ytfmjdlahabgkpaa.Am
open Go

theorem hid {α : Type} {a b : α} (h : a = b) : a = b := h

def cnd {α : Type} (b : Bool) (x y : α) : α := match b with
  | true => x
  | false => y
@[simp] theorem cnd_true {α : Type} (x y : α) : cnd true x y = x := hid rfl
@[simp] theorem cnd_false {α : Type} (x y : α) : cnd false x y = y := hid rfl
theorem cnd_ite {α : Type} (b : Bool) (x y : α) : cnd b x y = if b = true then x else y := by cases b <;> rfl
def stepO (call : ACall) (l : List AOper) (d : Option Nat) (env : Env) : Option (AVal × AHeap) → Option (Env × AHeap)
  | none => none
  | some (v, H) => aops call l (setd env d v) H

def grd (call : ACall) (o : AOp) (l : List AOper) (d : Option Nat) (env : Env) (H : AHeap) (w : Bool) : AVal → Option (Env × AHeap)
  | .bool b => cnd (b == w) (stepO call l d env (ado call o (aev env) H)) (aops call l (setd env d aundef) H)
  | _ => aops call l (setd env d aundef) H

def outX : Option (Env × AHeap) → Option (AExit × Env × AHeap)
  | none => none
  | some (env, H) => some (.normal, env, H)

noncomputable def seqX (A : AProg) (b : ACode) : Option (AExit × Env × AHeap) → Option (AExit × Env × AHeap)
  | none => none
  | some (.normal, env, H) => AX A b env H
  | some (.exit i, env, H) => some (.exit i, env, H)
  | some (.ret, env, H) => some (.ret, env, H)

noncomputable def condX (A : AProg) (a b : ACode) (env : Env) (H : AHeap) : AVal → Option (AExit × Env × AHeap)
  | .bool t => cnd t (AX A a env H) (AX A b env H)
  | _ => none

def blockX (id : Nat) : Option (AExit × Env × AHeap) → Option (AExit × Env × AHeap)
  | none => none
  | some (.normal, env, H) => some (.normal, env, H)
  | some (.exit i, env, H) => if i = id then some (.normal, env, H) else some (.exit i, env, H)
  | some (.ret, env, H) => some (.ret, env, H)

def endX (rs : List ARes) : Option (AExit × Env × AHeap) → Option (AVal × AHeap)
  | none => none
  | some (.exit _, _, _) => none
  | some (.normal, env, H) => (aress H env rs).map fun l => (aret l, H)
  | some (.ret, env, H) => (aress H env rs).map fun l => (aret l, H)

def vX (H : AHeap) : Option AVal → Option (AVal × AHeap)
  | none => none
  | some v => some (v, H)

def hX : Option AHeap → Option (AVal × AHeap)
  | none => none
  | some H => some (aundef, H)

def callX (call : ACall) (l : List AVal) (H : AHeap) : AVal → Option (AVal × AHeap)
  | .func g f c => call g (f ++ l ++ c) H
  | _ => none

def consX (v : AVal) : Option (List AVal) → Option (List AVal)
  | none => none
  | some l => some (v :: l)

def cellX (v : Option AVal) (x : Option (List AVal)) : Option (List AVal) :=
  match v with
  | none => none
  | some v => consX v x

def retX (H : AHeap) : Option (List AVal) → Option (AVal × AHeap)
  | none => none
  | some l => some (aret l, H)

variable {A : AProg} {call : ACall}

theorem b_tf : (true == false) = false := hid rfl
theorem b_ft : (false == true) = false := hid rfl
theorem stepO_some (l : List AOper) (d : Option Nat) (env : Env) (v : AVal) (H : AHeap) : stepO call l d env (some (v, H)) = aops call l (setd env d v) H := hid rfl
theorem stepO_none (l : List AOper) (d : Option Nat) (env : Env) : stepO call l d env none = none := hid rfl
theorem stepO_cnd (l : List AOper) (d : Option Nat) (env : Env) (c : Bool) (x y : Option (AVal × AHeap)) : stepO call l d env (cnd c x y) = cnd c (stepO call l d env x) (stepO call l d env y) := by cases c <;> rfl
theorem outX_some (env : Env) (H : AHeap) : outX (some (env, H)) = some (.normal, env, H) := hid rfl
theorem outX_none : outX none = none := hid rfl
theorem outX_cnd (c : Bool) (x y : Option (Env × AHeap)) : outX (cnd c x y) = cnd c (outX x) (outX y) := by cases c <;> rfl
theorem seqX_normal (b : ACode) (env : Env) (H : AHeap) : seqX A b (some (.normal, env, H)) = AX A b env H := hid rfl
theorem seqX_exit (b : ACode) (i : Nat) (env : Env) (H : AHeap) : seqX A b (some (.exit i, env, H)) = some (.exit i, env, H) := hid rfl
theorem seqX_ret (b : ACode) (env : Env) (H : AHeap) : seqX A b (some (.ret, env, H)) = some (.ret, env, H) := hid rfl
theorem seqX_none (b : ACode) : seqX A b none = none := hid rfl
theorem seqX_cnd (b : ACode) (c : Bool) (x y : Option (AExit × Env × AHeap)) : seqX A b (cnd c x y) = cnd c (seqX A b x) (seqX A b y) := by cases c <;> rfl
theorem condX_bool (a b : ACode) (env : Env) (H : AHeap) (t : Bool) : condX A a b env H (.bool t) = cnd t (AX A a env H) (AX A b env H) := hid rfl
theorem blockX_normal (id : Nat) (env : Env) (H : AHeap) : blockX id (some (.normal, env, H)) = some (.normal, env, H) := hid rfl
theorem blockX_exit (id i : Nat) (env : Env) (H : AHeap) : blockX id (some (.exit i, env, H)) = if i = id then some (.normal, env, H) else some (.exit i, env, H) := hid rfl
theorem blockX_ret (id : Nat) (env : Env) (H : AHeap) : blockX id (some (.ret, env, H)) = some (.ret, env, H) := hid rfl
theorem blockX_none (id : Nat) : blockX id none = none := hid rfl
theorem blockX_cnd (id : Nat) (c : Bool) (x y : Option (AExit × Env × AHeap)) : blockX id (cnd c x y) = cnd c (blockX id x) (blockX id y) := by cases c <;> rfl
theorem endX_normal (rs : List ARes) (env : Env) (H : AHeap) : endX rs (some (.normal, env, H)) = retX H (aress H env rs) := by
  cases h : aress H env rs <;> simp [endX, retX, h]
theorem endX_ret (rs : List ARes) (env : Env) (H : AHeap) : endX rs (some (.ret, env, H)) = retX H (aress H env rs) := by
  cases h : aress H env rs <;> simp [endX, retX, h]
theorem endX_none (rs : List ARes) : endX rs none = none := hid rfl
theorem endX_cnd (rs : List ARes) (c : Bool) (x y : Option (AExit × Env × AHeap)) : endX rs (cnd c x y) = cnd c (endX rs x) (endX rs y) := by cases c <;> rfl
theorem vX_some (H : AHeap) (v : AVal) : vX H (some v) = some (v, H) := hid rfl
theorem vX_none (H : AHeap) : vX H none = none := hid rfl
theorem vX_cnd (H : AHeap) (c : Bool) (x y : Option AVal) : vX H (cnd c x y) = cnd c (vX H x) (vX H y) := by cases c <;> rfl
theorem hX_some (H : AHeap) : hX (some H) = some (aundef, H) := hid rfl
theorem hX_none : hX none = none := hid rfl

theorem s_body (x : AFn) (args : List AVal) (H : AHeap) : AB A x args H = endX x.results (AX A x.body (ainit args) H) := by
  unfold AB
  cases AX A x.body (ainit args) H with
  | none => rfl
  | some r => obtain ⟨e, env, H'⟩ := r; cases e <;> rfl

theorem s_fn {f : FuncId} {x : AFn} (he : A.ext f = none) (hm : A.mode f = 0) (h : A.fn f = some x) (args : List AVal) (H : AHeap) : AC A f args H = endX x.results (AX A x.body (ainit args) H) := by
  rw [AC_fn he hm h, s_body]

theorem s_region (ops : List AOper) (env : Env) (H : AHeap) : AX A (.region ops) env H = outX (aops (AC A) ops env H) := by
  rw [AX_region]
  cases aops (AC A) ops env H with
  | none => rfl
  | some r => rfl

theorem s_draw (ops : List AOper) (env : Env) (H : AHeap) : AX A (.draw ops) env H = outX (adraw (AC A) ops env H [H] []) := by
  rw [AX_draw]
  cases adraw (AC A) ops env H [H] [] with
  | none => rfl
  | some r => rfl

theorem s_seq (a b : ACode) (env : Env) (H : AHeap) : AX A (.seq a b) env H = seqX A b (AX A a env H) := by
  rw [AX_seq]
  cases AX A a env H with
  | none => rfl
  | some r => obtain ⟨e, env, H'⟩ := r; cases e <;> rfl

theorem s_cond (c : AOpd) (a b : ACode) (env : Env) (H : AHeap) : AX A (.cond c a b) env H = condX A a b env H (aev env c) := by
  unfold condX
  split
  · rename_i t ht
    rw [AX_cond c a b env H t ht]
    cases t <;> rfl
  · rename_i hn
    refine opt_ext fun r => ?_
    rw [AX_iff]
    simp only [aexec]
    constructor
    · rintro ⟨k, hk⟩
      cases hk
    · intro h; cases h

theorem s_block (id : Nat) (a : ACode) (env : Env) (H : AHeap) : AX A (.block id a) env H = blockX id (AX A a env H) := by
  rw [AX_block]
  cases AX A a env H with
  | none => rfl
  | some r =>
    obtain ⟨e, env, H'⟩ := r
    cases e <;> simp [blockX]
    split <;> rfl

theorem s_loop (a : ACode) (env : Env) (H : AHeap) : AX A (.loop a) env H = seqX A (.loop a) (AX A a env H) := by
  rw [AX_loop]
  cases AX A a env H with
  | none => rfl
  | some r => obtain ⟨e, env, H'⟩ := r; cases e <;> rfl

theorem s_nil (env : Env) (H : AHeap) : aops call [] env H = some (env, H) := hid rfl
theorem s_op (d : Option Nat) (o : AOp) (rd : Option (Nat × Nat)) (l : List AOper) (env : Env) (H : AHeap) : aops call (⟨d, o, none, rd⟩ :: l) env H = stepO call l d env (ado call o (aev env) H) := by
  simp only [aops, agd, if_true]
  cases ado call o (aev env) H with
  | none => rfl
  | some r => rfl
theorem s_grd (d : Option Nat) (o : AOp) (t : Nat) (w : Bool) (rd : Option (Nat × Nat)) (l : List AOper) (env : Env) (H : AHeap) : aops call (⟨d, o, some (t, w), rd⟩ :: l) env H = grd call o l d env H w (env t) := by
  have hs : (ado call o (aev env) H).bind (fun r => aops call l (setd env d r.1) r.2) = stepO call l d env (ado call o (aev env) H) := by
    cases ado call o (aev env) H with
    | none => rfl
    | some r => rfl
  cases h : env t with
  | bool b =>
    cases b <;> cases w <;> simp [aops, agd, grd, h, hs, cnd]
  | _ => simp [aops, agd, grd, h]
theorem grd_t (o : AOp) (l : List AOper) (d : Option Nat) (env : Env) (H : AHeap) (b : Bool) : grd call o l d env H true (.bool b) = cnd b (stepO call l d env (ado call o (aev env) H)) (aops call l (setd env d aundef) H) := by cases b <;> rfl
theorem grd_f (o : AOp) (l : List AOper) (d : Option Nat) (env : Env) (H : AHeap) (b : Bool) : grd call o l d env H false (.bool b) = cnd b (aops call l (setd env d aundef) H) (stepO call l d env (ado call o (aev env) H)) := by cases b <;> rfl

theorem grd_u (o : AOp) (l : List AOper) (d : Option Nat) (env : Env) (H : AHeap) (w : Bool) : grd call o l d env H w aundef = aops call l (setd env d aundef) H := hid rfl
theorem setd_some (env : Env) (d : Nat) (v : AVal) : setd env (some d) v = env.set d v := hid rfl
theorem setd_none (env : Env) (v : AVal) : setd env none v = env := hid rfl
theorem set_get (env : Env) (d t : Nat) (v : AVal) : Env.set env d v t = if t = d then v else env t := hid rfl
theorem ev_tmp (env : Env) (t : Nat) : aev env (.tmp t) = env t := hid rfl
theorem ev_con (env : Env) (v : AVal) : aev env (.con v) = v := hid rfl
theorem init_get (l : List AVal) (t : Nat) : ainit l t = l.getD t aundef := hid rfl

variable {ρ : AOpd → AVal} {H : AHeap}
theorem o_mv (x : AOpd) : ado call (.mv x) ρ H = some (ρ x, H) := hid rfl
theorem o_call (f : AOpd) (args : List AOpd) : ado call (.call f args) ρ H = callX call (args.map ρ) H (ρ f) := by
  simp only [ado, callX]
  cases ρ f <;> rfl
def pickX (a b : AVal) (H : AHeap) : AVal → Option (AVal × AHeap)
  | .bool t => some (cnd t a b, H)
  | _ => none
theorem o_pick (c a b : AOpd) : ado call (.pick c a b) ρ H = pickX (ρ a) (ρ b) H (ρ c) := by
  simp only [ado, aop, pickX]
  cases ρ c <;> try rfl
  rename_i t
  cases t <;> rfl
theorem pick_bool (a b : AVal) (H : AHeap) (t : Bool) : pickX a b H (.bool t) = some (cnd t a b, H) := hid rfl
theorem o_new (cells : List AVal) : ado call (.new cells) ρ H = some (.ptr H.next 0, H.new (.cells cells true)) := hid rfl
theorem o_build (zero : List AVal) (parts : List (Nat × Nat × AOpd)) : ado call (.build zero parts) ρ H = vX H ((afill zero (parts.map fun (o, n, x) => (o, n, ρ x))).map .agg) := by
  simp only [ado, aop]
  cases afill zero (parts.map fun (o, n, x) => (o, n, ρ x)) <;> rfl
theorem o_load (agg : Bool) (n : Nat) (a : AOpd) : ado call (.load agg n a) ρ H = vX H (aload H agg n (ρ a)) := by
  simp only [ado, aop]
  cases aload H agg n (ρ a) <;> rfl
theorem o_store (n : Nat) (a x : AOpd) : ado call (.store n a x) ρ H = hX (astore H n (ρ a) (ρ x)) := by
  simp only [ado, aop]
  cases astore H n (ρ a) (ρ x) <;> rfl
theorem o_bin (op : BinOp) (x y : AOpd) : ado call (.bin op x y) ρ H = vX H (abin op (ρ x) (ρ y)) := by
  simp only [ado, aop]
  cases abin op (ρ x) (ρ y) <;> rfl
theorem o_un (op : UnOp) (x : AOpd) : ado call (.un op x) ρ H = vX H (aun op (ρ x)) := by
  simp only [ado, aop]
  cases aun op (ρ x) <;> rfl
def negX (neg : Bool) : Option Bool → Option AVal
  | none => none
  | some b => some (.bool (if neg then !b else b))
theorem o_eq (neg : Bool) (t : EqT) (x y : AOpd) : ado call (.eq neg t x y) ρ H = vX H (negX neg (aeq t (ρ x) (ρ y))) := by
  simp only [ado, aop]
  cases aeq t (ρ x) (ρ y) <;> rfl
theorem neg_f (b : Bool) : negX false (some b) = some (.bool b) := hid rfl
theorem neg_t (b : Bool) : negX true (some b) = some (.bool !b) := hid rfl
def eqX : Option Bool → Option Bool → Option Bool
  | some b, y => if b then y else some false
  | none, _ => none
theorem eqX_some (b c : Bool) : eqX (some b) (some c) = some (b && c) := by cases b <;> rfl
def fldX (e : EqT) (y : Option Bool) : Option AVal → Option AVal → Option Bool
  | some u, some v => eqX (aeq e u v) y
  | _, _ => none
theorem fldX_some (e : EqT) (y : Option Bool) (u v : AVal) : fldX e y (some u) (some v) = eqX (aeq e u v) y := hid rfl
theorem e_fld (off n : Nat) (agg : Bool) (e rest : EqT) (xs ys : List AVal) : aeq (.fld off n agg e rest) (.agg xs) (.agg ys) = fldX e (aeq rest (.agg xs) (.agg ys)) (apart agg off n xs) (apart agg off n ys) := by
  simp only [aeq, fldX]
  cases apart agg off n xs with
  | none => rfl
  | some u =>
    cases apart agg off n ys with
    | none => rfl
    | some v =>
      simp only [eqX]
      cases aeq e u v with
      | none => rfl
      | some b => rfl
theorem e_fend (xs ys : List AVal) : aeq .fend (.agg xs) (.agg ys) = some true := by simp [aeq]
theorem e_bool (a b : Bool) : aeq .bool (.bool a) (.bool b) = some (a == b) := by simp [aeq]
theorem e_str (a b : List UInt8) : aeq .str (.str a) (.str b) = some (a == b) := by simp [aeq]
def extX (i : Nat) (H : AHeap) : AVal → Option (AVal × AHeap)
  | .tuple l => vX H l[i]?
  | _ => none
theorem o_extract (x : AOpd) (i : Nat) : ado call (.extract x i) ρ H = extX i H (ρ x) := by
  simp only [ado, aop, extX]
  cases ρ x <;> try rfl
  simp only
  rename_i l
  cases l[i]? <;> rfl
theorem ext_tuple (i : Nat) (H : AHeap) (l : List AVal) : extX i H (.tuple l) = vX H l[i]? := hid rfl
def intX (k : IntKind) (H : AHeap) : AVal → Option (AVal × AHeap)
  | .int _ n => some (.int k (k.wrap n), H)
  | _ => none
theorem o_toInt (k : IntKind) (x : AOpd) : ado call (.toInt k x) ρ H = intX k H (ρ x) := by
  simp only [ado, aop, intX]
  cases ρ x <;> rfl
theorem int_int (k j : IntKind) (H : AHeap) (n : Int) : intX k H (.int j n) = some (.int k (k.wrap n), H) := hid rfl
def fieldX (off n : Nat) (agg : Bool) (H : AHeap) : AVal → Option (AVal × AHeap)
  | .agg l => vX H (apart agg off n l)
  | _ => none
theorem o_field (off n : Nat) (agg : Bool) (x : AOpd) : ado call (.field off n agg x) ρ H = fieldX off n agg H (ρ x) := by
  simp only [ado, aop, fieldX]
  cases ρ x <;> try rfl
  rename_i l
  simp only
  cases apart agg off n l <;> rfl
theorem field_agg (off n : Nat) (agg : Bool) (H : AHeap) (l : List AVal) : fieldX off n agg H (.agg l) = vX H (apart agg off n l) := hid rfl
def fieldAX (off : Nat) (H : AHeap) : AVal → Option (AVal × AHeap)
  | .ptr id o => some (.ptr id (o + off), H)
  | _ => none
theorem o_fieldA (off : Nat) (x : AOpd) : ado call (.fieldA off x) ρ H = fieldAX off H (ρ x) := by
  simp only [ado, aop, fieldAX]
  cases ρ x <;> rfl
theorem fieldA_ptr (off : Nat) (H : AHeap) (id o : Nat) : fieldAX off H (.ptr id o) = some (.ptr id (o + off), H) := hid rfl
theorem o_len (s : Bool) (x : AOpd) : ado call (.len s x) ρ H = vX H ((alenT s (ρ x)).map fun (n : Nat) => .int .i64 (n : Int)) := by
  simp only [ado, aop]
  cases alenT s (ρ x) <;> rfl
theorem len_slice (id off n cap : Nat) (g : Option Nat) : alenT false (.slice id off n cap g) = some n := hid rfl
theorem len_nils : alenT false .nils = some 0 := hid rfl
theorem len_str (s : List UInt8) : alenT true (.str s) = some s.length := hid rfl
theorem o_cap (x : AOpd) : ado call (.cap x) ρ H = vX H ((acap (ρ x)).map fun (n : Nat) => .int .i64 (n : Int)) := by
  cases h : acap (ρ x) <;> simp [ado, aop, h, vX]
theorem cap_slice (id off n cap : Nat) : acap (.slice id off n cap none) = some cap := hid rfl
theorem cap_nils : acap .nils = some 0 := hid rfl
theorem o_lenC (n : Nat) : ado call (.lenC n) ρ H = some (.int .i64 (n : Int), H) := hid rfl
def idxASlX (es : Nat) (i : AVal) (H : AHeap) : AVal → Option (AVal × AHeap)
  | .slice id o len _ _ => vX H ((aidx len i).map fun i => .ptr id (o + i * es))
  | _ => none
theorem o_idxASl (es : Nat) (x i : AOpd) : ado call (.idxASl es x i) ρ H = idxASlX es (ρ i) H (ρ x) := by
  simp only [ado, aop, idxASlX]
  cases ρ x <;> try rfl
  rename_i id off len cap g
  simp only
  cases aidx len (ρ i) <;> rfl
theorem idxASl_slice (es : Nat) (i : AVal) (H : AHeap) (id o len cap : Nat) (g : Option Nat) : idxASlX es i H (.slice id o len cap g) = vX H ((aidx len i).map fun i => .ptr id (o + i * es)) := hid rfl
theorem o_append (es bytes : Nat) (s x : AOpd) : ado call (.append es bytes s x) ρ H = aappend H es bytes (ρ s) (ρ x) := hid rfl
theorem o_appendZ (es bytes : Nat) (z : List AVal) (s x : AOpd) : ado call (.appendZ es bytes z s x) ρ H = aappendZ H es bytes z (ρ s) (ρ x) := hid rfl
theorem o_mkMap : ado call .mkMap ρ H = some (.map H.next, H.new (.map [])) := hid rfl
theorem o_mapGet (ok : Bool) (kt : KeyT) (z : AVal) (x k : AOpd) : ado call (.mapGet ok kt z x k) ρ H = getX ok z H (amapGet H kt (ρ x) (ρ k)) := hid rfl
theorem getX_f (z : AVal) (H : AHeap) (r : Option AVal) : getX false z H (some r) = some (r.getD z, H) := hid rfl
theorem getX_t (z : AVal) (H : AHeap) (r : Option AVal) : getX true z H (some r) = some (.tuple [r.getD z, .bool r.isSome], H) := hid rfl
theorem o_mapSet (kt : KeyT) (x k v : AOpd) : ado call (.mapSet kt x k v) ρ H = hX (amapSet H kt (ρ x) (ρ k) (ρ v)) := by
  simp only [ado, aop]
  cases amapSet H kt (ρ x) (ρ k) (ρ v) <;> rfl
theorem o_lenM (x : AOpd) : ado call (.lenM x) ρ H = vX H ((amapLen H (ρ x)).map fun (n : Nat) => .int .i64 (n : Int)) := by
  simp only [ado, aop]
  cases amapLen H (ρ x) <;> rfl
theorem eff_mkMap : AOp.eff .mkMap = true := hid rfl
theorem eff_mapGet (ok : Bool) (kt : KeyT) (z : AVal) (x k : AOpd) : AOp.eff (.mapGet ok kt z x k) = true := hid rfl
theorem eff_mapSet (kt : KeyT) (x k v : AOpd) : AOp.eff (.mapSet kt x k v) = true := hid rfl
theorem eff_lenM (x : AOpd) : AOp.eff (.lenM x) = true := hid rfl
theorem o_minmax (isMax : Bool) (a b : AOpd) : ado call (.minmax isMax [a, b]) ρ H = vX H (aminmax isMax (ρ a) (ρ b)) := by
  simp only [ado, aop, List.map_cons, List.map_nil, afold]
  cases aminmax isMax (ρ a) (ρ b) <;> rfl
theorem o_slc (es : Nat) (x : AOpd) (lo hi mx : Option AOpd) : ado call (.slc es x lo hi mx) ρ H = vX H (aslc es (ρ x) (lo.map ρ) (hi.map ρ) (mx.map ρ)) := by
  simp only [ado, aop]
  cases aslc es (ρ x) (lo.map ρ) (hi.map ρ) (mx.map ρ) <;> rfl

def buildX (len : Nat) (H : AHeap) : Option (List AVal) → Option (AVal × AHeap)
  | none => none
  | some l => some (.slice H.next 0 len len none, H.new (.cells l true))
theorem o_buildS (len : Nat) (zero : List AVal) (parts : List (Nat × Nat × AOpd)) : ado call (.buildS len zero parts) ρ H = buildX len H (afill zero (parts.map fun (o, n, x) => (o, n, ρ x))) := by
  simp only [ado, aop, buildX]
  cases afill zero (parts.map fun (o, n, x) => (o, n, ρ x)) <;> rfl
theorem buildX_some (len : Nat) (H : AHeap) (l : List AVal) : buildX len H (some l) = some (.slice H.next 0 len len none, H.new (.cells l true)) := hid rfl
def sToBX (H : AHeap) : AVal → Option (AVal × AHeap)
  | .str s => some (.slice H.next 0 s.length s.length (some 1), H.new (.cells (s.map fun b => .int .u8 (b.toNat : Int)) true))
  | _ => none
theorem o_sToB (x : AOpd) : ado call (.sToB x) ρ H = sToBX H (ρ x) := by
  simp only [ado, aop, sToBX]
  cases ρ x <;> rfl
theorem sToB_str (H : AHeap) (s : List UInt8) : sToBX H (.str s) = some (.slice H.next 0 s.length s.length (some 1), H.new (.cells (s.map fun b => .int .u8 (b.toNat : Int)) true)) := hid rfl
def idSX (H : AHeap) : AVal → Option (AVal × AHeap)
  | .str s => some (.str s, H)
  | _ => none
theorem o_idS' (x : AOpd) : ado call (.idS x) ρ H = idSX H (ρ x) := by
  simp only [ado, aop, idSX]
  cases ρ x <;> rfl
theorem idS_str (H : AHeap) (s : List UInt8) : idSX H (.str s) = some (.str s, H) := hid rfl
def bToSX (H : AHeap) : AVal → Option (AVal × AHeap)
  | .nils => some (.str [], H)
  | .slice id off n cap g => (acells H 1 n (.slice id off n cap g)).bind fun l => (aop.abytes l).map fun b => (.str b, H)
  | _ => none
theorem o_bToS (x : AOpd) : ado call (.bToS x) ρ H = bToSX H (ρ x) := by
  simp only [ado, aop, bToSX]
  cases ρ x <;> try rfl
  · rename_i id off n cap g
    simp only [alen, Option.bind_some]
    cases acells H 1 n (.slice id off n cap g) with
    | none => rfl
    | some l =>
      simp only [Option.bind_some]
      cases aop.abytes l <;> rfl
theorem bytes_back : ∀ s : List UInt8, aop.abytes (s.map fun b => AVal.int .u8 (b.toNat : Int)) = some s
  | [] => rfl
  | b :: s => by
    have ih := bytes_back s
    simp only [List.map_cons, aop.abytes, ih, Option.map_some, Int.toNat_natCast, UInt8.ofNat_toNat]
def nilckX (H : AHeap) : AVal → Option (AVal × AHeap)
  | .ptr id off => some (.ptr id off, H)
  | .func f a b => some (.func f a b, H)
  | .yield l => some (.yield l, H)
  | _ => none
theorem o_nilck (x : AOpd) : ado call (.nilck x) ρ H = nilckX H (ρ x) := by
  simp only [ado, aop, nilckX]
  cases ρ x <;> rfl
theorem nilck_ptr (H : AHeap) (id off : Nat) : nilckX H (.ptr id off) = some (.ptr id off, H) := hid rfl
theorem nilck_fn (H : AHeap) (f : FuncId) (a b : List AVal) : nilckX H (.func f a b) = some (.func f a b, H) := hid rfl
theorem e_nilp0 (id off : Nat) : aeq (.nil .p) (.ptr id off) .nilp = some false := by simp [aeq, aeqNil]
theorem e_nilp1 : aeq (.nil .p) .nilp .nilp = some true := by simp [aeq, aeqNil]
theorem e_nilp2 (id off : Nat) : aeq (.nil .p) .nilp (.ptr id off) = some false := by simp [aeq, aeqNil]
theorem e_nils0 (id off n cap : Nat) (g : Option Nat) : aeq (.nil .s) (.slice id off n cap g) .nils = some false := by simp [aeq, aeqNil]
theorem e_nils1 : aeq (.nil .s) .nils .nils = some true := by simp [aeq, aeqNil]
theorem o_mkFn (f : FuncId) (a b : List AOpd) : ado call (.mkFn f a b) ρ H = some (.func f (a.map ρ) (b.map ρ), H) := hid rfl
theorem o_mkS (es bytes : Nat) (zero : List AVal) (l c : AOpd) : ado call (.mkS es bytes zero l c) ρ H = amkS H es bytes zero (ρ l) (ρ c) := hid rfl
theorem o_copy (es : Nat) (d s : AOpd) : ado call (.copy es d s) ρ H = acopy H es (ρ d) (ρ s) := hid rfl
def clrX : Option AHeap → Option (AVal × AHeap)
  | none => none
  | some h => some (.tuple [], h)
theorem o_clearS (es : Nat) (zero : List AVal) (x : AOpd) : ado call (.clearS es zero x) ρ H = clrX (aclear H es zero (ρ x)) := by
  simp only [ado, aop]
  cases aclear H es zero (ρ x) <;> rfl
theorem clrX_some (h : AHeap) : clrX (some h) = some (.tuple [], h) := hid rfl
def idxAArrX (n es : Nat) (i : AVal) (H : AHeap) : AVal → Option (AVal × AHeap)
  | .ptr id o => vX H ((aidx n i).map fun i => .ptr id (o + i * es))
  | _ => none
theorem o_idxAArr (n es : Nat) (x i : AOpd) : ado call (.idxAArr n es x i) ρ H = idxAArrX n es (ρ i) H (ρ x) := by
  simp only [ado, aop, idxAArrX]
  cases ρ x <;> try rfl
  simp only
  cases aidx n (ρ i) <;> rfl
theorem idxAArr_ptr (n es : Nat) (i : AVal) (H : AHeap) (id o : Nat) : idxAArrX n es i H (.ptr id o) = vX H ((aidx n i).map fun i => .ptr id (o + i * es)) := hid rfl
def idxArrX (n es : Nat) (agg : Bool) (i : AVal) (H : AHeap) : AVal → Option (AVal × AHeap)
  | .agg l => vX H ((aidx n i).bind fun i => apart agg (i * es) es l)
  | _ => none
theorem o_idxArr (n es : Nat) (agg : Bool) (x i : AOpd) : ado call (.idxArr n es agg x i) ρ H = idxArrX n es agg (ρ i) H (ρ x) := by
  simp only [ado, aop, idxArrX]
  cases ρ x <;> try rfl
  rename_i l
  simp only
  cases (aidx n (ρ i)).bind fun i => apart agg (i * es) es l <;> rfl
theorem idxArr_agg (n es : Nat) (agg : Bool) (i : AVal) (H : AHeap) (l : List AVal) : idxArrX n es agg i H (.agg l) = vX H ((aidx n i).bind fun i => apart agg (i * es) es l) := hid rfl
def idxStrX (i : AVal) (H : AHeap) : AVal → Option (AVal × AHeap)
  | .str s => vX H ((aidx s.length i).bind fun i => (s[i]?).map fun b => .int .u8 (b.toNat : Int))
  | _ => none
theorem o_idxStr (x i : AOpd) : ado call (.idxStr x i) ρ H = idxStrX (ρ i) H (ρ x) := by
  simp only [ado, aop, idxStrX]
  cases ρ x <;> try rfl
  rename_i s
  simp only
  cases (aidx s.length (ρ i)).bind fun i => (s[i]?).map fun b => AVal.int .u8 (b.toNat : Int) <;> rfl
theorem idxStr_str (i : AVal) (H : AHeap) (s : List UInt8) : idxStrX i H (.str s) = vX H ((aidx s.length i).bind fun i => (s[i]?).map fun b => .int .u8 (b.toNat : Int)) := hid rfl
def slcStrX (lo hi : Option AVal) (H : AHeap) : AVal → Option (AVal × AHeap)
  | .str s => vX H ((abounds s.length s.length lo hi none).map fun (l, h, _) => .str ((s.take h).drop l))
  | _ => none
theorem o_slcStr (x : AOpd) (lo hi : Option AOpd) : ado call (.slcStr x lo hi) ρ H = slcStrX (lo.map ρ) (hi.map ρ) H (ρ x) := by
  simp only [ado, aop, slcStrX]
  cases ρ x <;> try rfl
  rename_i s
  simp only
  cases abounds s.length s.length (lo.map ρ) (hi.map ρ) none <;> rfl
theorem slcStr_str (lo hi : Option AVal) (H : AHeap) (s : List UInt8) : slcStrX lo hi H (.str s) = vX H ((abounds s.length s.length lo hi none).map fun (l, h, _) => .str ((s.take h).drop l)) := hid rfl
theorem o_slcArr (n es : Nat) (x : AOpd) (lo hi mx : Option AOpd) : ado call (.slcArr n es x lo hi mx) ρ H = vX H (aslcArr n es (ρ x) (lo.map ρ) (hi.map ρ) (mx.map ρ)) := by
  simp only [ado, aop]
  cases aslcArr n es (ρ x) (lo.map ρ) (hi.map ρ) (mx.map ρ) <;> rfl
theorem o_mkIface (t : TypeId) (x : AOpd) : ado call (.mkIface t x) ρ H = some (.iface t (ρ x), H) := hid rfl

/-! memory -/
theorem new_obj (H : AHeap) (o : AObj) (i : Nat) : (H.new o).obj i = if i = H.next then some o else H.obj i := hid rfl
theorem new_next (H : AHeap) (o : AObj) : (H.new o).next = H.next + 1 := hid rfl
theorem set_obj (H : AHeap) (id : Nat) (o : AObj) (i : Nat) : (H.set id o).obj i = if i = id then some o else H.obj i := hid rfl
theorem set_next (H : AHeap) (id : Nat) (o : AObj) : (H.set id o).next = H.next := hid rfl
def loadX (agg : Bool) (n off : Nat) : Option AObj → Option AVal
  | some (.cells l _) => apart agg off n l
  | _ => none
theorem load_ptr (H : AHeap) (agg : Bool) (n id off : Nat) : aload H agg n (.ptr id off) = loadX agg n off (H.obj id) := by
  simp only [aload, loadX]
  cases H.obj id with
  | none => rfl
  | some o => cases o <;> rfl
theorem loadX_cells (agg : Bool) (n off : Nat) (l : List AVal) (own : Bool) : loadX agg n off (some (.cells l own)) = apart agg off n l := hid rfl
theorem apart_one (off n : Nat) (l : List AVal) : apart false off n l = l[off]? := hid rfl
theorem apart_agg (off n : Nat) (l : List AVal) (h : off + n ≤ l.length) : apart true off n l = some (.agg ((l.drop off).take n)) := by simp [apart, h]
theorem apart_all (l : List AVal) (n : Nat) (h : l.length = n) : apart true 0 n l = some (.agg l) := by subst h; simp [apart]
def storeX (H : AHeap) (n id off : Nat) (c : List AVal) (t : Bool) : Option AObj → Option AHeap
  | some (.cells l true) => if off + n ≤ l.length ∧ c.length = n ∧ t = false then some (H.set id (.cells (lput l off c) true)) else none
  | _ => none
theorem store_ptr (H : AHeap) (n id off : Nat) (x : AVal) : astore H n (.ptr id off) x = storeX H n id off x.cells x.tup (H.obj id) := by
  simp only [astore, storeX]
  cases H.obj id with
  | none => rfl
  | some o => cases o with
    | cells l own => cases own <;> rfl
    | map l => rfl
theorem storeX_cells (H : AHeap) (n id off : Nat) (c l : List AVal) (h1 : off + n ≤ l.length) (h2 : c.length = n) : storeX H n id off c false (some (.cells l true)) = some (H.set id (.cells (lput l off c) true)) := by
  simp [storeX, h1, h2]
theorem store_one (H : AHeap) (id off : Nat) (v : AVal) (l : List AVal) (h : off < l.length) : storeX H 1 id off [v] false (some (.cells l true)) = some (H.set id (.cells (l.set off v) true)) := by
  rw [storeX_cells H 1 id off [v] l (by omega) rfl]; cases l <;> rfl
theorem put_nil (l : List AVal) (off : Nat) : lput l off [] = l := by cases l <;> rfl
theorem put_cons (l : List AVal) (off : Nat) (c : AVal) (cs : List AVal) : lput l off (c :: cs) = lput (l.set off c) (off + 1) cs := hid rfl
theorem lput_at : ∀ (l cs : List AVal) (k : Nat) (pre : List AVal), l.length = cs.length → pre.length = k → lput (pre ++ l) k cs = pre ++ cs
  | l, [], k, pre, h, hp => by simp at h; subst h; rfl
  | [], c :: cs, k, pre, h, hp => by simp at h
  | a :: l, c :: cs, k, pre, h, hp => by
    simp only [lput]
    have : (pre ++ a :: l).set k c = (pre ++ [c]) ++ l := by simp [← hp]
    rw [this, lput_at l cs (k + 1) (pre ++ [c]) (by simpa using h) (by simp [hp])]
    simp
theorem lput_whole (l c : List AVal) (h : l.length = c.length) : lput l 0 c = c := by
  have := lput_at l c 0 [] h rfl
  simpa using this
theorem cells_agg (l : List AVal) : AVal.cells (.agg l) = l := hid rfl
theorem cells_int (k : IntKind) (n : Int) : AVal.cells (.int k n) = [.int k n] := hid rfl
theorem cells_bool (b : Bool) : AVal.cells (.bool b) = [.bool b] := hid rfl
theorem cells_str (b : List UInt8) : AVal.cells (.str b) = [.str b] := hid rfl
theorem cells_slice (id off len cap : Nat) (g : Option Nat) : AVal.cells (.slice id off len cap g) = [.slice id off len cap g] := hid rfl
theorem cells_nils : AVal.cells .nils = [.nils] := hid rfl
theorem cells_map (id : Nat) : AVal.cells (.map id) = [.map id] := hid rfl
theorem cells_nilm : AVal.cells .nilm = [.nilm] := hid rfl
theorem tup_map (id : Nat) : AVal.tup (.map id) = false := hid rfl
theorem tup_nilm : AVal.tup .nilm = false := hid rfl
theorem cells_ptr (id off : Nat) : AVal.cells (.ptr id off) = [.ptr id off] := hid rfl
theorem tup_agg (l : List AVal) : AVal.tup (.agg l) = false := hid rfl
theorem tup_int (k : IntKind) (n : Int) : AVal.tup (.int k n) = false := hid rfl
theorem tup_bool (b : Bool) : AVal.tup (.bool b) = false := hid rfl
theorem tup_str (b : List UInt8) : AVal.tup (.str b) = false := hid rfl
theorem tup_slice (id off len cap : Nat) (g : Option Nat) : AVal.tup (.slice id off len cap g) = false := hid rfl
theorem tup_nils : AVal.tup .nils = false := hid rfl
theorem tup_ptr (id off : Nat) : AVal.tup (.ptr id off) = false := hid rfl
def boxX (H : AHeap) (c : List AVal) : Bool → Option (AVal × AHeap)
  | true => none
  | false => some (.ptr H.next 0, H.new (.cells c true))
theorem o_box (x : AOpd) : ado call (.box x) ρ H = boxX H (ρ x).cells (ρ x).tup := by
  simp only [ado, aop, boxX]
  cases (ρ x).tup <;> rfl
theorem box_ok (H : AHeap) (c : List AVal) : boxX H c false = some (.ptr H.next 0, H.new (.cells c true)) := hid rfl
theorem fill_nil (c : List AVal) : afill c [] = some c := hid rfl
theorem fill_cons (c : List AVal) (off n : Nat) (v : AVal) (r : List (Nat × Nat × AVal)) (h : v.cells.length = n) (h2 : off + n ≤ c.length) (h3 : v.tup = false) : afill c ((off, n, v) :: r) = afill (lput c off v.cells) r := by simp [afill, h, h2, h3]
def stepD (call : ACall) (l : List AOper) (d : Option Nat) (env : Env) (eff : Bool) (st : List AHeap) (rs : AVal → List ARead) : Option (AVal × AHeap) → Option (Env × AHeap)
  | none => none
  | some (v, H) => adraw call l (setd env d v) H (if eff then st ++ [H] else st) (rs v)
theorem stepD_some (l : List AOper) (d : Option Nat) (env : Env) (eff : Bool) (st : List AHeap) (rs : AVal → List ARead) (v : AVal) (H : AHeap) : stepD call l d env eff st rs (some (v, H)) = adraw call l (setd env d v) H (if eff then st ++ [H] else st) (rs v) := hid rfl
theorem d_nil (env : Env) (H : AHeap) (st : List AHeap) (rs : List ARead) : adraw call [] env H st rs = if rs.all (ARead.ok st) then some (env, H) else none := hid rfl
theorem d_op (d : Option Nat) (o : AOp) (l : List AOper) (env : Env) (H : AHeap) (st : List AHeap) (rs : List ARead) : adraw call (⟨d, o, none, none⟩ :: l) env H st rs = stepD call l d env o.eff st (fun _ => rs) (ado call o (aev env) H) := by
  simp only [adraw, agd, if_true]
  cases ado call o (aev env) H <;> rfl
theorem d_rd (d : Option Nat) (o : AOp) (lo hi : Nat) (l : List AOper) (env : Env) (H : AHeap) (st : List AHeap) (rs : List ARead) : adraw call (⟨d, o, none, some (lo, hi)⟩ :: l) env H st rs = stepD call l d env o.eff st (fun v => ⟨o, env, v, lo, hi⟩ :: rs) (ado call o (aev env) H) := by
  simp only [adraw, agd, if_true]
  cases ado call o (aev env) H <;> rfl
theorem d_gt (d : Option Nat) (o : AOp) (t : Nat) (rd : Option (Nat × Nat)) (l : List AOper) (env : Env) (H : AHeap) (st : List AHeap) (rs : List ARead) (h : env t = .bool true) : adraw call (⟨d, o, some (t, true), rd⟩ :: l) env H st rs = adraw call (⟨d, o, none, rd⟩ :: l) env H st rs := by
  simp [adraw, agd, h]
theorem d_gf (d : Option Nat) (o : AOp) (t : Nat) (rd : Option (Nat × Nat)) (l : List AOper) (env : Env) (H : AHeap) (st : List AHeap) (rs : List ARead) (h : env t = .bool false) : adraw call (⟨d, o, some (t, false), rd⟩ :: l) env H st rs = adraw call (⟨d, o, none, rd⟩ :: l) env H st rs := by
  simp [adraw, agd, h]
theorem d_nt (d : Option Nat) (o : AOp) (t : Nat) (rd : Option (Nat × Nat)) (l : List AOper) (env : Env) (H : AHeap) (st : List AHeap) (rs : List ARead) (h : env t = .bool false) : adraw call (⟨d, o, some (t, true), rd⟩ :: l) env H st rs = adraw call l (setd env d aundef) H (if o.eff then st ++ [H] else st) rs := by
  simp [adraw, agd, h]
theorem d_nf (d : Option Nat) (o : AOp) (t : Nat) (rd : Option (Nat × Nat)) (l : List AOper) (env : Env) (H : AHeap) (st : List AHeap) (rs : List ARead) (h : env t = .bool true) : adraw call (⟨d, o, some (t, false), rd⟩ :: l) env H st rs = adraw call l (setd env d aundef) H (if o.eff then st ++ [H] else st) rs := by
  simp [adraw, agd, h]

theorem d_nu (d : Option Nat) (o : AOp) (t : Nat) (w : Bool) (rd : Option (Nat × Nat)) (l : List AOper) (env : Env) (H : AHeap) (st : List AHeap) (rs : List ARead) (h : env t = aundef) : adraw call (⟨d, o, some (t, w), rd⟩ :: l) env H st rs = adraw call l (setd env d aundef) H (if o.eff then st ++ [H] else st) rs := by
  simp [adraw, agd, h, aundef]
theorem eff_mv (x : AOpd) : AOp.eff (.mv x) = false := hid rfl
theorem eff_pick (c a b : AOpd) : AOp.eff (.pick c a b) = false := hid rfl
theorem eff_load (g : Bool) (n : Nat) (a : AOpd) : AOp.eff (.load g n a) = false := hid rfl
theorem eff_bin (op : BinOp) (x y : AOpd) : AOp.eff (.bin op x y) = false := hid rfl
theorem eff_eq (neg : Bool) (t : EqT) (x y : AOpd) : AOp.eff (.eq neg t x y) = false := hid rfl
theorem eff_un (op : UnOp) (x : AOpd) : AOp.eff (.un op x) = false := hid rfl
theorem eff_toInt (k : IntKind) (x : AOpd) : AOp.eff (.toInt k x) = false := hid rfl
theorem eff_call (f : AOpd) (args : List AOpd) : AOp.eff (.call f args) = true := hid rfl
theorem eff_extract (x : AOpd) (i : Nat) : AOp.eff (.extract x i) = false := hid rfl
theorem eff_fieldA (off : Nat) (x : AOpd) : AOp.eff (.fieldA off x) = false := hid rfl
theorem eff_field (off n : Nat) (g : Bool) (x : AOpd) : AOp.eff (.field off n g x) = false := hid rfl
theorem eff_idxASl (es : Nat) (x i : AOpd) : AOp.eff (.idxASl es x i) = false := hid rfl
theorem eff_len (s : Bool) (x : AOpd) : AOp.eff (.len s x) = false := hid rfl
theorem eff_minmax (b : Bool) (l : List AOpd) : AOp.eff (.minmax b l) = false := hid rfl
theorem eff_build (z : List AVal) (l : List (Nat × Nat × AOpd)) : AOp.eff (.build z l) = false := hid rfl
theorem eff_slc (es : Nat) (x : AOpd) (lo hi mx : Option AOpd) : AOp.eff (.slc es x lo hi mx) = false := hid rfl
theorem eff_append (es by' : Nat) (s x : AOpd) : AOp.eff (.append es by' s x) = true := hid rfl
theorem eff_appendZ (es by' : Nat) (z : List AVal) (s x : AOpd) : AOp.eff (.appendZ es by' z s x) = true := hid rfl
theorem eff_new (c : List AVal) : AOp.eff (.new c) = true := hid rfl
theorem eff_box (x : AOpd) : AOp.eff (.box x) = true := hid rfl
theorem eff_store (n : Nat) (a x : AOpd) : AOp.eff (.store n a x) = true := hid rfl
theorem eff_buildS (n : Nat) (z : List AVal) (l : List (Nat × Nat × AOpd)) : AOp.eff (.buildS n z l) = true := hid rfl
theorem eff_nilck (x : AOpd) : AOp.eff (.nilck x) = false := hid rfl
theorem eff_idxAArr (n es : Nat) (x i : AOpd) : AOp.eff (.idxAArr n es x i) = false := hid rfl
theorem eff_idxArr (n es : Nat) (g : Bool) (x i : AOpd) : AOp.eff (.idxArr n es g x i) = false := hid rfl
theorem eff_idxStr (x i : AOpd) : AOp.eff (.idxStr x i) = false := hid rfl
theorem eff_slcStr (x : AOpd) (lo hi : Option AOpd) : AOp.eff (.slcStr x lo hi) = false := hid rfl
theorem eff_slcArr (n es : Nat) (x : AOpd) (lo hi mx : Option AOpd) : AOp.eff (.slcArr n es x lo hi mx) = false := hid rfl
theorem eff_mkFn (f : FuncId) (a b : List AOpd) : AOp.eff (.mkFn f a b) = false := hid rfl
theorem eff_idS (x : AOpd) : AOp.eff (.idS x) = false := hid rfl
theorem eff_bToS (x : AOpd) : AOp.eff (.bToS x) = false := hid rfl
theorem eff_sToB (x : AOpd) : AOp.eff (.sToB x) = true := hid rfl
theorem eff_mkS (es b : Nat) (z : List AVal) (l c : AOpd) : AOp.eff (.mkS es b z l c) = true := hid rfl
theorem eff_copy (es : Nat) (d s : AOpd) : AOp.eff (.copy es d s) = true := hid rfl
theorem eff_clearS (es : Nat) (z : List AVal) (x : AOpd) : AOp.eff (.clearS es z x) = true := hid rfl
theorem eff_mkIface (t : TypeId) (x : AOpd) : AOp.eff (.mkIface t x) = false := hid rfl
theorem eff_cap (x : AOpd) : AOp.eff (.cap x) = false := hid rfl
theorem eff_lenC (n : Nat) : AOp.eff (.lenC n) = false := hid rfl
theorem ok_still {H : AHeap} {st : List AHeap} {r : ARead} (hst : ∀ h, h ∈ st → h = H) (h : (aop r.op (aev r.env) H).map (·.1) = some r.v) : ARead.ok st r = true := by
  simp only [ARead.ok, List.all_eq_true, List.mem_range]
  intro i _
  split
  · rfl
  · rename_i H1 h1
    have : H1 = H := hst H1 (List.mem_of_getElem? h1)
    subst this
    simp only [Option.map_eq_some_iff] at h
    obtain ⟨⟨v, H2⟩, h2, h3⟩ := h
    simp only at h3
    subst h3
    rw [h2]
    exact AVal.beq_self _
theorem d_still (env : Env) (H : AHeap) (st : List AHeap) (rs : List ARead) (hst : ∀ h, h ∈ st → h = H) (h : ∀ r, r ∈ rs → (aop r.op (aev r.env) H).map (·.1) = some r.v) : adraw call [] env H st rs = some (env, H) := by
  rw [d_nil, if_pos]
  exact List.all_eq_true.2 fun r hr => ok_still hst (h r hr)
def rdOk (o : AOp) (env : Env) (v : AVal) (H : AHeap) : Bool := match aop o (aev env) H with
  | some (u, _) => u.beq v
  | none => false
def okAt (o : AOp) (env : Env) (v : AVal) : Option AHeap → Bool
  | none => true
  | some H => rdOk o env v H
theorem ok_lohi (st : List AHeap) (o : AOp) (env : Env) (v : AVal) (lo hi : Nat) : ARead.ok st ⟨o, env, v, lo, hi⟩ = (List.range (hi - lo + 1)).all fun i => okAt o env v st[lo + i]? := by
  rfl
theorem ok_01 (st : List AHeap) (o : AOp) (env : Env) (v : AVal) : ARead.ok st ⟨o, env, v, 0, 1⟩ = (okAt o env v st[0]? && okAt o env v st[1]?) := by rw [ok_lohi]; simp [List.range_succ]
theorem ok_12 (st : List AHeap) (o : AOp) (env : Env) (v : AVal) : ARead.ok st ⟨o, env, v, 1, 2⟩ = (okAt o env v st[1]? && okAt o env v st[2]?) := by rw [ok_lohi]; simp [List.range_succ]
theorem ok_23 (st : List AHeap) (o : AOp) (env : Env) (v : AVal) : ARead.ok st ⟨o, env, v, 2, 3⟩ = (okAt o env v st[2]? && okAt o env v st[3]?) := by rw [ok_lohi]; simp [List.range_succ]
theorem ok_02 (st : List AHeap) (o : AOp) (env : Env) (v : AVal) : ARead.ok st ⟨o, env, v, 0, 2⟩ = (okAt o env v st[0]? && (okAt o env v st[1]? && okAt o env v st[2]?)) := by rw [ok_lohi]; simp [List.range_succ, Bool.and_assoc]
theorem ok_13 (st : List AHeap) (o : AOp) (env : Env) (v : AVal) : ARead.ok st ⟨o, env, v, 1, 3⟩ = (okAt o env v st[1]? && (okAt o env v st[2]? && okAt o env v st[3]?)) := by rw [ok_lohi]; simp [List.range_succ, Bool.and_assoc]
theorem ok_03 (st : List AHeap) (o : AOp) (env : Env) (v : AVal) : ARead.ok st ⟨o, env, v, 0, 3⟩ = (okAt o env v st[0]? && (okAt o env v st[1]? && (okAt o env v st[2]? && okAt o env v st[3]?))) := by rw [ok_lohi]; simp [List.range_succ, Bool.and_assoc]
theorem okAt_some (o : AOp) (env : Env) (v : AVal) (H : AHeap) : okAt o env v (some H) = rdOk o env v H := hid rfl
def beqO (v : AVal) : Option AVal → Bool
  | some u => u.beq v
  | none => false
theorem rdOk_load (agg : Bool) (n : Nat) (a : AOpd) (env : Env) (v : AVal) (H : AHeap) : rdOk (.load agg n a) env v H = beqO v (aload H agg n (aev env a)) := by
  simp only [rdOk, aop, beqO]
  cases aload H agg n (aev env a) <;> rfl
theorem beqO_some (u v : AVal) : beqO v (some u) = u.beq v := hid rfl
theorem beq_same (v : AVal) : AVal.beq v v = true := AVal.beq_self v
theorem all_nil (p : ARead → Bool) : ([] : List ARead).all p = true := hid rfl
theorem all_cons (p : ARead → Bool) (r : ARead) (l : List ARead) : (r :: l).all p = (p r && l.all p) := hid rfl
theorem if_true' (x y : Option (Env × AHeap)) : (if true = true then x else y) = x := hid rfl
theorem aop_load (agg : Bool) (n : Nat) (a : AOpd) : aop (.load agg n a) ρ H = vX H (aload H agg n (ρ a)) := by
  simp only [aop]
  cases aload H agg n (ρ a) <;> rfl

def Ans (x : Option (AVal × AHeap)) (v : AVal) : Prop := ∃ H, x = some (v, H)
theorem ans_some (u v : AVal) (H : AHeap) : Ans (some (u, H)) v ↔ u = v := by simp [Ans]
/-! what the operations on numbers answer -/
theorem b_int (op : BinOp) (k : IntKind) (a b : Int) (h1 : op ≠ .shl) (h2 : op ≠ .shr) : abin op (.int k a) (.int k b) = aint op k a b := by
  simp only [abin]
  split <;> simp_all
theorem b_eql (k : IntKind) (a b : Int) : abin .eql (.int k a) (.int k b) = some (.bool (decide (a = b))) := by
  simp [abin, aint]
  exact Bool.beq_eq_decide_eq a b
theorem b_neq (k : IntKind) (a b : Int) : abin .neq (.int k a) (.int k b) = some (.bool (!decide (a = b))) := by
  simp [abin, aint, bne, Bool.beq_eq_decide_eq]
theorem b_lss (k : IntKind) (a b : Int) : abin .lss (.int k a) (.int k b) = some (.bool (decide (a < b))) := by simp [abin, aint]
theorem b_leq (k : IntKind) (a b : Int) : abin .leq (.int k a) (.int k b) = some (.bool (decide (a ≤ b))) := by simp [abin, aint]
theorem b_gtr (k : IntKind) (a b : Int) : abin .gtr (.int k a) (.int k b) = some (.bool (decide (b < a))) := by simp [abin, aint]
theorem b_geq (k : IntKind) (a b : Int) : abin .geq (.int k a) (.int k b) = some (.bool (decide (b ≤ a))) := by simp [abin, aint]
theorem b_add (k : IntKind) (a b : Int) : abin .add (.int k a) (.int k b) = some (.int k (k.wrap (a + b))) := by simp [abin, aint]
theorem b_sub (k : IntKind) (a b : Int) : abin .sub (.int k a) (.int k b) = some (.int k (k.wrap (a - b))) := by simp [abin, aint]
theorem b_mul (k : IntKind) (a b : Int) : abin .mul (.int k a) (.int k b) = some (.int k (k.wrap (a * b))) := by simp [abin, aint]
theorem b_quo (k : IntKind) (a b : Int) : abin .quo (.int k a) (.int k b) = cnd (decide (b = 0)) none (some (.int k (k.wrap (a.tdiv b)))) := by simp [abin, aint, cnd_ite]
theorem b_rem (k : IntKind) (a b : Int) : abin .rem (.int k a) (.int k b) = cnd (decide (b = 0)) none (some (.int k (a.tmod b))) := by simp [abin, aint, cnd_ite]
def fadd (a b : Nat) : Nat := (Ieee.double.add a b).getD qnan
def fsub (a b : Nat) : Nat := (Ieee.double.sub a b).getD qnan
def fmul (a b : Nat) : Nat := (Ieee.double.mul a b).getD qnan
def fdiv (a b : Nat) : Nat := (Ieee.double.div a b).getD qnan
def fneg (a : Nat) : Nat := Op.negFloat .f64 a
def fint (n : Int) : Nat := FloatKind.f64.nearest n
def feq (a b : Nat) : Bool := Ieee.double.order a b == some .eq
def flss (a b : Nat) : Bool := Ieee.double.order a b == some .lt
def fgtr (a b : Nat) : Bool := Ieee.double.order a b == some .gt
theorem b_fadd (a b : Nat) : abin .add (.flt .f64 a) (.flt .f64 b) = some (.flt .f64 (fadd a b)) := hid rfl
theorem b_fsub (a b : Nat) : abin .sub (.flt .f64 a) (.flt .f64 b) = some (.flt .f64 (fsub a b)) := hid rfl
theorem b_fmul (a b : Nat) : abin .mul (.flt .f64 a) (.flt .f64 b) = some (.flt .f64 (fmul a b)) := hid rfl
theorem b_fquo (a b : Nat) : abin .quo (.flt .f64 a) (.flt .f64 b) = some (.flt .f64 (fdiv a b)) := hid rfl
theorem b_feql (a b : Nat) : abin .eql (.flt .f64 a) (.flt .f64 b) = some (.bool (feq a b)) := hid rfl
theorem b_fneq (a b : Nat) : abin .neq (.flt .f64 a) (.flt .f64 b) = some (.bool (!feq a b)) := hid rfl
theorem b_flss (a b : Nat) : abin .lss (.flt .f64 a) (.flt .f64 b) = some (.bool (flss a b)) := hid rfl
theorem b_fgtr (a b : Nat) : abin .gtr (.flt .f64 a) (.flt .f64 b) = some (.bool (fgtr a b)) := hid rfl
theorem b_fleq (a b : Nat) : abin .leq (.flt .f64 a) (.flt .f64 b) = some (.bool (flss a b || feq a b)) := hid rfl
theorem b_fgeq (a b : Nat) : abin .geq (.flt .f64 a) (.flt .f64 b) = some (.bool (fgtr a b || feq a b)) := hid rfl
theorem u_fneg (a : Nat) : aun .neg (.flt .f64 a) = some (.flt .f64 (fneg a)) := hid rfl
def iToFX (H : AHeap) : AVal → Option (AVal × AHeap)
  | .int _ n => some (.flt .f64 (fint n), H)
  | _ => none
theorem o_iToF (x : AOpd) : ado call (.iToF x) ρ H = iToFX H (ρ x) := by
  simp only [ado, aop, iToFX, fint]
  cases ρ x <;> rfl
theorem iToF_int (k : IntKind) (n : Int) (H : AHeap) : iToFX H (.int k n) = some (.flt .f64 (fint n), H) := hid rfl
def fToIX (k : IntKind) (H : AHeap) : AVal → Option (AVal × AHeap)
  | .flt .f64 b => vX H ((floatToIntVal .f64 b k).map (.int k))
  | _ => none
theorem o_fToI (k : IntKind) (x : AOpd) : ado call (.fToI k x) ρ H = fToIX k H (ρ x) := by
  simp only [ado, aop, fToIX]
  cases ρ x <;> try rfl
  rename_i j b
  cases j
  · rfl
  · simp only
    cases floatToIntVal .f64 b k <;> rfl
theorem fToI_flt (k : IntKind) (b : Nat) (H : AHeap) : fToIX k H (.flt .f64 b) = vX H ((floatToIntVal .f64 b k).map (.int k)) := hid rfl
def fbitsX (H : AHeap) : AVal → Option (AVal × AHeap)
  | .flt .f64 b => cnd (decide (Fl.num b)) (some (.int .u64 (b : Int), H)) none
  | _ => none
theorem o_fbits (x : AOpd) : ado call (.fbits x) ρ H = fbitsX H (ρ x) := by
  simp only [ado, aop, fbitsX]
  cases ρ x <;> try rfl
  rename_i j b
  cases j
  · rfl
  · simp only [cnd_ite, decide_eq_true_eq]
theorem fbits_flt (b : Nat) (H : AHeap) : fbitsX H (.flt .f64 b) = cnd (decide (Fl.num b)) (some (.int .u64 (b : Int), H)) none := hid rfl
def ofBitsX (H : AHeap) : AVal → Option (AVal × AHeap)
  | .int .u64 n => some (.flt .f64 n.toNat, H)
  | _ => none
theorem o_ofBits (x : AOpd) : ado call (.ofBits x) ρ H = ofBitsX H (ρ x) := by
  simp only [ado, aop, ofBitsX]
  cases ρ x <;> rfl
theorem ofBits_int (n : Int) (H : AHeap) : ofBitsX H (.int .u64 n) = some (.flt .f64 n.toNat, H) := hid rfl
def ffloor (b : Nat) : Nat := Ieee.double.write ((Ieee.double.read b).integral .down)
def floorX (H : AHeap) : AVal → Option (AVal × AHeap)
  | .flt .f64 b => cnd (decide (Fl.num b)) (some (.flt .f64 (ffloor b), H)) none
  | _ => none
theorem o_ffloor (x : AOpd) : ado call (.ffloor x) ρ H = floorX H (ρ x) := by
  simp only [ado, aop, floorX, ffloor]
  cases ρ x <;> try rfl
  rename_i j b
  cases j
  · rfl
  · simp only [cnd_ite, decide_eq_true_eq]
theorem floor_flt (b : Nat) (H : AHeap) : floorX H (.flt .f64 b) = cnd (decide (Fl.num b)) (some (.flt .f64 (ffloor b), H)) none := hid rfl
theorem eff_fbits (x : AOpd) : AOp.eff (.fbits x) = false := hid rfl
theorem eff_ofBits (x : AOpd) : AOp.eff (.ofBits x) = false := hid rfl
theorem eff_ffloor (x : AOpd) : AOp.eff (.ffloor x) = false := hid rfl
theorem eff_iToF (x : AOpd) : AOp.eff (.iToF x) = false := hid rfl
theorem eff_fToI (k : IntKind) (x : AOpd) : AOp.eff (.fToI k x) = false := hid rfl
theorem o_newT (t : TypeId) (cells : List AVal) : ado call (.newT t cells) ρ H = some (.ptr H.next 0, (H.new (.cells cells true)).tag H.next (t, some cells.length)) := hid rfl
theorem eff_newT (t : TypeId) (c : List AVal) : AOp.eff (.newT t c) = true := hid rfl
def buildTX (t : TypeId) (len : Nat) (H : AHeap) : Option (List AVal) → Option (AVal × AHeap)
  | none => none
  | some l => some (.slice H.next 0 len len none, (H.new (.cells l true)).tag H.next (t, none))
theorem o_buildT (t : TypeId) (len : Nat) (zero : List AVal) (parts : List (Nat × Nat × AOpd)) : ado call (.buildT t len zero parts) ρ H = buildTX t len H (afill zero (parts.map fun (o, n, x) => (o, n, ρ x))) := by
  simp only [ado, aop, buildTX]
  cases afill zero (parts.map fun (o, n, x) => (o, n, ρ x)) <;> rfl
theorem buildT_some (t : TypeId) (len : Nat) (H : AHeap) (l : List AVal) : buildTX t len H (some l) = some (.slice H.next 0 len len none, (H.new (.cells l true)).tag H.next (t, none)) := hid rfl
theorem eff_buildT (t : TypeId) (n : Nat) (z : List AVal) (l : List (Nat × Nat × AOpd)) : AOp.eff (.buildT t n z l) = true := hid rfl
theorem o_appendT (t : TypeId) (es bytes : Nat) (s x : AOpd) : ado call (.appendT t es bytes s x) ρ H = aappendT t H es bytes (ρ s) (ρ x) := hid rfl
theorem eff_appendT (t : TypeId) (es by' : Nat) (s x : AOpd) : AOp.eff (.appendT t es by' s x) = true := hid rfl
theorem o_ovl (x y : AOpd) : ado call (.ovl x y) ρ H = vX H (aovl H (ρ x) (ρ y)) := by
  simp only [ado, aop]
  cases aovl H (ρ x) (ρ y) <;> rfl
theorem eff_ovl (x y : AOpd) : AOp.eff (.ovl x y) = true := hid rfl
theorem o_sdata (x : AOpd) : ado call (.sdata x) ρ H = vX H (asdata (ρ x)) := by
  simp only [ado, aop]
  cases asdata (ρ x) <;> rfl
theorem eff_sdata (x : AOpd) : AOp.eff (.sdata x) = false := hid rfl
theorem o_ustr (t : TypeId) (x n : AOpd) : ado call (.ustr t x n) ρ H = austr H t (ρ x) (ρ n) := hid rfl
theorem eff_ustr (t : TypeId) (x n : AOpd) : AOp.eff (.ustr t x n) = true := hid rfl
theorem tag_obj (H : AHeap) (i : Nat) (t : TypeId × Option Nat) : (H.tag i t).obj = H.obj := hid rfl
theorem tag_next (H : AHeap) (i : Nat) (t : TypeId × Option Nat) : (H.tag i t).next = H.next := hid rfl
theorem cells_flt (k : FloatKind) (b : Nat) : AVal.cells (.flt k b) = [.flt k b] := hid rfl
theorem tup_flt (k : FloatKind) (b : Nat) : AVal.tup (.flt k b) = false := hid rfl
theorem b_seq (a b : List UInt8) : abin .eql (.str a) (.str b) = some (.bool (decide (a = b))) := by
  simp [abin, astr]
  exact Bool.beq_eq_decide_eq a b
theorem b_sne (a b : List UInt8) : abin .neq (.str a) (.str b) = some (.bool (!decide (a = b))) := by
  simp [abin, astr]
  exact Bool.beq_eq_decide_eq a b
theorem b_sls (a b : List UInt8) : abin .lss (.str a) (.str b) = some (.bool (Op.bytesLess a b)) := by simp [abin, astr]
theorem b_sge (a b : List UInt8) : abin .geq (.str a) (.str b) = some (.bool (!Op.bytesLess a b)) := by simp [abin, astr]
theorem call_fn (g : FuncId) (f c : List AVal) (l : List AVal) (H : AHeap) : callX call l H (.func g f c) = call g (f ++ l ++ c) H := hid rfl
theorem res_nil (env : Env) : aress H env [] = some [] := hid rfl
theorem res_tmp (env : Env) (t : Nat) (l : List ARes) : aress H env (.tmp t :: l) = consX (env t) (aress H env l) := by
  cases h : aress H env l <;> simp [aress, consX, h]
theorem res_cell (env : Env) (a : Nat) (g : Bool) (n : Nat) (l : List ARes) : aress H env (.cell a g n :: l) = cellX (aload H g n (env a)) (aress H env l) := by
  cases h : aress H env l <;> cases h2 : aload H g n (env a) <;> simp [aress, cellX, consX, h, h2]
theorem cons_some (v : AVal) (l : List AVal) : consX v (some l) = some (v :: l) := hid rfl
theorem cell_some (v : AVal) (x : Option (List AVal)) : cellX (some v) x = consX v x := hid rfl
theorem retX_some (l : List AVal) (H : AHeap) : retX H (some l) = some (aret l, H) := hid rfl
theorem ret_one (v : AVal) : aret [v] = v := hid rfl
theorem ret_nil : aret [] = .tuple [] := hid rfl
theorem ret_two (u v : AVal) (l : List AVal) : aret (u :: v :: l) = .tuple (u :: v :: l) := hid rfl
theorem u_not (b : Bool) : aun .not (.bool b) = some (.bool !b) := hid rfl
theorem u_neg (k : IntKind) (n : Int) : aun .neg (.int k n) = some (.int k (k.wrap (-n))) := by simp [aun, aint]
theorem m_max (k : IntKind) (x y : Int) : aminmax true (.int k x) (.int k y) = some (.int k (if y > x then y else x)) := by simp [aminmax]
theorem m_min (k : IntKind) (x y : Int) : aminmax false (.int k x) (.int k y) = some (.int k (if y < x then y else x)) := by simp [aminmax]
theorem e_int (k : IntKind) (a b : Int) : aeq (.int k) (.int k a) (.int k b) = some (decide (a = b)) := by
  simp [aeq]
  exact Bool.beq_eq_decide_eq a b

theorem wrap_i64 (n : Int) : IntKind.i64.wrap n = (n + 9223372036854775808) % 18446744073709551616 - 9223372036854775808 := by
  have : IntKind.i64.wrap n = (if n % 18446744073709551616 ≥ 9223372036854775808 then n % 18446744073709551616 - 18446744073709551616 else n % 18446744073709551616) := by
    simp [IntKind.wrap, IntKind.signed, IntKind.bits]
  rw [this]
  split <;> omega

end Go.Proofs.Ytfmjdlahabgkpaa.Am
end

section
/- A call on plain values may be followed apart, in an empty memory: what it makes there is left behind. -/
set_option linter.unusedSimpArgs false
set_option linter.unusedVariables false
namespace Go.Proofs.Ytfmjdlahabgkpaa.Am
open Go Go.RowKit

theorem noH_obj (i : Nat) : noH.obj i = none := hid rfl
theorem noH_next : noH.next = 0 := hid rfl

def extOf (g : List AVal → Option AVal) : List AVal → AHeap → Option (AVal × AHeap) := fun args H => (g args).map fun v => (v, H)

def one (args0 : List AVal) (v : AVal) (args : List AVal) : Option AVal := if beqs args args0 then some v else none

/-! ### Arguments opened -/
section
variable {P : Program} {H : AHeap} {ts : List TypeId} {t : TypeId} {args : List AVal} {dats : List Dat}

theorem args_nil (h : AArgs P H [] args dats) : args = [] := by
  cases args <;> cases dats <;> simp [AArgs] at h ⊢

theorem args_cons (h : AArgs P H (t :: ts) args dats) : ∃ v r d ds, args = v :: r ∧ dats = d :: ds ∧ AArg P H t v d ∧ AArgs P H ts r ds := by
  cases args with
  | nil => cases dats <;> simp [AArgs] at h
  | cons v r =>
    cases dats with
    | nil => simp [AArgs] at h
    | cons d ds => exact ⟨v, r, d, ds, rfl, rfl, h.1, h.2⟩

end

end Go.Proofs.Ytfmjdlahabgkpaa.Am
end

section
/- Calls that only look, and calls on plain values: what they answer, whatever else they make. Slices: reading, growing. Runs that end so. -/
set_option linter.unusedSimpArgs false
set_option linter.unusedVariables false
namespace Go.Proofs.Ytfmjdlahabgkpaa.Am
open Go Go.RowKit

theorem frz_next (H : AHeap) : (frz H).next = H.next := hid rfl
theorem frz_obj {H : AHeap} {i : Nat} {l : List AVal} {own : Bool} (h : H.obj i = some (.cells l own)) : (frz H).obj i = some (.cells l false) := by simp [frz, h]

/-! ### Values that name old objects alone -/
theorem ids_old {n : Nat} : ∀ (v : AVal), v.old n = true → ∀ i, i ∈ v.ids → i < n
  | .bool _, _, i, h => by simp [AVal.ids] at h
  | .int .., _, i, h => by simp [AVal.ids] at h
  | .flt .., _, i, h => by simp [AVal.ids] at h
  | .str _, _, i, h => by simp [AVal.ids] at h
  | .nilp, _, i, h => by simp [AVal.ids] at h
  | .nils, _, i, h => by simp [AVal.ids] at h
  | .nilm, _, i, h => by simp [AVal.ids] at h
  | .nilFunc, _, i, h => by simp [AVal.ids] at h
  | .nilIface, _, i, h => by simp [AVal.ids] at h
  | .junk, _, i, h => by simp [AVal.ids] at h
  | .any, _, i, h => by simp [AVal.ids] at h
  | .ptr id _, h, i, hi => by simp [AVal.ids] at hi; subst hi; simpa [AVal.old] using h
  | .slice id .., h, i, hi => by simp [AVal.ids] at hi; subst hi; simpa [AVal.old] using h
  | .map id, h, i, hi => by simp [AVal.ids] at hi; subst hi; simpa [AVal.old] using h
  | .yield id, h, i, hi => by simp [AVal.ids] at hi; subst hi; simpa [AVal.old] using h
  | .func _ f c, h, i, hi => by
    simp only [AVal.old, Bool.and_eq_true] at h
    simp only [AVal.ids, List.mem_append] at hi
    rcases hi with hi | hi
    · exact idsl_old f h.1 i hi
    · exact idsl_old c h.2 i hi
  | .iface _ v, h, i, hi => ids_old v (by simpa [AVal.old] using h) i (by simpa [AVal.ids] using hi)
  | .agg l, h, i, hi => idsl_old l (by simpa [AVal.old] using h) i (by simpa [AVal.ids] using hi)
  | .tuple l, h, i, hi => idsl_old l (by simpa [AVal.old] using h) i (by simpa [AVal.ids] using hi)
where
  idsl_old {n : Nat} : ∀ (l : List AVal), oldl n l = true → ∀ i, i ∈ idsl l → i < n
    | [], _, i, h => by simp [idsl] at h
    | v :: l, h, i, hi => by
      simp only [oldl, Bool.and_eq_true] at h
      simp only [idsl, List.mem_append] at hi
      rcases hi with hi | hi
      · exact ids_old v h.1 i hi
      · exact idsl_old l h.2 i hi

theorem ren_same {σ : Nat → Nat} : ∀ (v : AVal), (∀ i, i ∈ v.ids → σ i = i) → v.ren σ = v
  | .bool _, _ | .int .., _ | .flt .., _ | .str _, _ | .nilp, _ | .nils, _ | .nilm, _ | .nilFunc, _ | .nilIface, _ | .junk, _ | .any, _ => rfl
  | .ptr id _, h => by simp [AVal.ren, h id (by simp [AVal.ids])]
  | .slice id .., h => by simp [AVal.ren, h id (by simp [AVal.ids])]
  | .map id, h => by simp [AVal.ren, h id (by simp [AVal.ids])]
  | .yield id, h => by simp [AVal.ren, h id (by simp [AVal.ids])]
  | .func _ f c, h => by
    simp only [AVal.ids, List.mem_append] at h
    simp only [AVal.ren]
    rw [renl_same f (fun i hi => h i (.inl hi)), renl_same c (fun i hi => h i (.inr hi))]
  | .iface _ v, h => by
    simp only [AVal.ids] at h
    simp only [AVal.ren, ren_same v h]
  | .agg l, h => by
    simp only [AVal.ids] at h
    simp only [AVal.ren, renl_same l h]
  | .tuple l, h => by
    simp only [AVal.ids] at h
    simp only [AVal.ren, renl_same l h]
where
  renl_same {σ : Nat → Nat} : ∀ (l : List AVal), (∀ i, i ∈ idsl l → σ i = i) → renl σ l = l
    | [], _ => rfl
    | v :: l, h => by
      simp only [idsl, List.mem_append] at h
      simp only [renl]
      rw [ren_same v (fun i hi => h i (.inl hi)), renl_same l (fun i hi => h i (.inr hi))]

theorem sig_old {n b : Nat} {L : List Nat} {i : Nat} (h : i < n) : sig n b L i = i := by simp [sig, h]

theorem old_plain {n : Nat} : ∀ (v : AVal), plain v = true → v.old n = true
  | .bool _, _ | .int .., _ | .flt .., _ | .str _, _ | .nilp, _ | .nils, _ | .nilm, _ | .nilFunc, _ | .nilIface, _ => rfl
  | .func _ f c, h => by
    simp only [plain, Bool.and_eq_true] at h
    simp only [AVal.old, Bool.and_eq_true]
    exact ⟨oldl_plain f h.1, oldl_plain c h.2⟩
  | .iface _ v, h => by
    simp only [plain] at h
    exact old_plain v h
  | .agg l, h => by
    simp only [plain] at h
    exact oldl_plain l h
  | .tuple l, h => by
    simp only [plain] at h
    exact oldl_plain l h
  | .ptr .., h | .slice .., h | .map _, h | .yield _, h | .junk, h | .any, h => by simp [plain] at h
where
  oldl_plain {n : Nat} : ∀ (l : List AVal), plains l = true → oldl n l = true
    | [], _ => rfl
    | v :: l, h => by
      simp only [plains, Bool.and_eq_true] at h
      simp only [oldl, Bool.and_eq_true]
      exact ⟨old_plain v h.1, oldl_plain l h.2⟩

theorem filter_old {n : Nat} {v : AVal} (h : v.old n = true) : (v.ids.filter fun j => decide (n ≤ j)) = [] := by
  rw [List.filter_eq_nil_iff]
  intro j hj
  have := ids_old v h j hj
  simp; omega

theorem gc_old {n : Nat} {H H' : AHeap} {v : AVal} (h : v.old n = true) : gc n H v H' = (v, H) := by
  simp only [gc, filter_old h, nub, List.all_nil, if_true, pack, List.foldl_nil]
  rw [ren_same v (fun i hi => sig_old (ids_old v h i hi))]

variable {A : AProg}

def Rets (x : Option (AVal × AHeap)) (Φ : AVal → AHeap → Prop) : Prop := ∃ v H, x = some (v, H) ∧ Φ v H
theorem rets_some (v : AVal) (H : AHeap) (Φ : AVal → AHeap → Prop) : Rets (some (v, H)) Φ ↔ Φ v H := ⟨fun ⟨_, _, h1, h2⟩ => by cases h1; exact h2, fun h => ⟨_, _, rfl, h⟩⟩
theorem Rets.mono {x : Option (AVal × AHeap)} {Φ Ψ : AVal → AHeap → Prop} (h : Rets x Φ) (k : ∀ v H, Φ v H → Ψ v H) : Rets x Ψ := by
  obtain ⟨v, H, h1, h2⟩ := h
  exact ⟨v, H, h1, k v H h2⟩
theorem Rets.of {x : Option (AVal × AHeap)} {v : AVal} (h : Ans x v) : Rets x fun u _ => u = v := by
  obtain ⟨H, h⟩ := h
  exact ⟨v, H, h, rfl⟩

def Outs (x : Option (AExit × Env × AHeap)) (Φ : AExit → Env → AHeap → Prop) : Prop := ∃ e env H, x = some (e, env, H) ∧ Φ e env H
theorem outs_some (e : AExit) (env : Env) (H : AHeap) (Φ : AExit → Env → AHeap → Prop) : Outs (some (e, env, H)) Φ ↔ Φ e env H := ⟨fun ⟨_, _, _, h1, h2⟩ => by cases h1; exact h2, fun h => ⟨_, _, _, rfl, h⟩⟩
theorem outs_cnd {b : Bool} {x y : Option (AExit × Env × AHeap)} {Φ : AExit → Env → AHeap → Prop} (h1 : b = true → Outs x Φ) (h0 : b = false → Outs y Φ) : Outs (cnd b x y) Φ := by
  cases b
  · exact h0 rfl
  · exact h1 rfl
theorem Outs.mono {x : Option (AExit × Env × AHeap)} {Φ Ψ : AExit → Env → AHeap → Prop} (h : Outs x Φ) (k : ∀ e env H, Φ e env H → Ψ e env H) : Outs x Ψ := by
  obtain ⟨e, env, H, h1, h2⟩ := h
  exact ⟨e, env, H, h1, k e env H h2⟩

/-! Frames taken off, one after another -/
theorem outs_seq {b : ACode} {X : Option (AExit × Env × AHeap)} {Φ : AExit → Env → AHeap → Prop} (h : Outs X fun e env H => Outs (seqX A b (some (e, env, H))) Φ) : Outs (seqX A b X) Φ := by
  obtain ⟨e, env, H, rfl, hp⟩ := h
  exact hp
theorem outs_block {id : Nat} {X : Option (AExit × Env × AHeap)} {Φ : AExit → Env → AHeap → Prop} (h : Outs X fun e env H => Outs (blockX id (some (e, env, H))) Φ) : Outs (blockX id X) Φ := by
  obtain ⟨e, env, H, rfl, hp⟩ := h
  exact hp
theorem outs_step {call : ACall} {l : List AOper} {d : Option Nat} {env : Env} {X : Option (AVal × AHeap)} {Φ : AExit → Env → AHeap → Prop} (h : Rets X fun v H => Outs (outX (stepO call l d env (some (v, H)))) Φ) : Outs (outX (stepO call l d env X)) Φ := by
  obtain ⟨v, H, rfl, hp⟩ := h
  exact hp
theorem outs_stepD {call : ACall} {l : List AOper} {d : Option Nat} {env : Env} {eff : Bool} {st : List AHeap} {rs : AVal → List ARead} {X : Option (AVal × AHeap)} {Φ : AExit → Env → AHeap → Prop} (h : Rets X fun v H => Outs (outX (stepD call l d env eff st rs (some (v, H)))) Φ) : Outs (outX (stepD call l d env eff st rs X)) Φ := by
  obtain ⟨v, H, rfl, hp⟩ := h
  exact hp
theorem rets_end {rs : List ARes} {X : Option (AExit × Env × AHeap)} {Φ : AVal → AHeap → Prop} (h : Outs X fun e env H => Rets (endX rs (some (e, env, H))) Φ) : Rets (endX rs X) Φ := by
  obtain ⟨e, env, H, rfl, hp⟩ := h
  exact hp
theorem ans_end {rs : List ARes} {X : Option (AExit × Env × AHeap)} {v : AVal} (h : Outs X fun e env H => Ans (endX rs (some (e, env, H))) v) : Ans (endX rs X) v := by
  obtain ⟨e, env, H, rfl, hp⟩ := h
  exact hp

theorem loop_ends {α : Type} {b : ACode} {I : α → Env → AHeap → Prop} {Q : AExit → Env → AHeap → Prop} (μ : α → Nat)
    (h : ∀ a env H, I a env H → Outs (AX A b env H) fun e env' H' => (e = .normal ∧ ∃ a', μ a' < μ a ∧ I a' env' H') ∨ (e ≠ .normal ∧ Q e env' H')) :
    ∀ a env H, I a env H → Outs (AX A (.loop b) env H) Q := by
  have key : ∀ k a env H, μ a < k → I a env H → Outs (AX A (.loop b) env H) Q := by
    intro k
    induction k with
    | zero => intro a env H hk; omega
    | succ k ih =>
      intro a env H hk hI
      obtain ⟨e, env', H', h1, h2⟩ := h a env H hI
      rw [s_loop, h1]
      rcases h2 with ⟨rfl, a', hlt, hI'⟩ | ⟨hne, hQ⟩
      · rw [seqX_normal]
        exact ih a' env' H' (by omega) hI'
      · cases e with
        | normal => exact absurd rfl hne
        | exit i => rw [seqX_exit]; exact ⟨_, _, _, rfl, hQ⟩
        | ret => rw [seqX_ret]; exact ⟨_, _, _, rfl, hQ⟩
  intro a env H hI
  exact key _ a env H (Nat.lt_succ_self _) hI

/-! ### Calls on plain values; calls that look -/
theorem one_val {f : FuncId} {x : AFn} {args : List AVal} {v : AVal} (he : A.ext f = none) (hm : A.mode f = 1) (h : A.fn f = some x) (hp : plains args = true) (hv : plain v = true) (hr : Ans (endX x.results (AX A x.body (ainit args) noH)) v) (H : AHeap) :
    AC A f args H = some (v, H) := by
  obtain ⟨H', hr⟩ := hr
  rw [AC_one he hm h args hp, s_body, hr]
  simp only [gcX, gc_old (old_plain v hv)]

theorem one_closed {f : FuncId} {x : AFn} {args : List AVal} {v : AVal} (he : A.ext f = none) (hm : A.mode f = 1) (h : A.fn f = some x) (hp : plains args = true) (hv : plain v = true) {k : Nat} (hr : (arun (acall A k) A.fn k (some x) args noH).map (·.1) = some v) (H : AHeap) :
    AC A f args H = some (v, H) := by
  simp only [Option.map_eq_some_iff] at hr
  obtain ⟨⟨v1, H1⟩, h1, h2⟩ := hr
  simp only at h2
  subst h2
  rw [AC_one he hm h args hp, AB_iff.2 ⟨k, h1⟩]
  simp only [gcX, gc_old (old_plain v1 hv)]

theorem look_val {f : FuncId} {x : AFn} {args : List AVal} {v : AVal} {H : AHeap} (he : A.ext f = none) (hm : A.mode f = 2) (h : A.fn f = some x) (hv : v.old H.next = true) (hr : Ans (endX x.results (AX A x.body (ainit args) (frz H))) v) :
    AC A f args H = some (v, H) := by
  obtain ⟨H', hr⟩ := hr
  rw [AC_two he hm h args, s_body, hr]
  simp only [gcX, gc_old hv]

def One (n : Nat) (v : AVal) (K : AHeap) (u : AVal) (b : Nat) (cs : List AVal) : Prop :=
  ∃ id, nub [] (v.ids.filter fun j => decide (n ≤ j)) = [id] ∧ K.obj id = some (.cells cs true) ∧ oldl n cs = true ∧ v.ren (sig n b [id]) = u

/-! ### Slices -/
def Sl (H : AHeap) (es : Nat) (s : AVal) (cs : List AVal) : Prop :=
  (s = .nils ∧ cs = []) ∨ ∃ id off n cap g, s = .slice id off n cap g ∧ cs.length = n * es ∧ (n = 0 ∨ ∃ l own, H.obj id = some (.cells l own) ∧ off + n * es ≤ l.length ∧ (l.drop off).take (n * es) = cs)

def slen : AVal → Nat
  | .slice _ _ n _ _ => n
  | _ => 0

theorem Sl.length {H : AHeap} {es : Nat} {s : AVal} {cs : List AVal} (h : Sl H es s cs) : cs.length = slen s * es := by
  rcases h with ⟨rfl, rfl⟩ | ⟨id, off, n, cap, g, rfl, h, _⟩
  · simp [slen]
  · exact h

theorem Sl.alen {H : AHeap} {es : Nat} {s : AVal} {cs : List AVal} (h : Sl H es s cs) : alenT false s = some (slen s) := by
  rcases h with ⟨rfl, rfl⟩ | ⟨id, off, n, cap, g, rfl, h, _⟩ <;> rfl

theorem Sl.len1 {H : AHeap} {s : AVal} {cs : List AVal} (h : Sl H 1 s cs) : alenT false s = some cs.length := by
  rw [h.alen, h.length, Nat.mul_one]

theorem Sl.frz {H : AHeap} {es : Nat} {s : AVal} {cs : List AVal} (h : Sl H es s cs) : Sl (frz H) es s cs := by
  rcases h with h | ⟨id, off, n, cap, g, rfl, h, h0⟩
  · exact .inl h
  · refine .inr ⟨id, off, n, cap, g, rfl, h, h0.imp (fun h => h) fun ⟨l, own, h1, h2⟩ => ⟨l, false, frz_obj h1, h2⟩⟩

theorem Sl.keeps {H H' : AHeap} {es : Nat} {s : AVal} {cs : List AVal} (h : Sl H es s cs) (hk : ∀ id, id ∈ s.ids → H'.obj id = H.obj id) : Sl H' es s cs := by
  rcases h with h | ⟨id, off, n, cap, g, rfl, h, h0⟩
  · exact .inl h
  · refine .inr ⟨id, off, n, cap, g, rfl, h, h0.imp (fun h => h) fun ⟨l, own, h1, h2⟩ => ⟨l, own, by rw [hk id (by simp [AVal.ids])]; exact h1, h2⟩⟩

theorem Sl.at {H : AHeap} {es : Nat} {s : AVal} {cs : List AVal} (h : Sl H es s cs) {i : Nat} (hi : i < slen s) :
    ∃ id off cap g l own, s = .slice id off (slen s) cap g ∧ H.obj id = some (.cells l own) ∧ off + slen s * es ≤ l.length ∧ (∀ j, j < es → l[off + i * es + j]? = cs[i * es + j]?) ∧ (l.drop (off + i * es)).take es = (cs.drop (i * es)).take es := by
  rcases h with ⟨rfl, rfl⟩ | ⟨id, off, n, cap, g, rfl, h, h0⟩
  · simp [slen] at hi
  · simp only [slen] at hi ⊢
    rcases h0 with h0 | ⟨l, own, h1, h2, h3⟩
    · omega
    · have hb : i * es + es ≤ n * es := by
        have := Nat.mul_le_mul_right es (show i + 1 ≤ n by omega)
        rw [Nat.add_mul] at this
        omega
      refine ⟨id, off, cap, g, l, own, rfl, h1, h2, ?_, ?_⟩
      · intro j hj
        rw [← h3, List.getElem?_take]
        rw [if_pos (by omega), List.getElem?_drop]
        congr 1
        omega
      · rw [← h3, List.drop_take, List.drop_drop, List.take_take, Nat.min_eq_left (by omega)]

def Ow (H : AHeap) (es : Nat) (s : AVal) (cs : List AVal) : Prop :=
  (s = .nils ∧ cs = []) ∨ ∃ id n, s = .slice id 0 n n (some es) ∧ cs.length = n * es ∧ id < H.next ∧ H.obj id = some (.cells cs true) ∧ 0 < n

def delS (H : AHeap) : AVal → AHeap
  | .slice id _ _ _ _ => H.del id
  | _ => H

theorem Ow.sl {H : AHeap} {es : Nat} {s : AVal} {cs : List AVal} (h : Ow H es s cs) : Sl H es s cs := by
  rcases h with h | ⟨id, n, rfl, h, _, h0, _⟩
  · exact .inl h
  · exact .inr ⟨id, 0, n, n, some es, rfl, h, .inr ⟨cs, true, h0, by omega, by simp [← h]⟩⟩

theorem Ow.nil (H : AHeap) (es : Nat) : Ow H es .nils [] := .inl ⟨rfl, rfl⟩

theorem delS_next (H : AHeap) (s : AVal) : (delS H s).next = H.next := by cases s <;> rfl
theorem delS_obj (H : AHeap) (s : AVal) {i : Nat} (h : i ∉ s.ids) : (delS H s).obj i = H.obj i := by
  cases s <;> try rfl
  simp [AVal.ids] at h
  simp [delS, AHeap.del, h]

theorem Ow.append {H : AHeap} {es by' n : Nat} {s x : AVal} {cs new : List AVal} (h : Ow H es s cs) (hes : 0 < es) (hx : alen x = some n) (hnew : acells H es n x = some new) (hn : 0 < n) (hb : 5 * ((slen s + n) * by') + 2040 * by' ≤ 1125899906842624 ∧ slen s + n ≤ 9223372036854775807) :
    aappend H es by' s x = some (.slice H.next 0 (slen s + n) (slen s + n) (some es), (delS H s).new (.cells (cs ++ new) true)) := by
  rcases h with ⟨rfl, rfl⟩ | ⟨id, m, rfl, hl, _, ho, _⟩
  · simp only [slen, Nat.zero_add] at hb
    have hn0 : n ≠ 0 := by omega
    simp only [aappend, hx, Option.bind_some, hnew, hn0, if_false, slen, delS, Nat.zero_add, hb, and_self, if_true, List.nil_append]
  · simp only [slen] at hb
    have hold : acells H es m (.slice id 0 m m (some es)) = some cs := by
      simp only [acells]
      split
      · rename_i h0
        rw [h0] at hl
        rw [List.length_eq_zero_iff.1 hl]
      · simp [ho, hl]
        rw [← hl, List.take_length]
    have hlt : ¬ m + n ≤ m := by omega
    simp only [aappend, hx, Option.bind_some, hnew, hlt, if_false, hold, hb, hes, and_self, if_true, ho, slen, delS]

theorem Ow.grown {H : AHeap} {es n : Nat} {s : AVal} {cs new : List AVal} (hn : 0 < n) (h : cs.length = slen s * es) (hnew : new.length = n * es) : Ow ((delS H s).new (.cells (cs ++ new) true)) es (.slice H.next 0 (slen s + n) (slen s + n) (some es)) (cs ++ new) := by
  refine .inr ⟨H.next, slen s + n, rfl, ?_, ?_, ?_, by omega⟩
  · rw [List.length_append, h, hnew, Nat.add_mul]
  · simp [new_next, delS_next]
  · simp [AHeap.new, delS_next]

theorem Ow.keeps {H H' : AHeap} {es : Nat} {s : AVal} {cs : List AVal} (h : Ow H es s cs) (hn : H.next ≤ H'.next) (hk : ∀ id, id ∈ s.ids → H'.obj id = H.obj id) : Ow H' es s cs := by
  rcases h with h | ⟨id, n, rfl, h1, h2, h3, h4⟩
  · exact .inl h
  · exact .inr ⟨id, n, rfl, h1, by omega, by rw [hk id (by simp [AVal.ids])]; exact h3, h4⟩

theorem Ow.lt {H : AHeap} {es : Nat} {s : AVal} {cs : List AVal} (h : Ow H es s cs) : ∀ i, i ∈ s.ids → i < H.next := by
  rcases h with ⟨rfl, rfl⟩ | ⟨id, n, rfl, _, h2, _, _⟩
  · simp [AVal.ids]
  · simp [AVal.ids]; exact h2

theorem Ow.push {H : AHeap} {by' : Nat} {s : AVal} {cs : List AVal} (h : Ow H 1 s cs) (v : AVal) (hb : 5 * ((cs.length + 1) * by') + 2040 * by' ≤ 1125899906842624 ∧ cs.length + 1 ≤ 9223372036854775807) :
    aappend (H.new (.cells [v] true)) 1 by' s (.slice H.next 0 1 1 none) = some (.slice (H.next + 1) 0 (cs.length + 1) (cs.length + 1) (some 1), (delS (H.new (.cells [v] true)) s).new (.cells (cs ++ [v]) true)) := by
  have hs : slen s = cs.length := by have := h.sl.length; omega
  have hk : Ow (H.new (.cells [v] true)) 1 s cs := h.keeps (by simp [AHeap.new]) (fun id hid => by
    have := h.lt id hid
    simp [AHeap.new]; intro; omega)
  have := hk.append (by' := by') (n := 1) (x := .slice H.next 0 1 1 none) (new := [v]) (by decide) rfl (by simp [acells, AHeap.new]) (by decide) (by rw [hs]; exact hb)
  rw [this, hs]
  rfl

theorem Ow_new {H : AHeap} {es : Nat} {s : AVal} {cs : List AVal} {o : AObj} (h : H.next ∉ s.ids) : Ow (H.new o) es s cs ↔ Ow H es s cs := by
  have hk : ∀ id, id ∈ s.ids → (H.new o).obj id = H.obj id := fun id hid => by
    have : id ≠ H.next := fun h' => h (h' ▸ hid)
    simp [AHeap.new, this]
  constructor
  · rintro (h' | ⟨id, n, rfl, h1, h2, h3, h4⟩)
    · exact .inl h'
    · have hne : id ≠ H.next := fun h' => h (by simp [AVal.ids, h'])
      rw [hk id (by simp [AVal.ids])] at h3
      rw [new_next] at h2
      exact .inr ⟨id, n, rfl, h1, by omega, h3, h4⟩
  · exact fun h' => h'.keeps (Nat.le_succ _) hk
def Apart (s t : AVal) : Prop := ∀ x, x ∈ s.ids → x ∉ t.ids

theorem Ow.made {K : AHeap} {es n : Nat} {cs : List AVal} (hn : 0 < n) (h : cs.length = n * es) : Ow (K.new (.cells cs true)) es (.slice K.next 0 n n (some es)) cs :=
  .inr ⟨K.next, n, rfl, h, by simp [AHeap.new], by simp [AHeap.new], hn⟩

theorem Ow.empty {H : AHeap} {es : Nat} {s : AVal} (hes : 0 < es) (h : Ow H es s []) : s = .nils := by
  rcases h with ⟨h, _⟩ | ⟨id, n, rfl, h, _, _, hn⟩
  · exact h
  · have hp := Nat.mul_pos hn hes
    rw [List.length_nil] at h
    omega

theorem Sl.cells {H : AHeap} {es : Nat} {s : AVal} {cs : List AVal} (h : Sl H es s cs) : Am.alen s = some (slen s) ∧ acells H es (slen s) s = some cs := by
  rcases h with ⟨rfl, rfl⟩ | ⟨id, off, n, cap, g, rfl, h, h0⟩
  · exact ⟨rfl, rfl⟩
  · refine ⟨rfl, ?_⟩
    show acells H es n _ = some cs
    simp only [acells]
    by_cases h1 : n * es = 0
    · rw [if_pos h1]
      rw [h1] at h
      rw [List.length_eq_zero_iff.1 h]
    · rw [if_neg h1]
      rcases h0 with rfl | ⟨l, own, ho, h2, h3⟩
      · simp at h1
      · simp only [ho, h3, Nat.le_refl, h2, and_self, if_true]

theorem app_known {H : AHeap} {es by' id off len cap n : Nat} {x : AVal} {old new : List AVal} (hes : 0 < es) (hx : alen x = some n) (hnew : acells H es n x = some new) (hold : acells H es len (.slice id off len cap none) = some old) (hlt : cap < len + n)
    (hb : 5 * ((len + n) * by') + 2040 * by' ≤ 1125899906842624 ∧ len + n ≤ 9223372036854775807) :
    aappend H es by' (.slice id off len cap none) x = some (.slice H.next 0 (len + n) (len + n) (some es), H.new (.cells (old ++ new) true)) := by
  simp only [aappend, hx, Option.bind_some, hnew, Nat.not_le.2 hlt, if_false, hold, hb, hes, and_self, if_true]

theorem app_none_nils {H : AHeap} {es by' : Nat} {x : AVal} (hx : alen x = some 0) (hc : acells H es 0 x = some []) : aappend H es by' .nils x = some (.nils, H) := by
  simp only [aappend, hx, Option.bind_some, hc, if_true]
theorem app_none {H : AHeap} {es by' id off n cap : Nat} {g : Option Nat} {x : AVal} (hle : n ≤ cap) (hx : alen x = some 0) (hc : acells H es 0 x = some []) : aappend H es by' (.slice id off n cap g) x = some (.slice id off n cap g, H) := by
  simp only [aappend, hx, Option.bind_some, hc, Nat.add_zero, hle, if_true]

/-! ### A law's slices -/
theorem arg_slice {P : Program} {H : AHeap} {t e : TypeId} {v : AVal} {d : Dat} (hu : P.underlying t = some (.slice e)) (h : AArg P H t v d) :
    ∃ (f : Nat) (ds : List Dat) (cs : List AVal), Sl H (P.cellsOf e) v cs ∧ slen v = ds.length ∧ cs.length = ds.length * P.cellsOf e ∧ (∀ i, i ∈ v.ids → i < H.next) ∧ ds.length ≤ maxLen ∧ ds.length * P.bytesOf e ≤ reachBytes ∧
      ∀ (i : Nat) (x : Dat), ds[i]? = some x → AReads P H f e ((cs.drop (i * P.cellsOf e)).take (P.cellsOf e)) x := by
  obtain ⟨fuel, cs, hr, hc⟩ := h
  rw [hu] at hc
  simp only at hc
  cases fuel with
  | zero => simp [AReads] at hr
  | succ f =>
    simp only [AReads, hu] at hr
    rcases hr with ⟨rfl, rfl⟩ | ⟨id, cap, l, ds, hid, rfl, rfl, h1, h2, h3, h4, h5, h6⟩
    · simp at hc
      subst hc
      exact ⟨f, [], [], .inl ⟨rfl, rfl⟩, rfl, by simp, by simp [AVal.ids], by simp [maxLen], by simp [reachBytes], by simp⟩
    · simp at hc
      subst hc
      have hle : ds.length * P.cellsOf e ≤ cap * P.cellsOf e := Nat.mul_le_mul_right _ h1
      refine ⟨f, ds, l.take (ds.length * P.cellsOf e), .inr ⟨id, 0, ds.length, cap, none, rfl, ?_, ?_⟩, rfl, ?_, ?_, by omega, Nat.le_trans (Nat.mul_le_mul_right _ h1) h3, ?_⟩
      · rw [List.length_take]; omega
      · rcases Nat.eq_zero_or_pos ds.length with h0 | h0
        · exact .inl h0
        · exact .inr ⟨l, false, h4 (by omega), by omega, by simp⟩
      · rw [List.length_take]; omega
      · simp [AVal.ids]; exact hid
      · intro i x hx
        have hi : i < ds.length := (List.getElem?_eq_some_iff.1 hx).1
        have := h6 i x hx
        have hb : i * P.cellsOf e + P.cellsOf e ≤ ds.length * P.cellsOf e := by
          have := Nat.mul_le_mul_right (P.cellsOf e) (show i + 1 ≤ ds.length by omega)
          rw [Nat.add_mul] at this
          omega
        rw [List.drop_take, List.take_take, Nat.min_eq_left (by omega)]
        exact this

theorem cells_of {α : Type} {enc : α → List AVal} {n : Nat} : ∀ (k : Nat) (cs : List AVal), cs.length = k * n → (∀ i, i < k → ∃ a, (cs.drop (i * n)).take n = enc a) → ∃ l : List α, l.length = k ∧ cs = l.flatMap enc
  | 0, cs, hl, _ => ⟨[], rfl, by simp at hl; subst hl; rfl⟩
  | k + 1, cs, hl, h => by
    obtain ⟨a, ha⟩ := h 0 (by omega)
    obtain ⟨l, h1, h2⟩ := cells_of (enc := enc) (n := n) k (cs.drop n) (by simp [hl, Nat.add_mul]) (fun i hi => by
      obtain ⟨b, hb⟩ := h (i + 1) (by omega)
      refine ⟨b, ?_⟩
      rw [List.drop_drop, ← hb, Nat.add_mul, Nat.one_mul, Nat.add_comm])
    refine ⟨a :: l, by simp [h1], ?_⟩
    simp only [Nat.zero_mul, List.drop_zero] at ha
    rw [List.flatMap_cons, ← h2, ← ha, List.take_append_drop]

theorem flatMap_one {α : Type} (f : α → AVal) (l : List α) : (l.flatMap fun a => [f a]) = l.map f := by
  induction l with
  | nil => rfl
  | cons a l ih => simp [ih]

def Keeps (H H' : AHeap) : Prop := H.next ≤ H'.next ∧ ∀ i, i < H.next → H'.obj i = H.obj i
theorem Keeps.refl (H : AHeap) : Keeps H H := ⟨Nat.le_refl _, fun _ _ => rfl⟩
theorem Keeps.trans {a b c : AHeap} (h : Keeps a b) (k : Keeps b c) : Keeps a c := ⟨Nat.le_trans h.1 k.1, fun i hi => (k.2 i (Nat.lt_of_lt_of_le hi h.1)).trans (h.2 i hi)⟩
theorem Keeps.new (H : AHeap) (o : AObj) : Keeps H (H.new o) := ⟨Nat.le_succ _, fun i hi => by simp [AHeap.new]; omega⟩
theorem Sl.keep {H H' : AHeap} {es : Nat} {s : AVal} {cs : List AVal} (h : Sl H es s cs) (hid : ∀ i, i ∈ s.ids → i < H.next) (k : Keeps H H') : Sl H' es s cs := h.keeps fun i hi => k.2 i (hid i hi)

def pushH (K : AHeap) (s v : AVal) (c : List AVal) : AHeap := (delS (K.new (.cells [v] true)) s).new (.cells c true)
theorem pushH_next (K : AHeap) (s v : AVal) (c : List AVal) : (pushH K s v c).next = K.next + 2 := by simp [pushH, new_next, delS_next]
theorem pushH_obj {K : AHeap} {s v : AVal} {c : List AVal} {i : Nat} (h : i < K.next) (hs : i ∉ s.ids) : (pushH K s v c).obj i = K.obj i := by
  simp only [pushH, new_obj, delS_next, new_next]
  rw [if_neg (by omega), delS_obj _ _ hs, new_obj, if_neg (by omega)]
theorem Ow.over {K : AHeap} {s t v : AVal} {es : Nat} {c cs : List AVal} (h : Ow K es t cs) (ha : Apart t s) : Ow (pushH K s v c) es t cs :=
  h.keeps (by rw [pushH_next]; omega) fun i hi => pushH_obj (h.lt i hi) (ha i hi)
theorem Sl.over {K : AHeap} {s t v : AVal} {es : Nat} {c cs : List AVal} (h : Sl K es t cs) (ha : Apart t s) (hid : ∀ i, i ∈ t.ids → i < K.next) : Sl (pushH K s v c) es t cs :=
  h.keeps fun i hi => pushH_obj (hid i hi) (ha i hi)

def by8 (b : UInt8) : AVal := .int .u8 (b.toNat : Int)
theorem bToS_sl {H : AHeap} {v : AVal} {s : List UInt8} (h : Sl H 1 v (s.map by8)) : bToSX H v = some (.str s, H) := by
  rcases h with ⟨rfl, h⟩ | ⟨id, off, n, cap, g, rfl, h, h0⟩
  · have : s = [] := by simpa using h
    subst this; rfl
  · have hc := (show Sl H 1 (.slice id off n cap g) (s.map by8) from .inr ⟨id, off, n, cap, g, rfl, h, h0⟩).cells.2
    have hc : acells H 1 n (.slice id off n cap g) = some (s.map by8) := hc
    have hb : aop.abytes (s.map by8) = some s := bytes_back s
    simp only [bToSX, hc, Option.bind_some, hb, Option.map_some]

theorem arg_str {P : Program} {H : AHeap} {t : TypeId} {v : AVal} {d : Dat} (hu : P.underlying t = some .string) (h : AArg P H t v d) : ∃ s : List UInt8, v = .str s ∧ s.length ≤ reachBytes := by
  obtain ⟨fuel, cs, hr, hc⟩ := h
  rw [hu] at hc
  simp only at hc
  cases fuel with
  | zero => simp [AReads] at hr
  | succ f =>
    simp only [AReads, hu] at hr
    obtain ⟨s, h1, h2, h3⟩ := hr
    rw [hc] at h1
    simp at h1
    exact ⟨s, h1, h3⟩
theorem b_cat (a b : List UInt8) (h : a.length + b.length ≤ 9223372036854775807) : abin .add (.str a) (.str b) = some (.str (a ++ b)) := by
  simp [abin, astr, h]
theorem by8_fun : (fun b : UInt8 => AVal.int .u8 (b.toNat : Int)) = by8 := hid rfl

def Cuts (es : Nat) (s : AVal) : Prop := ∀ id off n cap g, s = .slice id off n cap g → n ≤ cap ∧ (g = none ∨ g = some es)

theorem Cuts.nils (es : Nat) : Cuts es .nils := by intro _ _ _ _ _ e; cases e
theorem arg_cuts {P : Program} {H : AHeap} {t e : TypeId} {v : AVal} {d : Dat} (es : Nat) (hu : P.underlying t = some (.slice e)) (h : AArg P H t v d) : Cuts es v := by
  obtain ⟨fuel, cs, hr, hc⟩ := h
  rw [hu] at hc
  simp only at hc
  cases fuel with
  | zero => simp [AReads] at hr
  | succ f =>
    simp only [AReads, hu] at hr
    rcases hr with ⟨rfl, rfl⟩ | ⟨id, cap, l, ds, hid, rfl, rfl, h1, _⟩
    · simp at hc
      subst hc
      exact Cuts.nils es
    · simp at hc
      subst hc
      intro _ _ _ _ _ e
      cases e
      exact ⟨h1, .inl rfl⟩

theorem Sl.cut {H : AHeap} {es : Nat} {s : AVal} {cs : List AVal} (h : Sl H es s cs) (hes : 0 < es) (hc : Cuts es s) {lo hi : Nat} (h1 : lo ≤ hi) (h2 : hi ≤ slen s) {lv hv : Option AVal}
    (hl : (lv = none ∧ lo = 0) ∨ ∃ k, lv = some (.int k (lo : Int))) (hh : (hv = none ∧ hi = slen s) ∨ ∃ k, hv = some (.int k (hi : Int))) :
    ∃ s', aslc es s lv hv none = some s' ∧ Sl H es s' ((cs.take (hi * es)).drop (lo * es)) ∧ (∀ i, i ∈ s'.ids → i ∈ s.ids) ∧ Cuts es s' ∧ slen s' = hi - lo := by
  have ab : ∀ cap, slen s ≤ cap → abounds (slen s) cap lv hv none = some (lo, hi, cap) := by
    intro cap hcap
    have e1 : abound hv (slen s) cap = some hi := by
      rcases hh with ⟨rfl, rfl⟩ | ⟨k, rfl⟩
      · rfl
      · simp only [abound]
        rw [if_pos ⟨by omega, by omega⟩, Int.toNat_natCast]
    have e2 : abound lv 0 hi = some lo := by
      rcases hl with ⟨rfl, rfl⟩ | ⟨k, rfl⟩
      · rfl
      · simp only [abound]
        rw [if_pos ⟨by omega, by omega⟩, Int.toNat_natCast]
    have e3 : abound none cap cap = some cap := rfl
    simp only [abounds, e3, Option.bind_some, Option.isSome_none, Bool.false_eq_true, if_false, e1, e2, false_and]
  rcases h with ⟨rfl, rfl⟩ | ⟨id, off, n, cap, g, rfl, hlen, h0⟩
  · have := ab 0 (Nat.le_refl _)
    refine ⟨.nils, ?_, .inl ⟨rfl, by simp⟩, fun i hi => hi, Cuts.nils es, by simp [slen] at h2 ⊢; omega⟩
    simp only [slen] at this
    simp only [aslc, this, Option.map_some]
  · obtain ⟨hle, hg⟩ := hc _ _ _ _ _ rfl
    have := ab cap hle
    simp only [slen] at this h2
    refine ⟨.slice id (if g = none ∧ cap = lo then off else off + lo * es) (hi - lo) (cap - lo) g, ?_, ?_, fun i hi => hi, ?_, rfl⟩
    · simp only [aslc, slen, this, Option.bind_some]
      rcases hg with rfl | rfl
      · simp
      · simp [hes]
    · have hm : hi * es ≤ n * es := Nat.mul_le_mul_right es h2
      have hlm : lo * es ≤ hi * es := Nat.mul_le_mul_right es h1
      refine .inr ⟨id, _, hi - lo, cap - lo, g, rfl, ?_, ?_⟩
      · rw [List.length_drop, List.length_take, hlen, Nat.min_eq_left hm, Nat.sub_mul]
      · rcases Nat.eq_or_lt_of_le h1 with h3 | h3
        · exact .inl (by omega)
        · rcases h0 with h0 | ⟨l, own, ho, h4, h5⟩
          · omega
          · refine .inr ⟨l, own, ho, ?_, ?_⟩
            · rw [if_neg (by omega), Nat.sub_mul]
              omega
            · rw [if_neg (by omega), ← h5, List.take_take, Nat.min_eq_left hm, List.drop_take, List.drop_drop, Nat.sub_mul]
    · intro _ _ _ _ _ e
      simp only [AVal.slice.injEq] at e
      obtain ⟨_, _, rfl, rfl, rfl⟩ := e
      exact ⟨by omega, hg⟩

theorem Keeps.new' {H K : AHeap} {o : AObj} (h : Keeps H K) : Keeps H (K.new o) := h.trans (Keeps.new _ _)
theorem Keeps.set' {H K : AHeap} {p : Nat} {o : AObj} (hp : H.next ≤ p) (h : Keeps H K) : Keeps H (K.set p o) :=
  ⟨h.1, fun i hi => by rw [set_obj, if_neg (by omega)]; exact h.2 i hi⟩
/-! ### Go's library by its contracts -/
theorem lib_sound {P : Program} {f : FuncId} (he : Enters P f) {g : List AVal → Option AVal}
    (h : ∀ args v, g args = some v → plain v = true ∧ ∀ (m : Inj) (args' : List Value) (w : World), All2 (VRel m) args args' → Calls P f args'.toArray w fun e w' => ∃ v', e = .returned v' ∧ VRel m v v' ∧ Below w.heap.size w w') (w0 : World) (B : Nat → Bool) :
    CallSound P w0 B (fun f' args H => if f' = f then extOf g args H else none) := by
  intro f' args H v H1 hg
  by_cases hf : f' = f
  · subst hf
    simp only [if_true, extOf, Option.map_eq_some_iff, Prod.mk.injEq] at hg
    obtain ⟨v1, hv, rfl, rfl⟩ := hg
    obtain ⟨_, hc⟩ := h _ _ hv
    refine ⟨he, Up.refl _, fun m w args' _ hS hargs => ?_⟩
    refine (hc m args' w hargs).mono fun e w' ⟨v', h1, h2, h3⟩ => ?_
    exact ⟨v', m, h1, m.le_refl, hS.stays h3, h2⟩
  · simp [hf] at hg

theorem vrel_str {m : Inj} {s : List UInt8} {v : Value} (h : VRel m (.str s) v) : v = .string ⟨s.toArray⟩ := by cases h; rfl
theorem vrel_int {m : Inj} {k : IntKind} {n : Int} {v : Value} (h : VRel m (.int k n) v) : v = .int k n := by cases h; rfl
theorem AC_ext_of {A : AProg} {f : FuncId} {g : List AVal → Option AVal} (h : A.ext f = some (extOf g)) {args : List AVal} {v : AVal} (hg : g args = some v) (H : AHeap) : AC A f args H = some (v, H) := by
  rw [AC_ext h, extOf, hg]
  rfl

end Go.Proofs.Ytfmjdlahabgkpaa.Am
end

section
/- All rewriting equations at once. Printed by program. -/
set_option linter.defProp false
namespace Go.Proofs.Ytfmjdlahabgkpaa.Am
open Go Go.RowKit
def rwA := And.intro (And.intro (And.intro (And.intro (And.intro (And.intro (And.intro (And.intro (@s_seq) (@s_region)) (And.intro (@s_op) (@s_nil))) (And.intro (And.intro (@s_grd) (@grd_t)) (And.intro (@grd_f) (And.intro (@grd_u) (@s_cond))))) (And.intro (And.intro (And.intro (@condX_bool) (@s_block)) (And.intro (@blockX_normal) (@blockX_exit))) (And.intro (And.intro (@blockX_ret) (@blockX_cnd)) (And.intro (@blockX_none) (And.intro (@o_mv) (@o_bin)))))) (And.intro (And.intro (And.intro (And.intro (@o_un) (@o_pick)) (And.intro (@pick_bool) (@o_call))) (And.intro (And.intro (@o_extract) (@ext_tuple)) (And.intro (@o_eq) (And.intro (@o_toInt) (@int_int))))) (And.intro (And.intro (And.intro (@o_field) (@field_agg)) (And.intro (@o_fieldA) (And.intro (@fieldA_ptr) (@o_len)))) (And.intro (And.intro (@len_slice) (@len_nils)) (And.intro (@len_str) (And.intro (@o_lenC) (@o_cap))))))) (And.intro (And.intro (And.intro (And.intro (And.intro (@cap_slice) (@cap_nils)) (And.intro (@o_minmax) (@o_idxASl))) (And.intro (And.intro (@idxASl_slice) (@new_obj)) (And.intro (@new_next) (And.intro (@set_obj) (@set_next))))) (And.intro (And.intro (And.intro (@noH_obj) (@noH_next)) (And.intro (@load_ptr) (And.intro (@loadX_cells) (@apart_one)))) (And.intro (And.intro (@apart_agg) (@apart_all)) (And.intro (@store_ptr) (And.intro (@storeX_cells) (@put_nil)))))) (And.intro (And.intro (And.intro (And.intro (@put_cons) (@lput_whole)) (And.intro (@cells_agg) (@cells_int))) (And.intro (And.intro (@cells_bool) (@cells_str)) (And.intro (@cells_slice) (And.intro (@cells_nils) (@cells_ptr))))) (And.intro (And.intro (And.intro (@cells_map) (@cells_nilm)) (And.intro (@tup_map) (And.intro (@tup_nilm) (@o_mkMap)))) (And.intro (And.intro (@o_mapGet) (@getX_f)) (And.intro (@getX_t) (And.intro (@o_mapSet) (@o_lenM)))))))) (And.intro (And.intro (And.intro (And.intro (And.intro (And.intro (@eff_mkMap) (@eff_mapGet)) (And.intro (@eff_mapSet) (@eff_lenM))) (And.intro (And.intro (@tup_agg) (@tup_int)) (And.intro (@tup_bool) (And.intro (@tup_str) (@tup_slice))))) (And.intro (And.intro (And.intro (@tup_nils) (@tup_ptr)) (And.intro (@o_box) (And.intro (@box_ok) (@fill_nil)))) (And.intro (And.intro (@fill_cons) (@s_draw)) (And.intro (@stepD_some) (And.intro (@d_still) (@d_nil)))))) (And.intro (And.intro (And.intro (And.intro (@ok_01) (@ok_12)) (And.intro (@ok_23) (@ok_02))) (And.intro (And.intro (@ok_13) (@ok_03)) (And.intro (@okAt_some) (And.intro (@rdOk_load) (@beqO_some))))) (And.intro (And.intro (And.intro (@beq_same) (@all_nil)) (And.intro (@all_cons) (And.intro (@if_true') (@eff_mv)))) (And.intro (And.intro (@eff_pick) (@eff_load)) (And.intro (@eff_bin) (And.intro (@eff_eq) (@eff_un))))))) (And.intro (And.intro (And.intro (And.intro (And.intro (@eff_toInt) (@eff_call)) (And.intro (@eff_extract) (@eff_fieldA))) (And.intro (And.intro (@eff_field) (@eff_idxASl)) (And.intro (@eff_len) (And.intro (@eff_minmax) (@eff_build))))) (And.intro (And.intro (And.intro (@eff_slc) (@eff_append)) (And.intro (@eff_appendZ) (And.intro (@eff_new) (@eff_box)))) (And.intro (And.intro (@eff_store) (@eff_buildS)) (And.intro (@eff_nilck) (And.intro (@eff_idxAArr) (@eff_idxArr)))))) (And.intro (And.intro (And.intro (And.intro (@eff_idxStr) (@eff_slcStr)) (And.intro (@eff_slcArr) (@eff_mkFn))) (And.intro (And.intro (@eff_idS) (@eff_bToS)) (And.intro (@eff_sToB) (And.intro (@eff_mkS) (@eff_copy))))) (And.intro (And.intro (And.intro (@eff_clearS) (@eff_mkIface)) (And.intro (@eff_lenC) (And.intro (@eff_cap) (@d_op)))) (And.intro (And.intro (@d_rd) (@d_gt)) (And.intro (@d_gf) (And.intro (@d_nt) (@d_nf))))))))) (And.intro (And.intro (And.intro (And.intro (And.intro (And.intro (And.intro (@d_nu) (@aop_load)) (And.intro (@ans_some) (@cell_some))) (And.intro (And.intro (@o_new) (@o_load)) (And.intro (@o_store) (And.intro (@o_build) (@o_slc))))) (And.intro (And.intro (And.intro (@o_append) (@o_appendZ)) (And.intro (@o_buildS) (And.intro (@buildX_some) (@o_sToB)))) (And.intro (And.intro (@sToB_str) (@o_idS')) (And.intro (@idS_str) (And.intro (@o_bToS) (@o_nilck)))))) (And.intro (And.intro (And.intro (And.intro (@nilck_ptr) (@nilck_fn)) (And.intro (@e_nilp0) (@e_nilp1))) (And.intro (And.intro (@e_nilp2) (@e_nils0)) (And.intro (@e_nils1) (And.intro (@o_mkFn) (@o_mkS))))) (And.intro (And.intro (And.intro (@o_copy) (@o_clearS)) (And.intro (@clrX_some) (And.intro (@o_idxAArr) (@idxAArr_ptr)))) (And.intro (And.intro (@o_idxArr) (@idxArr_agg)) (And.intro (@o_idxStr) (And.intro (@idxStr_str) (@o_slcStr))))))) (And.intro (And.intro (And.intro (And.intro (And.intro (@slcStr_str) (@o_slcArr)) (And.intro (@o_mkIface) (@stepO_some))) (And.intro (And.intro (@stepO_cnd) (@stepO_none)) (And.intro (@setd_some) (And.intro (@setd_none) (@set_get))))) (And.intro (And.intro (And.intro (@ev_tmp) (@ev_con)) (And.intro (@init_get) (And.intro (@b_eql) (@b_neq)))) (And.intro (And.intro (@b_lss) (@b_leq)) (And.intro (@b_gtr) (And.intro (@b_geq) (@b_add)))))) (And.intro (And.intro (And.intro (And.intro (@b_sub) (@b_mul)) (And.intro (@b_quo) (@b_rem))) (And.intro (And.intro (@u_not) (@u_neg)) (And.intro (@m_max) (And.intro (@m_min) (@e_int))))) (And.intro (And.intro (And.intro (@neg_f) (@neg_t)) (And.intro (@eqX_some) (And.intro (@fldX_some) (@e_fld)))) (And.intro (And.intro (@e_fend) (@e_bool)) (And.intro (@e_str) (And.intro (@vX_some) (@vX_none)))))))) (And.intro (And.intro (And.intro (And.intro (And.intro (And.intro (@vX_cnd) (@hX_some)) (And.intro (@hX_none) (@outX_some))) (And.intro (And.intro (@outX_none) (@outX_cnd)) (And.intro (@seqX_cnd) (And.intro (@seqX_normal) (@seqX_exit))))) (And.intro (And.intro (And.intro (@seqX_ret) (@seqX_none)) (And.intro (@AX_skip) (And.intro (@AX_ret) (@AX_exit)))) (And.intro (And.intro (@endX_cnd) (@endX_normal)) (And.intro (@endX_ret) (And.intro (@endX_none) (@res_nil)))))) (And.intro (And.intro (And.intro (And.intro (@res_tmp) (@res_cell)) (And.intro (@cons_some) (@retX_some))) (And.intro (And.intro (@ret_one) (@ret_nil)) (And.intro (@ret_two) (And.intro (@call_fn) (@b_fadd))))) (And.intro (And.intro (And.intro (@b_fsub) (@b_fmul)) (And.intro (@b_fquo) (And.intro (@b_feql) (@b_fneq)))) (And.intro (And.intro (@b_flss) (@b_fgtr)) (And.intro (@b_fleq) (And.intro (@b_fgeq) (@u_fneg))))))) (And.intro (And.intro (And.intro (And.intro (And.intro (@o_iToF) (@iToF_int)) (And.intro (@o_fToI) (@fToI_flt))) (And.intro (And.intro (@o_fbits) (@fbits_flt)) (And.intro (@o_ofBits) (And.intro (@ofBits_int) (@o_ffloor))))) (And.intro (And.intro (And.intro (@o_newT) (@eff_newT)) (And.intro (@o_buildT) (And.intro (@buildT_some) (@eff_buildT)))) (And.intro (And.intro (@o_appendT) (@eff_appendT)) (And.intro (@o_ovl) (And.intro (@eff_ovl) (@o_sdata)))))) (And.intro (And.intro (And.intro (And.intro (@eff_sdata) (@o_ustr)) (And.intro (@eff_ustr) (@tag_obj))) (And.intro (And.intro (@tag_next) (@floor_flt)) (And.intro (@eff_fbits) (And.intro (@eff_ofBits) (@eff_ffloor))))) (And.intro (And.intro (And.intro (@eff_iToF) (@eff_fToI)) (And.intro (@cells_flt) (And.intro (@tup_flt) (@b_seq)))) (And.intro (And.intro (@b_sne) (@b_sls)) (And.intro (@b_sge) (And.intro (@b_tf) (@b_ft)))))))))
def rwB := And.intro (And.intro (And.intro (And.intro (And.intro (@Nat.add_assoc) (@or_self)) (And.intro (@imp_self) (And.intro (@eq_self.{1}) (@List.length_cons.{0})))) (And.intro (And.intro (@List.length_nil.{0}) (And.intro (@List.take_succ_cons.{0}) (@List.take_zero.{0}))) (And.intro (@List.drop_zero.{0}) (And.intro (@List.drop_succ_cons.{0}) (@List.set_cons_zero.{0}))))) (And.intro (And.intro (And.intro (@List.set_cons_succ.{0}) (@List.mem_cons.{0})) (And.intro (@List.not_mem_nil.{0}) (And.intro (@Nat.zero_add) (@Nat.add_zero)))) (And.intro (And.intro (@Option.some.injEq.{0}) (And.intro (@forall_eq_or_imp.{1}) (@forall_eq.{1}))) (And.intro (@or_false) (And.intro (@and_self) (@false_imp_iff)))))) (And.intro (And.intro (And.intro (And.intro (@implies_true.{1}) (@Nat.mul_one)) (And.intro (@List.getD_cons_zero.{0}) (And.intro (@List.getD_cons_succ.{0}) (@List.map_cons.{0,0})))) (And.intro (And.intro (@List.map_nil.{0,0}) (And.intro (@List.append_nil.{0}) (@List.nil_append.{0}))) (And.intro (@List.cons_append.{0}) (And.intro (@List.getElem?_cons_zero.{0}) (@List.getElem?_cons_succ.{0}))))) (And.intro (And.intro (And.intro (@Bool.and_true) (And.intro (@beq_self_eq_true.{0}) (@Option.map_some.{0,0}))) (And.intro (@Option.map_none.{0,0}) (And.intro (@Option.bind_some.{0,0}) (@Bool.not_true)))) (And.intro (And.intro (@Bool.not_false) (And.intro (@decide_true) (@decide_false))) (And.intro (@Nat.left_eq_add) (And.intro (@Nat.add_eq_left) (@bne_self_eq_false.{0}))))))
end Go.Proofs.Ytfmjdlahabgkpaa.Am
end

section
/- Code cut in two: the first statements of a row, and what comes behind them. -/
namespace Go.Proofs.Ytfmjdlahabgkpaa.Am
open Go Go.RowKit

def rest : Nat → ACode → ACode
  | n + 1, .seq _ b => rest n b
  | _, c => c
def upto : Nat → ACode → ACode → ACode
  | n + 1, .seq a b, r => .seq a (upto n b r)
  | _, _, r => r
theorem cut : ∀ (n : Nat) (c : ACode), c = upto n c (rest n c)
  | 0, c => by cases c <;> rfl
  | n + 1, .seq a b => by rw [upto, rest, ← cut n b]
  | n + 1, .skip => rfl
  | n + 1, .region _ => rfl
  | n + 1, .draw _ => rfl
  | n + 1, .cond _ _ _ => rfl
  | n + 1, .block _ _ => rfl
  | n + 1, .loop _ => rfl
  | n + 1, .exit _ => rfl
  | n + 1, .ret => rfl
  | n + 1, .range _ _ _ _ => rfl

end Go.Proofs.Ytfmjdlahabgkpaa.Am
end

section
/- Following a range over a function by rewriting. -/
set_option linter.unusedSimpArgs false
set_option linter.unusedVariables false
namespace Go.Proofs.Ytfmjdlahabgkpaa.Am
open Go

variable {A : AProg} {call : ACall} {tok : Nat} {yl : AYield}

end Go.Proofs.Ytfmjdlahabgkpaa.Am
end

section
/- Frames (what a call leaves as it was), slices of anything, arguments of any shape. -/
set_option linter.unusedSimpArgs false
set_option linter.unusedVariables false
namespace Go.Proofs.Ytfmjdlahabgkpaa.Am
open Go Go.RowKit

def Fr (L : List Nat) (H H' : AHeap) : Prop := H.next ≤ H'.next ∧ ∀ i, i < H.next → i ∉ L → H'.obj i = H.obj i
theorem Fr.refl (L : List Nat) (H : AHeap) : Fr L H H := ⟨Nat.le_refl _, fun _ _ _ => rfl⟩
theorem Fr.trans {L M : List Nat} {a b c : AHeap} (h : Fr L a b) (k : Fr M b c) (hM : ∀ i, i ∈ M → i ∈ L ∨ a.next ≤ i) : Fr L a c :=
  ⟨Nat.le_trans h.1 k.1, fun i hi hL => (k.2 i (Nat.lt_of_lt_of_le hi h.1) fun hm => (hM i hm).elim hL (by omega)).trans (h.2 i hi hL)⟩
theorem Fr.mono {L M : List Nat} {a b : AHeap} (h : Fr L a b) (hL : ∀ i, i ∈ L → i ∈ M ∨ a.next ≤ i) : Fr M a b := ⟨h.1, fun i hi hM => h.2 i hi fun hl => (hL i hl).elim hM (by omega)⟩
theorem Fr.of {L : List Nat} {a b : AHeap} (h : Keeps a b) : Fr L a b := ⟨h.1, fun i hi _ => h.2 i hi⟩
theorem Fr.keeps {a b : AHeap} (h : Fr [] a b) : Keeps a b := ⟨h.1, fun i hi => h.2 i hi (by simp)⟩
theorem Fr.new {L : List Nat} {H K : AHeap} {o : AObj} (h : Fr L H K) : Fr L H (K.new o) := h.trans (Fr.of (L := []) (Keeps.new K o)) (by simp)
theorem Fr.set {L : List Nat} {H K : AHeap} {p : Nat} {o : AObj} (hp : p ∈ L ∨ H.next ≤ p) (h : Fr L H K) : Fr L H (K.set p o) :=
  ⟨h.1, fun i hi hL => by rw [set_obj, if_neg (by rintro rfl; exact hp.elim hL (by omega))]; exact h.2 i hi hL⟩
theorem Fr.del {L : List Nat} {H K : AHeap} {s : AVal} (hs : ∀ i, i ∈ s.ids → i ∈ L ∨ H.next ≤ i) (h : Fr L H K) : Fr L H (delS K s) :=
  ⟨by rw [delS_next]; exact h.1, fun i hi hL => by rw [delS_obj _ _ (fun hx => (hs i hx).elim hL (by omega))]; exact h.2 i hi hL⟩
theorem Fr.skip {L : List Nat} {H : AHeap} : Fr L H H.skip := ⟨Nat.le_succ _, fun _ _ _ => rfl⟩
theorem Sl.fr {L : List Nat} {H H' : AHeap} {es : Nat} {s : AVal} {cs : List AVal} (h : Sl H es s cs) (f : Fr L H H') (hid : ∀ i, i ∈ s.ids → i < H.next ∧ i ∉ L) : Sl H' es s cs := h.keeps fun i hi => f.2 i (hid i hi).1 (hid i hi).2
theorem Ow.fr {L : List Nat} {H H' : AHeap} {es : Nat} {s : AVal} {cs : List AVal} (h : Ow H es s cs) (f : Fr L H H') (hid : ∀ i, i ∈ s.ids → i ∉ L) : Ow H' es s cs := h.keeps f.1 fun i hi => f.2 i (h.lt i hi) (hid i hi)

/-! ### Slices of elements of es cells -/
section
variable {α : Type} {enc : α → List AVal} {es : Nat}
theorem fm_len (he : ∀ a, (enc a).length = es) : ∀ l : List α, (l.flatMap enc).length = l.length * es
  | [] => by simp
  | a :: l => by rw [List.flatMap_cons, List.length_append, fm_len he l, he, List.length_cons, Nat.add_mul, Nat.one_mul]; omega
theorem fm_get (he : ∀ a, (enc a).length = es) : ∀ (l : List α) (i : Nat) (h : i < l.length), ((l.flatMap enc).drop (i * es)).take es = enc l[i]
  | [], i, h => by simp at h
  | a :: l, 0, _ => by
    rw [List.flatMap_cons, Nat.zero_mul, List.drop_zero, List.take_append, he, Nat.sub_self, List.take_zero, List.append_nil]
    simp [← he a]
  | a :: l, i + 1, h => by
    have := fm_get he l i (by simpa using h)
    rw [List.flatMap_cons, List.getElem_cons_succ, ← this, Nat.add_mul, Nat.one_mul, Nat.add_comm (i * es), ← List.drop_drop]
    congr 2
    rw [← he a]; simp
theorem fm_cell (he : ∀ a, (enc a).length = es) (l : List α) (i j : Nat) (h : i < l.length) (hj : j < es) : (l.flatMap enc)[i * es + j]? = (enc l[i])[j]? := by
  have := congrArg (fun x => x[j]?) (fm_get he l i h)
  simp only [List.getElem?_take, List.getElem?_drop, if_pos hj] at this
  exact this
theorem slen_fm (he : ∀ a, (enc a).length = es) (hes : 0 < es) {H : AHeap} {s : AVal} {l : List α} (h : Sl H es s (l.flatMap enc)) : slen s = l.length := by
  have := h.length
  rw [fm_len he] at this
  exact (Nat.eq_of_mul_eq_mul_right hes this).symm
theorem Sl.elem {H : AHeap} {s : AVal} {l : List α} (h : Sl H es s (l.flatMap enc)) (he : ∀ a, (enc a).length = es) (hes : 0 < es) {i : Nat} (hi : i < l.length) :
    ∃ id off cap g k own, s = .slice id off l.length cap g ∧ H.obj id = some (.cells k own) ∧ off + l.length * es ≤ k.length ∧ (k.drop (off + i * es)).take es = enc l[i] ∧ ∀ j, j < es → k[off + (i * es + j)]? = (enc l[i])[j]? := by
  have hs := slen_fm he hes h
  obtain ⟨id, off, cap, g, k, own, e, ho, hk, h1, h2⟩ := h.at (i := i) (by omega)
  rw [hs] at e hk
  refine ⟨id, off, cap, g, k, own, e, ho, hk, by rw [h2, fm_get he l i hi], fun j hj => ?_⟩
  rw [← Nat.add_assoc, h1 j hj, fm_cell he l i j hi hj]
theorem elem_room {i n off k : Nat} (hi : i < n) (h : off + n * es ≤ k) : off + i * es + es ≤ k := by
  have := Nat.mul_le_mul_right es (show i + 1 ≤ n by omega)
  rw [Nat.add_mul] at this
  omega
end

theorem Sl.elem1 {α : Type} {f : α → AVal} {H : AHeap} {s : AVal} {l : List α} (h : Sl H 1 s (l.map f)) {i : Nat} (hi : i < l.length) :
    ∃ id off cap g k own, s = .slice id off l.length cap g ∧ H.obj id = some (.cells k own) ∧ off + l.length ≤ k.length ∧ k[off + i]? = some (f l[i]) := by
  rw [← flatMap_one] at h
  obtain ⟨id, off, cap, g, k, own, e, ho, hk, _, h2⟩ := h.elem (fun _ => rfl) (by decide) hi
  have := h2 0 (by decide)
  rw [Nat.mul_one, Nat.add_zero] at this
  exact ⟨id, off, cap, g, k, own, e, ho, by simpa using hk, this⟩

theorem sl_shape' {H : AHeap} {es : Nat} {s : AVal} {cs : List AVal} (h : Sl H es s cs) : s = .nils ∨ ∃ a b c d e, s = .slice a b c d e := by
  rcases h with ⟨rfl, _⟩ | ⟨id, off, n, cap, g, rfl, _⟩
  · exact .inl rfl
  · exact .inr ⟨_, _, _, _, _, rfl⟩

def pushE (K : AHeap) (s : AVal) (v c : List AVal) : AHeap := (delS (K.new (.cells v true)) s).new (.cells c true)
theorem Ow.pushE {K : AHeap} {by' es : Nat} {s : AVal} {cs v : List AVal} (h : Ow K es s cs) (hes : 0 < es) (hv : v.length = es) (hb : 5 * ((slen s + 1) * by') + 2040 * by' ≤ 1125899906842624 ∧ slen s + 1 ≤ 9223372036854775807) :
    aappend (K.new (.cells v true)) es by' s (.slice K.next 0 1 1 none) = some (.slice (K.next + 1) 0 (slen s + 1) (slen s + 1) (some es), pushE K s v (cs ++ v)) := by
  have hn : K.next ∉ s.ids := fun hx => by have := h.lt _ hx; omega
  have := ((Ow_new (o := .cells v true) hn).2 h).append (by' := by') (x := .slice K.next 0 1 1 none) (new := v) (n := 1) hes rfl (by
    simp only [acells, Nat.one_mul]
    rw [if_neg (by omega), new_obj, if_pos rfl]
    simp [hv, List.take_of_length_le (show v.length ≤ es by omega)]) (by omega) hb
  rw [this]
  simp only [Am.pushE, new_next, delS_next]
theorem Ow_pushedE (K : AHeap) (s : AVal) {es : Nat} {cs v : List AVal} (hes : 0 < es) (hv : v.length = es) (hc : cs.length = slen s * es) : Ow (pushE K s v (cs ++ v)) es (.slice (K.next + 1) 0 (slen s + 1) (slen s + 1) (some es)) (cs ++ v) := by
  have := Ow.made (K := delS (K.new (.cells v true)) s) (es := es) (n := slen s + 1) (cs := cs ++ v) (Nat.succ_pos _) (by rw [List.length_append, hc, hv, Nat.add_mul, Nat.one_mul])
  rw [delS_next, new_next] at this
  exact this
theorem Fr.pushE {L : List Nat} {H K : AHeap} {s : AVal} {v c : List AVal} (hs : ∀ i, i ∈ s.ids → i ∈ L ∨ H.next ≤ i) (h : Fr L H K) : Fr L H (pushE K s v c) := Fr.new (Fr.del hs (Fr.new h))

def Gr (K : AHeap) (es : Nat) (v : AVal) (cs : List AVal) : Prop := Ow K es v cs ∨ (cs = [] ∧ ∃ id, v = .slice id 0 0 0 none ∧ id < K.next ∧ K.obj id = some (.cells [] true))
theorem Gr.lt {K : AHeap} {es : Nat} {v : AVal} {cs : List AVal} (h : Gr K es v cs) : ∀ i, i ∈ v.ids → i < K.next := by
  rcases h with h | ⟨_, id, rfl, h, _⟩
  · exact h.lt
  · intro i hi; simp [AVal.ids] at hi; omega
theorem Gr.sl {K : AHeap} {es : Nat} {v : AVal} {cs : List AVal} (h : Gr K es v cs) : Sl K es v cs := by
  rcases h with h | ⟨rfl, id, rfl, _, _⟩
  · exact h.sl
  · exact .inr ⟨id, 0, 0, 0, none, rfl, by simp, .inl rfl⟩
theorem Gr.fr {L : List Nat} {H H' : AHeap} {es : Nat} {s : AVal} {cs : List AVal} (h : Gr H es s cs) (f : Fr L H H') (hid : ∀ i, i ∈ s.ids → i ∉ L) : Gr H' es s cs := by
  rcases h with h | ⟨rfl, id, rfl, h1, h2⟩
  · exact .inl (h.fr f hid)
  · exact .inr ⟨rfl, id, rfl, Nat.lt_of_lt_of_le h1 f.1, by rw [f.2 id h1 (hid id (by simp [AVal.ids]))]; exact h2⟩
theorem Gr.nil (H : AHeap) (es : Nat) : Gr H es .nils [] := .inl (Ow.nil H es)
theorem Gr.empty (H : AHeap) (es : Nat) : Gr (H.new (.cells [] true)) es (.slice H.next 0 0 0 none) [] := .inr ⟨rfl, H.next, rfl, by rw [new_next]; omega, by rw [new_obj, if_pos rfl]⟩
theorem Gr.shape {K : AHeap} {es : Nat} {v : AVal} {cs : List AVal} (h : Gr K es v cs) : v = .nils ∨ ∃ a n g, v = .slice a 0 n n g := by
  rcases h with (⟨rfl, _⟩ | ⟨id, n, rfl, _⟩) | ⟨_, id, rfl, _, _⟩
  · exact .inl rfl
  · exact .inr ⟨_, _, _, rfl⟩
  · exact .inr ⟨_, _, _, rfl⟩
theorem Gr.push {K : AHeap} {es by' : Nat} {v : AVal} {cs : List AVal} (h : Gr K es v cs) (hes : 0 < es) {x : List AVal} (hx : x.length = es) (hb : 5 * ((slen v + 1) * by') + 2040 * by' ≤ 1125899906842624 ∧ slen v + 1 ≤ 9223372036854775807) :
    ∃ v' K', aappend (K.new (.cells x true)) es by' v (.slice K.next 0 1 1 none) = some (v', K') ∧ Gr K' es v' (cs ++ x) ∧ (∀ i, i ∈ v'.ids → K.next ≤ i) ∧ Fr v.ids K K' ∧ slen v' = slen v + 1 ∧ ∃ a, v' = .slice a 0 (slen v + 1) (slen v + 1) (some es) := by
  rcases h with h | ⟨rfl, id, rfl, h1, h2⟩
  · refine ⟨_, _, h.pushE hes hx hb, .inl (Ow_pushedE K v hes hx h.sl.length), ?_, Fr.pushE (fun i hi => .inl hi) (Fr.refl _ _), rfl, _, rfl⟩
    intro i hi; simp [AVal.ids] at hi; omega
  · have e : aappend (K.new (.cells x true)) es by' (.slice id 0 0 0 none) (.slice K.next 0 1 1 none) = some (.slice (K.next + 1) 0 1 1 (some es), (K.new (.cells x true)).new (.cells x true)) := by
      have := app_known (H := K.new (.cells x true)) (es := es) (by' := by') (id := id) (off := 0) (len := 0) (cap := 0) (x := .slice K.next 0 1 1 none) (n := 1) (old := []) (new := x) hes rfl (by
        simp only [acells, Nat.one_mul]
        rw [if_neg (by omega), new_obj, if_pos rfl]
        simp [hx, List.take_of_length_le (show x.length ≤ es by omega)]) (by simp [acells]) (by decide) (by simpa [slen] using hb)
      simpa [new_next] using this
    refine ⟨_, _, e, .inl (.inr ⟨_, 1, rfl, by simpa using hx, by simp [new_next], by simp [new_obj, new_next], by decide⟩), ?_, Fr.new (Fr.new (Fr.refl _ _)), rfl, _, rfl⟩
    intro i hi; simp [AVal.ids] at hi; omega
theorem Gr.add {K : AHeap} {es by' : Nat} {v s : AVal} {cs new : List AVal} (h : Gr K es v cs) (hes : 0 < es) (hs : Sl K es s new) (hb : 5 * ((slen v + slen s) * by') + 2040 * by' ≤ 1125899906842624 ∧ slen v + slen s ≤ 9223372036854775807) :
    ∃ v' K', aappend K es by' v s = some (v', K') ∧ Gr K' es v' (cs ++ new) ∧ (∀ i, i ∈ v'.ids → i ∈ v.ids ∨ K.next ≤ i) ∧ Fr v.ids K K' ∧ slen v' = slen v + slen s := by
  obtain ⟨a1, a2⟩ := hs.cells
  rcases Nat.eq_zero_or_pos (slen s) with h0 | h0
  · have hn : new = [] := List.eq_nil_of_length_eq_zero (by rw [hs.length, h0]; simp)
    subst hn
    rw [h0] at a1 a2
    refine ⟨v, K, ?_, by simpa using h, fun i hi => .inl hi, Fr.refl _ _, by rw [h0]; rfl⟩
    rcases h.shape with rfl | ⟨a, n, g, rfl⟩
    · exact app_none_nils a1 a2
    · exact app_none (Nat.le_refl _) a1 a2
  · rcases h with h | ⟨rfl, id, rfl, h1, h2⟩
    · have e := h.append (by' := by') hes a1 a2 h0 hb
      refine ⟨_, _, e, .inl (Ow.grown h0 h.sl.length hs.length), ?_, Fr.new (Fr.del (fun i hi => .inl hi) (Fr.refl _ _)), rfl⟩
      intro i hi; simp [AVal.ids] at hi; omega
    · have e := app_known (H := K) (es := es) (by' := by') (id := id) (off := 0) (len := 0) (cap := 0) (n := slen s) (x := s) (old := []) (new := new) hes a1 a2 (by simp [acells]) (by omega) (by simpa [slen] using hb)
      simp only [Nat.zero_add, List.nil_append] at e
      refine ⟨_, _, e, .inl (Ow.made h0 hs.length), ?_, Fr.new (Fr.refl _ _), by simp [slen]⟩
      intro i hi; simp [AVal.ids] at hi; omega

theorem old_sl {n : Nat} {H : AHeap} {es : Nat} {s : AVal} {cs : List AVal} (h : Sl H es s cs) (hid : ∀ i, i ∈ s.ids → i < n) : s.old n = true := by
  rcases h with ⟨rfl, _⟩ | ⟨id, off, m, cap, g, rfl, _⟩
  · rfl
  · simpa [AVal.old] using hid id (by simp [AVal.ids])

/-! ### A range over slices.Backward -/
section
variable {A : AProg} {call : ACall} {tok : Nat} {yl : AYield}
end

/-! ### Arguments of any shape -/
inductive Sh where
  | bool | int (k : IntKind) | str
  | slice (n bytes : Nat) (e : Sh)
  | fend | fld (off n : Nat) (x rest : Sh) | st (n : Nat) (fs : Sh)

def Shp (H : AHeap) : Sh → List AVal → Prop
  | .bool, cs => ∃ b, cs = [.bool b]
  | .int k, cs => ∃ n, cs = [.int k n] ∧ k.min ≤ n ∧ n ≤ k.max
  | .str, cs => ∃ s, cs = [.str s] ∧ s.length ≤ reachBytes
  | .slice n bytes e, cs => ∃ v xs, cs = [v] ∧ Sl H n v xs ∧ Cuts n v ∧ (∀ i, i ∈ v.ids → i < H.next) ∧ xs.length = slen v * n ∧ slen v ≤ maxLen ∧ slen v * bytes ≤ reachBytes ∧ ∀ i, i < slen v → Shp H e ((xs.drop (i * n)).take n)
  | .fend, _ => True
  | .fld off n x r, cs => Shp H x ((cs.drop off).take n) ∧ Shp H r cs
  | .st n fs, cs => cs.length = n ∧ Shp H fs cs

def shFs (g : TypeId → Option Sh) (c : TypeId → Nat) : List Field → Option Sh
  | [] => some .fend
  | fd :: l => (g fd.type).bind fun x => (shFs g c l).map fun r => .fld fd.offset (c fd.type) x r
def shOf (P : Program) : Nat → TypeId → Option Sh
  | 0, _ => none
  | f + 1, t => match P.underlying t with
    | some .bool => some .bool
    | some (.int k) => some (.int k)
    | some .string => some .str
    | some (.slice e) => (shOf P f e).map (.slice (P.cellsOf e) (P.bytesOf e))
    | some (.struct fs) => (shFs (shOf P f) P.cellsOf fs.toList).map (.st (P.cellsOf t))
    | _ => none

theorem shp_fs {P : Program} {H : AHeap} {f g : Nat} {cs : List AVal} (ih : ∀ t sh cs d, shOf P f t = some sh → AReads P H g t cs d → Shp H sh cs) :
    ∀ (l : List Field) (sh : Sh) (ds : List Dat), shFs (shOf P f) P.cellsOf l = some sh → ds.length = l.length → (∀ (i : Nat) (fd : Field) (x : Dat), l[i]? = some fd → ds[i]? = some x → AReads P H g fd.type ((cs.drop fd.offset).take (P.cellsOf fd.type)) x) → Shp H sh cs
  | [], sh, _, h, _, _ => by simp [shFs] at h; subst h; exact trivial
  | fd :: l, sh, [], h, hd, _ => by simp at hd
  | fd :: l, sh, d :: ds, h, hd, hr => by
    simp only [shFs, Option.bind_eq_some_iff, Option.map_eq_some_iff] at h
    obtain ⟨x, hx, r, hr', rfl⟩ := h
    exact ⟨ih _ _ _ _ hx (hr 0 fd d rfl rfl), shp_fs ih l r ds hr' (by simpa using hd) fun i fd' x h1 h2 => hr (i + 1) fd' x (by simpa using h1) (by simpa using h2)⟩

theorem reads_sh {P : Program} {H : AHeap} : ∀ (f g : Nat) (t : TypeId) (sh : Sh) (cs : List AVal) (d : Dat), shOf P f t = some sh → AReads P H g t cs d → Shp H sh cs
  | 0, _, _, _, _, _, h, _ => by simp [shOf] at h
  | f + 1, 0, _, _, _, _, _, h => by simp [AReads] at h
  | f + 1, g + 1, t, sh, cs, d, h, hr => by
    simp only [shOf] at h
    simp only [AReads] at hr
    split at h
    · rename_i hu
      rw [hu] at hr
      injection h with h; subst h
      obtain ⟨b, h1, _⟩ := hr
      exact ⟨b, h1⟩
    · rename_i k hu
      rw [hu] at hr
      injection h with h; subst h
      obtain ⟨n, h1, _, h2⟩ := hr
      exact ⟨n, h1, h2⟩
    · rename_i hu
      rw [hu] at hr
      injection h with h; subst h
      obtain ⟨s, h1, _, h2⟩ := hr
      exact ⟨s, h1, h2⟩
    · rename_i e hu
      rw [Option.map_eq_some_iff] at h
      obtain ⟨x, hx, rfl⟩ := h
      have ha : ∀ v, cs = [v] → AArg P H t v d := fun v hv => ⟨g + 1, cs, by simp only [AReads]; exact hr, by rw [hu]; exact hv⟩
      rw [hu] at hr
      have hcs : ∃ v, cs = [v] := by
        rcases hr with ⟨rfl, _⟩ | ⟨id, cap, l, ds, _, rfl, _⟩ <;> exact ⟨_, rfl⟩
      obtain ⟨v, hv⟩ := hcs
      have ha := ha v hv
      obtain ⟨f', ds, xs, h1, h2, h3, h4, h5, h6, h7⟩ := arg_slice hu ha
      refine ⟨v, xs, hv, h1, arg_cuts (P.cellsOf e) hu ha, h4, by rw [h2]; exact h3, by omega, by rw [h2]; exact h6, fun i hi => ?_⟩
      have hi' : i < ds.length := by omega
      exact reads_sh f f' e x _ _ hx (h7 i ds[i] (List.getElem?_eq_getElem hi'))
    · rename_i fs hu
      rw [hu] at hr
      rw [Option.map_eq_some_iff] at h
      obtain ⟨x, hx, rfl⟩ := h
      obtain ⟨ds, _, h1, h2, h3⟩ := hr
      refine ⟨h1, shp_fs (fun t sh cs d => reads_sh f g t sh cs d) fs.toList x ds hx (by simpa using h2) fun i fd y h4 h5 => h3 i fd y (by simpa using h4) h5⟩
    · cases h

def Sh.isSt : Sh → Bool
  | .st .. => true
  | _ => false
theorem arg_sh {P : Program} {H : AHeap} {f : Nat} {t : TypeId} {sh : Sh} {v : AVal} {d : Dat} (hs : shOf P f t = some sh) (h : AArg P H t v d) :
    ∃ cs, Shp H sh cs ∧ (sh.isSt = false → cs = [v]) ∧ (sh.isSt = true → v = .agg cs) := by
  obtain ⟨g, cs, hr, hc⟩ := h
  refine ⟨cs, reads_sh f g t sh cs d hs hr, ?_⟩
  cases f with
  | zero => simp [shOf] at hs
  | succ f =>
    simp only [shOf] at hs
    split at hs <;> rename_i hu <;> try rw [hu] at hc
    · injection hs with hs; subst hs; exact ⟨fun _ => hc, fun h => (nomatch h)⟩
    · injection hs with hs; subst hs; exact ⟨fun _ => hc, fun h => (nomatch h)⟩
    · injection hs with hs; subst hs; exact ⟨fun _ => hc, fun h => (nomatch h)⟩
    · rw [Option.map_eq_some_iff] at hs; obtain ⟨x, _, rfl⟩ := hs; exact ⟨fun _ => hc, fun h => (nomatch h)⟩
    · rw [Option.map_eq_some_iff] at hs; obtain ⟨x, _, rfl⟩ := hs; exact ⟨fun h => (nomatch h), fun _ => hc⟩
    · cases hs

theorem shp_list {H : AHeap} {α : Type} {enc : α → List AVal} {n bytes : Nat} {e : Sh} {cs : List AVal} (h : Shp H (.slice n bytes e) cs) (he : ∀ c, Shp H e c → ∃ a, c = enc a) :
    ∃ (v : AVal) (l : List α), cs = [v] ∧ Sl H n v (l.flatMap enc) ∧ Cuts n v ∧ (∀ i, i ∈ v.ids → i < H.next) ∧ slen v = l.length ∧ l.length ≤ maxLen ∧ l.length * bytes ≤ reachBytes := by
  obtain ⟨v, xs, h1, h2, h3, h4, h5, h6, h7, h8⟩ := h
  obtain ⟨l, hl, rfl⟩ := cells_of (enc := enc) (slen v) xs h5 (fun i hi => he _ (h8 i hi))
  exact ⟨v, l, h1, h2, h3, h4, hl.symm, by omega, by rw [hl]; exact h7⟩

theorem wrapU64 (n : Int) : IntKind.u64.wrap n = n % 18446744073709551616 := by simp [IntKind.wrap, IntKind.signed, IntKind.bits]
end Go.Proofs.Ytfmjdlahabgkpaa.Am
end

section
/- Texts: put together, cut, looked at; functions of a byte by a table. -/
set_option linter.unusedSimpArgs false
set_option linter.unusedVariables false
namespace Go.Proofs.Ytfmjdlahabgkpaa.Am
open Go Go.RowKit

theorem cat_str {a b : List UInt8} (h : a.length + b.length ≤ 9223372036854775807) : abin .add (.str a) (.str b) = some (.str (a ++ b)) := by
  show astr .add a b = _
  simp only [astr, if_pos h]
end Go.Proofs.Ytfmjdlahabgkpaa.Am
end
