/- The arguments of a law, as the abstract machine sees them: the image of a world, and what a typed reading says of it. -/
import Derived.Test.YtilhjcnkaelheaaAmFn
import Derived.Carry
import Derived.SizedLaws
import Derived.OpenShut
set_option linter.unusedSimpArgs false
set_option linter.unusedVariables false
namespace Go.Proofs.Ytilhjcnkaelheaa.Am
open Go Go.RowKit

/-! ### The image of a world: an object for each place of each block: the cells from there on -/
def isUnit (v : Value) : Bool := v.oneCell'

/-- n: how many blocks; M: above every block's size. -/
def absV (n M : Nat) : Value → AVal
  | .bool b => .bool b
  | .int k x => .int k x
  | .float k b => .flt k b
  | .string s => .str s.data.toList
  | .pointer none => .nilp
  | .pointer (some ⟨b, o, none⟩) => if b < n ∧ o < M then .ptr (b * M + o) 0 else .junk
  | .slice none 0 0 => .nils
  | .slice (some a) l c => if a.block < n ∧ a.off < M ∧ l ≤ c ∧ a.spot = none then .slice (a.block * M + a.off) 0 l c none else if l = 0 ∧ c = 0 then .slice (n * M) 0 0 0 none else .junk
  | .map none => .nilm
  | .nilFunc => .nilFunc
  | .nilIface => .nilIface
  | _ => .junk

def absArg (n M : Nat) : Value → AVal
  | .agg c => .agg (c.toList.map (absV n M))
  | v => absV n M v

def maxSize (w : World) : Nat := w.heap.toList.foldr (fun o m => match o with | .cells c _ _ => max (c.size + 1) m | _ => m) 1

def goodRun (c : List Value) (o : Nat) : List Value := (c.drop o).takeWhile isUnit

def imgHeap (w : World) : AHeap :=
  { obj := fun id => match w.heap[id / maxSize w]? with
      | some (.cells c _ _) => some (.cells ((goodRun c.toList (id % maxSize w)).map (absV w.heap.size (maxSize w))) false)
      | _ => none
    next := w.heap.size * maxSize w + 1 }

def imgInj (w : World) : Inj := { n := w.heap.size * maxSize w + 1, loc := fun id => ⟨id / maxSize w, id % maxSize w, 0⟩ }

theorem foldr_max_pos (l : List Obj) : 1 ≤ l.foldr (fun o m => match o with | .cells c _ _ => max (c.size + 1) m | _ => m) 1 := by
  induction l with
  | nil => simp
  | cons o l ih =>
    simp only [List.foldr_cons]
    split
    · omega
    · exact ih

theorem maxSize_pos (w : World) : 0 < maxSize w := foldr_max_pos _

theorem foldr_max_mem (l : List Obj) {c : Array Value} {e : TypeId} {fz : Nat × Nat} (h : Obj.cells c e fz ∈ l) : c.size < l.foldr (fun o m => match o with | .cells c _ _ => max (c.size + 1) m | _ => m) 1 := by
  induction l with
  | nil => simp at h
  | cons o l ih =>
    simp only [List.foldr_cons]
    rcases List.mem_cons.1 h with rfl | h
    · simp only; omega
    · have := ih h
      split
      · omega
      · exact this

theorem maxSize_lt {w : World} {b : Nat} {c : Array Value} {e : TypeId} {fz : Nat × Nat} (h : w.heap[b]? = some (.cells c e fz)) : c.size < maxSize w := by
  refine foldr_max_mem _ (e := e) (fz := fz) ?_
  obtain ⟨hb, he⟩ := Array.getElem?_eq_some_iff.1 h
  rw [← he]
  simp

theorem id_div {b o M : Nat} (h : o < M) : (b * M + o) / M = b := by
  rw [Nat.mul_comm, Nat.mul_add_div (by omega), Nat.div_eq_of_lt h, Nat.add_zero]
theorem id_mod {b o M : Nat} (h : o < M) : (b * M + o) % M = o := by
  rw [Nat.mul_comm, Nat.mul_add_mod, Nat.mod_eq_of_lt h]
theorem id_lt {b o M n : Nat} (hb : b < n) (h : o < M) : b * M + o < n * M := by
  calc b * M + o < b * M + M := by omega
    _ = (b + 1) * M := by rw [Nat.add_mul]; omega
    _ ≤ n * M := Nat.mul_le_mul_right _ hb

theorem absV_rel (w : World) {v : Value} (h : v.oneCell' = true) : VRel (imgInj w) (absV w.heap.size (maxSize w) v) v := by
  unfold absV
  split
  · exact .bool _
  · exact .int _ _
  · exact .flt _ _
  · exact .str _
  · exact .nilp
  · split
    · rename_i b o hc
      have := VRel.ptr (m := imgInj w) (b * maxSize w + o) 0 ⟨Nat.lt_succ_of_lt (id_lt hc.1 hc.2), rfl⟩
      simp only [imgInj, id_div hc.2, id_mod hc.2, Nat.add_zero] at this
      exact this
    · exact .junk _ h (by simp)
  · exact .nils
  · rename_i ad l c
    split
    · rename_i hc
      have := VRel.slice (m := imgInj w) (ad.block * maxSize w + ad.off) 0 l c none ad c ⟨Nat.lt_succ_of_lt (id_lt hc.1 hc.2.1), rfl⟩ hc.2.2.1 (Nat.le_refl _) (fun _ => rfl) (by simp) (.inl (by
        simp only [imgInj, id_mod hc.2.1, id_div hc.2.1, Nat.add_zero]
        obtain ⟨b, o, s⟩ := ad
        simp at hc
        rw [hc.2.2.2]))
      exact this
    · split
      · rename_i hc
        obtain ⟨rfl, rfl⟩ := hc
        exact .slice _ _ _ _ _ _ _ ⟨by simp [imgInj], rfl⟩ (Nat.le_refl _) (Nat.le_refl _) (fun _ => rfl) (by simp) (.inr ⟨rfl, rfl⟩)
      · exact .junk _ h (by simp)
  · exact .nilm
  · exact .nilFunc
  · exact .nilIface
  · rename_i h1 _ _ _ _ _ _ _ _ _ _
    exact .junk _ h (fun b hb => h1 b hb)

theorem all2_map (w : World) : ∀ {l : List Value}, (∀ x, x ∈ l → x.oneCell' = true) → All2 (VRel (imgInj w)) (l.map (absV w.heap.size (maxSize w))) l
  | [], _ => .nil
  | v :: l, h => .cons (absV_rel w (h v (by simp))) (all2_map w fun x hx => h x (by simp [hx]))

theorem absArg_rel (w : World) {v : Value} (h : ∀ x, x ∈ v.cells.toList → x.oneCell' = true) : VRel (imgInj w) (absArg w.heap.size (maxSize w) v) v := by
  cases v with
  | agg c =>
    simp only [Value.cells] at h
    have := VRel.agg (m := imgInj w) _ _ (all2_map w h) h
    simpa [absArg] using this
  | tuple c => have := h (.tuple c) (by simp [Value.cells]); simp [Value.oneCell'] at this
  | _ => simp only [absArg]; exact absV_rel w (h _ (by simp [Value.cells]))

theorem mem_goodRun {c : List Value} {o : Nat} {v : Value} (h : v ∈ goodRun c o) : v.oneCell' = true := by
  unfold goodRun at h
  generalize c.drop o = l at h
  induction l with
  | nil => simp at h
  | cons x l ih =>
    simp only [List.takeWhile_cons] at h
    split at h
    · rename_i hx
      rcases List.mem_cons.1 h with rfl | h
      · exact hx
      · exact ih h
    · simp at h

theorem srel_img (w : World) : SRel w (lowK w.heap.size) (imgInj w) (imgHeap w) w := by
  refine ⟨Keep.refl _ _, fun k hk => by simpa [lowK] using hk, rfl, ?_, ?_⟩
  · intro id o ho
    simp only [imgHeap] at ho
    split at ho
    · rename_i c e fz hb
      simp at ho; subst ho
      have hlt : id / maxSize w < w.heap.size := (Array.getElem?_eq_some_iff.1 hb).1
      refine ⟨?_, c, e, fz, hb, ?_, by simp⟩
      · refine ⟨?_, rfl⟩
        show id < w.heap.size * maxSize w + 1
        refine Nat.lt_succ_of_lt ?_
        exact (Nat.div_lt_iff_lt_mul (maxSize_pos w)).1 hlt
      · intro i x hx
        rw [List.getElem?_map, Option.map_eq_some_iff] at hx
        obtain ⟨v, hv, rfl⟩ := hx
        have hpre : goodRun c.toList (id % maxSize w) <+: c.toList.drop (id % maxSize w) := List.takeWhile_prefix _
        have hv' : (c.toList.drop (id % maxSize w))[i]? = some v := by
          obtain ⟨t, ht⟩ := hpre
          rw [← ht, List.getElem?_append_left]
          · exact hv
          · exact (List.getElem?_eq_some_iff.1 hv).1
        have hu : v.oneCell' = true := by
          have := List.mem_of_getElem? hv
          exact mem_goodRun this
        refine ⟨v, ?_, absV_rel w hu, hu⟩
        rw [List.getElem?_drop] at hv'
        simpa [imgInj] using hv'
    · simp at ho
  · intro i j o o' hi _ hown
    simp only [imgHeap] at hi
    split at hi
    · simp at hi; subst hi; simp [AObj.own] at hown
    · simp at hi

/-! ### What a typed reading says of the image -/
/-- Data as they came in. -/
inductive Dat where
  | bool (b : Bool)
  | int (n : Int)
  | flt (bits : Nat)
  | str (s : List UInt8)
  | nil
  | slice (l : List Dat)
  | agg (l : List Dat)
  | other
  deriving Inhabited

/-- Cells of a type that read as data: what is asked of a slice: its object is there, holds it, and each element reads so; 'reach': how many bytes it takes at most. -/
def AReads (P : Program) (H : AHeap) : Nat → TypeId → List AVal → Dat → Prop
  | 0, _, _, _ => False
  | f + 1, t, cs, d =>
    match P.underlying t with
    | some .bool => ∃ b, cs = [.bool b] ∧ d = .bool b
    | some (.int k) => ∃ n, cs = [.int k n] ∧ d = .int n ∧ k.min ≤ n ∧ n ≤ k.max
    | some (.float k) => ∃ b, cs = [.flt k b] ∧ d = .flt b
    | some .string => ∃ s, cs = [.str s] ∧ d = .str s ∧ s.length ≤ reachBytes
    | some (.slice e) => (cs = [.nils] ∧ d = .nil) ∨ ∃ id cap l ds, id < H.next ∧ cs = [.slice id 0 ds.length cap none] ∧ d = .slice ds ∧ ds.length ≤ cap ∧ cap ≤ maxLen ∧ cap * P.bytesOf e ≤ reachBytes ∧ (0 < cap → H.obj id = some (.cells l false)) ∧
        cap * P.cellsOf e ≤ l.length ∧ ∀ (i : Nat) (x : Dat), ds[i]? = some x → AReads P H f e ((l.drop (i * P.cellsOf e)).take (P.cellsOf e)) x
    | some (.struct fs) => ∃ ds, d = .agg ds ∧ cs.length = P.cellsOf t ∧ ds.length = fs.size ∧ ∀ (i : Nat) (fd : Field) (x : Dat), fs[i]? = some fd → ds[i]? = some x → AReads P H f fd.type ((cs.drop fd.offset).take (P.cellsOf fd.type)) x
    | some (.array n e) => ∃ ds, d = .agg ds ∧ cs.length = P.cellsOf t ∧ ds.length = n ∧ ∀ (i : Nat) (x : Dat), ds[i]? = some x → AReads P H f e ((cs.drop (i * P.cellsOf e)).take (P.cellsOf e)) x
    | _ => d = .other

/-- A type's cells are all part of something that is read (so that none holds several values). -/
def fullB (P : Program) : Nat → TypeId → Bool
  | 0, _ => false
  | f + 1, t =>
    match P.underlying t with
    | some .bool | some (.int _) | some (.float _) | some .string | some (.pointer _) => P.cellsOf t == 1
    | some (.slice e) => P.cellsOf t == 1 && fullB P f e && 0 < P.cellsOf e
    | some (.struct fs) => (fs.all fun fd => fullB P f fd.type) && (List.range (P.cellsOf t)).all fun k => fs.any fun fd => fd.offset ≤ k && k < fd.offset + P.cellsOf fd.type
    | some (.array n e) => fullB P f e && P.cellsOf t == n * P.cellsOf e
    | _ => false

theorem mapM_some_get {α β : Type} {f : α → Option β} : ∀ {l : List α} {r : List β}, l.mapM f = some r → r.length = l.length ∧ ∀ (i : Nat) x, l[i]? = some x → ∃ y, r[i]? = some y ∧ f x = some y
  | [], r, h => by simp at h; subst h; simp
  | a :: l, r, h => by
    rw [List.mapM_cons] at h
    simp only [bind, Option.bind_eq_some_iff, pure, Option.some.injEq] at h
    obtain ⟨b, hb, r', hr, rfl⟩ := h
    obtain ⟨h1, h2⟩ := mapM_some_get hr
    refine ⟨by simp [h1], fun i x hx => ?_⟩
    cases i with
    | zero => simp at hx; subst hx; exact ⟨b, rfl, hb⟩
    | succ i => simpa using h2 i x (by simpa using hx)

theorem cells_get {w : World} {base : Nat} {a : Addr} {n : Nat} {cs : List Value} (h : w.cells? base a n = some cs) : cs.length = n ∧ ∀ i v, cs[i]? = some v → w.cell? (a.add i) = some v := by
  unfold World.cells? at h
  split at h
  · obtain ⟨h1, h2⟩ := mapM_some_get h
    simp at h1
    refine ⟨h1, fun i v hv => ?_⟩
    have hi : i < n := by
      rw [← h1]; exact (List.getElem?_eq_some_iff.1 hv).1
    obtain ⟨y, hy, hf⟩ := h2 i i (by simp [hi])
    rw [hv] at hy; simp at hy; subst hy; exact hf
  · simp at h

theorem cell_heap {w : World} {a : Addr} {v : Value} (h : w.cell? a = some v) : ∃ c e fz, w.heap[a.block]? = some (.cells c e fz) ∧ a.spot = none ∧ c[a.off]? = some v := by
  unfold World.cell? at h
  split at h
  · rename_i c e fz hb
    split at h
    · simp at h
    · rename_i hs
      exact ⟨c, e, fz, hb, by simpa using hs, h⟩
  · simp at h

theorem addr_add_add (a : Addr) (m n : Nat) : (a.add m).add n = a.add (m + n) := by
  unfold Addr.add
  by_cases hm : m = 0 <;> by_cases hn : n = 0 <;> simp [hm, hn, Nat.add_assoc]

theorem list_of {α : Type} {R : Nat → α → Prop} : ∀ (n : Nat), (∀ i, i < n → ∃ x, R i x) → ∃ l : List α, l.length = n ∧ ∀ (i : Nat) x, l[i]? = some x → R i x
  | 0, _ => ⟨[], rfl, by simp⟩
  | n + 1, h => by
    obtain ⟨l, hl, hr⟩ := list_of n fun i hi => h i (by omega)
    obtain ⟨x, hx⟩ := h n (by omega)
    refine ⟨l ++ [x], by simp [hl], fun i y hy => ?_⟩
    by_cases hi : i < n
    · rw [List.getElem?_append_left (by omega)] at hy; exact hr i y hy
    · have hin : i = n := by
        have := (List.getElem?_eq_some_iff.1 hy).1
        simp [hl] at this; omega
      subst hin
      rw [List.getElem?_append_right (by omega), hl] at hy
      simp at hy; subst hy; exact hx

section
variable {Hh : Type} {enc : TypeId × Value → Hh} {P : Program} {w : World} {spare : Nat → Bool}

theorem all_unit : ∀ (f g : Nat) (t : TypeId) (cs : List Value) (d : DataW Hh) (ps : List MemPlace), fullB P g t = true → DataW.trod enc P w 0 spare true f t cs = some (d, ps) → cs.length = P.cellsOf t ∧ ∀ x, x ∈ cs → x.oneCell' = true
  | 0, g, t, cs, d, ps, hg, h => by simp [DataW.trod] at h
  | f + 1, 0, t, cs, d, ps, hg, h => by simp [fullB] at hg
  | f + 1, g + 1, t, cs, d, ps, hg, h => by
    simp only [DataW.trod] at h
    simp only [fullB] at hg
    have one : ∀ v : Value, cs = [v] → v.oneCell' = true → (P.cellsOf t == 1) = true → cs.length = P.cellsOf t ∧ ∀ x, x ∈ cs → x.oneCell' = true := by
      intro v hv h1 hc
      subst hv
      simp at hc
      exact ⟨by simp [hc], by simp [h1]⟩
    cases hu : P.underlying t with
    | none => rw [hu] at hg; simp at hg
    | some u =>
      rw [hu] at h hg
      cases u with
      | bool => simp only at h hg; split at h <;> first | exact one _ rfl rfl hg | (simp_all; done)
      | int k => simp only at h hg; split at h <;> first | exact one _ rfl rfl hg | (simp_all; done)
      | float k => simp only at h hg; split at h <;> first | exact one _ rfl rfl hg | (simp_all; done)
      | string => simp only at h hg; split at h <;> first | exact one _ rfl rfl hg | (simp_all; done)
      | pointer e => simp only at h hg; split at h <;> first | exact one _ rfl rfl hg | (simp_all; done)
      | slice e =>
        simp only [Bool.and_eq_true] at h hg
        split at h <;> first | (exact one _ rfl rfl hg.1.1) | (simp_all; done)
      | struct fs =>
        simp only [Bool.and_eq_true] at h hg
        split at h
        · rename_i hlen
          refine ⟨hlen, fun x hx => ?_⟩
          obtain ⟨k, hk, hkx⟩ := List.getElem_of_mem hx
          simp only [Option.map_eq_some_iff] at h
          obtain ⟨xs, hxs, _⟩ := h
          obtain ⟨h1, h2⟩ := mapM_some_get hxs
          have hcov := List.all_eq_true.1 hg.2 k (List.mem_range.2 (by omega))
          rw [Array.any_eq_true'] at hcov
          obtain ⟨fd, hfd, hin⟩ := hcov
          simp only [Bool.and_eq_true, decide_eq_true_eq] at hin
          obtain ⟨i, hi, hfi⟩ := List.getElem_of_mem (Array.mem_toList_iff.2 hfd)
          obtain ⟨y, hy, hf⟩ := h2 i fd (by rw [List.getElem?_eq_getElem hi, hfi])
          have hfull : fullB P g fd.type = true := Array.all_eq_true_iff_forall_mem.1 hg.1 fd hfd
          obtain ⟨_, hall⟩ := all_unit f g fd.type _ y.1 y.2 hfull (by rw [hf])
          refine hall x ?_
          rw [List.mem_iff_getElem?]
          refine ⟨k - fd.offset, ?_⟩
          rw [List.getElem?_take, if_pos (by omega), List.getElem?_drop, show fd.offset + (k - fd.offset) = k by omega, List.getElem?_eq_getElem hk, hkx]
        · simp at h
      | array n e =>
        simp only [Bool.and_eq_true] at h hg
        split at h
        · rename_i hlen
          refine ⟨hlen, fun x hx => ?_⟩
          obtain ⟨k, hk, hkx⟩ := List.getElem_of_mem hx
          simp only [Option.map_eq_some_iff] at h
          obtain ⟨xs, hxs, _⟩ := h
          obtain ⟨h1, h2⟩ := mapM_some_get hxs
          have hn : P.cellsOf t = n * P.cellsOf e := by simpa using hg.2
          have hpos : 0 < P.cellsOf e := by
            rcases Nat.eq_zero_or_pos (P.cellsOf e) with h0 | h0
            · rw [h0] at hn; simp at hn; omega
            · exact h0
          have hkn : k / P.cellsOf e < n := (Nat.div_lt_iff_lt_mul hpos).2 (by omega)
          obtain ⟨y, hy, hf⟩ := h2 (k / P.cellsOf e) (k / P.cellsOf e) (by simp [hkn])
          obtain ⟨_, hall⟩ := all_unit f g e _ y.1 y.2 hg.1 (by rw [hf])
          refine hall x ?_
          rw [List.mem_iff_getElem?]
          refine ⟨k % P.cellsOf e, ?_⟩
          have hdm := Nat.div_add_mod k (P.cellsOf e)
          rw [Nat.mul_comm] at hdm
          rw [List.getElem?_take, if_pos (Nat.mod_lt _ hpos), List.getElem?_drop, hdm, List.getElem?_eq_getElem hk, hkx]
        · simp at h
      | _ => simp at hg

/-- The cells of the image from a place on: those that are there, each of one value. -/
theorem img_cells {b o : Nat} {c : Array Value} {e : TypeId} {fz : Nat × Nat} (hb : w.heap[b]? = some (.cells c e fz)) (ho : o < maxSize w) : (imgHeap w).obj (b * maxSize w + o) = some (.cells ((goodRun c.toList o).map (absV w.heap.size (maxSize w))) false) := by
  simp only [imgHeap, id_div ho, id_mod ho, hb]

theorem goodRun_get {c : List Value} {o : Nat} : ∀ {n : Nat} {cs : List Value}, cs.length = n → (∀ i, i < n → c[o + i]? = cs[i]?) → (∀ x, x ∈ cs → x.oneCell' = true) → (goodRun c o).take n = cs := by
  intro n
  unfold goodRun
  induction n generalizing o with
  | zero => intro cs h _ _; have := List.eq_nil_of_length_eq_zero h; subst this; simp
  | succ n ih =>
    intro cs hl hg h1
    cases cs with
    | nil => simp at hl
    | cons x cs =>
      have h0 := hg 0 (by omega)
      simp at h0
      have ho : o < c.length := (List.getElem?_eq_some_iff.1 h0).1
      have hx : c[o] = x := by rw [List.getElem?_eq_getElem ho] at h0; simpa using h0
      rw [List.drop_eq_getElem_cons ho, hx, List.takeWhile_cons]
      have hu : isUnit x = true := h1 x (by simp)
      rw [if_pos hu, List.take_succ_cons]
      congr 1
      exact ih (o := o + 1) (by simpa using hl) (fun i hi => by have := hg (i + 1) (by omega); simpa [Nat.add_assoc, Nat.add_comm 1 i] using this) (fun y hy => h1 y (by simp [hy]))

/-- What was written of slices' sizes, and texts'. -/
def Weighed (P : Program) (t : TypeId) (d : DataW Hh) : Prop := ∀ n, n ∈ d.weights P t → n ≤ reachBytes

theorem weights_all {e : TypeId} : ∀ {l : List (DataW Hh)} {i : Nat} {x : DataW Hh}, l[i]? = some x → ∀ n, n ∈ x.weights P e → n ∈ DataW.weightsAll P e l
  | [], i, x, h, _, _ => by simp at h
  | d :: l, 0, x, h, n, hn => by simp at h; subst h; simp [DataW.weightsAll, hn]
  | d :: l, i + 1, x, h, n, hn => by simp [DataW.weightsAll]; exact .inr (weights_all (by simpa using h) n hn)

theorem weights_each : ∀ {ts : List TypeId} {l : List (DataW Hh)} {i : Nat} {t : TypeId} {x : DataW Hh}, ts[i]? = some t → l[i]? = some x → ∀ n, n ∈ x.weights P t → n ∈ DataW.weightsEach P ts l
  | _, _, _, _, _, h1, h2, n, hn => DataW.weights_mem_each h1 h2 n hn

theorem reads_img : ∀ (f g : Nat) (t : TypeId) (cs : List Value) (d : DataW Hh) (ps : List MemPlace), fullB P g t = true → DataW.trod enc P w 0 (fun _ => true) true f t cs = some (d, ps) → Weighed P t d →
    ∃ dat, AReads P (imgHeap w) f t (cs.map (absV w.heap.size (maxSize w))) dat
  | 0, g, t, cs, d, ps, hg, h, hw => by simp [DataW.trod] at h
  | f + 1, 0, t, cs, d, ps, hg, h, hw => by simp [fullB] at hg
  | f + 1, g + 1, t, cs, d, ps, hg, h, hw => by
    have hunit := all_unit (f + 1) (g + 1) t cs d ps hg h
    have h' := h
    simp only [DataW.trod] at h
    simp only [fullB] at hg
    simp only [AReads]
    cases hu : P.underlying t with
    | none => rw [hu] at hg; simp at hg
    | some u =>
      rw [hu] at h hg
      cases u with
      | bool => simp only at h hg ⊢; split at h <;> first | (simp_all; done) | (rename_i b _; exact ⟨.bool b, b, rfl, rfl⟩) | skip
      | int k =>
        simp only at h hg ⊢
        split at h <;> first
          | (simp_all; done)
          | skip
        split at h
        · rename_i heq hk
          obtain ⟨hk1, hwf⟩ := hk
          simp at heq
          subst heq; subst hk1
          refine ⟨.int _, _, rfl, rfl, ?_⟩
          simpa [Lit.wf] using hwf
        · simp at h
      | float k =>
        simp only at h hg ⊢
        split at h <;> first
          | (simp_all; done)
          | skip
        split at h
        · rename_i heq hk
          obtain ⟨hk1, hwf⟩ := hk
          simp at heq
          subst heq; subst hk1
          exact ⟨.flt _, _, rfl, rfl⟩
        · simp at h
      | string =>
        simp only at h hg ⊢
        split at h <;> first
          | (simp_all; done)
          | skip
        split at h
        · rename_i s _ hs
          simp at h
          obtain ⟨rfl, rfl⟩ := h
          refine ⟨.str s.data.toList, s.data.toList, rfl, rfl, ?_⟩
          exact hw _ (by simp [DataW.weights])
        · simp at h
      | pointer e => exact ⟨.other, rfl⟩
      | slice e =>
        simp only [Bool.and_eq_true] at hg
        split at h <;> first
          | (simp_all; done)
          | exact ⟨.nil, .inl ⟨rfl, rfl⟩⟩
          | skip
        rename_i e' a len cap heq
        simp at heq
        subst heq
        have hC : 0 < P.cellsOf e := by simpa using hg.2
        split at h
        · rename_i hlc
          obtain ⟨hlc, hcap⟩ := hlc.2
          simp only [if_true, Option.bind_eq_some_iff, Option.map_eq_some_iff] at h
          obtain ⟨elems, he, rest, hr, hd⟩ := h
          simp at hd
          obtain ⟨rfl, rfl⟩ := hd
          obtain ⟨el, ee⟩ := mapM_some_get he
          obtain ⟨rl, re⟩ := mapM_some_get hr
          simp at el rl
          have hwt : ∀ n, n ∈ DataW.weights P t (.slice (elems.map (·.1)) (rest.map (·.1))) → n ≤ reachBytes := hw
          simp only [DataW.weights, hu] at hwt
          have hb := hwt _ (List.mem_cons_self)
          simp only [List.length_map, el, rl] at hb
          rw [show len + (cap - len) = cap by omega] at hb
          have each : ∀ i, i < cap → ∃ cs' x, w.cells? 0 (a.add (i * P.cellsOf e)) (P.cellsOf e) = some cs' ∧ DataW.trod enc P w 0 (fun _ => true) true f e cs' = some x ∧ Weighed P e x.1 := by
            intro i hi
            by_cases h1 : i < len
            · obtain ⟨y, hy, hf⟩ := ee i i (by simp [h1])
              simp only [Option.bind_eq_some_iff] at hf
              obtain ⟨cs', hc', ht'⟩ := hf
              refine ⟨cs', y, hc', ht', fun n hn => hwt n (List.mem_cons_of_mem _ (List.mem_append_left _ ?_))⟩
              exact weights_all (i := i) (x := y.1) (by simp [hy]) n hn
            · obtain ⟨y, hy, hf⟩ := re (i - len) (i - len) (List.getElem?_range (by omega))
              simp only [Option.bind_eq_some_iff] at hf
              obtain ⟨cs', hc', ht'⟩ := hf
              rw [show len + (i - len) = i by omega] at hc'
              refine ⟨cs', y, hc', ht', fun n hn => hwt n (List.mem_cons_of_mem _ (List.mem_append_right _ ?_))⟩
              exact weights_all (i := i - len) (x := y.1) (by simp [hy]) n hn
          -- each cell of the run
          have cell : ∀ k, k < cap * P.cellsOf e → ∃ v, w.cell? (a.add k) = some v ∧ v.oneCell' = true := by
            intro k hk
            have hq : k / P.cellsOf e < cap := (Nat.div_lt_iff_lt_mul hC).2 hk
            obtain ⟨cs', x, hc', ht', _⟩ := each _ hq
            obtain ⟨hlen, hall⟩ := all_unit f g e cs' x.1 x.2 hg.1.2 ht'
            obtain ⟨_, hget⟩ := cells_get hc'
            have hm : k % P.cellsOf e < cs'.length := by rw [hlen]; exact Nat.mod_lt _ hC
            refine ⟨cs'[k % P.cellsOf e], ?_, hall _ (List.getElem_mem hm)⟩
            have := hget (k % P.cellsOf e) _ (List.getElem?_eq_getElem hm)
            rw [addr_add_add, show k / P.cellsOf e * P.cellsOf e + k % P.cellsOf e = k by rw [Nat.mul_comm]; exact Nat.div_add_mod _ _] at this
            exact this
          by_cases h0 : cap = 0
          · subst h0
            have hl0 : len = 0 := by omega
            subst hl0
            have hid : ∃ id, id < (imgHeap w).next ∧ [Value.slice (some a) 0 0].map (absV w.heap.size (maxSize w)) = [.slice id 0 0 0 none] := by
              simp only [List.map_cons, List.map_nil, absV]
              split
              · rename_i hc
                exact ⟨_, Nat.lt_succ_of_lt (id_lt hc.1 hc.2.1), rfl⟩
              · exact ⟨w.heap.size * maxSize w, Nat.lt_succ_self _, by simp⟩
            obtain ⟨id, hlt, hid⟩ := hid
            exact ⟨.slice [], .inr ⟨id, 0, [], [], hlt, hid, rfl, by simp, by simp, by simp, by simp, by simp, by simp⟩⟩
          · have hn : 0 < cap * P.cellsOf e := Nat.mul_pos (by omega) hC
            obtain ⟨v0, hv0, _⟩ := cell 0 hn
            obtain ⟨c, et, fz, hheap, hspot, hoff⟩ := cell_heap hv0
            simp only [Addr.add, if_true] at hheap hspot hoff
            have hM := maxSize_lt hheap
            have hoM : a.off < maxSize w := by
              have := (Array.getElem?_eq_some_iff.1 hoff).1
              omega
            have hbn : a.block < w.heap.size := (Array.getElem?_eq_some_iff.1 hheap).1
            have hid : [Value.slice (some a) len cap].map (absV w.heap.size (maxSize w)) = [.slice (a.block * maxSize w + a.off) 0 len cap none] := by
              simp only [List.map_cons, List.map_nil, absV]
              rw [if_pos ⟨hbn, hoM, hlc, hspot⟩]
            have hat : ∀ k, k < cap * P.cellsOf e → ∃ v, c[a.off + k]? = some v ∧ v.oneCell' = true := by
              intro k hk
              obtain ⟨v, hv, h1⟩ := cell k hk
              obtain ⟨c', et', fz', hheap', _, hoff'⟩ := cell_heap hv
              have hblk : (a.add k).block = a.block := by unfold Addr.add; split <;> rfl
              have hof : (a.add k).off = a.off + k := by unfold Addr.add; split <;> simp_all
              rw [hblk, hheap] at hheap'
              simp at hheap'
              rw [hof, ← hheap'.1] at hoff'
              exact ⟨v, hoff', h1⟩
            have hsz : a.off + cap * P.cellsOf e ≤ c.size := by
              obtain ⟨v, hv, _⟩ := hat (cap * P.cellsOf e - 1) (by omega)
              have := (Array.getElem?_eq_some_iff.1 hv).1
              omega
            have hrun : (goodRun c.toList a.off).take (cap * P.cellsOf e) = (c.toList.drop a.off).take (cap * P.cellsOf e) := by
              refine goodRun_get (by simp; omega) (fun i hi => ?_) (fun x hx => ?_)
              · rw [List.getElem?_take, if_pos hi, List.getElem?_drop]
              · obtain ⟨k, hk⟩ := List.mem_iff_getElem?.1 hx
                rw [List.getElem?_take] at hk
                split at hk
                · rename_i hkn
                  rw [List.getElem?_drop] at hk
                  obtain ⟨v, hv, h1⟩ := hat k hkn
                  have : some v = some x := by rw [← hv, ← hk]; simp
                  simp at this; subst this; exact h1
                · simp at hk
            have hobj := img_cells hheap hoM
            have hlong : cap * P.cellsOf e ≤ (goodRun c.toList a.off).length := by
              have := congrArg List.length hrun
              simp at this
              omega
            -- the data of each element
            have dats : ∀ i, i < len → ∃ x, AReads P (imgHeap w) f e ((((goodRun c.toList a.off).map (absV w.heap.size (maxSize w))).drop (i * P.cellsOf e)).take (P.cellsOf e)) x := by
              intro i hi
              obtain ⟨cs', x, hc', ht', hwx⟩ := each i (by omega)
              obtain ⟨y, hy⟩ := reads_img f g e cs' x.1 x.2 hg.1.2 ht' hwx
              refine ⟨y, ?_⟩
              obtain ⟨hcl, hget⟩ := cells_get hc'
              have hmul : (i + 1) * P.cellsOf e ≤ cap * P.cellsOf e := Nat.mul_le_mul_right _ (by omega)
              rw [Nat.add_mul, Nat.one_mul] at hmul
              have : ((goodRun c.toList a.off).drop (i * P.cellsOf e)).take (P.cellsOf e) = cs' := by
                apply List.ext_getElem?
                intro k
                by_cases hk : k < P.cellsOf e
                · rw [List.getElem?_take, if_pos hk, List.getElem?_drop]
                  have h1 : (goodRun c.toList a.off)[i * P.cellsOf e + k]? = c.toList[a.off + (i * P.cellsOf e + k)]? := by
                    have := congrArg (·[i * P.cellsOf e + k]?) hrun
                    simp only [List.getElem?_take, List.getElem?_drop] at this
                    rw [if_pos (by omega), if_pos (by omega)] at this
                    exact this
                  have hkl : k < cs'.length := by omega
                  have h2 := hget k _ (List.getElem?_eq_getElem hkl)
                  rw [addr_add_add] at h2
                  obtain ⟨c', et', fz', hheap', _, hoff'⟩ := cell_heap h2
                  have hblk : (a.add (i * P.cellsOf e + k)).block = a.block := by unfold Addr.add; split <;> rfl
                  have hof : (a.add (i * P.cellsOf e + k)).off = a.off + (i * P.cellsOf e + k) := by unfold Addr.add; split <;> simp_all
                  rw [hblk, hheap] at hheap'
                  simp at hheap'
                  rw [hof, ← hheap'.1] at hoff'
                  rw [h1, List.getElem?_eq_getElem hkl, ← hoff']
                  simp
                · rw [List.getElem?_eq_none (by simp; omega), List.getElem?_eq_none (by omega)]
              rw [← List.map_drop, ← List.map_take, this]
              exact hy
            obtain ⟨ds, hdl, hds⟩ := list_of len dats
            refine ⟨.slice ds, .inr ⟨_, cap, _, ds, Nat.lt_succ_of_lt (id_lt hbn hoM), by rw [hdl]; exact hid, rfl, by omega, hcap, hb, fun _ => hobj, by simpa using hlong, fun i x hx => ?_⟩⟩
            exact hds i x hx
        · simp at h
      | struct fs =>
        simp only [Bool.and_eq_true] at hg
        obtain ⟨xs, m, hm, hd, hlen, hxl, hxs⟩ := DataW.trod_struct hu h'
        simp at hm hd
        subst hm
        obtain ⟨rfl, rfl⟩ := hd
        simp only [Weighed, DataW.weights, hu] at hw
        have dats : ∀ i, i < fs.size → ∃ x, ∀ fd, fs[i]? = some fd → AReads P (imgHeap w) f fd.type (((cs.map (absV w.heap.size (maxSize w))).drop fd.offset).take (P.cellsOf fd.type)) x := by
          intro i hi
          have hxi : i < xs.length := by omega
          have hf := hxs i fs[i] (by simp [hi])
          rw [List.getElem?_eq_getElem hxi] at hf
          obtain ⟨z, hz⟩ := reads_img f g fs[i].type _ xs[i].1 xs[i].2 (Array.all_eq_true_iff_forall_mem.1 hg.1 fs[i] (Array.getElem_mem hi)) hf (fun n hn => hw n (weights_each (i := i) (by simp [hi]) (by simp [hxi]) n hn))
          refine ⟨z, fun fd hfd => ?_⟩
          rw [Array.getElem?_eq_getElem hi] at hfd
          simp at hfd; subst hfd
          rw [← List.map_drop, ← List.map_take]
          exact hz
        obtain ⟨ds, hdl, hds⟩ := list_of fs.size dats
        exact ⟨.agg ds, ds, rfl, by simpa using hlen, hdl, fun i fd x h1 h2 => hds i x h2 fd h1⟩
      | array n e =>
        simp only [Bool.and_eq_true] at hg
        obtain ⟨xs, m, hm, hd, hlen, hxl, hxs⟩ := DataW.trod_array hu h'
        simp at hm hd
        subst hm
        obtain ⟨rfl, rfl⟩ := hd
        simp only [Weighed, DataW.weights, hu] at hw
        have dats : ∀ i, i < n → ∃ x, AReads P (imgHeap w) f e (((cs.map (absV w.heap.size (maxSize w))).drop (i * P.cellsOf e)).take (P.cellsOf e)) x := by
          intro i hi
          have hxi : i < xs.length := by omega
          have hf := hxs i hi
          rw [List.getElem?_eq_getElem hxi] at hf
          obtain ⟨z, hz⟩ := reads_img f g e _ xs[i].1 xs[i].2 hg.1 hf (fun m hm => hw m (weights_all (i := i) (x := xs[i].1) (by simp [hxi]) m hm))
          refine ⟨z, ?_⟩
          rw [← List.map_drop, ← List.map_take]
          exact hz
        obtain ⟨ds, hdl, hds⟩ := list_of n dats
        exact ⟨.agg ds, ds, rfl, by simpa using hlen, hdl, fun i x h2 => hds i x h2⟩
      | _ => simp at hg

end
end Go.Proofs.Ytilhjcnkaelheaa.Am
