/- What a call made besides its answer is left behind: the answer's own objects are numbered anew. Calls that only look may be followed in the memory as it is, nothing of it to be written; calls on plain values in an empty one. -/
import Derived.Test.YtilhjcnkaelheaaAmMem
set_option linter.unusedSimpArgs false
set_option linter.unusedVariables false
namespace Go.Proofs.Ytilhjcnkaelheaa.Am
open Go Go.RowKit

mutual
def plain : AVal → Bool
  | .bool _ | .int .. | .flt .. | .str _ | .nilp | .nils | .nilm | .nilFunc | .nilIface => true
  | .func _ f c => plains f && plains c
  | .iface _ v => plain v
  | .agg l | .tuple l => plains l
  | _ => false
def plains : List AVal → Bool
  | [] => true
  | v :: l => plain v && plains l
end

theorem plains_mem : ∀ {l : List AVal} {x : AVal}, plains l = true → x ∈ l → plain x = true
  | [], x, _, hx => by simp at hx
  | v :: l, x, h, hx => by
    simp only [plains, Bool.and_eq_true] at h
    rcases List.mem_cons.1 hx with rfl | hx
    · exact h.1
    · exact plains_mem h.2 hx

theorem VRel.plain {m m' : Inj} : ∀ (v : AVal) (v' : Value), Am.plain v = true → VRel m v v' → VRel m' v v'
  | .bool _, _, _, h => by cases h; exact .bool _
  | .int .., _, _, h => by cases h; exact .int _ _
  | .flt .., _, _, h => by cases h with
    | flt => exact .flt _ _
    | fltNan _ _ _ h1 h2 => exact .fltNan _ _ _ h1 h2
  | .str _, _, _, h => by cases h; exact .str _
  | .nilp, _, _, h => by cases h; exact .nilp
  | .nils, _, _, h => by cases h; exact .nils
  | .nilm, _, _, h => by cases h; exact .nilm
  | .func f first captured, _, hp, h => by
    simp only [Am.plain, Bool.and_eq_true] at hp
    cases h with
    | func _ _ _ _ _ h1 h2 => exact .func _ _ _ _ _ (forall2_imp_mem h1 fun x y hx => VRel.plain x y (plains_mem hp.1 hx)) (forall2_imp_mem h2 fun x y hx => VRel.plain x y (plains_mem hp.2 hx))
  | .nilFunc, _, _, h => by cases h; exact .nilFunc
  | .iface t v, _, hp, h => by
    simp only [Am.plain] at hp
    cases h with
    | iface _ _ _ h1 => exact .iface _ _ _ (VRel.plain v _ hp h1)
  | .nilIface, _, _, h => by cases h; exact .nilIface
  | .agg l, _, hp, h => by
    simp only [Am.plain] at hp
    cases h with
    | agg _ _ h1 h2 => exact .agg _ _ (forall2_imp_mem h1 fun x y hx => VRel.plain x y (plains_mem hp hx)) h2
  | .tuple l, _, hp, h => by
    simp only [Am.plain] at hp
    cases h with
    | tuple _ _ h1 => exact .tuple _ _ (forall2_imp_mem h1 fun x y hx => VRel.plain x y (plains_mem hp hx))
  | .ptr .., _, hp, _ => by simp [Am.plain] at hp
  | .slice .., _, hp, _ => by simp [Am.plain] at hp
  | .map _, _, hp, _ => by simp [Am.plain] at hp
  | .yield _, _, hp, _ => by simp [Am.plain] at hp
  | .junk, _, hp, _ => by simp [Am.plain] at hp
termination_by a _ _ _ => SizeOf.sizeOf a
decreasing_by all_goals simp_wf; (first | (have := List.sizeOf_lt_of_mem hx; omega) | omega)

/-- The memory with nothing in it. -/
def noH : AHeap := { obj := fun _ => none, next := 0 }

/-! ### Numbers of objects in a value; numbering anew -/
mutual
def AVal.ids : AVal → List Nat
  | .ptr id _ => [id]
  | .slice id _ _ _ _ => [id]
  | .map id => [id]
  | .yield id => [id]
  | .func _ f c => idsl f ++ idsl c
  | .iface _ v => v.ids
  | .agg l => idsl l
  | .tuple l => idsl l
  | _ => []
def idsl : List AVal → List Nat
  | [] => []
  | v :: l => v.ids ++ idsl l
end
mutual
def AVal.ren (σ : Nat → Nat) : AVal → AVal
  | .ptr id o => .ptr (σ id) o
  | .slice id o n c g => .slice (σ id) o n c g
  | .map id => .map (σ id)
  | .yield id => .yield (σ id)
  | .func f a b => .func f (renl σ a) (renl σ b)
  | .iface t v => .iface t (v.ren σ)
  | .agg l => .agg (renl σ l)
  | .tuple l => .tuple (renl σ l)
  | v => v
def renl (σ : Nat → Nat) : List AVal → List AVal
  | [] => []
  | v :: l => v.ren σ :: renl σ l
end
mutual
/-- No object is named but those below n. -/
def AVal.old (n : Nat) : AVal → Bool
  | .ptr id _ => decide (id < n)
  | .slice id _ _ _ _ => decide (id < n)
  | .map id => decide (id < n)
  | .yield id => decide (id < n)
  | .func _ f c => oldl n f && oldl n c
  | .iface _ v => v.old n
  | .agg l => oldl n l
  | .tuple l => oldl n l
  | _ => true
def oldl (n : Nat) : List AVal → Bool
  | [] => true
  | v :: l => v.old n && oldl n l
end

theorem idsl_mem : ∀ {l : List AVal} {x : AVal} {i : Nat}, x ∈ l → i ∈ x.ids → i ∈ idsl l
  | [], x, i, hx, _ => by simp at hx
  | v :: l, x, i, hx, hi => by
    simp only [idsl, List.mem_append]
    rcases List.mem_cons.1 hx with rfl | hx
    · exact .inl hi
    · exact .inr (idsl_mem hx hi)

theorem renl_map (σ : Nat → Nat) : ∀ l : List AVal, renl σ l = l.map (AVal.ren σ)
  | [] => rfl
  | v :: l => by simp [renl, renl_map σ l]

theorem all2_ren {R S : AVal → Value → Prop} {f : AVal → AVal} : ∀ {l : List AVal} {l' : List Value}, All2 R l l' → (∀ x y, x ∈ l → R x y → S (f x) y) → All2 S (l.map f) l'
  | [], _, h, _ => by cases h; exact .nil
  | x :: l, _, h, hi => by
    cases h with
    | cons h1 h2 => exact .cons (hi _ _ (by simp) h1) (all2_ren h2 fun x y hx => hi x y (by simp [hx]))

/-- A value numbered anew says the same, if each number leads to the same place. -/
theorem VRel.ren {m m1 : Inj} {σ : Nat → Nat} : ∀ (v : AVal) (v' : Value), (∀ i, i ∈ v.ids → m1.has (σ i) ∧ m1.loc (σ i) = m.loc i) → VRel m v v' → VRel m1 (v.ren σ) v'
  | .bool _, _, _, h => by cases h; exact .bool _
  | .int .., _, _, h => by cases h; exact .int _ _
  | .flt .., _, _, h => by cases h with
    | flt => exact .flt _ _
    | fltNan _ _ _ h1 h2 => exact .fltNan _ _ _ h1 h2
  | .str _, _, _, h => by cases h; exact .str _
  | .nilp, _, _, h => by cases h; exact .nilp
  | .nils, _, _, h => by cases h; exact .nils
  | .nilm, _, _, h => by cases h; exact .nilm
  | .func f first captured, _, hi, h => by
    simp only [AVal.ids, List.mem_append] at hi
    cases h with
    | func _ _ _ _ _ h1 h2 =>
      simp only [AVal.ren, renl_map]
      exact .func _ _ _ _ _ (all2_ren h1 fun x y hx => VRel.ren x y fun i h => hi i (.inl (idsl_mem hx h))) (all2_ren h2 fun x y hx => VRel.ren x y fun i h => hi i (.inr (idsl_mem hx h)))
  | .nilFunc, _, _, h => by cases h; exact .nilFunc
  | .iface t v, _, hi, h => by
    simp only [AVal.ids] at hi
    cases h with
    | iface _ _ _ h1 => exact .iface _ _ _ (VRel.ren v _ hi h1)
  | .nilIface, _, _, h => by cases h; exact .nilIface
  | .agg l, _, hi, h => by
    simp only [AVal.ids] at hi
    cases h with
    | agg _ _ h1 h2 =>
      simp only [AVal.ren, renl_map]
      exact .agg _ _ (all2_ren h1 fun x y hx => VRel.ren x y fun i h => hi i (idsl_mem hx h)) h2
  | .tuple l, _, hi, h => by
    simp only [AVal.ids] at hi
    cases h with
    | tuple _ _ h1 =>
      simp only [AVal.ren, renl_map]
      exact .tuple _ _ (all2_ren h1 fun x y hx => VRel.ren x y fun i h => hi i (idsl_mem hx h))
  | .ptr id off, _, hi, h => by
    obtain ⟨h1, h2⟩ := hi id (by simp [AVal.ids])
    cases h with
    | ptr _ _ h3 => rw [← h2]; exact .ptr _ _ h1
  | .slice id off len cap g, _, hi, h => by
    obtain ⟨h1, h2⟩ := hi id (by simp [AVal.ids])
    cases h with
    | slice _ _ _ _ _ a' c' k1 k0 k2 k3 k4 k5 => rw [← h2] at k4 k5; exact .slice _ _ _ _ _ _ _ h1 k0 k2 k3 k4 k5
  | .map id, _, hi, h => by
    obtain ⟨h1, h2⟩ := hi id (by simp [AVal.ids])
    cases h with
    | map _ h3 => rw [← h2]; exact .map _ h1
  | .yield id, _, hi, h => by
    obtain ⟨h1, h2⟩ := hi id (by simp [AVal.ids])
    cases h with
    | yield _ h3 => rw [← h2]; exact .yield _ h1
  | .junk, _, _, h => by cases h with | junk _ h1 h2 => exact .junk _ h1 h2
  | .any, _, _, h => by cases h with | any _ h1 => exact .any _ h1
termination_by a _ _ _ => SizeOf.sizeOf a
decreasing_by all_goals simp_wf; (first | (have := List.sizeOf_lt_of_mem hx; omega) | omega)

/-! ### What is kept -/
def AObj.ren (σ : Nat → Nat) : AObj → AObj
  | .cells l own => .cells (renl σ l) own

/-- The memory as it is, nothing of it to be written. -/
def frz (H : AHeap) : AHeap := { obj := fun i => match H.obj i with | some (.cells l _) => some (.cells l false) | none => none, next := H.next }

def nub : List Nat → List Nat → List Nat
  | s, [] => s
  | s, x :: l => if x ∈ s then nub s l else nub (s ++ [x]) l

/-- An object of the call's own whose cells name none but old ones and those in the list. -/
def okObj (n : Nat) (L : List Nat) : Option AObj → Bool
  | some (.cells l true) => (idsl l).all fun j => decide (j < n) || L.contains j
  | _ => false

def cellIds (n : Nat) : Option AObj → List Nat
  | some (.cells l _) => (idsl l).filter fun j => decide (n ≤ j)
  | none => []

/-- n: how many objects there were; b: from where on the new ones are numbered. -/
def sig (n b : Nat) (L : List Nat) (i : Nat) : Nat := if i < n then i else b + L.idxOf i

def addObj (σ : Nat → Nat) (H : AHeap) : Option AObj → AHeap
  | some o => H.new (o.ren σ)
  | none => H

def pack (n : Nat) (H : AHeap) (v : AVal) (H' : AHeap) (L : List Nat) : AVal × AHeap :=
  (v.ren (sig n H.next L), L.foldl (fun K i => addObj (sig n H.next L) K (H'.obj i)) H)

def shf (n b i : Nat) : Nat := if i < n then i else i - n + b

def keepObj (σ : Nat → Nat) : Option AObj → Option AObj
  | some (.cells l true) => some (.cells (renl σ l) true)
  | _ => none

def keepAll (n : Nat) (H : AHeap) (v : AVal) (H' : AHeap) : AVal × AHeap :=
  (v.ren (shf n H.next), ⟨fun i => if i < H.next then H.obj i else keepObj (shf n H.next) (H'.obj (i - H.next + n)), H.next + (H'.next - n)⟩)

def more (n : Nat) (H' : AHeap) (L : List Nat) : List Nat := nub L (L.flatMap fun i => cellIds n (H'.obj i))

def gc (n : Nat) (H : AHeap) (v : AVal) (H' : AHeap) : AVal × AHeap :=
  let L := nub [] (v.ids.filter fun j => decide (n ≤ j))
  if L.all fun i => okObj n L (H'.obj i) then pack n H v H' L
  else
    let L1 := more n H' L
    if L1.all fun i => okObj n L1 (H'.obj i) then pack n H v H' L1 else keepAll n H v H'

theorem SRel.stays {w0 w w' : World} {B : Nat → Bool} {m : Inj} {H : AHeap} (h : SRel w0 B m H w) (hb : Below w.heap.size w w') : SRel w0 B m H w' := by
  refine ⟨h.below.trans ((Keep.of hb).mono fun k hk => by have := h.size k hk; have := h.below.size; simp [lowK]; omega), h.size, h.next, ?_, h.apart⟩
  intro id o ho
  obtain ⟨h1, h2⟩ := h.obj id o ho
  refine ⟨h1, ?_⟩
  cases o with
  | cells l own =>
    obtain ⟨c, e, fz, hc, hr⟩ := h2
    refine ⟨c, e, fz, ?_, hr⟩
    rw [hb.block _ (Array.getElem?_eq_some_iff.1 hc).1]
    exact hc

theorem srel_none (w : World) : SRel w (lowK w.heap.size) { n := 0, loc := fun _ => ⟨0, 0, 0⟩ } noH w :=
  ⟨Keep.refl _ _, fun k hk => by simpa [lowK] using hk, rfl, fun id o h => by simp [noH] at h, fun i j o o' h => by simp [noH] at h⟩

theorem frz_inv {H : AHeap} {i : Nat} {o : AObj} (h : (frz H).obj i = some o) : ∃ l own, H.obj i = some (.cells l own) ∧ o = .cells l false := by
  simp only [frz] at h
  split at h
  · rename_i l own ho
    exact ⟨l, own, ho, by simpa using h.symm⟩
  · cases h

theorem srel_frz {w0 w : World} {B : Nat → Bool} {m : Inj} {H : AHeap} (h : SRel w0 B m H w) : SRel w (lowK w.heap.size) m (frz H) w := by
  refine ⟨Keep.refl _ _, fun k hk => by simpa [lowK] using hk, h.next, ?_, ?_⟩
  · intro id o ho
    obtain ⟨l, own, h1, rfl⟩ := frz_inv ho
    obtain ⟨h2, c, e, fz, h3, h4, _⟩ := h.obj id _ h1
    exact ⟨h2, c, e, fz, h3, h4, fun h => by cases h⟩
  · intro i j o o' hi hj hown
    obtain ⟨l, own, h1, rfl⟩ := frz_inv hi
    cases hown

/-- What is kept of a call's memory, behind it: σ numbers anew, τ leads back. -/
theorem keep_sound {w0 w w' : World} {B : Nat → Bool} {n : Nat} {m m' : Inj} {H H' H1 : AHeap} {v : AVal} {v' : Value} {σ τ : Nat → Nat} (hS : SRel w0 B m H w)
    (hloc : ∀ i, i < n → m.has i ∧ m'.loc i = m.loc i) (hS' : SRel w (lowK w.heap.size) m' H' w') (hv : VRel m' v v')
    (ha : H.next ≤ H1.next) (hb : ∀ i o, i < H.next → H1.obj i = some o → H.obj i = some o)
    (hc : ∀ i o, H.next ≤ i → H1.obj i = some o → i < H1.next ∧ ∃ l, H'.obj (τ i) = some (.cells l true) ∧ o = .cells (renl σ l) true ∧ ∀ j, j ∈ idsl l → (j < n ∧ σ j = j) ∨ (H.next ≤ σ j ∧ σ j < H1.next ∧ τ (σ j) = j))
    (hd : ∀ i j o o', H.next ≤ i → H.next ≤ j → H1.obj i = some o → H1.obj j = some o' → i ≠ j → τ i ≠ τ j)
    (he : ∀ j, j ∈ v.ids → (j < n ∧ σ j = j) ∨ (H.next ≤ σ j ∧ σ j < H1.next ∧ τ (σ j) = j)) :
    ∃ m1, m.le m1 ∧ SRel w0 B m1 H1 w' ∧ VRel m1 (v.ren σ) v' := by
  have hn := hS.next
  have hBw : ∀ k, B k = true → lowK w.heap.size k = true := fun k hk => by have := hS.size k hk; have := hS.below.size; simp [lowK]; omega
  let m1 : Inj := { n := H1.next, loc := fun i => if i < H.next then m.loc i else m'.loc (τ i) }
  have hlow : ∀ i, i < H.next → m1.loc i = m.loc i := fun i h => by simp [m1, h]
  have hhigh : ∀ i, H.next ≤ i → m1.loc i = m'.loc (τ i) := fun i h => by simp [m1, Nat.not_lt.2 h]
  have hgood : ∀ j, ((j < n ∧ σ j = j) ∨ (H.next ≤ σ j ∧ σ j < H1.next ∧ τ (σ j) = j)) → m1.has (σ j) ∧ m1.loc (σ j) = m'.loc j := by
    rintro j (⟨h1, h2⟩ | ⟨h1, h2, h3⟩)
    · obtain ⟨h3, h4⟩ := hloc j h1
      have hj : j < H.next := by have := h3.1; omega
      rw [h2]
      exact ⟨⟨Nat.lt_of_lt_of_le hj ha, rfl⟩, by rw [hlow j hj, h4]⟩
    · exact ⟨⟨h2, rfl⟩, by rw [hhigh _ h1, h3]⟩
  have hle : m.le m1 := ⟨by rw [← hn]; exact ha, fun i h => ⟨⟨by have := h.1; show i < H1.next; omega, rfl⟩, hlow i (by have := h.1; omega)⟩⟩
  refine ⟨m1, hle, ⟨hS.below.trans (hS'.below.mono hBw), hS.size, rfl, ?_, ?_⟩, VRel.ren v v' (fun i h => hgood i (he i h)) hv⟩
  · intro i o ho
    rcases Nat.lt_or_ge i H.next with hi | hi
    · have hold := hb i o hi ho
      refine ⟨⟨Nat.lt_of_lt_of_le hi ha, rfl⟩, ?_⟩
      rw [hlow i hi]
      have hst := hS.stays hS'.below.below
      exact (hst.obj i o hold).2.mono hle
    · obtain ⟨h1, l, h2, rfl, h3⟩ := hc i o hi ho
      refine ⟨⟨h1, rfl⟩, ?_⟩
      rw [hhigh i hi]
      obtain ⟨_, c, e, fz, h4, h5, h6⟩ := hS'.obj _ _ h2
      obtain ⟨h7, h8, h9⟩ := h6 rfl
      have h7' : B (m'.loc (τ i)).block = false := by
        cases hB : B (m'.loc (τ i)).block with
        | false => rfl
        | true =>
          rw [hBw _ hB] at h7
          cases h7
      refine ⟨c, e, fz, h4, ?_, fun _ => ⟨h7', h8, h9⟩⟩
      intro k x hx
      rw [renl_map, List.getElem?_map] at hx
      cases hl : l[k]? with
      | none => rw [hl] at hx; cases hx
      | some y =>
        rw [hl] at hx
        simp only [Option.map_some, Option.some.injEq] at hx
        subst hx
        obtain ⟨u, hu, hr, h1'⟩ := h5 k y hl
        exact ⟨u, hu, VRel.ren y u (fun j hj => hgood j (h3 j (idsl_mem (List.mem_of_getElem? hl) hj))) hr, h1'⟩
  · intro i j o o' hi hj hown hij
    have blk : ∀ i o, H.next ≤ i → H1.obj i = some o → w.heap.size ≤ (m1.loc i).block := by
      intro i o h ho
      obtain ⟨_, l, h2, _, _⟩ := hc i o h ho
      obtain ⟨_, c, e, fz, _, _, h6⟩ := hS'.obj _ _ h2
      rw [hhigh i h]
      have := (h6 rfl).1
      simpa [lowK] using this
    have low : ∀ i o, i < H.next → H1.obj i = some o → (m1.loc i).block < w.heap.size := by
      intro i o h ho
      have := (hS.obj i o (hb i o h ho)).2.lt
      rw [hlow i h]
      exact this
    rcases Nat.lt_or_ge i H.next with hi' | hi' <;> rcases Nat.lt_or_ge j H.next with hj' | hj'
    · rw [hlow i hi', hlow j hj']
      exact hS.apart i j o o' (hb i o hi' hi) (hb j o' hj' hj) hown hij
    · have := low i o hi' hi
      have := blk j o' hj' hj
      omega
    · have := low j o' hj' hj
      have := blk i o hi' hi
      omega
    · obtain ⟨_, l, h2, _, _⟩ := hc i o hi' hi
      obtain ⟨_, l', h3, _, _⟩ := hc j o' hj' hj
      rw [hhigh i hi', hhigh j hj']
      exact hS'.apart _ _ _ _ h2 h3 rfl (hd i j o o' hi' hj' hi hj hij)

theorem nub_nodup : ∀ (l s : List Nat), s.Nodup → (nub s l).Nodup
  | [], s, h => h
  | x :: l, s, h => by
    simp only [nub]
    split
    · exact nub_nodup l s h
    · rename_i hx
      refine nub_nodup l _ ?_
      rw [List.nodup_append]
      refine ⟨h, by simp, ?_⟩
      intro a ha b hb
      simp at hb
      subst hb
      intro h
      subst h
      exact hx ha

theorem nub_left : ∀ (l s : List Nat) (x : Nat), x ∈ s → x ∈ nub s l
  | [], s, x, h => h
  | y :: l, s, x, h => by
    simp only [nub]
    split
    · exact nub_left l s x h
    · exact nub_left l _ x (by simp [h])

theorem nub_right : ∀ (l s : List Nat) (x : Nat), x ∈ l → x ∈ nub s l
  | [], s, x, h => by simp at h
  | y :: l, s, x, h => by
    simp only [nub]
    rcases List.mem_cons.1 h with rfl | h
    · split
      · rename_i hx; exact nub_left l s _ hx
      · exact nub_left l _ _ (by simp)
    · split
      · exact nub_right l s x h
      · exact nub_right l _ x h

theorem nub_ge {n : Nat} : ∀ (l s : List Nat), (∀ x, x ∈ l → n ≤ x) → (∀ x, x ∈ s → n ≤ x) → ∀ x, x ∈ nub s l → n ≤ x
  | [], s, _, hs, x, h => hs x h
  | y :: l, s, hl, hs, x, h => by
    simp only [nub] at h
    split at h
    · exact nub_ge l s (fun x hx => hl x (by simp [hx])) hs x h
    · refine nub_ge l _ (fun x hx => hl x (by simp [hx])) ?_ x h
      intro z hz
      simp at hz
      rcases hz with hz | rfl
      · exact hs z hz
      · exact hl z (by simp)

theorem idx_get {L : List Nat} {x : Nat} (h : x ∈ L) : L.idxOf x < L.length ∧ L[L.idxOf x]? = some x := by
  have h1 := List.idxOf_lt_length_iff.2 h
  exact ⟨h1, by rw [List.getElem?_eq_getElem h1, List.getElem_idxOf h1]⟩

theorem pack_heap (σ : Nat → Nat) (H' : AHeap) : ∀ (L : List Nat) (H : AHeap), (∀ i, i ∈ L → ∃ l, H'.obj i = some (.cells l true)) →
    (L.foldl (fun K i => addObj σ K (H'.obj i)) H).next = H.next + L.length ∧
    (∀ k, k < H.next → (L.foldl (fun K i => addObj σ K (H'.obj i)) H).obj k = H.obj k) ∧
    (∀ k i, L[k]? = some i → (L.foldl (fun K i => addObj σ K (H'.obj i)) H).obj (H.next + k) = (H'.obj i).map (AObj.ren σ)) ∧
    (∀ k, H.next + L.length ≤ k → (L.foldl (fun K i => addObj σ K (H'.obj i)) H).obj k = H.obj k)
  | [], H, _ => ⟨rfl, fun _ _ => rfl, fun k i h => by simp at h, fun _ _ => rfl⟩
  | x :: L, H, hL => by
    obtain ⟨l, hl⟩ := hL x (by simp)
    have hst : (x :: L).foldl (fun K i => addObj σ K (H'.obj i)) H = L.foldl (fun K i => addObj σ K (H'.obj i)) (H.new (AObj.ren σ (.cells l true))) := by
      rw [List.foldl_cons, hl]; rfl
    rw [hst]
    obtain ⟨h1, h2, h3, h4⟩ := pack_heap σ H' L (H.new (AObj.ren σ (.cells l true))) (fun i h => hL i (by simp [h]))
    refine ⟨?_, ?_, ?_, ?_⟩
    · rw [h1]; simp [AHeap.new]; omega
    · intro k hk
      rw [h2 k (by simp [AHeap.new]; omega)]
      simp [AHeap.new]
      intro h; omega
    · intro k i hk
      cases k with
      | zero =>
        simp at hk
        subst hk
        rw [Nat.add_zero, h2 H.next (by simp [AHeap.new])]
        simp [AHeap.new, hl]
      | succ k =>
        have := h3 k i (by simpa using hk)
        simp only [AHeap.new] at this ⊢
        rw [show H.next + (k + 1) = H.next + 1 + k by omega]
        exact this
    · intro k hk
      simp at hk
      rw [h4 k (by simp [AHeap.new]; omega)]
      simp [AHeap.new]
      intro h; omega

theorem okObj_inv {n : Nat} {L : List Nat} {o : Option AObj} (h : okObj n L o = true) : ∃ l, o = some (.cells l true) ∧ ∀ j, j ∈ idsl l → j < n ∨ j ∈ L := by
  unfold okObj at h
  split at h
  · rename_i l
    refine ⟨l, rfl, fun j hj => ?_⟩
    have := List.all_eq_true.1 h j hj
    simpa using this
  · cases h

theorem pack_sound {w0 w w' : World} {B : Nat → Bool} {n : Nat} {m m' : Inj} {H H' : AHeap} {v : AVal} {v' : Value} {L : List Nat} (hS : SRel w0 B m H w)
    (hloc : ∀ i, i < n → m.has i ∧ m'.loc i = m.loc i) (hS' : SRel w (lowK w.heap.size) m' H' w') (hv : VRel m' v v') (hnd : L.Nodup)
    (hok : (L.all fun i => okObj n L (H'.obj i)) = true) (hvL : ∀ j, j ∈ v.ids → j < n ∨ j ∈ L) (hLn : ∀ j, j ∈ L → n ≤ j) :
    ∃ m1, m.le m1 ∧ SRel w0 B m1 (pack n H v H' L).2 w' ∧ VRel m1 (pack n H v H' L).1 v' := by
  have hobj : ∀ i, i ∈ L → ∃ l, H'.obj i = some (.cells l true) := fun i hi => by
    obtain ⟨l, h1, _⟩ := okObj_inv (List.all_eq_true.1 hok i hi)
    exact ⟨l, h1⟩
  obtain ⟨p1, p2, p3, p4⟩ := pack_heap (sig n H.next L) H' L H hobj
  have hgood : ∀ j, (j < n ∨ j ∈ L) → (j < n ∧ sig n H.next L j = j) ∨ (H.next ≤ sig n H.next L j ∧ sig n H.next L j < H.next + L.length ∧ L.getD (sig n H.next L j - H.next) 0 = j) := by
    intro j hj
    by_cases hjn : j < n
    · exact .inl ⟨hjn, by simp [sig, hjn]⟩
    · right
      have hjL : j ∈ L := hj.resolve_left hjn
      obtain ⟨h1, h2⟩ := idx_get hjL
      simp only [sig, hjn, if_false]
      refine ⟨by omega, by omega, ?_⟩
      rw [Nat.add_sub_cancel_left, List.getD_eq_getElem?_getD, h2]
      rfl
  refine keep_sound (σ := sig n H.next L) (τ := fun i => L.getD (i - H.next) 0) hS hloc hS' hv ?_ ?_ ?_ ?_ ?_
  · show H.next ≤ (L.foldl _ H).next
    rw [p1]; omega
  · intro i o hi ho
    rw [← p2 i hi]; exact ho
  · intro i o hi ho
    change (L.foldl _ H).obj i = some o at ho
    rcases Nat.lt_or_ge i (H.next + L.length) with hlt | hge
    · refine ⟨by show i < (L.foldl _ H).next; rw [p1]; exact hlt, ?_⟩
      have hk : i - H.next < L.length := by omega
      have hg := List.getElem?_eq_getElem hk
      have := p3 _ _ hg
      rw [show H.next + (i - H.next) = i by omega] at this
      have ho : (H'.obj L[i - H.next]).map (AObj.ren (sig n H.next L)) = some o := this.symm.trans ho
      obtain ⟨l, hl, hids⟩ := okObj_inv (List.all_eq_true.1 hok _ (List.getElem_mem hk))
      rw [hl] at ho
      simp only [Option.map_some, Option.some.injEq] at ho
      refine ⟨l, ?_, ho.symm, ?_⟩
      · simp only [List.getD_eq_getElem?_getD, hg, Option.getD_some]; exact hl
      · intro j hj
        show _ ∨ _ ∧ sig n H.next L j < (L.foldl _ H).next ∧ _
        rw [p1]
        exact hgood j (hids j hj)
    · exfalso
      rw [p4 i hge] at ho
      have := (hS.obj i o ho).1.1
      have := hS.next
      omega
  · intro i j o o' hi hj hoi hoj hij
    have lt : ∀ i o, H.next ≤ i → (L.foldl (fun K i => addObj (sig n H.next L) K (H'.obj i)) H).obj i = some o → i - H.next < L.length := by
      intro i o hi ho
      rcases Nat.lt_or_ge i (H.next + L.length) with hlt | hge
      · omega
      · rw [p4 i hge] at ho
        have := (hS.obj i o ho).1.1
        have := hS.next
        omega
    have h1 := lt i o hi hoi
    have h2 := lt j o' hj hoj
    simp only [List.getD_eq_getElem?_getD, List.getElem?_eq_getElem h1, List.getElem?_eq_getElem h2, Option.getD_some]
    have hp := List.pairwise_iff_getElem.1 hnd
    rcases Nat.lt_or_ge (i - H.next) (j - H.next) with hlt | hge
    · exact hp _ _ h1 h2 hlt
    · exact Ne.symm (hp _ _ h2 h1 (by omega))
  · intro j hj
    show _ ∨ _ ∧ sig n H.next L j < (L.foldl _ H).next ∧ _
    rw [p1]
    exact hgood j (hvL j hj)

theorem keepAll_sound {w0 w w' : World} {B : Nat → Bool} {n : Nat} {m m' : Inj} {H H' : AHeap} {v : AVal} {v' : Value} (hS : SRel w0 B m H w)
    (hloc : ∀ i, i < n → m.has i ∧ m'.loc i = m.loc i) (hS' : SRel w (lowK w.heap.size) m' H' w') (hv : VRel m' v v') (hn : n ≤ H'.next) (hids : ∀ j, j ∈ v.ids → j < H'.next)
    (hobjs : ∀ i l own, H'.obj i = some (.cells l own) → ∀ j, j ∈ idsl l → j < H'.next) :
    ∃ m1, m.le m1 ∧ SRel w0 B m1 (keepAll n H v H').2 w' ∧ VRel m1 (keepAll n H v H').1 v' := by
  have hgood : ∀ j, j < H'.next → (j < n ∧ shf n H.next j = j) ∨ (H.next ≤ shf n H.next j ∧ shf n H.next j < H.next + (H'.next - n) ∧ shf n H.next j - H.next + n = j) := by
    intro j hj
    by_cases hjn : j < n
    · exact .inl ⟨hjn, by simp [shf, hjn]⟩
    · right
      simp only [shf, hjn, if_false]
      omega
  refine keep_sound (σ := shf n H.next) (τ := fun i => i - H.next + n) hS hloc hS' hv ?_ ?_ ?_ ?_ ?_
  · show H.next ≤ H.next + _; omega
  · intro i o hi ho
    simpa [keepAll, hi] using ho
  · intro i o hi ho
    simp only [keepAll, Nat.not_lt.2 hi, if_false] at ho
    unfold keepObj at ho
    split at ho
    · rename_i l hl
      simp only [Option.some.injEq] at ho
      have hlt := (hS'.obj _ _ hl).1.1
      have hnx := hS'.next
      refine ⟨by show i < H.next + _; omega, l, hl, ho.symm, fun j hj => ?_⟩
      exact hgood j (hobjs _ _ _ hl j hj)
    · cases ho
  · intro i j o o' hi hj hoi hoj hij
    show i - H.next + n ≠ j - H.next + n
    omega
  · intro j hj
    exact hgood j (hids j hj)

theorem ids_lt {m : Inj} : ∀ (v : AVal) (v' : Value), VRel m v v' → ∀ j, j ∈ v.ids → j < m.n
  | .bool _, _, _, j, hj => by simp [AVal.ids] at hj
  | .int .., _, _, j, hj => by simp [AVal.ids] at hj
  | .flt .., _, _, j, hj => by simp [AVal.ids] at hj
  | .str _, _, _, j, hj => by simp [AVal.ids] at hj
  | .nilp, _, _, j, hj => by simp [AVal.ids] at hj
  | .nils, _, _, j, hj => by simp [AVal.ids] at hj
  | .nilm, _, _, j, hj => by simp [AVal.ids] at hj
  | .nilFunc, _, _, j, hj => by simp [AVal.ids] at hj
  | .nilIface, _, _, j, hj => by simp [AVal.ids] at hj
  | .junk, _, _, j, hj => by simp [AVal.ids] at hj
  | .func f a b, _, h, j, hj => by
    cases h with
    | func _ _ _ _ _ h1 h2 =>
      simp only [AVal.ids, List.mem_append] at hj
      rcases hj with hj | hj
      · exact idsl_lt a h1 j hj
      · exact idsl_lt b h2 j hj
  | .iface t v, _, h, j, hj => by
    cases h with
    | iface _ _ _ h1 => exact ids_lt v _ h1 j (by simpa [AVal.ids] using hj)
  | .agg l, _, h, j, hj => by
    cases h with
    | agg _ _ h1 h2 => exact idsl_lt l h1 j (by simpa [AVal.ids] using hj)
  | .tuple l, _, h, j, hj => by
    cases h with
    | tuple _ _ h1 => exact idsl_lt l h1 j (by simpa [AVal.ids] using hj)
  | .ptr id off, _, h, j, hj => by
    simp [AVal.ids] at hj; subst hj
    cases h with | ptr _ _ h1 => exact h1.1
  | .slice id .., _, h, j, hj => by
    simp [AVal.ids] at hj; subst hj
    cases h with | slice _ _ _ _ _ _ _ h1 => exact h1.1
  | .map id, _, h, j, hj => by
    simp [AVal.ids] at hj; subst hj
    cases h with | map _ h1 => exact h1.1
  | .yield id, _, h, j, hj => by
    simp [AVal.ids] at hj; subst hj
    cases h with | yield _ h1 => exact h1.1
where
  idsl_lt {m : Inj} : ∀ (l : List AVal) {l' : List Value}, All2 (VRel m) l l' → ∀ j, j ∈ idsl l → j < m.n
    | [], _, _, j, hj => by simp [idsl] at hj
    | v :: l, _, h, j, hj => by
      cases h with
      | cons h1 h2 =>
        simp only [idsl, List.mem_append] at hj
        rcases hj with hj | hj
        · exact ids_lt v _ h1 j hj
        · exact idsl_lt l h2 j hj

theorem all2_mem {α β : Type} {R : α → β → Prop} : ∀ {l : List α} {l' : List β}, All2 R l l' → ∀ x, x ∈ l → ∃ y, R x y
  | [], _, _, x, hx => by simp at hx
  | a :: l, _, h, x, hx => by
    cases h with
    | cons h1 h2 =>
      rcases List.mem_cons.1 hx with rfl | hx
      · exact ⟨_, h1⟩
      · exact all2_mem h2 x hx

theorem mem_idsl : ∀ {l : List AVal} {j : Nat}, j ∈ idsl l → ∃ x, x ∈ l ∧ j ∈ x.ids
  | [], j, h => by simp [idsl] at h
  | v :: l, j, h => by
    simp only [idsl, List.mem_append] at h
    rcases h with h | h
    · exact ⟨v, by simp, h⟩
    · obtain ⟨x, h1, h2⟩ := mem_idsl h
      exact ⟨x, by simp [h1], h2⟩

theorem cells_lt {w0 w : World} {B : Nat → Bool} {m : Inj} {H : AHeap} (hS : SRel w0 B m H w) {i : Nat} {l : List AVal} {own : Bool} (h : H.obj i = some (.cells l own)) : ∀ j, j ∈ idsl l → j < H.next := by
  intro j hj
  obtain ⟨x, hx, hjx⟩ := mem_idsl hj
  obtain ⟨k, hk⟩ := List.getElem?_of_mem hx
  obtain ⟨v, _, hr, _⟩ := hS.cell h hk
  have := ids_lt x v hr j hjx
  have := hS.next
  omega

theorem gc_sound {w0 w w' : World} {B : Nat → Bool} {n : Nat} {m m' : Inj} {H H' : AHeap} {v : AVal} {v' : Value} (hS : SRel w0 B m H w)
    (hloc : ∀ i, i < n → m.has i ∧ m'.loc i = m.loc i) (hn : n ≤ m'.n) (hS' : SRel w (lowK w.heap.size) m' H' w') (hv : VRel m' v v') :
    ∃ m1, m.le m1 ∧ SRel w0 B m1 (gc n H v H').2 w' ∧ VRel m1 (gc n H v H').1 v' := by
  have hge : ∀ j, j ∈ nub [] (v.ids.filter fun j => decide (n ≤ j)) → n ≤ j := nub_ge _ _ (fun x hx => by simpa using (List.mem_filter.1 hx).2) (by simp)
  have hin : ∀ j, j ∈ v.ids → j < n ∨ j ∈ nub [] (v.ids.filter fun j => decide (n ≤ j)) := by
    intro j hj
    rcases Nat.lt_or_ge j n with h | h
    · exact .inl h
    · exact .inr (nub_right _ _ _ (List.mem_filter.2 ⟨hj, by simpa using h⟩))
  have hnd : (nub [] (v.ids.filter fun j => decide (n ≤ j))).Nodup := nub_nodup _ _ (by simp)
  simp only [gc]
  generalize nub [] (v.ids.filter fun j => decide (n ≤ j)) = L at hge hin hnd
  split
  · rename_i hok
    exact pack_sound hS hloc hS' hv hnd hok hin hge
  · split
    · rename_i hok
      refine pack_sound hS hloc hS' hv (nub_nodup _ _ hnd) hok (fun j hj => (hin j hj).imp id (nub_left _ _ _)) (nub_ge _ _ ?_ hge)
      intro x hx
      obtain ⟨i, _, hi⟩ := List.mem_flatMap.1 hx
      unfold cellIds at hi
      split at hi
      · simpa using (List.mem_filter.1 hi).2
      · simp at hi
    · refine keepAll_sound hS hloc hS' hv (by rw [hS'.next]; exact hn) (fun j hj => by rw [hS'.next]; exact ids_lt v v' hv j hj) (fun i l own h => cells_lt hS' h)

end Go.Proofs.Ytilhjcnkaelheaa.Am
