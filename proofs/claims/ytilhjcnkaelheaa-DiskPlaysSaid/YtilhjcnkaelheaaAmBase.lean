/- The abstract machine: its values, its heap, and what both say of a world of the model. No program in sight. -/
import Derived.Below
import Derived.Orders
import Derived.KernelRfl
import Derived.IntWalk
import Derived.Laws.Cells
import Derived.Laws.IdiomCopy
import Derived.Laws.Entries
import Derived.ChangeKeysEq
import Derived.Laws.Strings
import Derived.Laws.Append
import Derived.Laws.BytesString
import Derived.Laws.StructEq
namespace Go.Proofs.Ytilhjcnkaelheaa.Am
open Go Go.RowKit

/-- A value of the abstract machine. Addresses are (object, cell). A slice bears: object, first cell, length, capacity, and 'g': none: its capacity is just that; some e: it may be more (elements of e cells). -/
inductive AVal where
  | bool (b : Bool)
  | int (k : IntKind) (n : Int)
  | flt (k : FloatKind) (bits : Nat)
  | str (s : List UInt8)
  | nilp
  | ptr (id off : Nat)
  | nils
  | slice (id off len cap : Nat) (g : Option Nat)
  | nilm
  | map (id : Nat)
  | func (f : FuncId) (first captured : List AVal)
  | yield (id : Nat)
  | nilFunc
  | iface (t : TypeId) (v : AVal)
  | nilIface
  | agg (cells : List AVal)
  | tuple (vs : List AVal)
  /-- A value of one cell of which nothing is said. -/
  | junk
  /-- Any value at all: nothing is done with it. -/
  | any
  deriving Inhabited

/-- Where an object lies: a block, its first cell there, and how many cells there are at least. -/
structure Loc where
  block : Nat
  off : Nat
  total : Nat

/-- Where the objects lie that have a number below n. -/
structure Inj where
  n : Nat
  loc : Nat → Loc
  /-- Numbers of which nothing is known yet. -/
  hole : Nat → Bool := fun _ => false

/-- The object has a place. -/
def Inj.has (m : Inj) (id : Nat) : Prop := id < m.n ∧ m.hole id = false
/-- No number is left out. -/
def Inj.full (m : Inj) : Prop := ∀ id, m.hole id = false
def Inj.filled (m : Inj) : Inj := { m with hole := fun _ => false }

def Inj.le (m m' : Inj) : Prop := m.n ≤ m'.n ∧ ∀ id, m.has id → m'.has id ∧ m'.loc id = m.loc id

theorem Inj.le_refl (m : Inj) : m.le m := ⟨Nat.le_refl _, fun _ h => ⟨h, rfl⟩⟩
theorem Inj.le_trans {a b c : Inj} (h : a.le b) (k : b.le c) : a.le c :=
  ⟨Nat.le_trans h.1 k.1, fun id hid => ⟨(k.2 id (h.2 id hid).1).1, (k.2 id (h.2 id hid).1).2.trans (h.2 id hid).2⟩⟩
/-- The same, and numbers left out stay so. -/
def Inj.les (m m' : Inj) : Prop := m.le m' ∧ ∀ id, id < m.n → m.hole id = true → m'.hole id = true
theorem Inj.les_refl (m : Inj) : m.les m := ⟨m.le_refl, fun _ _ h => h⟩
theorem Inj.le_filled (m : Inj) : m.le m.filled := ⟨Nat.le_refl _, fun _ h => ⟨⟨h.1, rfl⟩, rfl⟩⟩
theorem Inj.filled_full (m : Inj) : m.filled.full := fun _ => rfl
theorem Inj.full.has {m : Inj} (h : m.full) {id : Nat} (hi : id < m.n) : m.has id := ⟨hi, h id⟩

/-- The blocks of K are as they were; the streams too; no block has gone. -/
structure Keep (K : Nat → Bool) (w w' : World) : Prop where
  os : w'.os = w.os
  tape : w'.tape = w.tape
  output : w'.output = w.output
  size : w.heap.size ≤ w'.heap.size
  block : ∀ k, K k = true → w'.heap[k]? = w.heap[k]?

/-- All blocks below a number. -/
def lowK (n : Nat) : Nat → Bool := fun k => decide (k < n)
theorem Keep.refl (K : Nat → Bool) (w : World) : Keep K w w := ⟨rfl, rfl, rfl, Nat.le_refl _, fun _ _ => rfl⟩
theorem Keep.trans {K : Nat → Bool} {a b c : World} (h : Keep K a b) (k : Keep K b c) : Keep K a c :=
  ⟨k.os.trans h.os, k.tape.trans h.tape, k.output.trans h.output, Nat.le_trans h.size k.size, fun i hi => (k.block i hi).trans (h.block i hi)⟩
theorem Keep.mono {K K' : Nat → Bool} {w w' : World} (h : Keep K w w') (hK : ∀ k, K' k = true → K k = true) : Keep K' w w' := ⟨h.os, h.tape, h.output, h.size, fun k hk => h.block k (hK k hk)⟩
theorem Keep.drew {K : Nat → Bool} {a w : World} (h : Keep K a w) : Keep K a w.drew := ⟨h.os, h.tape, h.output, h.size, h.block⟩
theorem Keep.alloc {K : Nat → Bool} {a w : World} (h : Keep K a w) (hK : K w.heap.size = false) (o : Obj) : Keep K a (w.alloc o) :=
  h.trans ⟨rfl, rfl, rfl, by simp, fun k hk => by
    show (w.heap.push o)[k]? = _
    rw [Array.getElem?_push, if_neg (by intro he; rw [he, hK] at hk; cases hk)]⟩
theorem Keep.setCell {K : Nat → Bool} {a w : World} (h : Keep K a w) {p : Addr} (hp : K p.block = false) (u : Value) : Keep K a (w.setCell p u) :=
  h.trans ⟨rfl, rfl, rfl, by simp [World.setCell], fun k hk => Below.heap_setCell _ _ _ _ (by intro he; rw [he, hp] at hk; cases hk)⟩
theorem Keep.of {B : Nat} {w w' : World} (h : Below B w w') : Keep (lowK B) w w' := ⟨h.os, h.tape, h.output, h.size, fun k hk => h.block k (by simpa [lowK] using hk)⟩
theorem Keep.below {B : Nat} {w w' : World} (h : Keep (lowK B) w w') : Below B w w' := ⟨h.os, h.tape, h.output, h.size, fun k hk => h.block k (by simpa [lowK] using hk)⟩

/-- A float's bits that are no number. -/
def fnan (k : FloatKind) (bits : Nat) : Bool := match k.format.order bits bits with | none => true | some _ => false

inductive All2 {α β : Type} (R : α → β → Prop) : List α → List β → Prop where
  | nil : All2 R [] []
  | cons {x : α} {y : β} {l : List α} {l' : List β} : R x y → All2 R l l' → All2 R (x :: l) (y :: l')

/-- What an abstract value says of a value of the model. -/
inductive VRel (m : Inj) : AVal → Value → Prop where
  | bool (b : Bool) : VRel m (.bool b) (.bool b)
  | int (k : IntKind) (n : Int) : VRel m (.int k n) (.int k n)
  | flt (k : FloatKind) (bits : Nat) : VRel m (.flt k bits) (.float k bits)
  | fltNan (k : FloatKind) (b b' : Nat) : fnan k b = true → fnan k b' = true → VRel m (.flt k b) (.float k b')
  | str (s : List UInt8) : VRel m (.str s) (.string ⟨s.toArray⟩)
  | nilp : VRel m .nilp (.pointer none)
  | ptr (id off : Nat) : m.has id → VRel m (.ptr id off) (.pointer (some ⟨(m.loc id).block, (m.loc id).off + off, none⟩))
  | nils : VRel m .nils (.slice none 0 0)
  | slice (id off len cap : Nat) (g : Option Nat) (a' : Addr) (c' : Nat) : m.has id → len ≤ cap → cap ≤ c' → (g = none → c' = cap) →
      (∀ e, g = some e → off + c' * e ≤ (m.loc id).total) → (a' = ⟨(m.loc id).block, (m.loc id).off + off, none⟩ ∨ (len = 0 ∧ c' = 0)) →
      VRel m (.slice id off len cap g) (.slice (some a') len c')
  | nilm : VRel m .nilm (.map none)
  | map (id : Nat) : m.has id → VRel m (.map id) (.map (some (m.loc id).block))
  | func (f : FuncId) (first captured : List AVal) (first' captured' : List Value) : All2 (VRel m) first first' →
      All2 (VRel m) captured captured' → VRel m (.func f first captured) (.func (.func f) first'.toArray captured'.toArray)
  | yield (id : Nat) : m.has id → VRel m (.yield id) (.func (.yield (m.loc id).block) #[] #[])
  | nilFunc : VRel m .nilFunc .nilFunc
  | iface (t : TypeId) (v : AVal) (v' : Value) : VRel m v v' → VRel m (.iface t v) (.iface t v')
  | nilIface : VRel m .nilIface .nilIface
  | agg (l : List AVal) (l' : List Value) : All2 (VRel m) l l' → (∀ x, x ∈ l' → x.oneCell' = true) → VRel m (.agg l) (.agg l'.toArray)
  | tuple (l : List AVal) (l' : List Value) : All2 (VRel m) l l' → VRel m (.tuple l) (.tuple l'.toArray)
  | junk (v : Value) : v.oneCell' = true → (∀ b, v ≠ .bool b) → VRel m .junk v
  | any (v : Value) : (∀ b, v ≠ .bool b) → VRel m .any v

theorem forall2_imp_mem {α β : Type} {R S : α → β → Prop} : ∀ {l : List α} {l' : List β}, All2 R l l' → (∀ x y, x ∈ l → R x y → S x y) → All2 S l l'
  | [], _, h, _ => by cases h; exact .nil
  | x :: l, _, h, hi => by
    cases h with
    | cons h1 h2 => exact .cons (hi _ _ (by simp) h1) (forall2_imp_mem h2 fun x y hx => hi x y (by simp [hx]))

theorem VRel.mono {m m' : Inj} (hm : m.le m') : ∀ (v : AVal) (v' : Value), VRel m v v' → VRel m' v v'
  | .bool _, _, h => by cases h; exact .bool _
  | .int .., _, h => by cases h; exact .int _ _
  | .flt .., _, h => by cases h with
    | flt => exact .flt _ _
    | fltNan _ _ _ h1 h2 => exact .fltNan _ _ _ h1 h2
  | .str _, _, h => by cases h; exact .str _
  | .nilp, _, h => by cases h; exact .nilp
  | .ptr id off, _, h => by
    cases h with
    | ptr _ _ h1 => rw [← (hm.2 id h1).2]; exact .ptr _ _ (hm.2 id h1).1
  | .nils, _, h => by cases h; exact .nils
  | .slice id .., _, h => by
    cases h with
    | slice _ _ _ _ _ a' c' h1 h0 h2 h3 h4 h5 =>
      rw [← (hm.2 id h1).2] at h4 h5
      exact .slice _ _ _ _ _ _ _ (hm.2 id h1).1 h0 h2 h3 h4 h5
  | .nilm, _, h => by cases h; exact .nilm
  | .map id, _, h => by
    cases h with
    | map _ h1 => rw [← (hm.2 id h1).2]; exact .map _ (hm.2 id h1).1
  | .func f first captured, _, h => by
    cases h with
    | func _ _ _ _ _ h1 h2 => exact .func _ _ _ _ _ (forall2_imp_mem h1 fun x y hx => VRel.mono hm x y) (forall2_imp_mem h2 fun x y hx => VRel.mono hm x y)
  | .yield id, _, h => by
    cases h with
    | yield _ h1 => rw [← (hm.2 id h1).2]; exact .yield _ (hm.2 id h1).1
  | .nilFunc, _, h => by cases h; exact .nilFunc
  | .iface t v, _, h => by
    cases h with
    | iface _ _ _ h1 => exact .iface _ _ _ (VRel.mono hm v _ h1)
  | .nilIface, _, h => by cases h; exact .nilIface
  | .agg l, _, h => by
    cases h with
    | agg _ _ h1 h2 => exact .agg _ _ (forall2_imp_mem h1 fun x y hx => VRel.mono hm x y) h2
  | .tuple l, _, h => by
    cases h with
    | tuple _ _ h1 => exact .tuple _ _ (forall2_imp_mem h1 fun x y hx => VRel.mono hm x y)
  | .junk, _, h => by cases h with | junk _ h1 h2 => exact .junk _ h1 h2
  | .any, _, h => by cases h with | any _ h1 => exact .any _ h1
termination_by a _ _ => SizeOf.sizeOf a
decreasing_by all_goals simp_wf; (first | (have := List.sizeOf_lt_of_mem hx; omega) | omega)

theorem forall2_mono {m m' : Inj} (hm : m.le m') {l : List AVal} {l' : List Value} (h : All2 (VRel m) l l') : All2 (VRel m') l l' :=
  forall2_imp_mem h fun _ _ _ => VRel.mono hm _ _

theorem forall2_length {α β : Type} {R : α → β → Prop} : ∀ {l : List α} {l' : List β}, All2 R l l' → l.length = l'.length
  | [], _, h => by cases h; rfl
  | _ :: _, _, h => by cases h with | cons _ h2 => simp [forall2_length h2]

theorem forall2_get {α β : Type} {R : α → β → Prop} : ∀ {l : List α} {l' : List β}, All2 R l l' → ∀ (i : Nat) (x : α), l[i]? = some x → ∃ y, l'[i]? = some y ∧ R x y
  | [], _, _, i, x, hx => by simp at hx
  | a :: l, _, h, i, x, hx => by
    cases h with
    | cons h1 h2 =>
      cases i with
      | zero => simp at hx; subst hx; exact ⟨_, rfl, h1⟩
      | succ i => simpa using forall2_get h2 i x (by simpa using hx)

theorem forall2_append {α β : Type} {R : α → β → Prop} : ∀ {l : List α} {l' : List β} {k : List α} {k' : List β}, All2 R l l' → All2 R k k' → All2 R (l ++ k) (l' ++ k')
  | [], _, _, _, h, hk => by cases h; exact hk
  | _ :: _, _, _, _, h, hk => by cases h with | cons h1 h2 => exact .cons h1 (forall2_append h2 hk)

theorem forall2_take {α β : Type} {R : α → β → Prop} : ∀ {l : List α} {l' : List β}, All2 R l l' → ∀ n, All2 R (l.take n) (l'.take n)
  | [], _, h, n => by cases h; simp; exact .nil
  | _ :: _, _, h, 0 => by simp; exact .nil
  | _ :: _, _, h, n + 1 => by cases h with | cons h1 h2 => simp; exact .cons h1 (forall2_take h2 n)

theorem forall2_drop {α β : Type} {R : α → β → Prop} : ∀ {l : List α} {l' : List β}, All2 R l l' → ∀ n, All2 R (l.drop n) (l'.drop n)
  | [], _, h, n => by cases h; simp; exact .nil
  | _ :: _, _, h, 0 => by simpa using h
  | _ :: _, _, h, n + 1 => by cases h with | cons h1 h2 => simpa using forall2_drop h2 n

/-- An abstract value's cells. -/
def AVal.cells : AVal → List AVal
  | .agg l => l
  | v => [v]

def AVal.tup : AVal → Bool
  | .tuple _ => true
  | .any => true
  | _ => false

theorem VRel.cells {m : Inj} {v : AVal} {v' : Value} (h : VRel m v v') (ht : v.tup = false) : All2 (VRel m) v.cells v'.cells.toList := by
  cases h with
  | any => simp [AVal.tup] at ht
  | agg _ _ h => simpa [AVal.cells, Value.cells] using h
  | junk _ h1 h2 =>
    have : v'.cells.toList = [v'] := by cases v' <;> simp [Value.oneCell'] at h1 <;> rfl
    rw [this]; exact .cons (.junk _ h1 h2) .nil
  | _ => simp only [AVal.cells, Value.cells]; exact .cons (by constructor <;> assumption) .nil

theorem VRel.isCells {m : Inj} {v : AVal} {v' : Value} (h : VRel m v v') (ht : v.tup = false) : ∀ x, x ∈ v'.cells.toList → x.oneCell' = true := by
  cases h with
  | agg _ _ _ h => simpa [Value.cells] using h
  | tuple => simp [AVal.tup] at ht
  | any => simp [AVal.tup] at ht
  | junk _ h1 _ =>
    intro x hx
    cases v' <;> simp [Value.oneCell'] at h1 <;> simp [Value.cells] at hx <;> subst hx <;> rfl
  | _ => simp [Value.cells, Value.oneCell']

/-- An object: cells; whether they are the machine's own (else they are read alone, and may lie over one another). -/
inductive AObj where
  | cells (l : List AVal) (own : Bool)
  deriving Inhabited

structure AHeap where
  obj : Nat → Option AObj
  next : Nat

def AHeap.set (H : AHeap) (id : Nat) (o : AObj) : AHeap := { H with obj := fun i => if i = id then some o else H.obj i }
def AHeap.del (H : AHeap) (id : Nat) : AHeap := { H with obj := fun i => if i = id then none else H.obj i }
def AHeap.new (H : AHeap) (o : AObj) : AHeap := { obj := fun i => if i = H.next then some o else H.obj i, next := H.next + 1 }

/-- No cell of the block is shared by a string. -/
def Free (c : Array Value) (fz : Nat × Nat) : Prop := ∀ j, j < c.size → ¬ (fz.1 ≤ j ∧ j < fz.2)

/-- What an object says of a world. -/
def ORel (B : Nat → Bool) (m : Inj) (o : AObj) (L : Loc) (w : World) : Prop :=
  match o with
  | .cells l own => ∃ c e fz, w.heap[L.block]? = some (.cells c e fz) ∧
      (∀ i x, l[i]? = some x → ∃ v, c[L.off + i]? = some v ∧ VRel m x v ∧ v.oneCell' = true) ∧ (own = true → B L.block = false ∧ L.off + L.total ≤ c.size ∧ Free c fz)

def AObj.own : AObj → Bool
  | .cells _ own => own

structure SRel (w0 : World) (B : Nat → Bool) (m : Inj) (H : AHeap) (w : World) : Prop where
  below : Keep B w0 w
  size : ∀ k, B k = true → k < w0.heap.size
  next : H.next = m.n
  obj : ∀ id o, H.obj id = some o → m.has id ∧ ORel B m o (m.loc id) w
  apart : ∀ i j o o', H.obj i = some o → H.obj j = some o' → o.own = true → i ≠ j → (m.loc i).block ≠ (m.loc j).block

end Go.Proofs.Ytilhjcnkaelheaa.Am
