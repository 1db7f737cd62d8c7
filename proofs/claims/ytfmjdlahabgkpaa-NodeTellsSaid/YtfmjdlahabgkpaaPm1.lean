/- Texts put together by program: YtfmjdlahabgkpaaAmBase, YtfmjdlahabgkpaaAmIeee, YtfmjdlahabgkpaaAmOps, YtfmjdlahabgkpaaAmMem, YtfmjdlahabgkpaaAmComp, YtfmjdlahabgkpaaAmGc, YtfmjdlahabgkpaaAmExec, YtfmjdlahabgkpaaAmSound1, YtfmjdlahabgkpaaAmSound2, YtfmjdlahabgkpaaAmSound3, YtfmjdlahabgkpaaAmSound4, YtfmjdlahabgkpaaAmSound5, YtfmjdlahabgkpaaAmZero, YtfmjdlahabgkpaaAmSound6, YtfmjdlahabgkpaaAmMaps. -/
import Derived.Below
import Derived.Orders
import Derived.KernelRfl
import Derived.IntWalk
import Derived.Laws.Cells
import Derived.Laws.IdiomCopy
import Derived.Laws.Entries
import Derived.ChangeKeysEq
import Derived.Laws.Strings
import Derived.Laws.Append
import Derived.Laws.BytesString
import Derived.Laws.StructEq
import Ieee.Arith
import Derived.Laws.FloatArith
import Derived.CheckFast
import Derived.MapKept
section
/- The abstract machine: its values, its heap, and what both say of a world of the model. No program in sight. -/
namespace Go.Proofs.Ytfmjdlahabgkpaa.Am
open Go Go.RowKit

inductive AVal where
  | bool (b : Bool)
  | int (k : IntKind) (n : Int)
  | flt (k : FloatKind) (bits : Nat)
  | str (s : List UInt8)
  | nilp
  | ptr (id off : Nat)
  | nils
  | slice (id off len cap : Nat) (g : Option Nat)
  | nilm
  | map (id : Nat)
  | func (f : FuncId) (first captured : List AVal)
  | yield (id : Nat)
  | nilFunc
  | iface (t : TypeId) (v : AVal)
  | nilIface
  | agg (cells : List AVal)
  | tuple (vs : List AVal)
  /-- A value of one cell of which nothing is said. -/
  | junk
  /-- Any value at all: nothing is done with it. -/
  | any
  deriving Inhabited

structure Loc where
  block : Nat
  off : Nat
  total : Nat

structure Inj where
  n : Nat
  loc : Nat → Loc
  /-- Numbers of which nothing is known yet. -/
  hole : Nat → Bool := fun _ => false

def Inj.has (m : Inj) (id : Nat) : Prop := id < m.n ∧ m.hole id = false
def Inj.full (m : Inj) : Prop := ∀ id, m.hole id = false
def Inj.filled (m : Inj) : Inj := { m with hole := fun _ => false }

def Inj.le (m m' : Inj) : Prop := m.n ≤ m'.n ∧ ∀ id, m.has id → m'.has id ∧ m'.loc id = m.loc id

theorem Inj.le_refl (m : Inj) : m.le m := ⟨Nat.le_refl _, fun _ h => ⟨h, rfl⟩⟩
theorem Inj.le_trans {a b c : Inj} (h : a.le b) (k : b.le c) : a.le c :=
  ⟨Nat.le_trans h.1 k.1, fun id hid => ⟨(k.2 id (h.2 id hid).1).1, (k.2 id (h.2 id hid).1).2.trans (h.2 id hid).2⟩⟩
def Inj.les (m m' : Inj) : Prop := m.le m' ∧ ∀ id, id < m.n → m.hole id = true → m'.hole id = true
theorem Inj.les_refl (m : Inj) : m.les m := ⟨m.le_refl, fun _ _ h => h⟩
theorem Inj.le_filled (m : Inj) : m.le m.filled := ⟨Nat.le_refl _, fun _ h => ⟨⟨h.1, rfl⟩, rfl⟩⟩
theorem Inj.filled_full (m : Inj) : m.filled.full := fun _ => rfl
theorem Inj.full.has {m : Inj} (h : m.full) {id : Nat} (hi : id < m.n) : m.has id := ⟨hi, h id⟩

structure Keep (K : Nat → Bool) (w w' : World) : Prop where
  os : w'.os = w.os
  tape : w'.tape = w.tape
  output : w'.output = w.output
  size : w.heap.size ≤ w'.heap.size
  block : ∀ k, K k = true → w'.heap[k]? = w.heap[k]?

def lowK (n : Nat) : Nat → Bool := fun k => decide (k < n)
theorem Keep.refl (K : Nat → Bool) (w : World) : Keep K w w := ⟨rfl, rfl, rfl, Nat.le_refl _, fun _ _ => rfl⟩
theorem Keep.trans {K : Nat → Bool} {a b c : World} (h : Keep K a b) (k : Keep K b c) : Keep K a c :=
  ⟨k.os.trans h.os, k.tape.trans h.tape, k.output.trans h.output, Nat.le_trans h.size k.size, fun i hi => (k.block i hi).trans (h.block i hi)⟩
theorem Keep.mono {K K' : Nat → Bool} {w w' : World} (h : Keep K w w') (hK : ∀ k, K' k = true → K k = true) : Keep K' w w' := ⟨h.os, h.tape, h.output, h.size, fun k hk => h.block k (hK k hk)⟩
theorem Keep.drew {K : Nat → Bool} {a w : World} (h : Keep K a w) : Keep K a w.drew := ⟨h.os, h.tape, h.output, h.size, h.block⟩
theorem Keep.alloc {K : Nat → Bool} {a w : World} (h : Keep K a w) (hK : K w.heap.size = false) (o : Obj) : Keep K a (w.alloc o) :=
  h.trans ⟨rfl, rfl, rfl, by simp, fun k hk => by
    show (w.heap.push o)[k]? = _
    rw [Array.getElem?_push, if_neg (by intro he; rw [he, hK] at hk; cases hk)]⟩
theorem Keep.setCell {K : Nat → Bool} {a w : World} (h : Keep K a w) {p : Addr} (hp : K p.block = false) (u : Value) : Keep K a (w.setCell p u) :=
  h.trans ⟨rfl, rfl, rfl, by simp [World.setCell], fun k hk => Below.heap_setCell _ _ _ _ (by intro he; rw [he, hp] at hk; cases hk)⟩
theorem Keep.of {B : Nat} {w w' : World} (h : Below B w w') : Keep (lowK B) w w' := ⟨h.os, h.tape, h.output, h.size, fun k hk => h.block k (by simpa [lowK] using hk)⟩
theorem Keep.below {B : Nat} {w w' : World} (h : Keep (lowK B) w w') : Below B w w' := ⟨h.os, h.tape, h.output, h.size, fun k hk => h.block k (by simpa [lowK] using hk)⟩

def fnan (k : FloatKind) (bits : Nat) : Bool := match k.format.order bits bits with | none => true | some _ => false

inductive All2 {α β : Type} (R : α → β → Prop) : List α → List β → Prop where
  | nil : All2 R [] []
  | cons {x : α} {y : β} {l : List α} {l' : List β} : R x y → All2 R l l' → All2 R (x :: l) (y :: l')

inductive VRel (m : Inj) : AVal → Value → Prop where
  | bool (b : Bool) : VRel m (.bool b) (.bool b)
  | int (k : IntKind) (n : Int) : VRel m (.int k n) (.int k n)
  | flt (k : FloatKind) (bits : Nat) : VRel m (.flt k bits) (.float k bits)
  | fltNan (k : FloatKind) (b b' : Nat) : fnan k b = true → fnan k b' = true → VRel m (.flt k b) (.float k b')
  | str (s : List UInt8) : VRel m (.str s) (.string ⟨s.toArray⟩)
  | nilp : VRel m .nilp (.pointer none)
  | ptr (id off : Nat) : m.has id → VRel m (.ptr id off) (.pointer (some ⟨(m.loc id).block, (m.loc id).off + off, none⟩))
  | nils : VRel m .nils (.slice none 0 0)
  | slice (id off len cap : Nat) (g : Option Nat) (a' : Addr) (c' : Nat) : m.has id → len ≤ cap → cap ≤ c' → (g = none → c' = cap) →
      (∀ e, g = some e → off + c' * e ≤ (m.loc id).total) → (a' = ⟨(m.loc id).block, (m.loc id).off + off, none⟩ ∨ (len = 0 ∧ c' = 0)) →
      VRel m (.slice id off len cap g) (.slice (some a') len c')
  | nilm : VRel m .nilm (.map none)
  | map (id : Nat) : m.has id → VRel m (.map id) (.map (some (m.loc id).block))
  | func (f : FuncId) (first captured : List AVal) (first' captured' : List Value) : All2 (VRel m) first first' →
      All2 (VRel m) captured captured' → VRel m (.func f first captured) (.func (.func f) first'.toArray captured'.toArray)
  | yield (id : Nat) : m.has id → VRel m (.yield id) (.func (.yield (m.loc id).block) #[] #[])
  | nilFunc : VRel m .nilFunc .nilFunc
  | iface (t : TypeId) (v : AVal) (v' : Value) : VRel m v v' → VRel m (.iface t v) (.iface t v')
  | nilIface : VRel m .nilIface .nilIface
  | agg (l : List AVal) (l' : List Value) : All2 (VRel m) l l' → (∀ x, x ∈ l' → x.oneCell' = true) → VRel m (.agg l) (.agg l'.toArray)
  | tuple (l : List AVal) (l' : List Value) : All2 (VRel m) l l' → VRel m (.tuple l) (.tuple l'.toArray)
  | junk (v : Value) : v.oneCell' = true → (∀ b, v ≠ .bool b) → VRel m .junk v
  | any (v : Value) : (∀ b, v ≠ .bool b) → VRel m .any v

theorem forall2_imp_mem {α β : Type} {R S : α → β → Prop} : ∀ {l : List α} {l' : List β}, All2 R l l' → (∀ x y, x ∈ l → R x y → S x y) → All2 S l l'
  | [], _, h, _ => by cases h; exact .nil
  | x :: l, _, h, hi => by
    cases h with
    | cons h1 h2 => exact .cons (hi _ _ (by simp) h1) (forall2_imp_mem h2 fun x y hx => hi x y (by simp [hx]))

theorem VRel.mono {m m' : Inj} (hm : m.le m') : ∀ (v : AVal) (v' : Value), VRel m v v' → VRel m' v v'
  | .bool _, _, h => by cases h; exact .bool _
  | .int .., _, h => by cases h; exact .int _ _
  | .flt .., _, h => by cases h with
    | flt => exact .flt _ _
    | fltNan _ _ _ h1 h2 => exact .fltNan _ _ _ h1 h2
  | .str _, _, h => by cases h; exact .str _
  | .nilp, _, h => by cases h; exact .nilp
  | .ptr id off, _, h => by
    cases h with
    | ptr _ _ h1 => rw [← (hm.2 id h1).2]; exact .ptr _ _ (hm.2 id h1).1
  | .nils, _, h => by cases h; exact .nils
  | .slice id .., _, h => by
    cases h with
    | slice _ _ _ _ _ a' c' h1 h0 h2 h3 h4 h5 =>
      rw [← (hm.2 id h1).2] at h4 h5
      exact .slice _ _ _ _ _ _ _ (hm.2 id h1).1 h0 h2 h3 h4 h5
  | .nilm, _, h => by cases h; exact .nilm
  | .map id, _, h => by
    cases h with
    | map _ h1 => rw [← (hm.2 id h1).2]; exact .map _ (hm.2 id h1).1
  | .func f first captured, _, h => by
    cases h with
    | func _ _ _ _ _ h1 h2 => exact .func _ _ _ _ _ (forall2_imp_mem h1 fun x y hx => VRel.mono hm x y) (forall2_imp_mem h2 fun x y hx => VRel.mono hm x y)
  | .yield id, _, h => by
    cases h with
    | yield _ h1 => rw [← (hm.2 id h1).2]; exact .yield _ (hm.2 id h1).1
  | .nilFunc, _, h => by cases h; exact .nilFunc
  | .iface t v, _, h => by
    cases h with
    | iface _ _ _ h1 => exact .iface _ _ _ (VRel.mono hm v _ h1)
  | .nilIface, _, h => by cases h; exact .nilIface
  | .agg l, _, h => by
    cases h with
    | agg _ _ h1 h2 => exact .agg _ _ (forall2_imp_mem h1 fun x y hx => VRel.mono hm x y) h2
  | .tuple l, _, h => by
    cases h with
    | tuple _ _ h1 => exact .tuple _ _ (forall2_imp_mem h1 fun x y hx => VRel.mono hm x y)
  | .junk, _, h => by cases h with | junk _ h1 h2 => exact .junk _ h1 h2
  | .any, _, h => by cases h with | any _ h1 => exact .any _ h1
termination_by a _ _ => SizeOf.sizeOf a
decreasing_by all_goals simp_wf; (first | (have := List.sizeOf_lt_of_mem hx; omega) | omega)

theorem forall2_mono {m m' : Inj} (hm : m.le m') {l : List AVal} {l' : List Value} (h : All2 (VRel m) l l') : All2 (VRel m') l l' :=
  forall2_imp_mem h fun _ _ _ => VRel.mono hm _ _

theorem forall2_length {α β : Type} {R : α → β → Prop} : ∀ {l : List α} {l' : List β}, All2 R l l' → l.length = l'.length
  | [], _, h => by cases h; rfl
  | _ :: _, _, h => by cases h with | cons _ h2 => simp [forall2_length h2]

theorem forall2_get {α β : Type} {R : α → β → Prop} : ∀ {l : List α} {l' : List β}, All2 R l l' → ∀ (i : Nat) (x : α), l[i]? = some x → ∃ y, l'[i]? = some y ∧ R x y
  | [], _, _, i, x, hx => by simp at hx
  | a :: l, _, h, i, x, hx => by
    cases h with
    | cons h1 h2 =>
      cases i with
      | zero => simp at hx; subst hx; exact ⟨_, rfl, h1⟩
      | succ i => simpa using forall2_get h2 i x (by simpa using hx)

theorem forall2_append {α β : Type} {R : α → β → Prop} : ∀ {l : List α} {l' : List β} {k : List α} {k' : List β}, All2 R l l' → All2 R k k' → All2 R (l ++ k) (l' ++ k')
  | [], _, _, _, h, hk => by cases h; exact hk
  | _ :: _, _, _, _, h, hk => by cases h with | cons h1 h2 => exact .cons h1 (forall2_append h2 hk)

theorem forall2_take {α β : Type} {R : α → β → Prop} : ∀ {l : List α} {l' : List β}, All2 R l l' → ∀ n, All2 R (l.take n) (l'.take n)
  | [], _, h, n => by cases h; simp; exact .nil
  | _ :: _, _, h, 0 => by simp; exact .nil
  | _ :: _, _, h, n + 1 => by cases h with | cons h1 h2 => simp; exact .cons h1 (forall2_take h2 n)

theorem forall2_drop {α β : Type} {R : α → β → Prop} : ∀ {l : List α} {l' : List β}, All2 R l l' → ∀ n, All2 R (l.drop n) (l'.drop n)
  | [], _, h, n => by cases h; simp; exact .nil
  | _ :: _, _, h, 0 => by simpa using h
  | _ :: _, _, h, n + 1 => by cases h with | cons h1 h2 => simpa using forall2_drop h2 n

def AVal.cells : AVal → List AVal
  | .agg l => l
  | v => [v]

def AVal.tup : AVal → Bool
  | .tuple _ => true
  | .any => true
  | _ => false

theorem VRel.cells {m : Inj} {v : AVal} {v' : Value} (h : VRel m v v') (ht : v.tup = false) : All2 (VRel m) v.cells v'.cells.toList := by
  cases h with
  | any => simp [AVal.tup] at ht
  | agg _ _ h => simpa [AVal.cells, Value.cells] using h
  | junk _ h1 h2 =>
    have : v'.cells.toList = [v'] := by cases v' <;> simp [Value.oneCell'] at h1 <;> rfl
    rw [this]; exact .cons (.junk _ h1 h2) .nil
  | _ => simp only [AVal.cells, Value.cells]; exact .cons (by constructor <;> assumption) .nil

theorem VRel.isCells {m : Inj} {v : AVal} {v' : Value} (h : VRel m v v') (ht : v.tup = false) : ∀ x, x ∈ v'.cells.toList → x.oneCell' = true := by
  cases h with
  | agg _ _ _ h => simpa [Value.cells] using h
  | tuple => simp [AVal.tup] at ht
  | any => simp [AVal.tup] at ht
  | junk _ h1 _ =>
    intro x hx
    cases v' <;> simp [Value.oneCell'] at h1 <;> simp [Value.cells] at hx <;> subst hx <;> rfl
  | _ => simp [Value.cells, Value.oneCell']

inductive AObj where
  | cells (l : List AVal) (own : Bool)
  /-- A map: what it bears at which keys, in the order in which they came. -/
  | map (l : List (AVal × AVal))
  deriving Inhabited

structure AHeap where
  obj : Nat → Option AObj
  next : Nat
  /-- Of some objects: by which type's layout the block is made, where it is known, and how many cells it has: then the object begins at its first cell, and no string shares any of it. -/
  ty : Nat → Option (TypeId × Option Nat) := fun _ => none

def AHeap.set (H : AHeap) (id : Nat) (o : AObj) : AHeap := { H with obj := fun i => if i = id then some o else H.obj i }
def AHeap.del (H : AHeap) (id : Nat) : AHeap := { H with obj := fun i => if i = id then none else H.obj i, ty := fun i => if i = id then none else H.ty i }
def AHeap.new (H : AHeap) (o : AObj) : AHeap := { H with obj := fun i => if i = H.next then some o else H.obj i, next := H.next + 1 }
def AHeap.cut (H : AHeap) (id : Nat) : AHeap := { H with obj := fun i => if i = id then none else H.obj i, ty := fun i => if i = id then none else match H.obj i with
  | some (.cells _ true) => H.ty i
  | _ => none }
def AHeap.tag (H : AHeap) (id : Nat) (t : TypeId × Option Nat) : AHeap := { H with ty := fun i => if i = id then some t else H.ty i }

def Free (c : Array Value) (fz : Nat × Nat) : Prop := ∀ j, j < c.size → ¬ (fz.1 ≤ j ∧ j < fz.2)

def ORel (B : Nat → Bool) (m : Inj) (o : AObj) (L : Loc) (w : World) : Prop :=
  match o with
  | .map l => ∃ es clock, w.heap[L.block]? = some (.map es clock) ∧ All2 (fun (p : AVal × AVal) (e : MapEntry) => VRel m p.1 e.key ∧ VRel m p.2 e.val) l es.toList ∧ B L.block = false
  | .cells l own => ∃ c e fz, w.heap[L.block]? = some (.cells c e fz) ∧
      (∀ i x, l[i]? = some x → ∃ v, c[L.off + i]? = some v ∧ VRel m x v ∧ v.oneCell' = true) ∧ (own = true → B L.block = false ∧ L.off + L.total ≤ c.size ∧ Free c fz)

def AObj.own : AObj → Bool
  | .cells _ own => own
  | .map _ => true

def TyAt (L : Loc) (t : TypeId × Option Nat) (w : World) : Prop := L.off = 0 ∧ ∃ c, w.heap[L.block]? = some (.cells c t.1 (0, 0)) ∧ ∀ k, t.2 = some k → c.size = k

structure SRel (w0 : World) (B : Nat → Bool) (m : Inj) (H : AHeap) (w : World) : Prop where
  below : Keep B w0 w
  size : ∀ k, B k = true → k < w0.heap.size
  next : H.next = m.n
  obj : ∀ id o, H.obj id = some o → m.has id ∧ ORel B m o (m.loc id) w
  apart : ∀ i j o o', H.obj i = some o → H.obj j = some o' → o.own = true → i ≠ j → (m.loc i).block ≠ (m.loc j).block
  ty : ∀ id t, H.ty id = some t → m.has id ∧ TyAt (m.loc id) t w

end Go.Proofs.Ytfmjdlahabgkpaa.Am
end

section
/- Floats of 64 bits: rungs, and rounding as a plain function of a fraction, with its laws. No program in sight. -/
set_option linter.unusedSimpArgs false
set_option linter.unusedVariables false
namespace Go.Proofs.Ytfmjdlahabgkpaa.Am.Fl
open Ieee


theorem binade_eq : double.binade = 4503599627370496 := by decide
theorem inf_eq : double.infRung = 9218868437227405312 := by decide
theorem sw_eq : double.signWeight = 9223372036854775808 := by decide
theorem least_eq : double.leastPlace = -1074 := by decide
def sg (x : Nat) : Bool := x / 9223372036854775808 % 2 == 1
def rg (x : Nat) : Nat := x % 9223372036854775808
def u (r : Nat) : Nat := if r < 4503599627370496 then r else (4503599627370496 + r % 4503599627370496) * 2 ^ (r / 4503599627370496 - 1)

theorem read_inf {x : Nat} (h : rg x = 9218868437227405312) : double.read x = .infinity (sg x) := by
  unfold rg at h
  simp [Format.read, binade_eq, inf_eq, sw_eq, h, sg]

theorem read_nan {x : Nat} (h : 9218868437227405312 < rg x) : double.read x = .nan (sg x) (rg x - 9218868437227405312) := by
  unfold rg at h
  have h1 : ¬ x % 9223372036854775808 < 4503599627370496 := by omega
  have h2 : ¬ x % 9223372036854775808 < 9218868437227405312 := by omega
  have h3 : ¬ x % 9223372036854775808 = 9218868437227405312 := by omega
  simp only [Format.read, binade_eq, inf_eq, sw_eq, sg, rg, if_neg h1, if_neg h2, if_neg h3]

theorem read_num {x : Nat} (h : rg x < 9218868437227405312) : ∃ m p : Nat, double.read x = .number (sg x) m (-1074 + p) ∧ u (rg x) = m * 2 ^ p := by
  unfold rg at h
  by_cases h1 : x % 9223372036854775808 < 4503599627370496
  · refine ⟨x % 9223372036854775808, 0, ?_, ?_⟩
    · simp only [Format.read, binade_eq, inf_eq, sw_eq, sg, if_pos h1, least_eq]; rfl
    · simp [u, rg, h1]
  · refine ⟨4503599627370496 + x % 9223372036854775808 % 4503599627370496, x % 9223372036854775808 / 4503599627370496 - 1, ?_, ?_⟩
    · simp only [Format.read, binade_eq, inf_eq, sw_eq, sg, if_neg h1, if_pos h, least_eq]
    · show u (x % 9223372036854775808) = _
      unfold u; rw [if_neg h1]

/-! ### A rung's magnitude grows -/
theorem u_lt_succ (r : Nat) : u r < u (r + 1) := by
  unfold u
  by_cases h1 : r + 1 < 4503599627370496
  · rw [if_pos (by omega), if_pos h1]; omega
  · by_cases h2 : r < 4503599627370496
    · have : r + 1 = 4503599627370496 := by omega
      rw [if_pos h2, if_neg h1, this]
      simp; omega
    · rw [if_neg h2, if_neg h1]
      by_cases h3 : r % 4503599627370496 + 1 < 4503599627370496
      · have e1 : (r + 1) % 4503599627370496 = r % 4503599627370496 + 1 := by omega
        have e2 : (r + 1) / 4503599627370496 = r / 4503599627370496 := by omega
        rw [e1, e2]
        exact Nat.mul_lt_mul_of_pos_right (by omega) (Nat.two_pow_pos _)
      · have e1 : (r + 1) % 4503599627370496 = 0 := by omega
        have e2 : (r + 1) / 4503599627370496 = r / 4503599627370496 + 1 := by omega
        have e3 : r / 4503599627370496 ≥ 1 := by omega
        rw [e1, e2]
        have e4 : r / 4503599627370496 + 1 - 1 = (r / 4503599627370496 - 1) + 1 := by omega
        rw [e4, Nat.pow_succ]
        have := Nat.mul_lt_mul_of_pos_right (show 4503599627370496 + r % 4503599627370496 < 2 * 4503599627370496 by omega) (Nat.two_pow_pos (r / 4503599627370496 - 1))
        calc _ < 2 * 4503599627370496 * 2 ^ (r / 4503599627370496 - 1) := this
          _ = _ := by rw [Nat.add_zero, Nat.mul_comm 2 4503599627370496, Nat.mul_assoc, Nat.mul_comm 2]

theorem u_mono_lt : ∀ {r s : Nat}, r < s → u r < u s := by
  intro r s h
  induction s with
  | zero => omega
  | succ s ih =>
    by_cases hs : r = s
    · subst hs; exact u_lt_succ r
    · exact Nat.lt_trans (ih (by omega)) (u_lt_succ s)
theorem u_lt_iff {r s : Nat} : u r < u s ↔ r < s := by
  refine ⟨fun h => ?_, u_mono_lt⟩
  rcases Nat.lt_trichotomy r s with h' | h' | h'
  · exact h'
  · subst h'; omega
  · have := u_mono_lt h'; omega
theorem u_inj {r s : Nat} (h : u r = u s) : r = s := by
  have := @u_lt_iff s r; have := @u_lt_iff r s; omega
theorem u_zero : u 0 = 0 := by simp [u]

/-! ### Order -/
def sr (x : Nat) : Int := if sg x then -(rg x : Int) else (rg x : Int)
def num (x : Nat) : Prop := rg x ≤ 9218868437227405312
instance (x : Nat) : Decidable (num x) := inferInstanceAs (Decidable (_ ≤ _))

theorem cmp_eq {a b c d : Int} (h1 : a < b ↔ c < d) (h2 : a = b ↔ c = d) : compare a b = compare c d := by
  simp only [compare, compareOfLessAndEq, h1, h2]

theorem cmp_scale (a b : Int) (k : Nat) (hk : 0 < k) : compare (a * k) (b * k) = compare a b := by
  have hk' : (0:Int) < k := by omega
  refine cmp_eq ⟨fun h => Int.lt_of_mul_lt_mul_right h (by omega), fun h => Int.mul_lt_mul_of_pos_right h hk'⟩ ⟨fun h => Int.eq_of_mul_eq_mul_right (by omega) h, fun h => by rw [h]⟩

theorem signed_mul (s : Bool) (m k e : Nat) : signed s m (k + e) = signed s m k * (2 ^ e : Nat) := by
  unfold signed
  simp only [Nat.shiftLeft_eq, Nat.pow_add]
  split
  · push_cast; rw [Int.neg_mul, Int.mul_assoc]
  · push_cast; rw [Int.mul_assoc]

theorem order_num {x y : Nat} (hx : rg x < 9218868437227405312) (hy : rg y < 9218868437227405312) : double.order x y = some (compare (sr x) (sr y)) := by
  obtain ⟨m, p, hm, hu⟩ := read_num hx
  obtain ⟨n, q, hn, hv⟩ := read_num hy
  simp only [Format.order, hm, hn, Datum.order]
  congr 1
  have e1 : (-1074 + (p : Int) - min (-1074 + (p : Int)) (-1074 + (q : Int))).toNat = p - min p q := by omega
  have e2 : (-1074 + (q : Int) - min (-1074 + (p : Int)) (-1074 + (q : Int))).toNat = q - min p q := by omega
  rw [e1, e2, ← cmp_scale _ _ (2 ^ min p q) (Nat.two_pow_pos _), ← signed_mul, ← signed_mul]
  rw [show p - min p q + min p q = p by omega, show q - min p q + min p q = q by omega]
  have f1 : signed (sg x) m p = if sg x then -(u (rg x) : Int) else (u (rg x) : Int) := by
    simp only [signed, Nat.shiftLeft_eq, hu]
  have f2 : signed (sg y) n q = if sg y then -(u (rg y) : Int) else (u (rg y) : Int) := by
    simp only [signed, Nat.shiftLeft_eq, hv]
  rw [f1, f2]
  unfold sr
  have h1 := @u_lt_iff (rg x) (rg y)
  have h2 := @u_lt_iff (rg y) (rg x)
  have h0 : u (rg x) = 0 ↔ rg x = 0 := ⟨fun h => u_inj (h.trans u_zero.symm), fun h => by rw [h, u_zero]⟩
  have h0' : u (rg y) = 0 ↔ rg y = 0 := ⟨fun h => u_inj (h.trans u_zero.symm), fun h => by rw [h, u_zero]⟩
  refine cmp_eq ?_ ?_ <;> cases sg x <;> cases sg y <;> simp only [Bool.false_eq_true, if_true, if_false] <;> omega

theorem order_eq {x y : Nat} (hx : num x) (hy : num y) : double.order x y = some (compare (sr x) (sr y)) := by
  unfold num at hx hy
  rcases Nat.lt_or_eq_of_le hx with hx' | hx' <;> rcases Nat.lt_or_eq_of_le hy with hy' | hy'
  · exact order_num hx' hy'
  · obtain ⟨m, p, hm, hu⟩ := read_num hx'
    simp only [Format.order, hm, read_inf hy', Datum.order, sr, hy']
    cases sg y <;> cases sg x <;> simp only [Bool.false_eq_true, if_true, if_false, Option.some.injEq] <;> symm <;> simp only [compare, compareOfLessAndEq] <;> first | (rw [if_pos (by omega)]; done) | (rw [if_neg (by omega), if_neg (by omega)])
  · obtain ⟨m, p, hm, hu⟩ := read_num hy'
    simp only [Format.order, hm, read_inf hx', Datum.order, sr, hx']
    cases sg y <;> cases sg x <;> simp only [Bool.false_eq_true, if_true, if_false, Option.some.injEq] <;> symm <;> simp only [compare, compareOfLessAndEq] <;> first | (rw [if_pos (by omega)]; done) | (rw [if_neg (by omega), if_neg (by omega)])
  · simp only [Format.order, read_inf hx', read_inf hy', Datum.order, sr, hx', hy']
    cases sg y <;> cases sg x <;> simp [Bool.toNat] <;> decide

theorem order_nan {x y : Nat} (h : ¬ num x ∨ ¬ num y) : double.order x y = none := by
  unfold num at h
  unfold Format.order
  rcases h with h | h
  · rw [read_nan (by omega)]; rfl
  · rw [read_nan (x := y) (by omega)]
    cases double.read x <;> rfl


def dl (N D : Nat) : Nat := (N / D).log2 - 52
def pl : Nat := 1074
def one : Nat := 2 ^ pl
end Go.Proofs.Ytfmjdlahabgkpaa.Am.Fl
end

section
/- The abstract machine: its operations, resolved (no type table is looked at), and how a program's operations are resolved. -/
namespace Go.Proofs.Ytfmjdlahabgkpaa.Am
open Go Go.RowKit

inductive AOpd where
  | tmp (t : Nat)
  | con (v : AVal)
  deriving Inhabited

inductive NilK where
  | p | s | m | f
  deriving Inhabited

inductive EqT where
  | int (k : IntKind)
  | str
  | bool
  | nil (k : NilK)   -- one of the two is nil
  | fend   -- a struct: its fields, one behind the other
  | fld (off n : Nat) (agg : Bool) (e rest : EqT)
  | array (n es : Nat) (agg : Bool) (e : EqT)
  deriving Inhabited

inductive KeyT where
  | int (k : IntKind)
  | str
  deriving Inhabited

inductive AOp where
  | mv (x : AOpd)
  | pick (c a b : AOpd)
  | new (cells : List AVal)
  | box (x : AOpd)
  | build (zero : List AVal) (parts : List (Nat × Nat × AOpd))
  | buildS (len : Nat) (zero : List AVal) (parts : List (Nat × Nat × AOpd))
  | load (agg : Bool) (n : Nat) (a : AOpd)
  | store (n : Nat) (a x : AOpd)
  | nilck (x : AOpd)
  | bin (op : BinOp) (x y : AOpd)
  | eq (neg : Bool) (t : EqT) (x y : AOpd)
  | un (op : UnOp) (x : AOpd)
  | toInt (k : IntKind) (x : AOpd)
  | sToB (x : AOpd)
  | bToS (x : AOpd)
  | idS (x : AOpd)
  | mkFn (f : FuncId) (first captured : List AOpd)
  | mkS (es bytes : Nat) (zero : List AVal) (len cap : AOpd)
  | slcStr (x : AOpd) (lo hi : Option AOpd)
  | slc (es : Nat) (x : AOpd) (lo hi mx : Option AOpd)
  | slcArr (n es : Nat) (x : AOpd) (lo hi mx : Option AOpd)
  | fieldA (off : Nat) (x : AOpd)
  | field (off n : Nat) (agg : Bool) (x : AOpd)
  | idxAArr (n es : Nat) (x i : AOpd)
  | idxASl (es : Nat) (x i : AOpd)
  | idxArr (n es : Nat) (agg : Bool) (x i : AOpd)
  | idxStr (x i : AOpd)
  | extract (x : AOpd) (i : Nat)
  | len (s : Bool) (x : AOpd)
  | lenC (n : Nat)
  | append (es bytes : Nat) (s x : AOpd)
  | appendZ (es bytes : Nat) (z : List AVal) (s x : AOpd)
  | mkMap
  | mapGet (ok : Bool) (kt : KeyT) (z : AVal) (x k : AOpd)
  | mapSet (kt : KeyT) (x k v : AOpd)
  | lenM (x : AOpd)
  | copy (es : Nat) (d s : AOpd)
  | clearS (es : Nat) (zero : List AVal) (x : AOpd)
  | minmax (isMax : Bool) (l : List AOpd)
  | mkIface (t : TypeId) (x : AOpd)
  | call (f : AOpd) (args : List AOpd)
  /-- What the machine does not know: it stops there. -/
  | die
  /-- A slice's capacity, where it is known. -/
  | cap (x : AOpd)
  /-- A whole number as a float of 64 bits, and such a float towards nought. -/
  | iToF (x : AOpd)
  | fToI (k : IntKind) (x : AOpd)
  /-- A float's bits, the float of bits, a float made whole downwards: of numbers alone. -/
  | fbits (x : AOpd)
  | ofBits (x : AOpd)
  | ffloor (x : AOpd)
  /-- New objects of which the layout is known. -/
  | newT (t : TypeId) (cells : List AVal)
  | buildT (t : TypeId) (len : Nat) (zero : List AVal) (parts : List (Nat × Nat × AOpd))
  | appendT (t : TypeId) (es bytes : Nat) (s x : AOpd)
  /-- slices.overlaps of two slices in two objects, of which the first one's layout is known. -/
  | ovl (x y : AOpd)
  /-- A slice's first cell; the string of the bytes from there on, which are given up. -/
  | sdata (x : AOpd)
  | ustr (t : TypeId) (x n : AOpd)
  deriving Inhabited

structure AOper where
  dst : Option Nat
  op : AOp
  guard : Option (Nat × Bool)
  /-- In a region that draws its order: between which stages of the memory it may read. -/
  rd : Option (Nat × Nat) := none
  deriving Inhabited

inductive ACode where
  | skip
  | region (ops : List AOper)
  | draw (ops : List AOper)
  | seq (a b : ACode)
  | cond (c : AOpd) (thn els : ACode)
  | block (id : Nat) (body : ACode)
  | loop (body : ACode)
  | exit (id : Nat)
  | ret
  /-- A range over a function. -/
  | range (f : AOpd) (ps : List Nat) (assign body : ACode)
  deriving Inhabited

inductive ARes where
  | tmp (t : Nat)
  | cell (a : Nat) (agg : Bool) (n : Nat)
  deriving Inhabited

structure AFn where
  body : ACode
  results : List ARes
  deriving Inhabited

/-! ### What the operations do -/
def aundef : AVal := .tuple []

def aev (env : Nat → AVal) : AOpd → AVal
  | .tmp t => env t
  | .con v => v

def aint (op : BinOp) (k : IntKind) (a b : Int) : Option AVal :=
  match op with
  | .add => some (.int k (k.wrap (a + b)))
  | .sub => some (.int k (k.wrap (a - b)))
  | .mul => some (.int k (k.wrap (a * b)))
  | .quo => if b = 0 then none else some (.int k (k.wrap (a.tdiv b)))
  | .rem => if b = 0 then none else some (.int k (a.tmod b))
  | .and => some (.int k (k.wrap (BitVec.ofInt k.bits a &&& BitVec.ofInt k.bits b).toNat))
  | .or => some (.int k (k.wrap (BitVec.ofInt k.bits a ||| BitVec.ofInt k.bits b).toNat))
  | .xor => some (.int k (k.wrap (BitVec.ofInt k.bits a ^^^ BitVec.ofInt k.bits b).toNat))
  | .andNot => some (.int k (k.wrap (BitVec.ofInt k.bits a &&& ~~~ BitVec.ofInt k.bits b).toNat))
  | .eql => some (.bool (a == b))
  | .neq => some (.bool (a != b))
  | .lss => some (.bool (decide (a < b)))
  | .leq => some (.bool (decide (a ≤ b)))
  | .gtr => some (.bool (decide (a > b)))
  | .geq => some (.bool (decide (a ≥ b)))
  | _ => none

def astr (op : BinOp) (a b : List UInt8) : Option AVal :=
  match op with
  | .add => if a.length + b.length ≤ 9223372036854775807 then some (.str (a ++ b)) else none
  | .eql => some (.bool (a == b))
  | .neq => some (.bool !(a == b))
  | .lss => some (.bool (Op.bytesLess a b))
  | .leq => some (.bool (Op.bytesLess a b || a == b))
  | .gtr => some (.bool !(Op.bytesLess a b || a == b))
  | .geq => some (.bool !(Op.bytesLess a b))
  | _ => none

def ashift (op : BinOp) (k : IntKind) (a b : Int) : Option AVal :=
  if b < 0 then none else
  match op with
  | .shl => some (.int k (k.wrap (a * 2 ^ (min b.toNat k.bits))))
  | .shr => some (.int k (a.fdiv (2 ^ (min b.toNat k.bits))))
  | _ => none

def qnan : Nat := 9221120237041090561
def aflt (op : BinOp) (a b : Nat) : Option AVal :=
  match op with
  | .add => some (.flt .f64 ((Ieee.double.add a b).getD qnan))
  | .sub => some (.flt .f64 ((Ieee.double.sub a b).getD qnan))
  | .mul => some (.flt .f64 ((Ieee.double.mul a b).getD qnan))
  | .quo => some (.flt .f64 ((Ieee.double.div a b).getD qnan))
  | .eql => some (.bool (Ieee.double.order a b == some .eq))
  | .neq => some (.bool (Ieee.double.order a b != some .eq))
  | .lss => some (.bool (Ieee.double.order a b == some .lt))
  | .leq => some (.bool (Ieee.double.order a b == some .lt || Ieee.double.order a b == some .eq))
  | .gtr => some (.bool (Ieee.double.order a b == some .gt))
  | .geq => some (.bool (Ieee.double.order a b == some .gt || Ieee.double.order a b == some .eq))
  | _ => none

def abin (op : BinOp) : AVal → AVal → Option AVal
  | .flt .f64 a, .flt .f64 b => aflt op a b
  | .int k a, .int k' b =>
    match op with
    | .shl => ashift .shl k a b
    | .shr => ashift .shr k a b
    | _ => if k = k' then aint op k a b else none
  | .str a, .str b => astr op a b
  | _, _ => none

def aun (op : UnOp) : AVal → Option AVal
  | .flt .f64 b =>
    match op with
    | .neg => some (.flt .f64 (Op.negFloat .f64 b))
    | _ => none
  | .int k n =>
    match op with
    | .neg => aint .sub k 0 n
    | .xor => aint .xor k (if k.signed then -1 else k.max) n
    | _ => none
  | .bool b =>
    match op with
    | .not => some (.bool !b)
    | _ => none
  | _ => none

def apart (agg : Bool) (off n : Nat) (l : List AVal) : Option AVal :=
  if agg then (if off + n ≤ l.length then some (.agg ((l.drop off).take n)) else none) else l[off]?

def aeqArr (f : AVal → AVal → Option Bool) (es : Nat) (agg : Bool) (xs ys : List AVal) : Nat → Nat → Option Bool
  | 0, _ => some true
  | n + 1, i =>
    match apart agg (i * es) es xs, apart agg (i * es) es ys with
    | some x, some y => (f x y).bind fun b => if b then aeqArr f es agg xs ys n (i + 1) else some false
    | _, _ => none

def aeqNil : NilK → AVal → AVal → Option Bool
  | .p, .nilp, .nilp => some true
  | .p, .nilp, .ptr _ _ => some false
  | .p, .ptr _ _, .nilp => some false
  | .s, .nils, .nils => some true
  | .s, .nils, .slice .. => some false
  | .s, .slice .., .nils => some false
  | .m, .nilm, .nilm => some true
  | .m, .nilm, .map _ => some false
  | .m, .map _, .nilm => some false
  | .f, .nilFunc, .nilFunc => some true
  | .f, .nilFunc, .func .. => some false
  | .f, .func .., .nilFunc => some false
  | _, _, _ => none

def aeq : EqT → AVal → AVal → Option Bool
  | .int k, x, y => match x, y with
    | .int k1 a, .int k2 b => if k1 = k ∧ k2 = k then some (a == b) else none
    | _, _ => none
  | .str, x, y => match x, y with
    | .str a, .str b => some (a == b)
    | _, _ => none
  | .bool, x, y => match x, y with
    | .bool a, .bool b => some (a == b)
    | _, _ => none
  | .nil k, x, y => aeqNil k x y
  | .fend, x, y => match x, y with
    | .agg _, .agg _ => some true
    | _, _ => none
  | .fld off n agg e rest, x, y => match x, y with
    | .agg xs, .agg ys => match apart agg off n xs, apart agg off n ys with
      | some u, some v => (aeq e u v).bind fun b => if b then aeq rest (.agg xs) (.agg ys) else some false
      | _, _ => none
    | _, _ => none
  | .array n es agg e, x, y => match x, y with
    | .agg xs, .agg ys => aeqArr (aeq e) es agg xs ys n 0
    | _, _ => none

def lput (l : List AVal) : Nat → List AVal → List AVal
  | _, [] => l
  | off, c :: cs => lput (l.set off c) (off + 1) cs

def afill : List AVal → List (Nat × Nat × AVal) → Option (List AVal)
  | cells, [] => some cells
  | cells, (off, n, v) :: rest => if v.cells.length = n ∧ off + n ≤ cells.length ∧ v.tup = false then afill (lput cells off v.cells) rest else none

def arep (zero : List AVal) : Nat → List AVal
  | 0 => []
  | n + 1 => zero ++ arep zero n

def aload (H : AHeap) (agg : Bool) (n : Nat) : AVal → Option AVal
  | .ptr id off => match H.obj id with
    | some (.cells l _) => apart agg off n l
    | _ => none
  | _ => none

def astore (H : AHeap) (n : Nat) (a x : AVal) : Option AHeap :=
  match a with
  | .ptr id off => match H.obj id with
    | some (.cells l true) => if off + n ≤ l.length ∧ x.cells.length = n ∧ x.tup = false then some (H.set id (.cells (lput l off x.cells) true)) else none
    | _ => none
  | _ => none

def acells (H : AHeap) (es n : Nat) : AVal → Option (List AVal)
  | .nils => some []
  | .slice id off len _ _ => if n * es = 0 then some [] else match H.obj id with
    | some (.cells l _) => if n ≤ len ∧ off + n * es ≤ l.length then some ((l.drop off).take (n * es)) else none
    | _ => none
  | .str s => if n ≤ s.length ∧ es = 1 then some ((s.take n).map fun b => .int .u8 (b.toNat : Int)) else none
  | _ => none

def alen : AVal → Option Nat
  | .nils => some 0
  | .slice _ _ len _ _ => some len
  | .str s => some s.length
  | _ => none

def alenT : Bool → AVal → Option Nat
  | true, .str s => some s.length
  | false, .nils => some 0
  | false, .slice _ _ len _ _ => some len
  | _, _ => none

def abound (x : Option AVal) (d y : Nat) : Option Nat :=
  match x with
  | none => some d
  | some (.int _ i) => if 0 ≤ i ∧ i ≤ y then some i.toNat else none
  | some _ => none

def abounds (len cap : Nat) (lo hi mx : Option AVal) : Option (Nat × Nat × Nat) :=
  (abound mx cap cap).bind fun m => (abound hi len (if mx.isSome then m else cap)).bind fun h => (abound lo 0 h).bind fun l =>
    if mx.isSome ∧ hi.isNone then none else some (l, h, m)

def aslc (es : Nat) (x : AVal) (lo hi mx : Option AVal) : Option AVal :=
  match x with
  | .nils => (abounds 0 0 lo hi mx).map fun _ => .nils
  | .slice id off len cap g => (abounds len cap lo hi mx).bind fun (l, h, m) =>
    match g with
    | none => some (.slice id (if m = l then off else off + l * es) (h - l) (m - l) none)
    | some e => if e = es ∧ 0 < es then
        (if mx.isSome then some (.slice id (if m = l then off else off + l * es) (h - l) (m - l) none)
         else some (.slice id (off + l * es) (h - l) (m - l) (some e))) else none
  | _ => none

def aslcArr (n es : Nat) (x : AVal) (lo hi mx : Option AVal) : Option AVal :=
  match x with
  | .ptr id off => (abounds n n lo hi mx).map fun (l, h, m) => .slice id (if m = l then off else off + l * es) (h - l) (m - l) none
  | _ => none

def aminmax (isMax : Bool) : AVal → AVal → Option AVal
  | .int k x, .int k' y => if k = k' then some (.int k (if isMax then (if y > x then y else x) else (if y < x then y else x))) else none
  | _, _ => none

def afold (isMax : Bool) : AVal → List AVal → Option AVal
  | v, [] => some v
  | v, x :: l => (aminmax isMax v x).bind fun u => afold isMax u l

def aappend (H : AHeap) (es bytes : Nat) (s x : AVal) : Option (AVal × AHeap) :=
  (alen x).bind fun n => (acells H es n x).bind fun new =>
  match s with
  | .nils => if n = 0 then some (.nils, H) else
    if 5 * (n * bytes) + 2040 * bytes ≤ 1125899906842624 ∧ n ≤ 9223372036854775807 then some (.slice H.next 0 n n (some es), H.new (.cells new true)) else none
  | .slice id off len cap g =>
    if len + n ≤ cap then
      if n = 0 then some (.slice id off len cap g, H) else
      match H.obj id with
      | some (.cells l true) => if off + (len + n) * es ≤ l.length ∧ 0 < es then some (.slice id off (len + n) cap g, H.set id (.cells (lput l (off + len * es) new) true)) else none
      | _ => none
    else
      (acells H es len s).bind fun old =>
      if 5 * ((len + n) * bytes) + 2040 * bytes ≤ 1125899906842624 ∧ len + n ≤ 9223372036854775807 ∧ 0 < es then
        match g with
        | none => some (.slice H.next 0 (len + n) (len + n) (some es), H.new (.cells (old ++ new) true))
        | some e => if e = es then
            match H.obj id with
            | some (.cells _ true) => some (.slice H.next 0 (len + n) (len + n) (some es), (H.del id).new (.cells (old ++ new) true))
            | _ => none
          else none
      else none
  | _ => none

def aappendZ (H : AHeap) (es bytes : Nat) (z : List AVal) (s : AVal) : AVal → Option (AVal × AHeap)
  | .int _ k => if 0 ≤ k ∧ k ≤ 9223372036854775807 ∧ k.toNat * bytes ≤ 281474976710656 then
      (let n := k.toNat
       let new := arep z n
       match s with
       | .nils => if n = 0 then some (.nils, H) else
         if 5 * (n * bytes) + 2040 * bytes ≤ 1125899906842624 ∧ n ≤ 9223372036854775807 then some (.slice H.next 0 n n (some es), H.new (.cells new true)) else none
       | .slice id off len cap g =>
         if len + n ≤ cap then
           if n = 0 then some (.slice id off len cap g, H) else
           match H.obj id with
           | some (.cells l true) => if off + (len + n) * es ≤ l.length ∧ 0 < es then some (.slice id off (len + n) cap g, H.set id (.cells (lput l (off + len * es) new) true)) else none
           | _ => none
         else
           (acells H es len s).bind fun old =>
           if 5 * ((len + n) * bytes) + 2040 * bytes ≤ 1125899906842624 ∧ len + n ≤ 9223372036854775807 ∧ 0 < es then
             match g with
             | none => some (.slice H.next 0 (len + n) (len + n) (some es), H.new (.cells (old ++ new) true))
             | some e => if e = es then
                 match H.obj id with
                 | some (.cells _ true) => some (.slice H.next 0 (len + n) (len + n) (some es), (H.del id).new (.cells (old ++ new) true))
                 | _ => none
               else none
           else none
       | _ => none)
    else none
  | _ => none

/-! Maps -/
def keyEq : KeyT → AVal → AVal → Option Bool
  | .int j, .int k a, .int k' b => if k = j ∧ k' = j then some (a == b) else none
  | .str, .str a, .str b => some (a == b)
  | _, _, _ => none
def alook (kt : KeyT) (k : AVal) : List (AVal × AVal) → Option (Option AVal)
  | [] => some none
  | (k', v) :: l => match keyEq kt k k' with
    | some true => some (some v)
    | some false => alook kt k l
    | none => none
def aput (kt : KeyT) (k v : AVal) : List (AVal × AVal) → Option (List (AVal × AVal))
  | [] => some [(k, v)]
  | (k', u) :: l => match keyEq kt k k' with
    | some true => some ((k, v) :: l)
    | some false => (aput kt k v l).map fun r => (k', u) :: r
    | none => none
def akey : KeyT → AVal → Bool
  | .int j, .int k _ => decide (k = j)
  | .str, .str _ => true
  | _, _ => false
def amapGet (H : AHeap) (kt : KeyT) (x k : AVal) : Option (Option AVal) :=
  if akey kt k then (match x with
    | .nilm => some none
    | .map id => match H.obj id with
      | some (.map l) => alook kt k l
      | _ => none
    | _ => none) else none
def amapSet (H : AHeap) (kt : KeyT) (x k v : AVal) : Option AHeap :=
  if akey kt k && !v.tup then (match x with
    | .map id => match H.obj id with
      | some (.map l) => (aput kt k v l).map fun l' => H.set id (.map l')
      | _ => none
    | _ => none) else none
def amapLen (H : AHeap) : AVal → Option Nat
  | .nilm => some 0
  | .map id => match H.obj id with
    | some (.map l) => some l.length
    | _ => none
  | _ => none
def getX (ok : Bool) (z : AVal) (H : AHeap) : Option (Option AVal) → Option (AVal × AHeap)
  | none => none
  | some r => some (if ok then .tuple [r.getD z, .bool r.isSome] else r.getD z, H)

def acopy (H : AHeap) (es : Nat) (d s : AVal) : Option (AVal × AHeap) :=
  (alen s).bind fun n => (alen d).bind fun dl =>
  let k := Nat.min n dl
  (acells H es k s).bind fun new =>
  match d with
  | .nils => some (.int .i64 k, H)
  | .slice id off _ _ _ =>
    if k = 0 then some (.int .i64 0, H) else
    match H.obj id with
    | some (.cells l true) => if off + k * es ≤ l.length then some (.int .i64 k, H.set id (.cells (lput l off new) true)) else none
    | _ => none
  | _ => none

def aclear (H : AHeap) (es : Nat) (zero : List AVal) : AVal → Option AHeap
  | .nils => some H
  | .slice id off len _ _ => if len = 0 then some H else
    match H.obj id with
    | some (.cells l true) => if off + len * es ≤ l.length then some (H.set id (.cells (lput l off (arep zero len)) true)) else none
    | _ => none
  | _ => none

def amkS (H : AHeap) (es bytes : Nat) (zero : List AVal) : AVal → AVal → Option (AVal × AHeap)
  | .int _ l, .int _ c => if 0 ≤ l ∧ l ≤ c ∧ c ≤ 9223372036854775807 ∧ c * bytes ≤ 281474976710656 ∧ zero.length = es then
      some (.slice H.next 0 l.toNat c.toNat none, H.new (.cells (arep zero c.toNat) true)) else none
  | _, _ => none

def aidx (n : Nat) : AVal → Option Nat
  | .int _ i => if 0 ≤ i ∧ i < n then some i.toNat else none
  | _ => none

def acap : AVal → Option Nat
  | .nils => some 0
  | .slice _ _ _ cap none => some cap
  | _ => none

def typed (H : AHeap) (t : TypeId) : AVal → Bool
  | .slice id off _ _ none => true
  | .slice id off _ _ (some _) => off == 0 && (match H.ty id with
    | some (u, _) => u == t
    | none => false)
  | _ => true
def tagged (H : AHeap) (t : TypeId) (s : AVal) (r : AVal × AHeap) : AVal × AHeap :=
  if r.2.next = H.next then r else if typed H t s then (r.1, r.2.tag H.next (t, none)) else r
def aappendT (t : TypeId) (H : AHeap) (es bytes : Nat) (s x : AVal) : Option (AVal × AHeap) := (aappend H es bytes s x).map (tagged H t s)
def aovl (H : AHeap) : AVal → AVal → Option AVal
  | .slice i o n _ _, .slice j o' n' _ _ => if i ≠ j ∧ 0 < n ∧ 0 < n' then
      match H.obj i, H.obj j, H.ty i with
      | some (.cells l true), some (.cells l' _), some _ => if o < l.length ∧ o' < l'.length then some (.bool false) else none
      | _, _, _ => none else none
  | _, _ => none
def asdata : AVal → Option AVal
  | .nils => some .nilp
  | .slice id off n _ _ => if 0 < n then some (.ptr id off) else none
  | _ => none
def bytesOf : List AVal → Option (List UInt8)
  | [] => some []
  | .int .u8 n :: l => if 0 ≤ n ∧ n < 256 then (bytesOf l).map fun r => UInt8.ofNat n.toNat :: r else none
  | _ :: _ => none
def austr (H : AHeap) (t : TypeId) : AVal → AVal → Option (AVal × AHeap)
  | .nilp, .int .i64 n => if n = 0 then some (.str [], H) else none
  | .ptr id 0, .int .i64 n => if 0 < n ∧ n ≤ 9223372036854775807 then
      (match H.obj id, H.ty id with
      | some (.cells l true), some (u, _) => if u = t ∧ n.toNat ≤ l.length then (bytesOf (l.take n.toNat)).map fun s => (.str s, H.cut id) else none
      | _, _ => none) else none
  | _, _ => none

def aop (o : AOp) (ρ : AOpd → AVal) (H : AHeap) : Option (AVal × AHeap) :=
  let p (v : Option AVal) : Option (AVal × AHeap) := v.map fun v => (v, H)
  let u (h : Option AHeap) : Option (AVal × AHeap) := h.map fun h => (aundef, h)
  match o with
  | .mv x => some (ρ x, H)
  | .pick c a b => match ρ c with
    | .bool t => some (if t then ρ a else ρ b, H)
    | _ => none
  | .new cells => some (.ptr H.next 0, H.new (.cells cells true))
  | .box x => if (ρ x).tup then none else some (.ptr H.next 0, H.new (.cells (ρ x).cells true))
  | .build zero parts => p ((afill zero (parts.map fun (o, n, x) => (o, n, ρ x))).map .agg)
  | .buildS len zero parts => (afill zero (parts.map fun (o, n, x) => (o, n, ρ x))).map fun l => (.slice H.next 0 len len none, H.new (.cells l true))
  | .load agg n a => p (aload H agg n (ρ a))
  | .store n a x => u (astore H n (ρ a) (ρ x))
  | .nilck x => match ρ x with
    | .ptr id off => some (.ptr id off, H)
    | .func f a b => some (.func f a b, H)
    | .yield l => some (.yield l, H)
    | _ => none
  | .bin op x y => p (abin op (ρ x) (ρ y))
  | .eq neg t x y => p ((aeq t (ρ x) (ρ y)).map fun b => .bool (if neg then !b else b))
  | .un op x => p (aun op (ρ x))
  | .toInt k x => match ρ x with
    | .int _ n => some (.int k (k.wrap n), H)
    | _ => none
  | .sToB x => match ρ x with
    | .str s => some (.slice H.next 0 s.length s.length (some 1), H.new (.cells (s.map fun b => .int .u8 (b.toNat : Int)) true))
    | _ => none
  | .bToS x => match ρ x with
    | .str _ => none
    | x => (alen x).bind fun n => (acells H 1 n x).bind fun l => p ((abytes l).map .str)
  | .idS x => match ρ x with
    | .str s => some (.str s, H)
    | _ => none
  | .mkFn f first captured => some (.func f (first.map ρ) (captured.map ρ), H)
  | .mkS es bytes zero len cap => amkS H es bytes zero (ρ len) (ρ cap)
  | .slcStr x lo hi => match ρ x with
    | .str s => p ((abounds s.length s.length (lo.map ρ) (hi.map ρ) none).map fun (l, h, _) => .str ((s.take h).drop l))
    | _ => none
  | .slc es x lo hi mx => p (aslc es (ρ x) (lo.map ρ) (hi.map ρ) (mx.map ρ))
  | .slcArr n es x lo hi mx => p (aslcArr n es (ρ x) (lo.map ρ) (hi.map ρ) (mx.map ρ))
  | .fieldA off x => match ρ x with
    | .ptr id o => some (.ptr id (o + off), H)
    | _ => none
  | .field off n agg x => match ρ x with
    | .agg l => p (apart agg off n l)
    | _ => none
  | .idxAArr n es x i => match ρ x with
    | .ptr id o => p ((aidx n (ρ i)).map fun i => .ptr id (o + i * es))
    | _ => none
  | .idxASl es x i => match ρ x with
    | .slice id o len _ _ => p ((aidx len (ρ i)).map fun i => .ptr id (o + i * es))
    | _ => none
  | .idxArr n es agg x i => match ρ x with
    | .agg l => p ((aidx n (ρ i)).bind fun i => apart agg (i * es) es l)
    | _ => none
  | .idxStr x i => match ρ x with
    | .str s => p ((aidx s.length (ρ i)).bind fun i => (s[i]?).map fun b => .int .u8 (b.toNat : Int))
    | _ => none
  | .extract x i => match ρ x with
    | .tuple l => p l[i]?
    | _ => none
  | .len s x => p ((alenT s (ρ x)).map fun (n : Nat) => .int .i64 (n : Int))
  | .lenC n => some (.int .i64 (n : Int), H)
  | .append es bytes s x => aappend H es bytes (ρ s) (ρ x)
  | .appendZ es bytes z s x => aappendZ H es bytes z (ρ s) (ρ x)
  | .mkMap => some (.map H.next, H.new (.map []))
  | .mapGet ok kt z x k => getX ok z H (amapGet H kt (ρ x) (ρ k))
  | .mapSet kt x k v => u (amapSet H kt (ρ x) (ρ k) (ρ v))
  | .lenM x => p ((amapLen H (ρ x)).map fun (n : Nat) => .int .i64 (n : Int))
  | .copy es d s => acopy H es (ρ d) (ρ s)
  | .clearS es zero x => (aclear H es zero (ρ x)).map fun h => (.tuple [], h)
  | .minmax isMax l => match l.map ρ with
    | [] => none
    | v :: l => p (afold isMax v l)
  | .mkIface t x => some (.iface t (ρ x), H)
  | .call _ _ => none
  | .die => none
  | .cap x => p ((acap (ρ x)).map fun (n : Nat) => .int .i64 (n : Int))
  | .iToF x => match ρ x with
    | .int _ n => some (.flt .f64 (FloatKind.f64.nearest n), H)
    | _ => none
  | .fToI k x => match ρ x with
    | .flt .f64 b => p ((floatToIntVal .f64 b k).map (.int k))
    | _ => none
  | .fbits x => match ρ x with
    | .flt .f64 b => if Fl.num b then some (.int .u64 (b : Int), H) else none
    | _ => none
  | .ofBits x => match ρ x with
    | .int .u64 n => some (.flt .f64 n.toNat, H)
    | _ => none
  | .ffloor x => match ρ x with
    | .flt .f64 b => if Fl.num b then some (.flt .f64 (Ieee.double.write ((Ieee.double.read b).integral .down)), H) else none
    | _ => none
  | .newT t cells => some (.ptr H.next 0, (H.new (.cells cells true)).tag H.next (t, some cells.length))
  | .buildT t len zero parts => (afill zero (parts.map fun (o, n, x) => (o, n, ρ x))).map fun l => (.slice H.next 0 len len none, (H.new (.cells l true)).tag H.next (t, none))
  | .appendT t es bytes s x => aappendT t H es bytes (ρ s) (ρ x)
  | .ovl x y => p (aovl H (ρ x) (ρ y))
  | .sdata x => p (asdata (ρ x))
  | .ustr t x n => austr H t (ρ x) (ρ n)
where
  abytes : List AVal → Option (List UInt8)
    | [] => some []
    | .int .u8 n :: l => (abytes l).map fun r => UInt8.ofNat n.toNat :: r
    | _ :: _ => none

example : aeq (.fld 0 1 false .str .fend) (.agg [.str [1]]) (.agg [.str [1]]) = some true := rfl
end Go.Proofs.Ytfmjdlahabgkpaa.Am
end

section
/- The abstract machine's memory against a world's: reading, writing, new objects. -/
set_option linter.unusedSimpArgs false
set_option linter.unusedVariables false
namespace Go.Proofs.Ytfmjdlahabgkpaa.Am
open Go Go.RowKit

variable {P : Program} {w0 w : World} {B : Nat → Bool} {m : Inj} {H : AHeap}

def Inj.ext (m : Inj) (L : Loc) : Inj := { n := m.n + 1, loc := fun i => if i = m.n then L else m.loc i, hole := fun i => if i = m.n then false else m.hole i }

theorem Inj.le_ext (m : Inj) (L : Loc) : m.le (m.ext L) :=
  ⟨by simp [Inj.ext], fun id h => by
    have hne : id ≠ m.n := by have := h.1; omega
    refine ⟨⟨by simp only [Inj.ext]; have := h.1; omega, by simp only [Inj.ext]; rw [if_neg hne]; exact h.2⟩, by simp only [Inj.ext]; rw [if_neg hne]⟩⟩
theorem Inj.les_ext (m : Inj) (L : Loc) : m.les (m.ext L) :=
  ⟨m.le_ext L, fun id hi h => by simp only [Inj.ext]; rw [if_neg (by omega)]; exact h⟩
theorem Inj.ext_new (m : Inj) (L : Loc) : (m.ext L).loc m.n = L := by simp [Inj.ext]
theorem Inj.ext_has (m : Inj) (L : Loc) : (m.ext L).has m.n := ⟨by simp [Inj.ext], by simp [Inj.ext]⟩
theorem Inj.ext_old (m : Inj) (L : Loc) {id : Nat} (h : m.has id) : (m.ext L).loc id = m.loc id := ((m.le_ext L).2 id h).2

theorem addr_add (b o i : Nat) : (⟨b, o, none⟩ : Addr).add i = ⟨b, o + i, none⟩ := by
  unfold Addr.add; split <;> simp_all

theorem cell_of_heap {c : Array Value} {e : TypeId} {fz : Nat × Nat} {b i : Nat} (h : w.heap[b]? = some (.cells c e fz)) : w.cell? ⟨b, i, none⟩ = c[i]? := by
  simp [World.cell?, h]

theorem frozen_of_heap {c : Array Value} {e : TypeId} {fz : Nat × Nat} {b i : Nat} (h : w.heap[b]? = some (.cells c e fz)) (hf : Free c fz) (hi : i < c.size) : w.frozen? ⟨b, i, none⟩ = false := by
  have := hf i hi
  simp only [World.frozen?, h]
  simp only [Bool.and_eq_false_iff, decide_eq_false_iff_not]
  omega

theorem SRel.cell (hS : SRel w0 B m H w) {id i : Nat} {l : List AVal} {own : Bool} {x : AVal} (h : H.obj id = some (.cells l own)) (hi : l[i]? = some x) :
    ∃ v, w.cell? ⟨(m.loc id).block, (m.loc id).off + i, none⟩ = some v ∧ VRel m x v ∧ v.oneCell' = true := by
  obtain ⟨_, c, e, fz, hb, hc, _⟩ := hS.obj id _ h
  obtain ⟨v, hv, h1, h2⟩ := hc i x hi
  exact ⟨v, by rw [cell_of_heap hb]; exact hv, h1, h2⟩

theorem SRel.cells (hS : SRel w0 B m H w) {id : Nat} {l : List AVal} {own : Bool} (h : H.obj id = some (.cells l own)) : ∀ (n off : Nat), off + n ≤ l.length →
    ∃ vs : List Value, vs.length = n ∧ (∀ j v, vs[j]? = some v → w.cell? ⟨(m.loc id).block, (m.loc id).off + off + j, none⟩ = some v) ∧ All2 (VRel m) ((l.drop off).take n) vs ∧ ∀ x, x ∈ vs → x.oneCell' = true
  | 0, off, _ => ⟨[], rfl, by simp, by simp; exact .nil, by simp⟩
  | n + 1, off, hl => by
    obtain ⟨vs, h0, h1, h2, h3⟩ := SRel.cells hS h n (off + 1) (by omega)
    obtain ⟨v, hv, hr, hc⟩ := hS.cell h (i := off) (x := l[off]'(by omega)) (by simp)
    refine ⟨v :: vs, by simp [h0], ?_, ?_, ?_⟩
    · intro j u hu
      cases j with
      | zero => simp at hu; subst hu; simpa using hv
      | succ j =>
        have := h1 j u (by simpa using hu)
        rwa [show (m.loc id).off + (off + 1) + j = (m.loc id).off + off + (j + 1) by omega] at this
    · rw [List.drop_eq_getElem_cons (by omega)]
      simp only [List.take_succ_cons]
      exact .cons hr h2
    · intro x hx
      simp at hx
      rcases hx with rfl | hx
      · exact hc
      · exact h3 x hx

theorem SRel.loadCells (hS : SRel w0 B m H w) {id : Nat} {l : List AVal} {own : Bool} (h : H.obj id = some (.cells l own)) {n off : Nat} (hl : off + n ≤ l.length) :
    ∃ vs : List Value, (loadCells ⟨(m.loc id).block, (m.loc id).off + off, none⟩ n).run P w = .ok vs.toArray w ∧ All2 (VRel m) ((l.drop off).take n) vs ∧ (∀ x, x ∈ vs → x.oneCell' = true) ∧ vs.length = n := by
  obtain ⟨vs, h0, h1, h2, h3⟩ := hS.cells h n off hl
  refine ⟨vs, ?_, h2, h3, h0⟩
  have := run_loadCells_list (P := P) w ⟨(m.loc id).block, (m.loc id).off + off, none⟩ vs (fun j v hv => by rw [addr_add]; exact h1 j v hv)
  rwa [h0] at this

theorem heap_setCell {c : Array Value} {e : TypeId} {fz : Nat × Nat} {b i : Nat} (v : Value) (h : w.heap[b]? = some (.cells c e fz)) : (w.setCell ⟨b, i, none⟩ v).heap[b]? = some (.cells (c.setIfInBounds i v) e fz) := by
  simp [World.setCell, Array.getElem?_modify, h]

theorem TyAt.same {L : Loc} {t : TypeId × Option Nat} {w w' : World} (h : TyAt L t w) (he : w'.heap[L.block]? = w.heap[L.block]?) : TyAt L t w' := ⟨h.1, h.2.imp fun _ h => ⟨by rw [he]; exact h.1, h.2⟩⟩
theorem TyAt.lt {L : Loc} {t : TypeId × Option Nat} {w : World} (h : TyAt L t w) : L.block < w.heap.size := by
  obtain ⟨_, c, hb, _⟩ := h
  exact (Array.getElem?_eq_some_iff.1 hb).1
theorem TyAt.setCell {L : Loc} {t : TypeId × Option Nat} {w : World} (h : TyAt L t w) (b i : Nat) (v : Value) : TyAt L t (w.setCell ⟨b, i, none⟩ v) := by
  by_cases hb : L.block = b
  · obtain ⟨h1, c, h2, h3⟩ := h
    subst hb
    exact ⟨h1, _, heap_setCell v h2, fun k hk => by simpa using h3 k hk⟩
  · exact h.same (Below.heap_setCell _ _ _ _ (by simpa using hb))
theorem TyAt.alloc {L : Loc} {t : TypeId × Option Nat} {w : World} (h : TyAt L t w) (o : Obj) : TyAt L t (w.alloc o) := h.same (Below.heap_alloc _ _ _ h.lt)

theorem SRel.setCell (hS : SRel w0 B m H w) {id i : Nat} {l : List AVal} (h : H.obj id = some (.cells l true)) (hi : i < l.length) {x : AVal} {v : Value} (hx : VRel m x v) (h1 : v.oneCell' = true) :
    (store ⟨(m.loc id).block, (m.loc id).off + i, none⟩ v).run P w = .ok () (w.setCell ⟨(m.loc id).block, (m.loc id).off + i, none⟩ v) ∧
    SRel w0 B m (H.set id (.cells (l.set i x) true)) (w.setCell ⟨(m.loc id).block, (m.loc id).off + i, none⟩ v) := by
  obtain ⟨hid, c, e, fz, hb, hc, ho⟩ := hS.obj id _ h
  obtain ⟨hB, htot, hfree⟩ := ho rfl
  obtain ⟨u, hu, _, _⟩ := hc i (l[i]'hi) (by simp)
  have hlt : (m.loc id).off + i < c.size := by
    rcases Nat.lt_or_ge ((m.loc id).off + i) c.size with h' | h'
    · exact h'
    · rw [Array.getElem?_eq_none h'] at hu; cases hu
  refine ⟨?_, ?_⟩
  · rw [run_store P w _ v _ h1, cell_of_heap hb, hu, frozen_of_heap hb hfree hlt]
    simp
  · refine ⟨?_, hS.size, hS.next, ?_, ?_, fun id' t ht => ⟨(hS.ty id' t ht).1, (hS.ty id' t ht).2.setCell _ _ _⟩⟩
    · exact hS.below.setCell (by simpa using hB) _
    · intro id' o' ho'
      simp only [AHeap.set] at ho'
      by_cases he : id' = id
      · subst he
        simp at ho'
        subst ho'
        refine ⟨hid, ?_⟩
        refine ⟨c.setIfInBounds ((m.loc id').off + i) v, e, fz, ?_, ?_, ?_⟩
        · exact heap_setCell v hb
        · intro j y hy
          by_cases hj : j = i
          · subst hj
            rw [List.getElem?_set_self hi] at hy
            simp at hy
            subst hy
            exact ⟨v, by simp [Array.getElem?_setIfInBounds, hlt], hx, h1⟩
          · rw [List.getElem?_set_ne (Ne.symm hj)] at hy
            obtain ⟨z, hz, hr⟩ := hc j y hy
            exact ⟨z, by rw [Array.getElem?_setIfInBounds_ne (by omega)]; exact hz, hr⟩
        · intro _
          refine ⟨hB, by simpa using htot, fun j hj => hfree j (by simpa using hj)⟩
      · simp [he] at ho'
        obtain ⟨h1', h2'⟩ := hS.obj id' o' ho'
        refine ⟨h1', ?_⟩
        have hne := hS.apart id id' _ _ h ho' rfl (Ne.symm he)
        cases o' with
        | cells l' own' =>
          obtain ⟨c', e', fz', hb', hc', ho''⟩ := h2'
          exact ⟨c', e', fz', by rw [Below.heap_setCell _ _ _ _ (by simpa using Ne.symm hne)]; exact hb', hc', ho''⟩
        | map l' =>
          obtain ⟨es', ck', hb', hc', ho''⟩ := h2'
          exact ⟨es', ck', by rw [Below.heap_setCell _ _ _ _ (by simpa using Ne.symm hne)]; exact hb', hc', ho''⟩
    · intro a b o o' ha hb' hown hab
      have key : ∀ k ok, (H.set id (.cells (l.set i x) true)).obj k = some ok → ∃ ok', H.obj k = some ok' ∧ ok'.own = ok.own := by
        intro k ok hk
        simp only [AHeap.set] at hk
        by_cases he : k = id
        · subst he; simp at hk; subst hk; exact ⟨_, h, rfl⟩
        · simp [he] at hk; exact ⟨ok, hk, rfl⟩
      obtain ⟨oa, h1a, h2a⟩ := key a o ha
      obtain ⟨ob, h1b, _⟩ := key b o' hb'
      exact hS.apart a b oa ob h1a h1b (h2a.trans hown) hab

theorem AHeap.set_set (H : AHeap) (id : Nat) (o o' : AObj) : (H.set id o).set id o' = H.set id o' := by
  simp only [AHeap.set, AHeap.mk.injEq, and_true]
  funext i
  by_cases h : i = id <;> simp [h]

theorem SRel.putCells : ∀ (cs : List AVal) (vs : List Value) (off k : Nat) (l : List AVal) (H : AHeap) (w : World), SRel w0 B m H w → ∀ {id : Nat}, H.obj id = some (.cells l true) → off + k + cs.length ≤ l.length → All2 (VRel m) cs vs →
    (∀ x, x ∈ vs → x.oneCell' = true) →
    ∃ w', (storeCells ⟨(m.loc id).block, (m.loc id).off + off, none⟩ vs k).run P w = .ok () w' ∧ SRel w0 B m (H.set id (.cells (lput l (off + k) cs) true)) w'
  | [], _, off, k, l, H, w, hS, id, h, hl, ha, h1 => by
    cases ha
    refine ⟨w, rfl, ?_⟩
    have : H.set id (.cells (lput l (off + k) []) true) = H := by
      cases H with
      | mk obj next =>
        simp only [AHeap.set, lput, AHeap.mk.injEq, and_true]
        funext i
        by_cases hi : i = id
        · subst hi; simp at h; simp [h]
        · simp [hi]
    rw [this]; exact hS
  | c :: cs, _, off, k, l, H, w, hS, id, h, hl, ha, h1 => by
    cases ha with
    | cons hr ha =>
      rename_i v vs
      obtain ⟨hst, hS'⟩ := hS.setCell (P := P) h (i := off + k) (by simp at hl; omega) hr (h1 v (by simp))
      have hobj : (H.set id (.cells (l.set (off + k) c) true)).obj id = some (.cells (l.set (off + k) c) true) := by simp [AHeap.set]
      obtain ⟨w', hrun, hS''⟩ := SRel.putCells cs vs off (k + 1) _ _ _ hS' hobj (by simp at hl ⊢; omega) ha (fun x hx => h1 x (by simp [hx]))
      refine ⟨w', ?_, ?_⟩
      · simp only [storeCells, Sem.run_bind, addr_add]
        rw [show (m.loc id).off + off + k = (m.loc id).off + (off + k) by omega, hst]
        simp only [Result.andThen_ok]
        exact hrun
      · rw [AHeap.set_set] at hS''
        exact hS''

theorem SRel.drew (hS : SRel w0 B m H w) : SRel w0 B m H w.drew := ⟨hS.below.drew, hS.size, hS.next, hS.obj, hS.apart, hS.ty⟩

theorem SRel.drawn (hS : SRel w0 B m H w) (n : Nat) : SRel w0 B m H { w with drawn := n } := ⟨⟨hS.below.os, hS.below.tape, hS.below.output, hS.below.size, hS.below.block⟩, hS.size, hS.next, hS.obj, hS.apart, hS.ty⟩

theorem SRel.free (hS : SRel w0 B m H w) : B w.heap.size = false := by
  cases h : B w.heap.size with
  | false => rfl
  | true => have := hS.size _ h; have := hS.below.size; omega

theorem ORel.mono {m m' : Inj} (hm : m.le m') {o : AObj} {L : Loc} {w : World} (h : ORel B m o L w) : ORel B m' o L w := by
  cases o with
  | cells l own =>
    obtain ⟨c, e, fz, hb, hc, ho⟩ := h
    exact ⟨c, e, fz, hb, fun i x hx => let ⟨v, h1, h2, h3⟩ := hc i x hx; ⟨v, h1, h2.mono hm, h3⟩, ho⟩
  | map l =>
    obtain ⟨es, ck, hb, hc, ho⟩ := h
    exact ⟨es, ck, hb, forall2_imp_mem hc fun x y _ h => ⟨h.1.mono hm, h.2.mono hm⟩, ho⟩

theorem ORel.alloc {o : AObj} {L : Loc} {w : World} (h : ORel B m o L w) (ob : Obj) : ORel B m o L (w.alloc ob) := by
  cases o with
  | cells l own =>
    obtain ⟨c, e, fz, hb, hc, ho⟩ := h
    refine ⟨c, e, fz, ?_, hc, ho⟩
    have hlt : L.block < w.heap.size := by
      rcases Nat.lt_or_ge L.block w.heap.size with h' | h'
      · exact h'
      · rw [Array.getElem?_eq_none h'] at hb; cases hb
    rw [Below.heap_alloc _ _ _ hlt]; exact hb
  | map l =>
    obtain ⟨es, ck, hb, hc, ho⟩ := h
    refine ⟨es, ck, ?_, hc, ho⟩
    have hlt : L.block < w.heap.size := by
      rcases Nat.lt_or_ge L.block w.heap.size with h' | h'
      · exact h'
      · rw [Array.getElem?_eq_none h'] at hb; cases hb
    rw [Below.heap_alloc _ _ _ hlt]; exact hb

theorem ORel.lt {o : AObj} {L : Loc} {w : World} (h : ORel B m o L w) : L.block < w.heap.size := by
  cases o with
  | cells l own =>
    obtain ⟨c, e, fz, hb, _, _⟩ := h
    rcases Nat.lt_or_ge L.block w.heap.size with h' | h'
    · exact h'
    · rw [Array.getElem?_eq_none h'] at hb; cases hb
  | map l =>
    obtain ⟨es, ck, hb, _, _⟩ := h
    rcases Nat.lt_or_ge L.block w.heap.size with h' | h'
    · exact h'
    · rw [Array.getElem?_eq_none h'] at hb; cases hb

theorem SRel.new (hS : SRel w0 B m H w) {cs : List AVal} {vs rest : List Value} (hv : All2 (VRel m) cs vs) (h1 : ∀ x, x ∈ vs → x.oneCell' = true) (e : TypeId) (fz : Nat × Nat) (hf : Free (vs ++ rest).toArray fz) (ob : Obj)
    (hob : ob = .cells (vs ++ rest).toArray e fz) :
    SRel w0 B (m.ext ⟨w.heap.size, 0, (vs ++ rest).length⟩) (H.new (.cells cs true)) (w.alloc ob) := by
  subst hob
  refine ⟨hS.below.alloc hS.free _, hS.size, by simp [AHeap.new, Inj.ext, hS.next], ?_, ?_, fun id t ht => ⟨((m.le_ext _).2 id (hS.ty id t ht).1).1, by rw [Inj.ext_old m _ (hS.ty id t ht).1]; exact (hS.ty id t ht).2.alloc _⟩⟩
  · intro id o ho
    simp only [AHeap.new] at ho
    by_cases he : id = H.next
    · subst he
      simp at ho
      subst ho
      rw [hS.next]
      refine ⟨Inj.ext_has m _, ?_⟩
      rw [Inj.ext_new]
      refine ⟨(vs ++ rest).toArray, e, fz, ?_, ?_, ?_⟩
      · show (w.heap.push _)[w.heap.size]? = _
        simp
      · intro i x hx
        obtain ⟨v, hv', hr⟩ := forall2_get hv i x hx
        refine ⟨v, ?_, hr.mono (m.le_ext _), h1 v (List.mem_of_getElem? hv')⟩
        have hlt : i < vs.length := by
          rcases Nat.lt_or_ge i vs.length with h' | h'
          · exact h'
          · rw [List.getElem?_eq_none h'] at hv'; cases hv'
        simp [List.getElem?_append_left hlt, hv']
      · intro _
        exact ⟨hS.free, by simp, hf⟩
    · simp [he] at ho
      obtain ⟨h1', h2'⟩ := hS.obj id o ho
      refine ⟨((m.le_ext _).2 id h1').1, ?_⟩
      rw [Inj.ext_old m _ h1']
      exact (h2'.mono (m.le_ext _)).alloc _
  · have key : ∀ k ok, (H.new (.cells cs true)).obj k = some ok → k ≠ H.next → H.obj k = some ok ∧ m.has k := by
      intro k ok hk hne
      simp [AHeap.new, hne] at hk
      exact ⟨hk, (hS.obj k ok hk).1⟩
    intro a b o o' ha hb hown hab
    by_cases hea : a = H.next
    · have hbn : b ≠ H.next := fun h => hab (hea.trans h.symm)
      obtain ⟨hb', hbl⟩ := key b o' hb hbn
      rw [hea, hS.next, Inj.ext_new, Inj.ext_old m _ hbl]
      have := (hS.obj b o' hb').2.lt
      intro h; simp at h; omega
    · obtain ⟨ha', hal⟩ := key a o ha hea
      by_cases heb : b = H.next
      · rw [heb, hS.next, Inj.ext_new, Inj.ext_old m _ hal]
        have := (hS.obj a o ha').2.lt
        intro h; simp at h; omega
      · obtain ⟨hb', hbl⟩ := key b o' hb heb
        rw [Inj.ext_old m _ hal, Inj.ext_old m _ hbl]
        exact hS.apart a b o o' ha' hb' hown hab

theorem SRel.newMap (hS : SRel w0 B m H w) : SRel w0 B (m.ext ⟨w.heap.size, 0, 0⟩) (H.new (.map [])) (w.alloc (.map #[] 0)) := by
  refine ⟨hS.below.alloc hS.free _, hS.size, by simp [AHeap.new, Inj.ext, hS.next], ?_, ?_, fun id t ht => ⟨((m.le_ext _).2 id (hS.ty id t ht).1).1, by rw [Inj.ext_old m _ (hS.ty id t ht).1]; exact (hS.ty id t ht).2.alloc _⟩⟩
  · intro id o ho
    simp only [AHeap.new] at ho
    by_cases he : id = H.next
    · subst he
      simp at ho
      subst ho
      rw [hS.next]
      refine ⟨Inj.ext_has m _, ?_⟩
      rw [Inj.ext_new]
      refine ⟨#[], 0, ?_, .nil, hS.free⟩
      show (w.heap.push _)[w.heap.size]? = _
      simp
    · simp [he] at ho
      obtain ⟨h1', h2'⟩ := hS.obj id o ho
      refine ⟨((m.le_ext _).2 id h1').1, ?_⟩
      rw [Inj.ext_old m _ h1']
      exact (h2'.mono (m.le_ext _)).alloc _
  · have key : ∀ k ok, (H.new (.map [])).obj k = some ok → k ≠ H.next → H.obj k = some ok ∧ m.has k := by
      intro k ok hk hne
      simp [AHeap.new, hne] at hk
      exact ⟨hk, (hS.obj k ok hk).1⟩
    intro a b o o' ha hb hown hab
    by_cases hea : a = H.next
    · have hbn : b ≠ H.next := fun h => hab (hea.trans h.symm)
      obtain ⟨hb', hbl⟩ := key b o' hb hbn
      rw [hea, hS.next, Inj.ext_new, Inj.ext_old m _ hbl]
      have := (hS.obj b o' hb').2.lt
      intro h; simp at h; omega
    · obtain ⟨ha', hal⟩ := key a o ha hea
      by_cases heb : b = H.next
      · rw [heb, hS.next, Inj.ext_new, Inj.ext_old m _ hal]
        have := (hS.obj a o ha').2.lt
        intro h; simp at h; omega
      · obtain ⟨hb', hbl⟩ := key b o' hb heb
        rw [Inj.ext_old m _ hal, Inj.ext_old m _ hbl]
        exact hS.apart a b o o' ha' hb' hown hab

theorem SRel.setMap (hS : SRel w0 B m H w) {id : Nat} {l l' : List (AVal × AVal)} (h : H.obj id = some (.map l)) {es' : Array MapEntry} (ck' : Nat) (hr : All2 (fun (p : AVal × AVal) (e : MapEntry) => VRel m p.1 e.key ∧ VRel m p.2 e.val) l' es'.toList) :
    SRel w0 B m (H.set id (.map l')) { w with heap := w.heap.setIfInBounds (m.loc id).block (.map es' ck') } := by
  obtain ⟨hid, es, ck, hb, hc, hB⟩ := hS.obj id _ h
  have hlt : (m.loc id).block < w.heap.size := (Array.getElem?_eq_some_iff.1 hb).1
  refine ⟨?_, hS.size, hS.next, ?_, ?_, fun id' t ht => ⟨(hS.ty id' t ht).1, (hS.ty id' t ht).2.same (by
    obtain ⟨_, c, hc', _⟩ := (hS.ty id' t ht).2
    have hne : (m.loc id).block ≠ (m.loc id').block := fun e => by rw [e, hc'] at hb; cases hb
    exact Array.getElem?_setIfInBounds_ne hne)⟩⟩
  · refine hS.below.trans ⟨rfl, rfl, rfl, by simp, fun k hk => ?_⟩
    show (w.heap.setIfInBounds _ _)[k]? = _
    rw [Array.getElem?_setIfInBounds_ne (by intro he; rw [← he, hB] at hk; cases hk)]
  · intro id' o' ho'
    simp only [AHeap.set] at ho'
    by_cases he : id' = id
    · subst he
      simp at ho'
      subst ho'
      refine ⟨hid, es', ck', ?_, hr, hB⟩
      show (w.heap.setIfInBounds _ _)[_]? = _
      simp [hlt]
    · simp [he] at ho'
      obtain ⟨h1', h2'⟩ := hS.obj id' o' ho'
      refine ⟨h1', ?_⟩
      have hne := hS.apart id id' _ _ h ho' rfl (Ne.symm he)
      have hk : (w.heap.setIfInBounds (m.loc id).block (.map es' ck'))[(m.loc id').block]? = w.heap[(m.loc id').block]? := Array.getElem?_setIfInBounds_ne hne
      cases o' with
      | cells l' own' =>
        obtain ⟨c', e', fz', hb', hc', ho''⟩ := h2'
        exact ⟨c', e', fz', by show (w.heap.setIfInBounds _ _)[_]? = _; rw [hk]; exact hb', hc', ho''⟩
      | map l' =>
        obtain ⟨es2, ck2, hb', hc', ho''⟩ := h2'
        exact ⟨es2, ck2, by show (w.heap.setIfInBounds _ _)[_]? = _; rw [hk]; exact hb', hc', ho''⟩
  · intro a b o o' ha hb' hown hab
    have key : ∀ k ok, (H.set id (.map l')).obj k = some ok → ∃ ok', H.obj k = some ok' ∧ ok'.own = ok.own := by
      intro k ok hk
      simp only [AHeap.set] at hk
      by_cases he : k = id
      · subst he; simp at hk; subst hk; exact ⟨_, h, rfl⟩
      · simp [he] at hk; exact ⟨ok, hk, rfl⟩
    obtain ⟨oa, h1a, h2a⟩ := key a o ha
    obtain ⟨ob, h1b, _⟩ := key b o' hb'
    exact hS.apart a b oa ob h1a h1b (h2a.trans hown) hab

theorem SRel.del (hS : SRel w0 B m H w) (id : Nat) : SRel w0 B m (H.del id) w := by
  have key : ∀ k ok, (H.del id).obj k = some ok → H.obj k = some ok := by
    intro k ok hk
    simp only [AHeap.del] at hk
    by_cases he : k = id
    · simp [he] at hk
    · simpa [he] using hk
  exact ⟨hS.below, hS.size, hS.next, fun k o h => hS.obj k o (key k o h), fun a b o o' ha hb => hS.apart a b o o' (key _ _ ha) (key _ _ hb), fun id' t ht => hS.ty id' t (by
    simp only [AHeap.del] at ht
    split at ht
    · cases ht
    · exact ht)⟩
theorem SRel.tag (hS : SRel w0 B m H w) {id : Nat} {t : TypeId × Option Nat} (hid : m.has id) (ht : TyAt (m.loc id) t w) : SRel w0 B m (H.tag id t) w :=
  ⟨hS.below, hS.size, hS.next, hS.obj, hS.apart, fun id' t' h' => by
    simp only [AHeap.tag] at h'
    split at h'
    · rename_i e; subst e; cases h'; exact ⟨hid, ht⟩
    · exact hS.ty id' t' h'⟩

end Go.Proofs.Ytfmjdlahabgkpaa.Am
end

section
/- A program's operations, resolved against its type table, into the abstract machine's code. -/
namespace Go.Proofs.Ytfmjdlahabgkpaa.Am
open Go Go.RowKit

def cval1 : Value → Option AVal
  | .bool b => some (.bool b)
  | .int k n => some (.int k n)
  | .float k b => some (.flt k b)
  | .string s => some (.str s.data.toList)
  | .pointer none => some .nilp
  | .slice none 0 0 => some .nils
  | .map none => some .nilm
  | .nilFunc => some .nilFunc
  | .nilIface => some .nilIface
  | _ => none

def cvals : List Value → Option (List AVal)
  | [] => some []
  | v :: l => (cval1 v).bind fun x => (cvals l).map fun r => x :: r

def cval : Value → Option AVal
  | .agg c => (cvals c.toList).map .agg
  | .tuple c => (cvals c.toList).map .tuple
  | v => cval1 v

def copd (nt : Nat) : Operand → Option AOpd
  | .tmp t => if t < nt then some (.tmp t) else none
  | .const v => (cval v).map .con
  | .func f => some (.con (.func f [] []))
  | .global _ => none

def copds (nt : Nat) : List Operand → Option (List AOpd)
  | [] => some []
  | x :: l => (copd nt x).bind fun y => (copds nt l).map fun r => y :: r

def copdo (nt : Nat) : Option Operand → Option (Option AOpd)
  | none => some none
  | some x => (copd nt x).map some

def tsize (P : Program) (t : TypeId) : Option Nat := (P.info? t).map (·.size)
def tbytes (P : Program) (t : TypeId) : Option Nat := (P.info? t).map (·.bytes)
def tagg (P : Program) (t : TypeId) : Option Bool := (P.underlying t).map fun d => match d with
  | .struct _ => true
  | .array _ _ => true
  | _ => false
def tzero (P : Program) (t : TypeId) : Option (List AVal) := ((P.info? t).bind (·.zero)).bind fun z => cvals z.cells.toList

def cparts (nt : Nat) (place : Nat → Option (Nat × Nat)) : List (Nat × Operand) → Option (List (Nat × Nat × AOpd))
  | [] => some []
  | (i, x) :: l => (place i).bind fun (o, n) => (copd nt x).bind fun y => (cparts nt place l).map fun r => (o, n, y) :: r

def cplaces (P : Program) : List Field → Option (List (Nat × Nat))
  | [] => some []
  | f :: l => (tsize P f.type).bind fun n => (cplaces P l).map fun r => (f.offset, n) :: r

def cflds (P : Program) (c : TypeId → Option EqT) : List Field → Option EqT
  | [] => some .fend
  | f :: l => if f.name = "_" then none else (tsize P f.type).bind fun n => (tagg P f.type).bind fun a => (c f.type).bind fun q => (cflds P c l).map fun r => .fld f.offset n a q r

def ceqt (P : Program) : Nat → TypeId → Option EqT
  | 0, _ => none
  | d + 1, t => (P.underlying t).bind fun u => match u with
    | .int k => some (.int k)
    | .string => some .str
    | .bool => some .bool
    | .pointer _ => some (.nil .p)
    | .slice _ => some (.nil .s)
    | .map _ _ => some (.nil .m)
    | .func _ _ _ => some (.nil .f)
    | .struct fs => if P.stoodInHeld t || P.eqGuardType P.depth t then none else cflds P (ceqt P d) fs.toList
    | .array n e => if P.eqGuardType P.depth t then none else (tsize P e).bind fun es => (tagg P e).bind fun a => (ceqt P d e).map fun q => .array n es a q
    | _ => none

def cbin (P : Program) (nt : Nat) (op : BinOp) (t : TypeId) (x y : Operand) : Option AOp :=
  (copd nt x).bind fun x' => (copd nt y).bind fun y' => (P.underlying t).bind fun u =>
  match u with
  | .int _ => some (.bin op x' y')
  | .string => some (.bin op x' y')
  | .float _ => some (.bin op x' y')
  | _ => match op with
    | .eql => (ceqt P 12 t).map fun q => .eq false q x' y'
    | .neq => (ceqt P 12 t).map fun q => .eq true q x' y'
    | _ => none

def cconv (P : Program) (nt : Nat) (src dst : TypeId) (x : Operand) : Option AOp :=
  (copd nt x).bind fun x' => (P.underlying src).bind fun s => (P.underlying dst).bind fun d =>
  match s, d with
  | .int _, .int k => some (.toInt k x')
  | .int _, .float .f64 => some (.iToF x')
  | .float .f64, .int k => some (.fToI k x')
  | .string, .string => some (.idS x')
  | .string, .slice e => (P.underlying e).bind fun u => match u with
    | .int .u8 => some (.sToB x')
    | _ => none
  | .slice e, .string => (P.underlying e).bind fun u => match u with
    | .int .u8 => some (.bToS x')
    | _ => none
  | _, _ => none

def cslice (P : Program) (nt : Nat) (t : TypeId) (x : Operand) (lo hi mx : Option Operand) : Option AOp :=
  (copd nt x).bind fun x' => (copdo nt lo).bind fun lo' => (copdo nt hi).bind fun hi' => (copdo nt mx).bind fun mx' => (P.underlying t).bind fun u =>
  match u with
  | .array n e => (tsize P e).map fun es => .slcArr n es x' lo' hi' mx'
  | .string => if mx.isSome then none else some (.slcStr x' lo' hi')
  | .slice e => (tsize P e).map fun es => .slc es x' lo' hi' mx'
  | .pointer arr => (P.underlying arr).bind fun a => match a with
    | .array n e => (tsize P e).map fun es => .slcArr n es x' lo' hi' mx'
    | _ => none
  | _ => none

def cbuiltin (P : Program) (b : Builtin) (argTypes : List TypeId) (args : List AOpd) : Option AOp :=
  match b, argTypes, args with
  | .len, [t], [x] => (P.underlying t).bind fun u => match u with
    | .string => some (.len true x)
    | .slice _ => some (.len false x)
    | .array n _ => some (.lenC n)
    | .map _ _ => some (.lenM x)
    | .pointer arr => (P.underlying arr).bind fun a => match a with
      | .array n _ => some (.lenC n)
      | _ => none
    | _ => none
  | .append, [t, t'], [s, x] => (P.underlying t).bind fun u => (P.underlying t').bind fun u' => match u, u' with
    | .slice e, .string => (tsize P e).bind fun es => (tbytes P e).bind fun bs => (tzero P e).bind fun z => if z.length = es then some (.append es bs s x) else none
    | .slice e, .slice _ => (tsize P e).bind fun es => (tbytes P e).bind fun bs => (tzero P e).bind fun z => if z.length = es then some (.append es bs s x) else none
    | .slice e, .int _ => (tsize P e).bind fun es => (tbytes P e).bind fun bs => (tzero P e).bind fun z => if z.length = es then some (.appendZ es bs z s x) else none
    | _, _ => none
  | .copy, [t, _], [d, s] => (P.underlying t).bind fun u => match u with
    | .slice e => (tsize P e).map fun es => .copy es d s
    | _ => none
  | .clear, [t], [x] => (P.underlying t).bind fun u => match u with
    | .slice e => (tsize P e).bind fun es => (tzero P e).bind fun z => if z.length = es then some (.clearS es z x) else none
    | _ => none
  | .min, _, l => some (.minmax false l)
  | .max, _, l => some (.minmax true l)
  | .cap, [t], [x] => (P.underlying t).bind fun u => match u with
    | .slice _ => some (.cap x)
    | _ => none
  | .unsafeSliceData, [_], [x] => some (.sdata x)
  | .unsafeString, [t, _], [x, n] => (P.underlying t).bind fun u => match u with
    | .pointer e => if P.cellsOf e = 1 then some (.ustr e x n) else none
    | _ => none
  | _, _, _ => none

def isBld (P : Program) (t : TypeId) : Bool := match P.underlying t with
  | some (.struct fs) => match fs.toList with
    | [f, g] => f.name == "addr" && g.name == "buf"
    | _ => false
  | _ => false
def asksOvl (P : Program) (e : TypeId) : Bool := P.funcs.toList.any fun fn => fn.origin == "slices.overlaps" && (match fn.params.toList with
  | t :: _ => match P.underlying t with
    | some (.slice e') => e' == e
    | _ => false
  | _ => false)

def keyT : TypeDesc → Option KeyT
  | .int k => some (.int k)
  | .string => some .str
  | _ => none
def czero (P : Program) (t : TypeId) : Option AVal := ((P.info? t).bind (·.zero)).bind cval

def cop (P : Program) (nt : Nat) (o : Op) : Option AOp :=
  match o with
  | .makeMap _ r => match r with
    | none => some .mkMap
    | some _ => none
  | .lookup t x k ok => (P.underlying t).bind fun u => match u with
    | .map kty e => (P.underlying kty).bind fun ku => (keyT ku).bind fun kt => (czero P e).bind fun z => if z.tup then none else (copd nt x).bind fun x' => (copd nt k).map fun k' => .mapGet ok kt z x' k'
    | _ => none
  | .mapUpdate t x k v => (P.underlying t).bind fun u => match u with
    | .map kty _ => (P.underlying kty).bind fun ku => (keyT ku).bind fun kt => (copd nt x).bind fun x' => (copd nt k).bind fun k' => (copd nt v).map fun v' => .mapSet kt x' k' v'
    | _ => none
  | .move x => (copd nt x).map .mv
  | .assign x => (copd nt x).map .mv
  | .pick c a b => (copd nt c).bind fun c' => (copd nt a).bind fun a' => (copd nt b).map fun b' => .pick c' a' b'
  | .alloc t => (tzero P t).map fun z => if isBld P t then .newT t z else .new z
  | .box _ x => (copd nt x).map .box
  | .build t parts => (tzero P t).bind fun z => (P.underlying t).bind fun u => match u with
    | .struct fs => (cplaces P fs.toList).bind fun ps => (cparts nt (fun i => ps[i]?) parts.toList).map fun q => .build z q
    | .array _ e => (tsize P e).bind fun es => (cparts nt (fun i => some (i * es, es)) parts.toList).map fun q => .build z q
    | _ => none
  | .buildSlice t len parts => (P.underlying t).bind fun u => match u with
    | .slice e => (tsize P e).bind fun es => (tzero P e).bind fun z => if z.length = es ∧ 0 < es ∧ len * es ≤ 16777216 then
        (cparts nt (fun i => some (i * es, es)) parts.toList).map fun q => if asksOvl P e then .buildT e len (arep z len) q else .buildS len (arep z len) q else none
    | _ => none
  | .load t a => (tagg P t).bind fun g => (tsize P t).bind fun n => (copd nt a).map fun a' => .load g n a'
  | .store t a x => (tsize P t).bind fun n => (copd nt a).bind fun a' => (copd nt x).map fun x' => .store n a' x'
  | .nilCheck x => (copd nt x).map .nilck
  | .binOp op t x y _ => cbin P nt op t x y
  | .unOp op _ x => (copd nt x).map fun x' => .un op x'
  | .convert s d x => cconv P nt s d x
  | .makeFunc fn first captured => match fn with
    | .func f => (copds nt first.toList).bind fun a => (copds nt captured.toList).map fun b => .mkFn f a b
    | _ => none
  | .makeSlice t l c => (P.underlying t).bind fun u => match u with
    | .slice e => (tsize P e).bind fun es => (tbytes P e).bind fun bs => (tzero P e).bind fun z => if z.length = es then
        (copd nt l).bind fun l' => (copd nt c).map fun c' => .mkS es bs z l' c' else none
    | _ => none
  | .slice t x lo hi mx => cslice P nt t x lo hi mx
  | .fieldAddr t x f => (P.underlying t).bind fun u => match u with
    | .struct fs => (fs[f]?).bind fun fd => (tsize P fd.type).bind fun n => if n = 0 then none else (copd nt x).map fun x' => .fieldA fd.offset x'
    | _ => none
  | .field t x f => (P.underlying t).bind fun u => match u with
    | .struct fs => (fs[f]?).bind fun fd => (tsize P fd.type).bind fun n => (tagg P fd.type).bind fun g => (copd nt x).map fun x' => .field fd.offset n g x'
    | _ => none
  | .indexAddr t x i => (P.underlying t).bind fun u => (copd nt x).bind fun x' => (copd nt i).bind fun i' => match u with
    | .array n e => (tsize P e).map fun es => .idxAArr n es x' i'
    | .slice e => (tsize P e).map fun es => .idxASl es x' i'
    | _ => none
  | .index t x i => (P.underlying t).bind fun u => (copd nt x).bind fun x' => (copd nt i).bind fun i' => match u with
    | .array n e => (tsize P e).bind fun es => (tagg P e).map fun g => .idxArr n es g x' i'
    | .string => some (.idxStr x' i')
    | _ => none
  | .extract x i => (copd nt x).map fun x' => .extract x' i
  | .makeInterface t x => (P.underlying t).bind fun u => match u with
    | .interface _ => none
    | _ => (copd nt x).map fun x' => .mkIface t x'
  | .call { callee := .builtin b, args, argTypes } => (copds nt args.toList).bind fun as => cbuiltin P b argTypes.toList as
  | _ => none

def AOp.isCall : AOp → Bool
  | .call _ _ => true
  | _ => false

def ccall (nt : Nat) : Op → Option (Option AOp)
  | .call { callee := .value f, args, .. } => some ((copd nt f).bind fun f' => (copds nt args.toList).map fun as => .call f' as)
  | _ => none

def cextern (P : Program) (nt : Nat) : Op → Option AOp
  | .call { callee := .value (.func f), args, .. } => (P.funcs[f]?).bind fun fn => if fn.body.isNone = true then
      (match args.toList with
       | [x] => if fn.origin = "" then (copd nt x).bind fun x' => if fn.name = "math.Float64bits" then some (.fbits x') else if fn.name = "math.Float64frombits" then some (.ofBits x') else if fn.name = "math.archFloor" then some (.ffloor x') else none else none
       | [x, y] => if fn.origin = "slices.overlaps" ∧ (Extern.allGenericRows.lookup fn.name).isNone = true ∧ (Extern.allTypedRows.lookup fn.name).isNone = true ∧ (Extern.allRows.lookup fn.name).isNone = true ∧ (Extern.allNextRows.lookup fn.name).isNone = true ∧ (fn.name == "runtime.NumGoroutine") = false then
           (match fn.params.toList, fn.resultTypes.toList with
            | [t, t'], [_] => if t = t' then (P.underlying t).bind fun u => match u with
              | .slice e => (tsize P e).bind fun _ => (copd nt x).bind fun x' => (copd nt y).map fun y' => .ovl x' y'
              | _ => none else none
            | _, _ => none) else none
       | _ => none) else none
  | _ => none

def copc1 (P : Program) (nt : Nat) (o : Op) : Option AOp :=
  match ccall nt o with
  | some r => r
  | none => (cop P nt o).bind fun a => if a.isCall then none else some a

def copc0 (P : Program) (nt : Nat) (o : Op) : Option AOp :=
  match cextern P nt o with
  | some a => some a
  | none => copc1 P nt o

def bldPos (s : String) : Bool := s == "builder.go:114" || s == "builder.go:95" || s == "builder.go:87"
def tagOp (P : Program) (o : Oper) (a : AOp) : AOp :=
  match a with
  | .append 1 1 s x => if bldPos o.pos then (match o.op with
    | .call { argTypes, .. } => match argTypes.toList with
      | [t, _] => match P.underlying t with
        | some (.slice e) => .appendT e 1 1 s x
        | _ => a
      | _ => a
    | _ => a) else a
  | _ => a
def copc (P : Program) (nt : Nat) (o : Oper) : Option AOp := some (tagOp P o ((copc0 P nt o.op).getD .die))
def dead : ACode := .region [{ dst := none, op := .die, guard := none }]

def AOp.eff : AOp → Bool
  | .new _ | .box _ | .buildS .. | .store .. | .sToB _ | .mkS .. | .append .. | .appendZ .. | .copy .. | .clearS .. | .mkMap | .mapGet .. | .mapSet .. | .lenM _ | .call .. => true
  | .newT .. | .buildT .. | .appendT .. | .ovl .. | .ustr .. => true
  | _ => false
def AOp.fresh : AOp → Bool
  | .new _ | .box _ | .buildS .. => true
  | _ => false
def AOp.reads : AOp → Bool
  | .load .. | .bToS _ => true
  | _ => false

def cguard (ops : Array Oper) (nt : Nat) : Option (Nat × Bool) → Option (Option (Nat × Bool))
  | none => some none
  | some (j, w) => match (ops[j]?).bind (·.dst) with
    | some d => if d < nt then some (some (d, w)) else none
    | none => none

def cdst (nt : Nat) : Option Nat → Bool
  | none => true
  | some d => d < nt

def coper (P : Program) (ops : Array Oper) (nt : Nat) (o : Oper) : Option AOper :=
  if cdst nt o.dst then (copc P nt o).bind fun a => (cguard ops nt o.guard).map fun g => { dst := o.dst, op := a, guard := g, rd := none } else none

def copers (P : Program) (ops : Array Oper) (nt : Nat) : List Oper → Option (List AOper)
  | [] => some []
  | o :: l => (coper P ops nt o).bind fun a => (copers P ops nt l).map fun r => a :: r

def AOpd.t? : AOpd → Option Nat
  | .tmp t => some t
  | .con _ => none

def AOp.opds : AOp → List AOpd
  | .mv x | .box x | .load _ _ x | .nilck x | .un _ x | .toInt _ x | .iToF x | .fToI _ x | .fbits x | .ofBits x | .ffloor x | .sToB x | .bToS x | .idS x | .fieldA _ x | .field _ _ _ x | .extract x _ | .len _ x | .cap x | .clearS _ _ x | .mkIface _ x => [x]
  | .new _ | .newT .. | .lenC _ | .die | .mkMap => []
  | .sdata x => [x]
  | .ovl x y | .appendT _ _ _ x y | .ustr _ x y => [x, y]
  | .buildT _ _ _ ps => ps.map fun p => p.2.2
  | .mapGet _ _ _ x k => [x, k]
  | .mapSet _ x k v => [x, k, v]
  | .lenM x => [x]
  | .pick c a b => [c, a, b]
  | .build _ ps | .buildS _ _ ps => ps.map fun p => p.2.2
  | .store _ a x | .bin _ a x | .eq _ _ a x | .mkS _ _ _ a x | .idxAArr _ _ a x | .idxASl _ a x | .idxArr _ _ _ a x | .idxStr a x | .append _ _ a x | .appendZ _ _ _ a x | .copy _ a x => [a, x]
  | .mkFn _ l k => l ++ k
  | .slcStr x lo hi => [x] ++ lo.toList ++ hi.toList
  | .slc _ x lo hi mx | .slcArr _ _ x lo hi mx => [x] ++ lo.toList ++ hi.toList ++ mx.toList
  | .minmax _ l => l
  | .call f l => f :: l

def AOper.looks (x : AOper) : List Nat := x.op.opds.filterMap AOpd.t? ++ (x.guard.map (·.1)).toList

/-! In a region that draws its order: the operations that may change the memory stand in one order, and no temporary is named by two operations of which one writes it, unless they do. 'b': for each operation the ones that come before it whatever the order, as bits. -/
def effb (al : List AOper) (j : Nat) : Bool := ((al[j]?).map (·.op.eff)).getD false
def hardb (al : List AOper) (j : Nat) : Bool := ((al[j]?).map fun x => x.op.eff && !x.op.fresh).getD false

def chained (al : List AOper) (b : Nat → Nat) : Bool :=
  (List.range al.length).all fun j => !hardb al j || (List.range j).all fun i => !effb al i || (b j).testBit i

def tempsOk (al : List AOper) (b : Nat → Nat) : Bool :=
  al.zipIdx.all fun (x, i) => match x.dst with
    | none => true
    | some d => al.zipIdx.all fun (y, j) => i == j || !(y.looks.contains d || y.dst == some d) || (b (max i j)).testBit (min i j)

def edgesOk (ops : List Oper) : Bool := ops.zipIdx.all fun (o, i) => o.after.all fun e => !Region.binds .any e || e.on < i

def stagesOf (al : List AOper) (b : Nat → Nat) (j : Nat) : Nat × Nat :=
  (((List.range al.length).takeWhile fun i => !effb al i || (b j).testBit i).countP fun i => effb al i,
   ((List.range al.length).takeWhile fun i => !(effb al i && (b i).testBit j)).countP fun i => effb al i)

def rdOf (al : List AOper) (b : Nat → Nat) (x : AOper) (j : Nat) : Option (Nat × Nat) :=
  if x.op.reads then (if (stagesOf al b j).1 = (stagesOf al b j).2 then none else some (stagesOf al b j)) else none

def withRds (al : List AOper) (b : Nat → Nat) : List AOper := al.zipIdx.map fun (x, j) => { x with rd := rdOf al b x j }

def drawOf (ops : Array Oper) (al : List AOper) (b : List Nat) : Option ACode :=
  if edgesOk ops.toList && chained (withRds al (fun i => b.getD i 0)) (fun i => b.getD i 0) && tempsOk (withRds al (fun i => b.getD i 0)) (fun i => b.getD i 0) then some (.draw (withRds al (fun i => b.getD i 0))) else none

def ccode (P : Program) (nt : Nat) (rok : Bool) : Code → Option ACode
  | .skip => some .skip
  | .region _ ops false => some (((copers P ops nt ops.toList).map ACode.region).getD dead)
  | .region _ ops true => some (((copers P ops nt ops.toList).bind fun al => drawOf ops al (CheckFast.beforeF ops).toList).getD dead)
  | .seq a b => (ccode P nt rok a).bind fun x => (ccode P nt rok b).map fun y => .seq x y
  | .cond c a b => match copd nt c with
    | none => some dead
    | some c' => (ccode P nt rok a).bind fun x => (ccode P nt rok b).map fun y => .cond c' x y
  | .block id a => (ccode P nt rok a).map fun x => .block id x
  | .loop a => (ccode P nt rok a).map .loop
  | .exit id => some (.exit id)
  | .ret => some .ret
  | .rangeFunc g ps assign body => if rok = true ∧ ps.toList.all (fun t => decide (t < nt)) = true then
      (match copd nt g with
       | none => some dead
       | some f => (ccode P nt false assign).bind fun x => (ccode P nt false body).map fun y => .range f ps.toList x y) else some dead
  | _ => some dead

def cres (P : Program) (nt : Nat) : List ResultVar → Option (List ARes)
  | [] => some []
  | .tmp t :: l => if t < nt then (cres P nt l).map fun r => .tmp t :: r else none
  | .cell a t :: l => if a < nt then (tagg P t).bind fun g => (tsize P t).bind fun n => (cres P nt l).map fun r => .cell a g n :: r else none

def cfn (P : Program) (f : FuncId) : Option AFn :=
  (P.funcs[f]?).bind fun fn => if fn.name = "runtime.NumGoroutine" then none else fn.body.bind fun c => (ccode P fn.ntmps true c).bind fun a => (cres P fn.ntmps fn.results.toList).map fun r => { body := a, results := r }

end Go.Proofs.Ytfmjdlahabgkpaa.Am
end

section
/- What a call made besides its answer is left behind: the answer's own objects are numbered anew. Calls that only look may be followed in the memory as it is, nothing of it to be written; calls on plain values in an empty one. -/
set_option linter.unusedSimpArgs false
set_option linter.unusedVariables false
namespace Go.Proofs.Ytfmjdlahabgkpaa.Am
open Go Go.RowKit

mutual
def plain : AVal → Bool
  | .bool _ | .int .. | .flt .. | .str _ | .nilp | .nils | .nilm | .nilFunc | .nilIface => true
  | .func _ f c => plains f && plains c
  | .iface _ v => plain v
  | .agg l | .tuple l => plains l
  | _ => false
def plains : List AVal → Bool
  | [] => true
  | v :: l => plain v && plains l
end

theorem plains_mem : ∀ {l : List AVal} {x : AVal}, plains l = true → x ∈ l → plain x = true
  | [], x, _, hx => by simp at hx
  | v :: l, x, h, hx => by
    simp only [plains, Bool.and_eq_true] at h
    rcases List.mem_cons.1 hx with rfl | hx
    · exact h.1
    · exact plains_mem h.2 hx

theorem VRel.plain {m m' : Inj} : ∀ (v : AVal) (v' : Value), Am.plain v = true → VRel m v v' → VRel m' v v'
  | .bool _, _, _, h => by cases h; exact .bool _
  | .int .., _, _, h => by cases h; exact .int _ _
  | .flt .., _, _, h => by cases h with
    | flt => exact .flt _ _
    | fltNan _ _ _ h1 h2 => exact .fltNan _ _ _ h1 h2
  | .str _, _, _, h => by cases h; exact .str _
  | .nilp, _, _, h => by cases h; exact .nilp
  | .nils, _, _, h => by cases h; exact .nils
  | .nilm, _, _, h => by cases h; exact .nilm
  | .func f first captured, _, hp, h => by
    simp only [Am.plain, Bool.and_eq_true] at hp
    cases h with
    | func _ _ _ _ _ h1 h2 => exact .func _ _ _ _ _ (forall2_imp_mem h1 fun x y hx => VRel.plain x y (plains_mem hp.1 hx)) (forall2_imp_mem h2 fun x y hx => VRel.plain x y (plains_mem hp.2 hx))
  | .nilFunc, _, _, h => by cases h; exact .nilFunc
  | .iface t v, _, hp, h => by
    simp only [Am.plain] at hp
    cases h with
    | iface _ _ _ h1 => exact .iface _ _ _ (VRel.plain v _ hp h1)
  | .nilIface, _, _, h => by cases h; exact .nilIface
  | .agg l, _, hp, h => by
    simp only [Am.plain] at hp
    cases h with
    | agg _ _ h1 h2 => exact .agg _ _ (forall2_imp_mem h1 fun x y hx => VRel.plain x y (plains_mem hp hx)) h2
  | .tuple l, _, hp, h => by
    simp only [Am.plain] at hp
    cases h with
    | tuple _ _ h1 => exact .tuple _ _ (forall2_imp_mem h1 fun x y hx => VRel.plain x y (plains_mem hp hx))
  | .ptr .., _, hp, _ => by simp [Am.plain] at hp
  | .slice .., _, hp, _ => by simp [Am.plain] at hp
  | .map _, _, hp, _ => by simp [Am.plain] at hp
  | .yield _, _, hp, _ => by simp [Am.plain] at hp
  | .junk, _, hp, _ => by simp [Am.plain] at hp
termination_by a _ _ _ => SizeOf.sizeOf a
decreasing_by all_goals simp_wf; (first | (have := List.sizeOf_lt_of_mem hx; omega) | omega)

def noH : AHeap := { obj := fun _ => none, next := 0 }

/-! ### Numbers of objects in a value; numbering anew -/
mutual
def AVal.ids : AVal → List Nat
  | .ptr id _ => [id]
  | .slice id _ _ _ _ => [id]
  | .map id => [id]
  | .yield id => [id]
  | .func _ f c => idsl f ++ idsl c
  | .iface _ v => v.ids
  | .agg l => idsl l
  | .tuple l => idsl l
  | _ => []
def idsl : List AVal → List Nat
  | [] => []
  | v :: l => v.ids ++ idsl l
end
mutual
def AVal.ren (σ : Nat → Nat) : AVal → AVal
  | .ptr id o => .ptr (σ id) o
  | .slice id o n c g => .slice (σ id) o n c g
  | .map id => .map (σ id)
  | .yield id => .yield (σ id)
  | .func f a b => .func f (renl σ a) (renl σ b)
  | .iface t v => .iface t (v.ren σ)
  | .agg l => .agg (renl σ l)
  | .tuple l => .tuple (renl σ l)
  | v => v
def renl (σ : Nat → Nat) : List AVal → List AVal
  | [] => []
  | v :: l => v.ren σ :: renl σ l
end
mutual
def AVal.old (n : Nat) : AVal → Bool
  | .ptr id _ => decide (id < n)
  | .slice id _ _ _ _ => decide (id < n)
  | .map id => decide (id < n)
  | .yield id => decide (id < n)
  | .func _ f c => oldl n f && oldl n c
  | .iface _ v => v.old n
  | .agg l => oldl n l
  | .tuple l => oldl n l
  | _ => true
def oldl (n : Nat) : List AVal → Bool
  | [] => true
  | v :: l => v.old n && oldl n l
end

theorem idsl_mem : ∀ {l : List AVal} {x : AVal} {i : Nat}, x ∈ l → i ∈ x.ids → i ∈ idsl l
  | [], x, i, hx, _ => by simp at hx
  | v :: l, x, i, hx, hi => by
    simp only [idsl, List.mem_append]
    rcases List.mem_cons.1 hx with rfl | hx
    · exact .inl hi
    · exact .inr (idsl_mem hx hi)

theorem renl_map (σ : Nat → Nat) : ∀ l : List AVal, renl σ l = l.map (AVal.ren σ)
  | [] => rfl
  | v :: l => by simp [renl, renl_map σ l]

theorem all2_ren {R S : AVal → Value → Prop} {f : AVal → AVal} : ∀ {l : List AVal} {l' : List Value}, All2 R l l' → (∀ x y, x ∈ l → R x y → S (f x) y) → All2 S (l.map f) l'
  | [], _, h, _ => by cases h; exact .nil
  | x :: l, _, h, hi => by
    cases h with
    | cons h1 h2 => exact .cons (hi _ _ (by simp) h1) (all2_ren h2 fun x y hx => hi x y (by simp [hx]))

theorem VRel.ren {m m1 : Inj} {σ : Nat → Nat} : ∀ (v : AVal) (v' : Value), (∀ i, i ∈ v.ids → m1.has (σ i) ∧ m1.loc (σ i) = m.loc i) → VRel m v v' → VRel m1 (v.ren σ) v'
  | .bool _, _, _, h => by cases h; exact .bool _
  | .int .., _, _, h => by cases h; exact .int _ _
  | .flt .., _, _, h => by cases h with
    | flt => exact .flt _ _
    | fltNan _ _ _ h1 h2 => exact .fltNan _ _ _ h1 h2
  | .str _, _, _, h => by cases h; exact .str _
  | .nilp, _, _, h => by cases h; exact .nilp
  | .nils, _, _, h => by cases h; exact .nils
  | .nilm, _, _, h => by cases h; exact .nilm
  | .func f first captured, _, hi, h => by
    simp only [AVal.ids, List.mem_append] at hi
    cases h with
    | func _ _ _ _ _ h1 h2 =>
      simp only [AVal.ren, renl_map]
      exact .func _ _ _ _ _ (all2_ren h1 fun x y hx => VRel.ren x y fun i h => hi i (.inl (idsl_mem hx h))) (all2_ren h2 fun x y hx => VRel.ren x y fun i h => hi i (.inr (idsl_mem hx h)))
  | .nilFunc, _, _, h => by cases h; exact .nilFunc
  | .iface t v, _, hi, h => by
    simp only [AVal.ids] at hi
    cases h with
    | iface _ _ _ h1 => exact .iface _ _ _ (VRel.ren v _ hi h1)
  | .nilIface, _, _, h => by cases h; exact .nilIface
  | .agg l, _, hi, h => by
    simp only [AVal.ids] at hi
    cases h with
    | agg _ _ h1 h2 =>
      simp only [AVal.ren, renl_map]
      exact .agg _ _ (all2_ren h1 fun x y hx => VRel.ren x y fun i h => hi i (idsl_mem hx h)) h2
  | .tuple l, _, hi, h => by
    simp only [AVal.ids] at hi
    cases h with
    | tuple _ _ h1 =>
      simp only [AVal.ren, renl_map]
      exact .tuple _ _ (all2_ren h1 fun x y hx => VRel.ren x y fun i h => hi i (idsl_mem hx h))
  | .ptr id off, _, hi, h => by
    obtain ⟨h1, h2⟩ := hi id (by simp [AVal.ids])
    cases h with
    | ptr _ _ h3 => rw [← h2]; exact .ptr _ _ h1
  | .slice id off len cap g, _, hi, h => by
    obtain ⟨h1, h2⟩ := hi id (by simp [AVal.ids])
    cases h with
    | slice _ _ _ _ _ a' c' k1 k0 k2 k3 k4 k5 => rw [← h2] at k4 k5; exact .slice _ _ _ _ _ _ _ h1 k0 k2 k3 k4 k5
  | .map id, _, hi, h => by
    obtain ⟨h1, h2⟩ := hi id (by simp [AVal.ids])
    cases h with
    | map _ h3 => rw [← h2]; exact .map _ h1
  | .yield id, _, hi, h => by
    obtain ⟨h1, h2⟩ := hi id (by simp [AVal.ids])
    cases h with
    | yield _ h3 => rw [← h2]; exact .yield _ h1
  | .junk, _, _, h => by cases h with | junk _ h1 h2 => exact .junk _ h1 h2
  | .any, _, _, h => by cases h with | any _ h1 => exact .any _ h1
termination_by a _ _ _ => SizeOf.sizeOf a
decreasing_by all_goals simp_wf; (first | (have := List.sizeOf_lt_of_mem hx; omega) | omega)

/-! ### What is kept -/
def AObj.ren (σ : Nat → Nat) : AObj → AObj
  | .cells l own => .cells (renl σ l) own
  | .map l => .map l

def frz (H : AHeap) : AHeap := { obj := fun i => match H.obj i with | some (.cells l _) => some (.cells l false) | _ => none, next := H.next }

def nub : List Nat → List Nat → List Nat
  | s, [] => s
  | s, x :: l => if x ∈ s then nub s l else nub (s ++ [x]) l

def okObj (n : Nat) (L : List Nat) : Option AObj → Bool
  | some (.cells l true) => (idsl l).all fun j => decide (j < n) || L.contains j
  | _ => false

def cellIds (n : Nat) : Option AObj → List Nat
  | some (.cells l _) => (idsl l).filter fun j => decide (n ≤ j)
  | _ => []

def sig (n b : Nat) (L : List Nat) (i : Nat) : Nat := if i < n then i else b + L.idxOf i

def addObj (σ : Nat → Nat) (H : AHeap) : Option AObj → AHeap
  | some o => H.new (o.ren σ)
  | none => H

def pack (n : Nat) (H : AHeap) (v : AVal) (H' : AHeap) (L : List Nat) : AVal × AHeap :=
  (v.ren (sig n H.next L), L.foldl (fun K i => addObj (sig n H.next L) K (H'.obj i)) H)

def shf (n b i : Nat) : Nat := if i < n then i else i - n + b

def keepObj (σ : Nat → Nat) : Option AObj → Option AObj
  | some (.cells l true) => some (.cells (renl σ l) true)
  | _ => none

def keepAll (n : Nat) (H : AHeap) (v : AVal) (H' : AHeap) : AVal × AHeap :=
  (v.ren (shf n H.next), ⟨fun i => if i < H.next then H.obj i else keepObj (shf n H.next) (H'.obj (i - H.next + n)), H.next + (H'.next - n), H.ty⟩)

def more (n : Nat) (H' : AHeap) (L : List Nat) : List Nat := nub L (L.flatMap fun i => cellIds n (H'.obj i))

def gc (n : Nat) (H : AHeap) (v : AVal) (H' : AHeap) : AVal × AHeap :=
  let L := nub [] (v.ids.filter fun j => decide (n ≤ j))
  if L.all fun i => okObj n L (H'.obj i) then pack n H v H' L
  else
    let L1 := more n H' L
    if L1.all fun i => okObj n L1 (H'.obj i) then pack n H v H' L1 else keepAll n H v H'

theorem SRel.stays {w0 w w' : World} {B : Nat → Bool} {m : Inj} {H : AHeap} (h : SRel w0 B m H w) (hb : Below w.heap.size w w') : SRel w0 B m H w' := by
  refine ⟨h.below.trans ((Keep.of hb).mono fun k hk => by have := h.size k hk; have := h.below.size; simp [lowK]; omega), h.size, h.next, ?_, h.apart, fun id t ht => ⟨(h.ty id t ht).1, (h.ty id t ht).2.same (hb.block _ (h.ty id t ht).2.lt)⟩⟩
  intro id o ho
  obtain ⟨h1, h2⟩ := h.obj id o ho
  refine ⟨h1, ?_⟩
  cases o with
  | cells l own =>
    obtain ⟨c, e, fz, hc, hr⟩ := h2
    refine ⟨c, e, fz, ?_, hr⟩
    rw [hb.block _ (Array.getElem?_eq_some_iff.1 hc).1]
    exact hc
  | map l =>
    obtain ⟨es, ck, hc, hr⟩ := h2
    refine ⟨es, ck, ?_, hr⟩
    rw [hb.block _ (Array.getElem?_eq_some_iff.1 hc).1]
    exact hc

theorem srel_none (w : World) : SRel w (lowK w.heap.size) { n := 0, loc := fun _ => ⟨0, 0, 0⟩ } noH w :=
  ⟨Keep.refl _ _, fun k hk => by simpa [lowK] using hk, rfl, fun id o h => by simp [noH] at h, fun i j o o' h => by simp [noH] at h, fun id t h => by simp [noH] at h⟩

theorem frz_inv {H : AHeap} {i : Nat} {o : AObj} (h : (frz H).obj i = some o) : ∃ l own, H.obj i = some (.cells l own) ∧ o = .cells l false := by
  simp only [frz] at h
  split at h
  · rename_i l own ho
    exact ⟨l, own, ho, by simpa using h.symm⟩
  · cases h

theorem srel_frz {w0 w : World} {B : Nat → Bool} {m : Inj} {H : AHeap} (h : SRel w0 B m H w) : SRel w (lowK w.heap.size) m (frz H) w := by
  refine ⟨Keep.refl _ _, fun k hk => by simpa [lowK] using hk, h.next, ?_, ?_, fun id t ht => by simp [frz] at ht⟩
  · intro id o ho
    obtain ⟨l, own, h1, rfl⟩ := frz_inv ho
    obtain ⟨h2, c, e, fz, h3, h4, _⟩ := h.obj id _ h1
    exact ⟨h2, c, e, fz, h3, h4, fun h => by cases h⟩
  · intro i j o o' hi hj hown
    obtain ⟨l, own, h1, rfl⟩ := frz_inv hi
    cases hown

theorem keep_sound {w0 w w' : World} {B : Nat → Bool} {n : Nat} {m m' : Inj} {H H' H1 : AHeap} {v : AVal} {v' : Value} {σ τ : Nat → Nat} (hS : SRel w0 B m H w)
    (hloc : ∀ i, i < n → m.has i ∧ m'.loc i = m.loc i) (hS' : SRel w (lowK w.heap.size) m' H' w') (hv : VRel m' v v')
    (ha : H.next ≤ H1.next) (hb : ∀ i o, i < H.next → H1.obj i = some o → H.obj i = some o)
    (hc : ∀ i o, H.next ≤ i → H1.obj i = some o → i < H1.next ∧ ∃ l, H'.obj (τ i) = some (.cells l true) ∧ o = .cells (renl σ l) true ∧ ∀ j, j ∈ idsl l → (j < n ∧ σ j = j) ∨ (H.next ≤ σ j ∧ σ j < H1.next ∧ τ (σ j) = j))
    (hd : ∀ i j o o', H.next ≤ i → H.next ≤ j → H1.obj i = some o → H1.obj j = some o' → i ≠ j → τ i ≠ τ j)
    (he : ∀ j, j ∈ v.ids → (j < n ∧ σ j = j) ∨ (H.next ≤ σ j ∧ σ j < H1.next ∧ τ (σ j) = j)) (hty : H1.ty = H.ty) :
    ∃ m1, m.le m1 ∧ SRel w0 B m1 H1 w' ∧ VRel m1 (v.ren σ) v' := by
  have hn := hS.next
  have hBw : ∀ k, B k = true → lowK w.heap.size k = true := fun k hk => by have := hS.size k hk; have := hS.below.size; simp [lowK]; omega
  let m1 : Inj := { n := H1.next, loc := fun i => if i < H.next then m.loc i else m'.loc (τ i) }
  have hlow : ∀ i, i < H.next → m1.loc i = m.loc i := fun i h => by simp [m1, h]
  have hhigh : ∀ i, H.next ≤ i → m1.loc i = m'.loc (τ i) := fun i h => by simp [m1, Nat.not_lt.2 h]
  have hgood : ∀ j, ((j < n ∧ σ j = j) ∨ (H.next ≤ σ j ∧ σ j < H1.next ∧ τ (σ j) = j)) → m1.has (σ j) ∧ m1.loc (σ j) = m'.loc j := by
    rintro j (⟨h1, h2⟩ | ⟨h1, h2, h3⟩)
    · obtain ⟨h3, h4⟩ := hloc j h1
      have hj : j < H.next := by have := h3.1; omega
      rw [h2]
      exact ⟨⟨Nat.lt_of_lt_of_le hj ha, rfl⟩, by rw [hlow j hj, h4]⟩
    · exact ⟨⟨h2, rfl⟩, by rw [hhigh _ h1, h3]⟩
  have hle : m.le m1 := ⟨by rw [← hn]; exact ha, fun i h => ⟨⟨by have := h.1; show i < H1.next; omega, rfl⟩, hlow i (by have := h.1; omega)⟩⟩
  refine ⟨m1, hle, ⟨hS.below.trans (hS'.below.mono hBw), hS.size, rfl, ?_, ?_, fun id t ht => by
    rw [hty] at ht
    obtain ⟨h1, h2⟩ := (hS.stays hS'.below.below).ty id t ht
    have hi : id < H.next := by have := h1.1; omega
    exact ⟨⟨Nat.lt_of_lt_of_le hi ha, rfl⟩, by rw [hlow id hi]; exact h2⟩⟩, VRel.ren v v' (fun i h => hgood i (he i h)) hv⟩
  · intro i o ho
    rcases Nat.lt_or_ge i H.next with hi | hi
    · have hold := hb i o hi ho
      refine ⟨⟨Nat.lt_of_lt_of_le hi ha, rfl⟩, ?_⟩
      rw [hlow i hi]
      have hst := hS.stays hS'.below.below
      exact (hst.obj i o hold).2.mono hle
    · obtain ⟨h1, l, h2, rfl, h3⟩ := hc i o hi ho
      refine ⟨⟨h1, rfl⟩, ?_⟩
      rw [hhigh i hi]
      obtain ⟨_, c, e, fz, h4, h5, h6⟩ := hS'.obj _ _ h2
      obtain ⟨h7, h8, h9⟩ := h6 rfl
      have h7' : B (m'.loc (τ i)).block = false := by
        cases hB : B (m'.loc (τ i)).block with
        | false => rfl
        | true =>
          rw [hBw _ hB] at h7
          cases h7
      refine ⟨c, e, fz, h4, ?_, fun _ => ⟨h7', h8, h9⟩⟩
      intro k x hx
      rw [renl_map, List.getElem?_map] at hx
      cases hl : l[k]? with
      | none => rw [hl] at hx; cases hx
      | some y =>
        rw [hl] at hx
        simp only [Option.map_some, Option.some.injEq] at hx
        subst hx
        obtain ⟨u, hu, hr, h1'⟩ := h5 k y hl
        exact ⟨u, hu, VRel.ren y u (fun j hj => hgood j (h3 j (idsl_mem (List.mem_of_getElem? hl) hj))) hr, h1'⟩
  · intro i j o o' hi hj hown hij
    have blk : ∀ i o, H.next ≤ i → H1.obj i = some o → w.heap.size ≤ (m1.loc i).block := by
      intro i o h ho
      obtain ⟨_, l, h2, _, _⟩ := hc i o h ho
      obtain ⟨_, c, e, fz, _, _, h6⟩ := hS'.obj _ _ h2
      rw [hhigh i h]
      have := (h6 rfl).1
      simpa [lowK] using this
    have low : ∀ i o, i < H.next → H1.obj i = some o → (m1.loc i).block < w.heap.size := by
      intro i o h ho
      have := (hS.obj i o (hb i o h ho)).2.lt
      rw [hlow i h]
      exact this
    rcases Nat.lt_or_ge i H.next with hi' | hi' <;> rcases Nat.lt_or_ge j H.next with hj' | hj'
    · rw [hlow i hi', hlow j hj']
      exact hS.apart i j o o' (hb i o hi' hi) (hb j o' hj' hj) hown hij
    · have := low i o hi' hi
      have := blk j o' hj' hj
      omega
    · have := low j o' hj' hj
      have := blk i o hi' hi
      omega
    · obtain ⟨_, l, h2, _, _⟩ := hc i o hi' hi
      obtain ⟨_, l', h3, _, _⟩ := hc j o' hj' hj
      rw [hhigh i hi', hhigh j hj']
      exact hS'.apart _ _ _ _ h2 h3 rfl (hd i j o o' hi' hj' hi hj hij)

theorem nub_nodup : ∀ (l s : List Nat), s.Nodup → (nub s l).Nodup
  | [], s, h => h
  | x :: l, s, h => by
    simp only [nub]
    split
    · exact nub_nodup l s h
    · rename_i hx
      refine nub_nodup l _ ?_
      rw [List.nodup_append]
      refine ⟨h, by simp, ?_⟩
      intro a ha b hb
      simp at hb
      subst hb
      intro h
      subst h
      exact hx ha

theorem nub_left : ∀ (l s : List Nat) (x : Nat), x ∈ s → x ∈ nub s l
  | [], s, x, h => h
  | y :: l, s, x, h => by
    simp only [nub]
    split
    · exact nub_left l s x h
    · exact nub_left l _ x (by simp [h])

theorem nub_right : ∀ (l s : List Nat) (x : Nat), x ∈ l → x ∈ nub s l
  | [], s, x, h => by simp at h
  | y :: l, s, x, h => by
    simp only [nub]
    rcases List.mem_cons.1 h with rfl | h
    · split
      · rename_i hx; exact nub_left l s _ hx
      · exact nub_left l _ _ (by simp)
    · split
      · exact nub_right l s x h
      · exact nub_right l _ x h

theorem nub_ge {n : Nat} : ∀ (l s : List Nat), (∀ x, x ∈ l → n ≤ x) → (∀ x, x ∈ s → n ≤ x) → ∀ x, x ∈ nub s l → n ≤ x
  | [], s, _, hs, x, h => hs x h
  | y :: l, s, hl, hs, x, h => by
    simp only [nub] at h
    split at h
    · exact nub_ge l s (fun x hx => hl x (by simp [hx])) hs x h
    · refine nub_ge l _ (fun x hx => hl x (by simp [hx])) ?_ x h
      intro z hz
      simp at hz
      rcases hz with hz | rfl
      · exact hs z hz
      · exact hl z (by simp)

theorem idx_get {L : List Nat} {x : Nat} (h : x ∈ L) : L.idxOf x < L.length ∧ L[L.idxOf x]? = some x := by
  have h1 := List.idxOf_lt_length_iff.2 h
  exact ⟨h1, by rw [List.getElem?_eq_getElem h1, List.getElem_idxOf h1]⟩

theorem pack_heap (σ : Nat → Nat) (H' : AHeap) : ∀ (L : List Nat) (H : AHeap), (∀ i, i ∈ L → ∃ l, H'.obj i = some (.cells l true)) →
    (L.foldl (fun K i => addObj σ K (H'.obj i)) H).next = H.next + L.length ∧
    (∀ k, k < H.next → (L.foldl (fun K i => addObj σ K (H'.obj i)) H).obj k = H.obj k) ∧
    (∀ k i, L[k]? = some i → (L.foldl (fun K i => addObj σ K (H'.obj i)) H).obj (H.next + k) = (H'.obj i).map (AObj.ren σ)) ∧
    (∀ k, H.next + L.length ≤ k → (L.foldl (fun K i => addObj σ K (H'.obj i)) H).obj k = H.obj k)
  | [], H, _ => ⟨rfl, fun _ _ => rfl, fun k i h => by simp at h, fun _ _ => rfl⟩
  | x :: L, H, hL => by
    obtain ⟨l, hl⟩ := hL x (by simp)
    have hst : (x :: L).foldl (fun K i => addObj σ K (H'.obj i)) H = L.foldl (fun K i => addObj σ K (H'.obj i)) (H.new (AObj.ren σ (.cells l true))) := by
      rw [List.foldl_cons, hl]; rfl
    rw [hst]
    obtain ⟨h1, h2, h3, h4⟩ := pack_heap σ H' L (H.new (AObj.ren σ (.cells l true))) (fun i h => hL i (by simp [h]))
    refine ⟨?_, ?_, ?_, ?_⟩
    · rw [h1]; simp [AHeap.new]; omega
    · intro k hk
      rw [h2 k (by simp [AHeap.new]; omega)]
      simp [AHeap.new]
      intro h; omega
    · intro k i hk
      cases k with
      | zero =>
        simp at hk
        subst hk
        rw [Nat.add_zero, h2 H.next (by simp [AHeap.new])]
        simp [AHeap.new, hl]
      | succ k =>
        have := h3 k i (by simpa using hk)
        simp only [AHeap.new] at this ⊢
        rw [show H.next + (k + 1) = H.next + 1 + k by omega]
        exact this
    · intro k hk
      simp at hk
      rw [h4 k (by simp [AHeap.new]; omega)]
      simp [AHeap.new]
      intro h; omega

theorem okObj_inv {n : Nat} {L : List Nat} {o : Option AObj} (h : okObj n L o = true) : ∃ l, o = some (.cells l true) ∧ ∀ j, j ∈ idsl l → j < n ∨ j ∈ L := by
  unfold okObj at h
  split at h
  · rename_i l
    refine ⟨l, rfl, fun j hj => ?_⟩
    have := List.all_eq_true.1 h j hj
    simpa using this
  · cases h

theorem pack_ty (σ : Nat → Nat) (H' : AHeap) : ∀ (L : List Nat) (H : AHeap), (L.foldl (fun K i => addObj σ K (H'.obj i)) H).ty = H.ty
  | [], H => rfl
  | i :: L, H => by
    rw [List.foldl_cons, pack_ty σ H' L]
    unfold addObj
    split <;> rfl
theorem pack_sound {w0 w w' : World} {B : Nat → Bool} {n : Nat} {m m' : Inj} {H H' : AHeap} {v : AVal} {v' : Value} {L : List Nat} (hS : SRel w0 B m H w)
    (hloc : ∀ i, i < n → m.has i ∧ m'.loc i = m.loc i) (hS' : SRel w (lowK w.heap.size) m' H' w') (hv : VRel m' v v') (hnd : L.Nodup)
    (hok : (L.all fun i => okObj n L (H'.obj i)) = true) (hvL : ∀ j, j ∈ v.ids → j < n ∨ j ∈ L) (hLn : ∀ j, j ∈ L → n ≤ j) :
    ∃ m1, m.le m1 ∧ SRel w0 B m1 (pack n H v H' L).2 w' ∧ VRel m1 (pack n H v H' L).1 v' := by
  have hobj : ∀ i, i ∈ L → ∃ l, H'.obj i = some (.cells l true) := fun i hi => by
    obtain ⟨l, h1, _⟩ := okObj_inv (List.all_eq_true.1 hok i hi)
    exact ⟨l, h1⟩
  obtain ⟨p1, p2, p3, p4⟩ := pack_heap (sig n H.next L) H' L H hobj
  have hgood : ∀ j, (j < n ∨ j ∈ L) → (j < n ∧ sig n H.next L j = j) ∨ (H.next ≤ sig n H.next L j ∧ sig n H.next L j < H.next + L.length ∧ L.getD (sig n H.next L j - H.next) 0 = j) := by
    intro j hj
    by_cases hjn : j < n
    · exact .inl ⟨hjn, by simp [sig, hjn]⟩
    · right
      have hjL : j ∈ L := hj.resolve_left hjn
      obtain ⟨h1, h2⟩ := idx_get hjL
      simp only [sig, hjn, if_false]
      refine ⟨by omega, by omega, ?_⟩
      rw [Nat.add_sub_cancel_left, List.getD_eq_getElem?_getD, h2]
      rfl
  refine keep_sound (σ := sig n H.next L) (τ := fun i => L.getD (i - H.next) 0) hS hloc hS' hv ?_ ?_ ?_ ?_ ?_ (pack_ty _ _ _ _)
  · show H.next ≤ (L.foldl _ H).next
    rw [p1]; omega
  · intro i o hi ho
    rw [← p2 i hi]; exact ho
  · intro i o hi ho
    change (L.foldl _ H).obj i = some o at ho
    rcases Nat.lt_or_ge i (H.next + L.length) with hlt | hge
    · refine ⟨by show i < (L.foldl _ H).next; rw [p1]; exact hlt, ?_⟩
      have hk : i - H.next < L.length := by omega
      have hg := List.getElem?_eq_getElem hk
      have := p3 _ _ hg
      rw [show H.next + (i - H.next) = i by omega] at this
      have ho : (H'.obj L[i - H.next]).map (AObj.ren (sig n H.next L)) = some o := this.symm.trans ho
      obtain ⟨l, hl, hids⟩ := okObj_inv (List.all_eq_true.1 hok _ (List.getElem_mem hk))
      rw [hl] at ho
      simp only [Option.map_some, Option.some.injEq] at ho
      refine ⟨l, ?_, ho.symm, ?_⟩
      · simp only [List.getD_eq_getElem?_getD, hg, Option.getD_some]; exact hl
      · intro j hj
        show _ ∨ _ ∧ sig n H.next L j < (L.foldl _ H).next ∧ _
        rw [p1]
        exact hgood j (hids j hj)
    · exfalso
      rw [p4 i hge] at ho
      have := (hS.obj i o ho).1.1
      have := hS.next
      omega
  · intro i j o o' hi hj hoi hoj hij
    have lt : ∀ i o, H.next ≤ i → (L.foldl (fun K i => addObj (sig n H.next L) K (H'.obj i)) H).obj i = some o → i - H.next < L.length := by
      intro i o hi ho
      rcases Nat.lt_or_ge i (H.next + L.length) with hlt | hge
      · omega
      · rw [p4 i hge] at ho
        have := (hS.obj i o ho).1.1
        have := hS.next
        omega
    have h1 := lt i o hi hoi
    have h2 := lt j o' hj hoj
    simp only [List.getD_eq_getElem?_getD, List.getElem?_eq_getElem h1, List.getElem?_eq_getElem h2, Option.getD_some]
    have hp := List.pairwise_iff_getElem.1 hnd
    rcases Nat.lt_or_ge (i - H.next) (j - H.next) with hlt | hge
    · exact hp _ _ h1 h2 hlt
    · exact Ne.symm (hp _ _ h2 h1 (by omega))
  · intro j hj
    show _ ∨ _ ∧ sig n H.next L j < (L.foldl _ H).next ∧ _
    rw [p1]
    exact hgood j (hvL j hj)

theorem keepAll_sound {w0 w w' : World} {B : Nat → Bool} {n : Nat} {m m' : Inj} {H H' : AHeap} {v : AVal} {v' : Value} (hS : SRel w0 B m H w)
    (hloc : ∀ i, i < n → m.has i ∧ m'.loc i = m.loc i) (hS' : SRel w (lowK w.heap.size) m' H' w') (hv : VRel m' v v') (hn : n ≤ H'.next) (hids : ∀ j, j ∈ v.ids → j < H'.next)
    (hobjs : ∀ i l own, H'.obj i = some (.cells l own) → ∀ j, j ∈ idsl l → j < H'.next) :
    ∃ m1, m.le m1 ∧ SRel w0 B m1 (keepAll n H v H').2 w' ∧ VRel m1 (keepAll n H v H').1 v' := by
  have hgood : ∀ j, j < H'.next → (j < n ∧ shf n H.next j = j) ∨ (H.next ≤ shf n H.next j ∧ shf n H.next j < H.next + (H'.next - n) ∧ shf n H.next j - H.next + n = j) := by
    intro j hj
    by_cases hjn : j < n
    · exact .inl ⟨hjn, by simp [shf, hjn]⟩
    · right
      simp only [shf, hjn, if_false]
      omega
  refine keep_sound (σ := shf n H.next) (τ := fun i => i - H.next + n) hS hloc hS' hv ?_ ?_ ?_ ?_ ?_ rfl
  · show H.next ≤ H.next + _; omega
  · intro i o hi ho
    simpa [keepAll, hi] using ho
  · intro i o hi ho
    simp only [keepAll, Nat.not_lt.2 hi, if_false] at ho
    unfold keepObj at ho
    split at ho
    · rename_i l hl
      simp only [Option.some.injEq] at ho
      have hlt := (hS'.obj _ _ hl).1.1
      have hnx := hS'.next
      refine ⟨by show i < H.next + _; omega, l, hl, ho.symm, fun j hj => ?_⟩
      exact hgood j (hobjs _ _ _ hl j hj)
    · cases ho
  · intro i j o o' hi hj hoi hoj hij
    show i - H.next + n ≠ j - H.next + n
    omega
  · intro j hj
    exact hgood j (hids j hj)

theorem ids_lt {m : Inj} : ∀ (v : AVal) (v' : Value), VRel m v v' → ∀ j, j ∈ v.ids → j < m.n
  | .bool _, _, _, j, hj => by simp [AVal.ids] at hj
  | .int .., _, _, j, hj => by simp [AVal.ids] at hj
  | .flt .., _, _, j, hj => by simp [AVal.ids] at hj
  | .str _, _, _, j, hj => by simp [AVal.ids] at hj
  | .nilp, _, _, j, hj => by simp [AVal.ids] at hj
  | .nils, _, _, j, hj => by simp [AVal.ids] at hj
  | .nilm, _, _, j, hj => by simp [AVal.ids] at hj
  | .nilFunc, _, _, j, hj => by simp [AVal.ids] at hj
  | .nilIface, _, _, j, hj => by simp [AVal.ids] at hj
  | .junk, _, _, j, hj => by simp [AVal.ids] at hj
  | .func f a b, _, h, j, hj => by
    cases h with
    | func _ _ _ _ _ h1 h2 =>
      simp only [AVal.ids, List.mem_append] at hj
      rcases hj with hj | hj
      · exact idsl_lt a h1 j hj
      · exact idsl_lt b h2 j hj
  | .iface t v, _, h, j, hj => by
    cases h with
    | iface _ _ _ h1 => exact ids_lt v _ h1 j (by simpa [AVal.ids] using hj)
  | .agg l, _, h, j, hj => by
    cases h with
    | agg _ _ h1 h2 => exact idsl_lt l h1 j (by simpa [AVal.ids] using hj)
  | .tuple l, _, h, j, hj => by
    cases h with
    | tuple _ _ h1 => exact idsl_lt l h1 j (by simpa [AVal.ids] using hj)
  | .ptr id off, _, h, j, hj => by
    simp [AVal.ids] at hj; subst hj
    cases h with | ptr _ _ h1 => exact h1.1
  | .slice id .., _, h, j, hj => by
    simp [AVal.ids] at hj; subst hj
    cases h with | slice _ _ _ _ _ _ _ h1 => exact h1.1
  | .map id, _, h, j, hj => by
    simp [AVal.ids] at hj; subst hj
    cases h with | map _ h1 => exact h1.1
  | .yield id, _, h, j, hj => by
    simp [AVal.ids] at hj; subst hj
    cases h with | yield _ h1 => exact h1.1
where
  idsl_lt {m : Inj} : ∀ (l : List AVal) {l' : List Value}, All2 (VRel m) l l' → ∀ j, j ∈ idsl l → j < m.n
    | [], _, _, j, hj => by simp [idsl] at hj
    | v :: l, _, h, j, hj => by
      cases h with
      | cons h1 h2 =>
        simp only [idsl, List.mem_append] at hj
        rcases hj with hj | hj
        · exact ids_lt v _ h1 j hj
        · exact idsl_lt l h2 j hj

theorem mem_idsl : ∀ {l : List AVal} {j : Nat}, j ∈ idsl l → ∃ x, x ∈ l ∧ j ∈ x.ids
  | [], j, h => by simp [idsl] at h
  | v :: l, j, h => by
    simp only [idsl, List.mem_append] at h
    rcases h with h | h
    · exact ⟨v, by simp, h⟩
    · obtain ⟨x, h1, h2⟩ := mem_idsl h
      exact ⟨x, by simp [h1], h2⟩

theorem cells_lt {w0 w : World} {B : Nat → Bool} {m : Inj} {H : AHeap} (hS : SRel w0 B m H w) {i : Nat} {l : List AVal} {own : Bool} (h : H.obj i = some (.cells l own)) : ∀ j, j ∈ idsl l → j < H.next := by
  intro j hj
  obtain ⟨x, hx, hjx⟩ := mem_idsl hj
  obtain ⟨k, hk⟩ := List.getElem?_of_mem hx
  obtain ⟨v, _, hr, _⟩ := hS.cell h hk
  have := ids_lt x v hr j hjx
  have := hS.next
  omega

theorem gc_sound {w0 w w' : World} {B : Nat → Bool} {n : Nat} {m m' : Inj} {H H' : AHeap} {v : AVal} {v' : Value} (hS : SRel w0 B m H w)
    (hloc : ∀ i, i < n → m.has i ∧ m'.loc i = m.loc i) (hn : n ≤ m'.n) (hS' : SRel w (lowK w.heap.size) m' H' w') (hv : VRel m' v v') :
    ∃ m1, m.le m1 ∧ SRel w0 B m1 (gc n H v H').2 w' ∧ VRel m1 (gc n H v H').1 v' := by
  have hge : ∀ j, j ∈ nub [] (v.ids.filter fun j => decide (n ≤ j)) → n ≤ j := nub_ge _ _ (fun x hx => by simpa using (List.mem_filter.1 hx).2) (by simp)
  have hin : ∀ j, j ∈ v.ids → j < n ∨ j ∈ nub [] (v.ids.filter fun j => decide (n ≤ j)) := by
    intro j hj
    rcases Nat.lt_or_ge j n with h | h
    · exact .inl h
    · exact .inr (nub_right _ _ _ (List.mem_filter.2 ⟨hj, by simpa using h⟩))
  have hnd : (nub [] (v.ids.filter fun j => decide (n ≤ j))).Nodup := nub_nodup _ _ (by simp)
  simp only [gc]
  generalize nub [] (v.ids.filter fun j => decide (n ≤ j)) = L at hge hin hnd
  split
  · rename_i hok
    exact pack_sound hS hloc hS' hv hnd hok hin hge
  · split
    · rename_i hok
      refine pack_sound hS hloc hS' hv (nub_nodup _ _ hnd) hok (fun j hj => (hin j hj).imp id (nub_left _ _ _)) (nub_ge _ _ ?_ hge)
      intro x hx
      obtain ⟨i, _, hi⟩ := List.mem_flatMap.1 hx
      unfold cellIds at hi
      split at hi
      · simpa using (List.mem_filter.1 hi).2
      · simp at hi
    · refine keepAll_sound hS hloc hS' hv (by rw [hS'.next]; exact hn) (fun j hj => by rw [hS'.next]; exact ids_lt v v' hv j hj) (fun i l own h => cells_lt hS' h)

end Go.Proofs.Ytfmjdlahabgkpaa.Am
end

section
/- The abstract machine's runs: with a bound on rounds and depth, and without one. -/
set_option linter.unusedSimpArgs false
set_option linter.unusedVariables false
namespace Go.Proofs.Ytfmjdlahabgkpaa.Am
open Go Go.RowKit

mutual
def AVal.beq : AVal → AVal → Bool
  | .bool a, .bool b => a == b
  | .int k a, .int j b => decide (k = j) && decide (a = b)
  | .flt k a, .flt j b => decide (k = j) && a == b
  | .str a, .str b => a == b
  | .nilp, .nilp => true
  | .ptr a b, .ptr c d => a == c && b == d
  | .nils, .nils => true
  | .slice a b c d e, .slice a' b' c' d' e' => a == a' && b == b' && c == c' && d == d' && e == e'
  | .nilm, .nilm => true
  | .map a, .map b => a == b
  | .func f a b, .func g c d => f == g && beqs a c && beqs b d
  | .yield a, .yield b => a == b
  | .nilFunc, .nilFunc => true
  | .iface t v, .iface u x => t == u && AVal.beq v x
  | .nilIface, .nilIface => true
  | .agg a, .agg b => beqs a b
  | .tuple a, .tuple b => beqs a b
  | .junk, .junk => true
  | .any, .any => true
  | _, _ => false
def beqs : List AVal → List AVal → Bool
  | [], [] => true
  | a :: l, b :: k => AVal.beq a b && beqs l k
  | _, _ => false
end

mutual
theorem AVal.eq_of_beq : ∀ (a b : AVal), AVal.beq a b = true → a = b
  | .bool _, b, h => by cases b <;> simp_all [AVal.beq]
  | .int .., b, h => by cases b <;> simp_all [AVal.beq]
  | .flt .., b, h => by cases b <;> simp_all [AVal.beq]
  | .str _, b, h => by cases b <;> simp_all [AVal.beq]
  | .nilp, b, h => by cases b <;> simp_all [AVal.beq]
  | .ptr .., b, h => by cases b <;> simp_all [AVal.beq]
  | .nils, b, h => by cases b <;> simp_all [AVal.beq]
  | .slice .., b, h => by cases b <;> simp_all [AVal.beq]
  | .nilm, b, h => by cases b <;> simp_all [AVal.beq]
  | .map _, b, h => by cases b <;> simp_all [AVal.beq]
  | .func f l k, b, h => by
    cases b <;> simp [AVal.beq] at h
    rename_i g l' k'
    rw [h.1.1, eq_of_beqs l l' h.1.2, eq_of_beqs k k' h.2]
  | .yield _, b, h => by cases b <;> simp_all [AVal.beq]
  | .nilFunc, b, h => by cases b <;> simp_all [AVal.beq]
  | .iface t v, b, h => by
    cases b <;> simp [AVal.beq] at h
    rw [h.1, AVal.eq_of_beq v _ h.2]
  | .nilIface, b, h => by cases b <;> simp_all [AVal.beq]
  | .agg l, b, h => by
    cases b <;> simp [AVal.beq] at h
    rw [eq_of_beqs l _ h]
  | .tuple l, b, h => by
    cases b <;> simp [AVal.beq] at h
    rw [eq_of_beqs l _ h]
  | .junk, b, h => by cases b <;> simp_all [AVal.beq]
  | .any, b, h => by cases b <;> simp_all [AVal.beq]
theorem eq_of_beqs : ∀ (a b : List AVal), beqs a b = true → a = b
  | [], b, h => by cases b <;> simp_all [beqs]
  | x :: l, b, h => by
    cases b <;> simp [beqs] at h
    rw [AVal.eq_of_beq x _ h.1, eq_of_beqs l _ h.2]
end

mutual
theorem AVal.beq_self : ∀ (a : AVal), AVal.beq a a = true
  | .bool _ | .int .. | .flt .. | .str _ | .nilp | .ptr .. | .nils | .slice .. | .nilm | .map _ | .yield _ | .nilFunc | .nilIface | .junk | .any => by simp [AVal.beq]
  | .func f l k => by simp [AVal.beq, beqs_self l, beqs_self k]
  | .iface t v => by simp [AVal.beq, AVal.beq_self v]
  | .agg l => by simp [AVal.beq, beqs_self l]
  | .tuple l => by simp [AVal.beq, beqs_self l]
theorem beqs_self : ∀ (a : List AVal), beqs a a = true
  | [] => rfl
  | x :: l => by simp [beqs, AVal.beq_self x, beqs_self l]
end

abbrev Env := Nat → AVal
abbrev ACall := FuncId → List AVal → AHeap → Option (AVal × AHeap)

def agd (env : Env) : Option (Nat × Bool) → Bool
  | none => true
  | some (d, w) => match env d with
    | .bool b => b == w
    | _ => false

def Env.set (env : Env) (d : Nat) (v : AVal) : Env := fun t => if t = d then v else env t
def setd (env : Env) (d : Option Nat) (v : AVal) : Env :=
  match d with
  | none => env
  | some d => env.set d v

def ado (call : ACall) (o : AOp) (ρ : AOpd → AVal) (H : AHeap) : Option (AVal × AHeap) :=
  match o with
  | .call f args => match ρ f with
    | .func g first captured => call g (first ++ args.map ρ ++ captured) H
    | _ => none
  | o => aop o ρ H

def aops (call : ACall) : List AOper → Env → AHeap → Option (Env × AHeap)
  | [], env, H => some (env, H)
  | o :: l, env, H =>
    if agd env o.guard then (ado call o.op (aev env) H).bind fun r => aops call l (setd env o.dst r.1) r.2
    else aops call l (setd env o.dst aundef) H

structure ARead where
  op : AOp
  env : Env
  v : AVal
  lo : Nat
  hi : Nat

def ARead.ok (st : List AHeap) (r : ARead) : Bool :=
  (List.range (r.hi - r.lo + 1)).all fun i => match st[r.lo + i]? with
    | none => true
    | some H => match aop r.op (aev r.env) H with
      | some (v, _) => v.beq r.v
      | none => false

def adraw (call : ACall) : List AOper → Env → AHeap → List AHeap → List ARead → Option (Env × AHeap)
  | [], env, H, st, rs => if rs.all (ARead.ok st) then some (env, H) else none
  | o :: l, env, H, st, rs =>
    if agd env o.guard then
      (ado call o.op (aev env) H).bind fun r =>
        adraw call l (setd env o.dst r.1) r.2 (if o.op.eff then st ++ [r.2] else st)
          (match o.rd with
          | none => rs
          | some (lo, hi) => ⟨o.op, env, r.1, lo, hi⟩ :: rs)
    else adraw call l (setd env o.dst aundef) H (if o.op.eff then st ++ [H] else st) rs

inductive AExit where
  | normal
  | exit (id : Nat)
  | ret
  deriving DecidableEq, Repr, Inhabited

abbrev ARun := Env → AHeap → Option (AExit × Env × AHeap)

def aiter (f : ARun) : Nat → ARun
  | 0, _, _ => none
  | n + 1, env, H => (f env H).bind fun r => match r.1 with
    | .normal => aiter f n r.2.1 r.2.2
    | _ => some r

def ainit (args : List AVal) : Env := fun t => args.getD t aundef

/-! ### A range over a function: the function's own code is run; where it calls what it was given, the body is. -/
abbrev APend := Option AExit
abbrev AYield := APend → List AVal → AHeap → Option (Bool × APend × AHeap)
abbrev ARunY := APend → Env → AHeap → Option (AExit × APend × Env × AHeap)

def AHeap.skip (H : AHeap) : AHeap := { H with next := H.next + 1 }

def ady (call : ACall) (tok : Nat) (yl : AYield) (o : AOp) (ρ : AOpd → AVal) (st : APend) (H : AHeap) : Option (AVal × APend × AHeap) :=
  match o with
  | .call f args => match ρ f with
    | .yield id => if id = tok then (yl st (args.map ρ) H).map fun r => (.bool r.1, r.2.1, r.2.2) else none
    | .func g first captured => (call g (first ++ args.map ρ ++ captured) H).map fun r => (r.1, st, r.2)
    | _ => none
  | o => (aop o ρ H).map fun r => (r.1, st, r.2)

def aopsY (call : ACall) (tok : Nat) (yl : AYield) : List AOper → APend → Env → AHeap → Option (APend × Env × AHeap)
  | [], st, env, H => some (st, env, H)
  | o :: l, st, env, H =>
    if agd env o.guard then (ady call tok yl o.op (aev env) st H).bind fun r => aopsY call tok yl l r.2.1 (setd env o.dst r.1) r.2.2
    else aopsY call tok yl l st (setd env o.dst aundef) H

def aiterY (f : ARunY) : Nat → ARunY
  | 0, _, _, _ => none
  | n + 1, st, env, H => (f st env H).bind fun r => match r.1 with
    | .normal => aiterY f n r.2.1 r.2.2.1 r.2.2.2
    | _ => some r

def aexecY (call : ACall) (tok : Nat) (yl : AYield) (n : Nat) : ACode → ARunY
  | .skip, st, env, H => some (.normal, st, env, H)
  | .region ops, st, env, H => (aopsY call tok yl ops st env H).map fun r => (.normal, r.1, r.2.1, r.2.2)
  | .draw ops, st, env, H => (adraw call ops env H [H] []).map fun r => (.normal, st, r.1, r.2)
  | .seq a b, st, env, H => (aexecY call tok yl n a st env H).bind fun r => match r.1 with
    | .normal => aexecY call tok yl n b r.2.1 r.2.2.1 r.2.2.2
    | _ => some r
  | .cond c a b, st, env, H => match aev env c with
    | .bool t => if t then aexecY call tok yl n a st env H else aexecY call tok yl n b st env H
    | _ => none
  | .block id a, st, env, H => (aexecY call tok yl n a st env H).map fun r => match r.1 with
    | .exit i => if i = id then (.normal, r.2) else r
    | _ => r
  | .loop a, st, env, H => aiterY (aexecY call tok yl n a) n st env H
  | .exit id, st, env, H => some (.exit id, st, env, H)
  | .ret, st, env, H => some (.ret, st, env, H)
  | .range .., _, _, _ => none

def setps : Env → List Nat → List AVal → Env
  | env, p :: ps, v :: vs => setps (Env.set env p v) ps vs
  | env, _, _ => env

def ayield (fa fb : ARun) (ps : List Nat) (env : Env) : AYield := fun st args H =>
  if st.isNone = true ∧ args.length = ps.length then
    (fa (setps env ps args) H).bind fun r => match r.1 with
      | .normal => (fb r.2.1 r.2.2).map fun q => match q.1 with
        | .normal => (true, none, q.2.2)
        | e => (false, some e, q.2.2)
      | _ => none
  else none

def arange (call : ACall) (it : FuncId → Option AFn) (n : Nat) (fa fb : ARun) (ps : List Nat) (env : Env) (H : AHeap) : AVal → Option (AExit × Env × AHeap)
  | .func g first captured => (it g).bind fun fn => if fn.results.isEmpty = true then
      (aexecY call H.next (ayield fa fb ps env) n fn.body none (ainit (first ++ [.yield H.next] ++ captured)) H.skip).bind fun r => match r.1 with
        | .exit _ => none
        | _ => some (r.2.1.getD .normal, env, r.2.2.2)
      else none
  | _ => none

def aexec (call : ACall) (it : FuncId → Option AFn) (n : Nat) : ACode → ARun
  | .skip, env, H => some (.normal, env, H)
  | .region ops, env, H => (aops call ops env H).map fun r => (.normal, r.1, r.2)
  | .draw ops, env, H => (adraw call ops env H [H] []).map fun r => (.normal, r.1, r.2)
  | .seq a b, env, H => (aexec call it n a env H).bind fun r => match r.1 with
    | .normal => aexec call it n b r.2.1 r.2.2
    | _ => some r
  | .cond c a b, env, H => match aev env c with
    | .bool t => if t then aexec call it n a env H else aexec call it n b env H
    | _ => none
  | .block id a, env, H => (aexec call it n a env H).map fun r => match r.1 with
    | .exit i => if i = id then (.normal, r.2) else r
    | _ => r
  | .loop a, env, H => aiter (aexec call it n a) n env H
  | .exit id, env, H => some (.exit id, env, H)
  | .ret, env, H => some (.ret, env, H)
  | .range f ps as bd, env, H => arange call it n (aexec call it n as) (aexec call it n bd) ps env H (aev env f)

def aress (H : AHeap) (env : Env) : List ARes → Option (List AVal)
  | [] => some []
  | .tmp t :: l => (aress H env l).map fun r => env t :: r
  | .cell a g n :: l => (aload H g n (env a)).bind fun v => (aress H env l).map fun r => v :: r

def aret : List AVal → AVal
  | [v] => v
  | l => .tuple l


def aend (fn : AFn) (r : AExit × Env × AHeap) : Option (AVal × AHeap) :=
  match r.1 with
  | .exit _ => none
  | _ => (aress r.2.2 r.2.1 fn.results).map fun l => (aret l, r.2.2)

structure AProg where
  fn : FuncId → Option AFn
  ext : FuncId → Option (List AVal → AHeap → Option (AVal × AHeap))
  /-- How a call is followed: 0: as it is; 1: on plain values, in an empty memory; others: in the memory as it is, nothing of it to be written. In 1 and others, what it makes besides its answer is left behind. -/
  mode : FuncId → Nat := fun _ => 0

def gcX (n : Nat) (H : AHeap) : Option (AVal × AHeap) → Option (AVal × AHeap)
  | none => none
  | some (v, H') => some (gc n H v H')

def arun (call : ACall) (it : FuncId → Option AFn) (k : Nat) (fn : Option AFn) (args : List AVal) (H : AHeap) : Option (AVal × AHeap) :=
  fn.bind fun fn => (aexec call it k fn.body (ainit args) H).bind fun r => aend fn r

def acall (A : AProg) : Nat → ACall
  | 0, _, _, _ => none
  | k + 1, f, args, H => match A.ext f with
    | some g => g args H
    | none => match A.mode f with
      | 0 => arun (acall A k) A.fn k (A.fn f) args H
      | 1 => if plains args then gcX 0 H (arun (acall A k) A.fn k (A.fn f) args noH) else none
      | _ => gcX H.next H (arun (acall A k) A.fn k (A.fn f) args (frz H))

def Up (H H' : AHeap) : Prop := H.next ≤ H'.next ∧ ∀ id l, H'.obj id = some (.cells l false) → H.obj id = some (.cells l false)
theorem Up.refl (H : AHeap) : Up H H := ⟨Nat.le_refl _, fun _ _ h => h⟩
theorem Up.trans {a b c : AHeap} (h : Up a b) (k : Up b c) : Up a c := ⟨Nat.le_trans h.1 k.1, fun id l hl => h.2 id l (k.2 id l hl)⟩
theorem Up.new (H : AHeap) (l : List AVal) : Up H (H.new (.cells l true)) := ⟨Nat.le_succ _, fun id k h => by
  simp only [AHeap.new] at h
  split at h
  · cases h
  · exact h⟩
theorem Up.set (H : AHeap) (i : Nat) (l : List AVal) : Up H (H.set i (.cells l true)) := ⟨Nat.le_refl _, fun id k h => by
  simp only [AHeap.set] at h
  split at h
  · cases h
  · exact h⟩
theorem Up.newM (H : AHeap) (l : List (AVal × AVal)) : Up H (H.new (.map l)) := ⟨Nat.le_succ _, fun id k h => by
  simp only [AHeap.new] at h
  split at h
  · cases h
  · exact h⟩
theorem Up.setM (H : AHeap) (i : Nat) (l : List (AVal × AVal)) : Up H (H.set i (.map l)) := ⟨Nat.le_refl _, fun id k h => by
  simp only [AHeap.set] at h
  split at h
  · cases h
  · exact h⟩
theorem Up.del (H : AHeap) (i : Nat) : Up H (H.del i) := ⟨Nat.le_refl _, fun id k h => by
  simp only [AHeap.del] at h
  split at h
  · cases h
  · exact h⟩


end Go.Proofs.Ytfmjdlahabgkpaa.Am
end

section
/- What the abstract machine's operations answer, the model's do: values, memory. -/
set_option linter.unusedSimpArgs false
set_option linter.unusedVariables false
namespace Go.Proofs.Ytfmjdlahabgkpaa.Am
open Go Go.RowKit

variable {P : Program} {w0 w : World} {B : Nat → Bool} {m : Inj} {H H' : AHeap}

structure ERel (m : Inj) (nt : Nat) (env : Env) (a : Act) : Prop where
  size : nt ≤ a.tmps.size
  rel : ∀ t, t < nt → VRel m (env t) (a.eval (.tmp t))

theorem cval1_rel {v : Value} {x : AVal} (h : cval1 v = some x) : VRel m x v ∧ v.oneCell' = true ∧ x.tup = false := by
  unfold cval1 at h
  split at h <;> simp at h <;> subst h <;> refine ⟨?_, rfl, rfl⟩ <;> first
    | (constructor; done)
    | skip

theorem cvals_rel : ∀ {l : List Value} {x : List AVal}, cvals l = some x → All2 (VRel m) x l ∧ ∀ y, y ∈ l → y.oneCell' = true
  | [], x, h => by simp [cvals] at h; subst h; exact ⟨.nil, by simp⟩
  | v :: l, x, h => by
    simp only [cvals, Option.bind_eq_some_iff, Option.map_eq_some_iff] at h
    obtain ⟨a, ha, r, hr, rfl⟩ := h
    obtain ⟨h1, h2, _⟩ := cval1_rel (m := m) ha
    obtain ⟨h3, h4⟩ := cvals_rel hr
    exact ⟨.cons h1 h3, by intro y hy; simp at hy; rcases hy with rfl | hy; exact h2; exact h4 y hy⟩

theorem cval_rel {v : Value} {x : AVal} (h : cval v = some x) : VRel m x v := by
  unfold cval at h
  split at h
  · simp only [Option.map_eq_some_iff] at h
    obtain ⟨l, hl, rfl⟩ := h
    obtain ⟨h1, h2⟩ := cvals_rel (m := m) hl
    exact .agg _ _ h1 h2
  · simp only [Option.map_eq_some_iff] at h
    obtain ⟨l, hl, rfl⟩ := h
    exact .tuple _ _ (cvals_rel (m := m) hl).1
  · exact (cval1_rel h).1

theorem copd_rel {nt : Nat} {env : Env} {a : Act} (hE : ERel m nt env a) {x : Operand} {y : AOpd} (h : copd nt x = some y) : VRel m (aev env y) (a.eval x) := by
  unfold copd at h
  split at h
  · split at h
    · simp at h; subst h; exact hE.rel _ ‹_›
    · simp at h
  · simp only [Option.map_eq_some_iff] at h
    obtain ⟨v, hv, rfl⟩ := h
    exact cval_rel hv
  · simp at h; subst h; exact .func _ _ _ [] [] .nil .nil
  · simp at h

theorem copds_rel {nt : Nat} {env : Env} {a : Act} (hE : ERel m nt env a) : ∀ {l : List Operand} {y : List AOpd}, copds nt l = some y → All2 (VRel m) (y.map (aev env)) (l.map a.eval)
  | [], y, h => by simp [copds] at h; subst h; exact .nil
  | x :: l, y, h => by
    simp only [copds, Option.bind_eq_some_iff, Option.map_eq_some_iff] at h
    obtain ⟨u, hu, r, hr, rfl⟩ := h
    exact .cons (copd_rel hE hu) (copds_rel hE hr)

/-! ### Types -/
theorem run_sizeOf' {t : TypeId} {n : Nat} (h : tsize P t = some n) (w : World) : (sizeOf t).run P w = .ok n w := by
  simp only [tsize, Option.map_eq_some_iff] at h
  obtain ⟨i, hi, rfl⟩ := h
  simp [sizeOf, typeInfo, hi]

theorem run_bytes {t : TypeId} {n : Nat} (h : tbytes P t = some n) (w : World) : ∃ i, (typeInfo t).run P w = .ok i w ∧ i.bytes = n := by
  simp only [tbytes, Option.map_eq_some_iff] at h
  obtain ⟨i, hi, rfl⟩ := h
  exact ⟨i, by simp [typeInfo, hi], rfl⟩

theorem run_isAgg {t : TypeId} {g : Bool} (h : tagg P t = some g) (w : World) : (isAgg t).run P w = .ok g w := by
  simp only [tagg, Option.map_eq_some_iff] at h
  obtain ⟨d, hd, rfl⟩ := h
  simp only [isAgg, Sem.run_bind, run_underlying hd, Result.andThen_ok]
  cases d <;> rfl

theorem run_zero {t : TypeId} {z : List AVal} (h : tzero P t = some z) (w : World) : ∃ v, (zeroValue t).run P w = .ok v w ∧ cvals v.cells.toList = some z := by
  simp only [tzero, Option.bind_eq_some_iff] at h
  obtain ⟨v, ⟨i, hi, hz⟩, hc⟩ := h
  exact ⟨v, by simp [zeroValue, typeInfo, hi, hz], hc⟩

/-! ### What is to be shown of an operation -/
def DoneV (w0 : World) (B : Nat → Bool) (m : Inj) (H' : AHeap) (v : AVal) (r : Result Value) : Prop :=
  ∃ v' w' m', r = .ok v' w' ∧ m.les m' ∧ SRel w0 B m' H' w' ∧ VRel m' v v'

def DoneN (w0 : World) (B : Nat → Bool) (m : Inj) (H' : AHeap) (v : AVal) (r : Result Next) : Prop :=
  ∃ v' w' m', (r = .ok (.value v') w' ∨ (r = .ok .skip w' ∧ v' = undef)) ∧ m.les m' ∧ SRel w0 B m' H' w' ∧ VRel m' v v'

theorem DoneV.same (hS : SRel w0 B m H w) {v : AVal} {v' : Value} (hv : VRel m v v') : DoneV w0 B m H v (.ok v' w) := ⟨v', w, m, rfl, m.les_refl, hS, hv⟩

theorem DoneV.next {v : AVal} {s : Sem Value} (h : DoneV w0 B m H' v (s.run P w)) : DoneN w0 B m H' v ((do pure (.value (← s)) : Sem Next).run P w) := by
  obtain ⟨v', w', m', h1, h2⟩ := h
  refine ⟨v', w', m', .inl ?_, h2⟩
  simp only [Sem.run_bind, h1, Result.andThen_ok, Sem.run_pure]

theorem DoneV.value {v : AVal} {v' : Value} (h : DoneV w0 B m H' v (.ok v' w)) : DoneN w0 B m H' v (.ok (.value v') w) := by
  obtain ⟨u, w', m', h1, h2⟩ := h
  simp at h1
  obtain ⟨rfl, rfl⟩ := h1
  exact ⟨_, _, m', .inl rfl, h2⟩

/-! ### Memory -/
theorem s_loadVar (hS : SRel w0 B m H w) {t : TypeId} {g : Bool} {n : Nat} (hg : tagg P t = some g) (hn : tsize P t = some n) {id off : Nat} {v : AVal}
    (h : aload H g n (.ptr id off) = some v) : ∃ v', (loadVar t ⟨(m.loc id).block, (m.loc id).off + off, none⟩).run P w = .ok v' w ∧ VRel m v v' := by
  simp only [aload] at h
  split at h
  · rename_i l own ho
    simp only [apart] at h
    simp only [loadVar, Sem.run_bind, run_isAgg hg, Result.andThen_ok]
    cases g with
    | true =>
      simp only [if_true] at h
      split at h
      · rename_i hl
        simp at h; subst h
        obtain ⟨vs, hr, ha, h1, _⟩ := hS.loadCells (P := P) ho hl
        refine ⟨.agg vs.toArray, ?_, .agg _ _ ha h1⟩
        simp only [if_true, Sem.run_bind, run_sizeOf' hn, Result.andThen_ok, hr]
        rfl
      · simp at h
    | false =>
      simp only [Bool.false_eq_true, if_false] at h
      obtain ⟨v', hv, hr, _⟩ := hS.cell ho h
      refine ⟨v', ?_, hr⟩
      simp only [Bool.false_eq_true, if_false, load, Sem.run, hv]
  · simp at h

theorem s_load (hS : SRel w0 B m H w) {t : TypeId} {g : Bool} {n : Nat} (hg : tagg P t = some g) (hn : tsize P t = some n) {x v : AVal} {x' : Value} (hx : VRel m x x')
    (h : aload H g n x = some v) : DoneV w0 B m H v ((Instr.loadAt t x').run P w) := by
  cases hx with
  | ptr id off hid =>
    obtain ⟨v', hr, hv⟩ := s_loadVar (P := P) hS hg hn h
    refine ⟨v', w, m, ?_, m.les_refl, hS, hv⟩
    simp only [Instr.loadAt, Instr.sureAddr, Sem.run_bind, Sem.run_pure, Result.andThen_ok]
    exact hr
  | _ => simp [aload] at h

theorem s_storeCells (hS : SRel w0 B m H w) {id off : Nat} {l : List AVal} (ho : H.obj id = some (.cells l true)) {cs : List AVal} {vs : List Value} (hl : off + cs.length ≤ l.length) (ha : All2 (VRel m) cs vs) (h1 : ∀ x, x ∈ vs → x.oneCell' = true) :
    ∃ w', (storeCells ⟨(m.loc id).block, (m.loc id).off + off, none⟩ vs).run P w = .ok () w' ∧ SRel w0 B m (H.set id (.cells (lput l off cs) true)) w' :=
  SRel.putCells (P := P) cs vs off 0 l H w hS ho (by simpa using hl) ha h1

theorem s_store (hS : SRel w0 B m H w) {t : TypeId} {n : Nat} (hn : tsize P t = some n) {a x : AVal} {a' x' : Value} (ha : VRel m a a') (hx : VRel m x x') (h : astore H n a x = some H') :
    ∃ w', (Instr.storeAt t a' x').run P w = .ok () w' ∧ SRel w0 B m H' w' := by
  cases ha with
  | ptr id off hid =>
    simp only [astore] at h
    split at h
    · rename_i l ho
      split at h
      · rename_i hc
        obtain ⟨h1, h2, h3⟩ := hc
        simp at h; subst h
        have hcs := hx.cells h3
        obtain ⟨w', hr, hS'⟩ := s_storeCells (P := P) hS ho (by rw [h2]; exact h1) hcs (hx.isCells h3)
        refine ⟨w', ?_, hS'⟩
        simp only [Instr.storeAt, Instr.sureAddr, Sem.run_bind, Sem.run_pure, Result.andThen_ok, storeVar, run_sizeOf' hn]
        have hlen : x'.cells.size = n := by
          have := forall2_length hcs
          simp at this
          omega
        simp only [hlen, ne_eq, not_true_eq_false, if_false]
        exact hr
      · simp at h
    · simp at h
  | _ => simp [astore] at h

theorem free_zero (c : Array Value) : Free c (0, 0) := fun j _ => by simp

theorem s_new (hS : SRel w0 B m H w) (e : TypeId) {cs : List AVal} {vs : List Value} (ha : All2 (VRel m) cs vs) (h1 : ∀ x, x ∈ vs → x.oneCell' = true) :
    ∃ m', m.les m' ∧ m'.loc m.n = ⟨w.heap.size, 0, vs.length⟩ ∧ m'.has m.n ∧ SRel w0 B m' (H.new (.cells cs true)) (w.alloc (.cells vs.toArray e (0, 0))) := by
  refine ⟨m.ext ⟨w.heap.size, 0, vs.length⟩, m.les_ext _, m.ext_new _, m.ext_has _, ?_⟩
  have := hS.new (rest := []) ha h1 e (0, 0) (free_zero _) (.cells vs.toArray e (0, 0)) (by simp)
  simpa using this

theorem run_newRow (e : TypeId) (c : Array Value) (w : World) : (newRow e c).run P w = .ok ⟨w.heap.size, 0, none⟩ (w.alloc (.cells c e (0, 0))) := by
  simp only [newRow, newObj, Sem.run_bind, Sem.run, Result.andThen_ok]
  rfl

theorem s_alloc (hS : SRel w0 B m H w) {t : TypeId} {z : List AVal} (hz : tzero P t = some z) : DoneV w0 B m (H.new (.cells z true)) (.ptr H.next 0) ((Instr.alloc t true (.tuple #[])).run P w) := by
  obtain ⟨v, hv, hc⟩ := run_zero hz w
  obtain ⟨h1, h2⟩ := cvals_rel (m := m) hc
  obtain ⟨m', hm, hl, hn, hS'⟩ := s_new hS t h1 h2
  refine ⟨.pointer (some ⟨w.heap.size, 0, none⟩), _, m', ?_, hm, hS', ?_⟩
  · simp only [Instr.alloc, Sem.run_bind, hv, Result.andThen_ok, newVar, run_newRow]
    simp
  · rw [hS.next]
    have := VRel.ptr (m := m') m.n 0 hn
    rwa [hl] at this

theorem s_newT (hS : SRel w0 B m H w) (e : TypeId) {cs : List AVal} {vs : List Value} (ha : All2 (VRel m) cs vs) (h1 : ∀ x, x ∈ vs → x.oneCell' = true) {n : Option Nat} (hn : ∀ k, n = some k → cs.length = k) :
    ∃ m', m.les m' ∧ m'.loc m.n = ⟨w.heap.size, 0, vs.length⟩ ∧ m'.has m.n ∧ SRel w0 B m' ((H.new (.cells cs true)).tag H.next (e, n)) (w.alloc (.cells vs.toArray e (0, 0))) := by
  obtain ⟨m', hm, hl, hh, hS'⟩ := s_new hS e ha h1
  refine ⟨m', hm, hl, hh, ?_⟩
  rw [hS.next]
  refine hS'.tag hh ?_
  rw [hl]
  refine ⟨rfl, vs.toArray, heap_alloc_new w _, fun k hk => ?_⟩
  have := forall2_length ha
  have := hn k hk
  simp; omega
theorem s_allocT (hS : SRel w0 B m H w) {t : TypeId} {z : List AVal} (hz : tzero P t = some z) : DoneV w0 B m ((H.new (.cells z true)).tag H.next (t, some z.length)) (.ptr H.next 0) ((Instr.alloc t true (.tuple #[])).run P w) := by
  obtain ⟨v, hv, hc⟩ := run_zero hz w
  obtain ⟨h1, h2⟩ := cvals_rel (m := m) hc
  obtain ⟨m', hm, hl, hn, hS'⟩ := s_newT hS t h1 h2 (n := some z.length) (fun k hk => by simpa using hk)
  refine ⟨.pointer (some ⟨w.heap.size, 0, none⟩), _, m', ?_, hm, hS', ?_⟩
  · simp only [Instr.alloc, Sem.run_bind, hv, Result.andThen_ok, newVar, run_newRow]
    simp
  · rw [hS.next]
    have := VRel.ptr (m := m') m.n 0 hn
    rwa [hl] at this

theorem s_box (hS : SRel w0 B m H w) {t : TypeId} {x : AVal} {x' : Value} (hx : VRel m x x') (ht : x.tup = false) : DoneV w0 B m (H.new (.cells x.cells true)) (.ptr H.next 0) ((Instr.box t x').run P w) := by
  obtain ⟨m', hm, hl, hn, hS'⟩ := s_new hS t (hx.cells ht) (hx.isCells ht)
  refine ⟨.pointer (some ⟨w.heap.size, 0, none⟩), _, m', ?_, hm, hS', ?_⟩
  · simp only [Instr.box, newVar, Sem.run_bind, run_newRow, Result.andThen_ok]
    simp
  · rw [hS.next]
    have := VRel.ptr (m := m') m.n 0 hn
    rwa [hl] at this

end Go.Proofs.Ytfmjdlahabgkpaa.Am
end

section
/- What the abstract machine's operations answer, the model's do: numbers, texts, equality, aggregates. -/
set_option linter.unusedSimpArgs false
set_option linter.unusedVariables false
namespace Go.Proofs.Ytfmjdlahabgkpaa.Am
open Go Go.RowKit

variable {P : Program} {w0 w : World} {B : Nat → Bool} {m : Inj} {H H' : AHeap}

theorem run_intArith {op : BinOp} {k : IntKind} {a b : Int} {v : AVal} (w : World) (t : TypeId) (h : aint op k a b = some v) (hop : op ≠ .shl ∧ op ≠ .shr) :
    ∃ v', (binOp op t (.int k a) (.int k b)).run P w = .ok v' w ∧ VRel m v v' := by
  cases op with
  | add => simp only [aint, Option.some.injEq] at h; subst h; refine ⟨_, ?_, .int _ _⟩; simp [binOp, Op.intArith]
  | sub => simp only [aint, Option.some.injEq] at h; subst h; refine ⟨_, ?_, .int _ _⟩; simp [binOp, Op.intArith]
  | mul => simp only [aint, Option.some.injEq] at h; subst h; refine ⟨_, ?_, .int _ _⟩; simp [binOp, Op.intArith]
  | quo => simp [aint] at h; obtain ⟨h0, rfl⟩ := h; refine ⟨_, ?_, .int _ _⟩; simp [binOp, Op.intDiv, h0]
  | rem => simp [aint] at h; obtain ⟨h0, rfl⟩ := h; refine ⟨_, ?_, .int _ _⟩; simp [binOp, Op.intDiv, h0]
  | and => simp only [aint, Option.some.injEq] at h; subst h; refine ⟨_, ?_, .int _ _⟩; simp [binOp, Op.intBits]
  | or => simp only [aint, Option.some.injEq] at h; subst h; refine ⟨_, ?_, .int _ _⟩; simp [binOp, Op.intBits]
  | xor => simp only [aint, Option.some.injEq] at h; subst h; refine ⟨_, ?_, .int _ _⟩; simp [binOp, Op.intBits]
  | andNot => simp only [aint, Option.some.injEq] at h; subst h; refine ⟨_, ?_, .int _ _⟩; simp [binOp, Op.intBits]
  | shl => simp at hop
  | shr => simp at hop
  | eql => simp only [aint, Option.some.injEq] at h; subst h; refine ⟨_, ?_, .bool _⟩; simp [binOp, Op.intCmp]
  | neq => simp only [aint, Option.some.injEq] at h; subst h; refine ⟨_, ?_, .bool _⟩; simp [binOp, Op.intCmp]
  | lss => simp only [aint, Option.some.injEq] at h; subst h; refine ⟨_, ?_, .bool _⟩; simp [binOp, Op.intCmp]
  | leq => simp only [aint, Option.some.injEq] at h; subst h; refine ⟨_, ?_, .bool _⟩; simp [binOp, Op.intCmp]
  | gtr => simp only [aint, Option.some.injEq] at h; subst h; refine ⟨_, ?_, .bool _⟩; simp [binOp, Op.intCmp]
  | geq => simp only [aint, Option.some.injEq] at h; subst h; refine ⟨_, ?_, .bool _⟩; simp [binOp, Op.intCmp]

theorem bytes_inj' {a b : ByteArray} (h : a.data.toList = b.data.toList) : a = b := by
  cases a; cases b; simp at h; simp [h]

theorem s_bin {op : BinOp} {t : TypeId} {xo yo : Operand} {x y v : AVal} {x' y' : Value} (w : World) (hx : VRel m x x') (hy : VRel m y y') (hnf : ∀ f g, x = .flt .f64 f → y = .flt .f64 g → False) (h : abin op x y = some v) :
    ∃ v', ((do eqGuard op t xo yo x' y'; binOp op t x' y') : Sem Value).run P w = .ok v' w ∧ VRel m v v' := by
  cases x with
  | int k a =>
    cases y with
    | int j b =>
      cases hx; cases hy
      have hg : (eqGuard op t xo yo (.int k a) (.int j b)).run P w = .ok () w := by
        unfold eqGuard; cases op <;> rfl
      simp only [Sem.run_bind, hg, Result.andThen_ok]
      by_cases h1 : op = .shl
      · subst h1
        simp [abin, ashift] at h
        obtain ⟨h0, rfl⟩ := h
        refine ⟨_, ?_, .int _ _⟩
        simp [binOp, Op.shift, show ¬ b < 0 by omega]
      · by_cases h2 : op = .shr
        · subst h2
          simp [abin, ashift] at h
          obtain ⟨h0, rfl⟩ := h
          refine ⟨_, ?_, .int _ _⟩
          simp [binOp, Op.shift, show ¬ b < 0 by omega]
        · have hkj : k = j ∧ aint op k a b = some v := by
            cases op <;> simp [abin] at h h1 h2 <;> exact h
          obtain ⟨rfl, h⟩ := hkj
          exact run_intArith w t ‹_› ⟨h1, h2⟩
    | _ => simp [abin] at h
  | str a =>
    cases y with
    | str b =>
      cases hx; cases hy
      have hg : (eqGuard op t xo yo (.string ⟨a.toArray⟩) (.string ⟨b.toArray⟩)).run P w = .ok () w := by
        unfold eqGuard; cases op <;> rfl
      simp only [Sem.run_bind, hg, Result.andThen_ok]
      have hb : binOp op t (.string ⟨a.toArray⟩) (.string ⟨b.toArray⟩) = Op.stringOp op ⟨a.toArray⟩ ⟨b.toArray⟩ := by cases op <;> rfl
      rw [hb]
      have e1 : (⟨a.toArray⟩ : ByteArray).toList = a := by rw [ByteArray.toList_eq]
      have e2 : (⟨b.toArray⟩ : ByteArray).toList = b := by rw [ByteArray.toList_eq]
      simp only [abin] at h
      cases op with
      | add =>
        simp [astr] at h
        obtain ⟨h0, rfl⟩ := h
        refine ⟨.string ⟨(a ++ b).toArray⟩, ?_, .str _⟩
        have hsz : ¬ ((((⟨a.toArray⟩ : ByteArray).size + (⟨b.toArray⟩ : ByteArray).size : Nat) : Int) > IntKind.i64.max) := by
          simp [ByteArray.size, IntKind.max, IntKind.signed, IntKind.bits]; omega
        have he : (⟨a.toArray⟩ : ByteArray) ++ ⟨b.toArray⟩ = ⟨(a ++ b).toArray⟩ := bytes_inj' (by simp)
        simp only [Op.stringOp, if_neg hsz, Sem.run_pure, he]
      | eql => simp only [astr, Option.some.injEq] at h; subst h; refine ⟨_, ?_, .bool _⟩; simp only [Op.stringOp, e1, e2, Sem.run_pure]
      | neq => simp only [astr, Option.some.injEq] at h; subst h; refine ⟨_, ?_, .bool _⟩; simp only [Op.stringOp, e1, e2, Sem.run_pure]
      | lss => simp only [astr, Option.some.injEq] at h; subst h; refine ⟨_, ?_, .bool _⟩; simp only [Op.stringOp, e1, e2, Sem.run_pure]
      | leq => simp only [astr, Option.some.injEq] at h; subst h; refine ⟨_, ?_, .bool _⟩; simp only [Op.stringOp, e1, e2, Sem.run_pure]
      | gtr => simp only [astr, Option.some.injEq] at h; subst h; refine ⟨_, ?_, .bool _⟩; simp only [Op.stringOp, e1, e2, Sem.run_pure]
      | geq => simp only [astr, Option.some.injEq] at h; subst h; refine ⟨_, ?_, .bool _⟩; simp only [Op.stringOp, e1, e2, Sem.run_pure]
      | _ => simp [astr] at h
    | _ => simp [abin] at h
  | flt k a =>
    cases y with
    | flt j b => cases k <;> cases j <;> first | exact (hnf _ _ rfl rfl).elim | simp [abin] at h
    | _ => cases k <;> simp [abin] at h
  | _ => simp [abin] at h

def NegOk (P : Program) (m : Inj) : Prop := ∀ (a : Nat) (x' : Value) (w : World), VRel m (.flt .f64 a) x' → ∃ v', (Op.unary .neg x').run P w = .ok v' w ∧ VRel m (.flt .f64 (Op.negFloat .f64 a)) v'
theorem s_un {op : UnOp} {x v : AVal} {x' : Value} (w : World) (hn : NegOk P m) (hx : VRel m x x') (h : aun op x = some v) : ∃ v', (Op.unary op x').run P w = .ok v' w ∧ VRel m v v' := by
  cases x with
  | int k n =>
    cases hx
    cases op with
    | neg => simp only [aun, aint, Option.some.injEq] at h; subst h; refine ⟨_, ?_, .int _ _⟩; simp [Op.unary, Op.intArith]
    | xor => simp only [aun, aint, Option.some.injEq] at h; subst h; refine ⟨_, ?_, .int _ _⟩; simp [Op.unary, Op.intBits]
    | _ => simp [aun] at h
  | bool b =>
    cases hx
    cases op with
    | not => simp only [aun, Option.some.injEq] at h; subst h; refine ⟨_, ?_, .bool _⟩; simp [Op.unary]
    | _ => simp [aun] at h
  | flt k b =>
    cases k with
    | f64 =>
      cases op with
      | neg => simp only [aun, Option.some.injEq] at h; subst h; exact hn _ _ w hx
      | _ => simp [aun] at h
    | f32 => simp [aun] at h
  | _ => simp [aun] at h

/-! ### A part of an aggregate -/
theorem s_part {t : TypeId} {g : Bool} {n off : Nat} (hg : tagg P t = some g) (hn : tsize P t = some n) {l : List AVal} {vs : List Value} (ha : All2 (VRel m) l vs) (h1 : ∀ x, x ∈ vs → x.oneCell' = true) {v : AVal}
    (h : apart g off n l = some v) (w : World) : ∃ v', (part t vs.toArray off).run P w = .ok v' w ∧ VRel m v v' := by
  simp only [part, Sem.run_bind, run_isAgg hg, Result.andThen_ok]
  simp only [apart] at h
  cases g with
  | true =>
    simp only [if_true] at h ⊢
    split at h
    · rename_i hl
      simp at h; subst h
      simp only [Sem.run_bind, run_sizeOf' hn, Result.andThen_ok, Sem.run_pure]
      refine ⟨_, rfl, ?_⟩
      have e : vs.toArray.extract off (off + n) = ((vs.drop off).take n).toArray := by simp [List.extract_eq_take_drop]
      rw [e]
      exact .agg _ _ (forall2_take (forall2_drop ha off) n) (fun x hx => h1 x (List.mem_of_mem_drop (List.mem_of_mem_take hx)))
    · simp at h
  | false =>
    simp only [Bool.false_eq_true, if_false] at h ⊢
    obtain ⟨v', hv, hr⟩ := forall2_get ha off v h
    refine ⟨v', ?_, hr⟩
    have : vs.toArray[off]? = some v' := by simpa using hv
    rw [this]
    rfl

/-! ### Equality -/
theorem eqFields_sound {d : Nat} (hd : ∀ (t : TypeId) (q : EqT), ceqt P d t = some q → ∀ (D : Nat), d ≤ D → ∀ (x y : AVal) (x' y' : Value) (b : Bool) (w : World), VRel m x x' → VRel m y y' → aeq q x y = some b → (Op.equalIn D t x' y').run P w = .ok b w)
    {xs ys : List AVal} {xs' ys' : List Value} (hx : All2 (VRel m) xs xs') (hx1 : ∀ x, x ∈ xs' → x.oneCell' = true) (hy : All2 (VRel m) ys ys') (hy1 : ∀ x, x ∈ ys' → x.oneCell' = true) {D : Nat} (hD : d ≤ D) :
    ∀ (fs : List Field) (q : EqT), cflds P (ceqt P d) fs = some q → ∀ (b : Bool) (w : World), aeq q (.agg xs) (.agg ys) = some b → (Op.eqFields D xs'.toArray ys'.toArray fs).run P w = .ok b w := by
  intro fs
  induction fs with
  | nil =>
    intro q h b w he
    simp [cflds] at h; subst h
    simp [aeq] at he; subst he
    simp [Op.eqFields]
  | cons f fs ih =>
    intro q h b w he
    simp only [cflds] at h
    split at h
    · simp at h
    · rename_i hn
      simp only [Option.bind_eq_some_iff, Option.map_eq_some_iff] at h
      obtain ⟨n, hn', g, hg, q1, hq1, r, hr, rfl⟩ := h
      simp only [aeq] at he
      split at he
      · rename_i u v hu hv
        simp only [Option.bind_eq_some_iff] at he
        obtain ⟨c, hc, he⟩ := he
        obtain ⟨u', hu', hur⟩ := s_part (P := P) hg hn' hx hx1 hu w
        obtain ⟨v', hv', hvr⟩ := s_part (P := P) hg hn' hy hy1 hv w
        have hq := hd _ _ hq1 D hD u v u' v' c w hur hvr hc
        simp only [Op.eqFields, hn, ne_eq, not_false_eq_true, if_true, Sem.run_bind, hu', hv', hq, Result.andThen_ok]
        cases c with
        | true => simp at he ⊢; exact ih r hr b w he
        | false => simp at he ⊢; exact he
      · simp at he

theorem eqItems_sound {d : Nat} {e : TypeId} {q : EqT} (hd : ∀ (D : Nat), d ≤ D → ∀ (x y : AVal) (x' y' : Value) (b : Bool) (w : World), VRel m x x' → VRel m y y' → aeq q x y = some b → (Op.equalIn D e x' y').run P w = .ok b w)
    {g : Bool} {n : Nat} (hg : tagg P e = some g) (hn : tsize P e = some n)
    {xs ys : List AVal} {xs' ys' : List Value} (hx : All2 (VRel m) xs xs') (hx1 : ∀ x, x ∈ xs' → x.oneCell' = true) (hy : All2 (VRel m) ys ys') (hy1 : ∀ x, x ∈ ys' → x.oneCell' = true) {D : Nat} (hD : d ≤ D) :
    ∀ (k i : Nat) (b : Bool) (w : World), aeqArr (aeq q) n g xs ys k i = some b → (Op.eqItems D e n xs'.toArray ys'.toArray (List.range' i k)).run P w = .ok b w
  | 0, i, b, w, he => by simp [aeqArr] at he; subst he; simp [Op.eqItems]
  | k + 1, i, b, w, he => by
    simp only [aeqArr] at he
    split at he
    · rename_i u v hu hv
      simp only [Option.bind_eq_some_iff] at he
      obtain ⟨c, hc, he⟩ := he
      obtain ⟨u', hu', hur⟩ := s_part (P := P) hg hn hx hx1 hu w
      obtain ⟨v', hv', hvr⟩ := s_part (P := P) hg hn hy hy1 hv w
      have hq := hd D hD u v u' v' c w hur hvr hc
      simp only [List.range'_succ, Op.eqItems, Sem.run_bind, hu', hv', hq, Result.andThen_ok]
      cases c with
      | true => simp at he ⊢; exact eqItems_sound hd hg hn hx hx1 hy hy1 hD k (i + 1) b w he
      | false => simp at he ⊢; exact he
    · simp at he

theorem eqt_sound : ∀ (d : Nat) (t : TypeId) (q : EqT), ceqt P d t = some q → ∀ (D : Nat), d ≤ D → ∀ (x y : AVal) (x' y' : Value) (b : Bool) (w : World), VRel m x x' → VRel m y y' → aeq q x y = some b → (Op.equalIn D t x' y').run P w = .ok b w
  | 0, t, q, h, _, _, _, _, _, _, _, _, _, _, _ => by simp [ceqt] at h
  | d + 1, t, q, h, D, hD, x, y, x', y', b, w, hx, hy, he => by
    obtain ⟨D, rfl⟩ : ∃ k, D = k + 1 := ⟨D - 1, by omega⟩
    simp only [ceqt, Option.bind_eq_some_iff] at h
    obtain ⟨u, hu, h⟩ := h
    cases u with
    | int k =>
      simp at h; subst h
      simp only [Op.equalIn, Sem.run_bind, run_underlying hu, Result.andThen_ok]
      cases x with
      | int k1 a =>
        cases y with
        | int k2 b =>
          cases hx; cases hy
          simp [aeq] at he
          obtain ⟨⟨rfl, rfl⟩, rfl⟩ := he
          simp
        | _ => simp [aeq] at he
      | _ => simp [aeq] at he
    | string =>
      simp at h; subst h
      simp only [Op.equalIn, Sem.run_bind, run_underlying hu, Result.andThen_ok]
      cases x with
      | str a =>
        cases y with
        | str b =>
          cases hx; cases hy
          simp [aeq] at he
          subst he
          simp only [Sem.run_pure]
          congr 1
          rw [beq_toListBytes, ByteArray.toList_eq, ByteArray.toList_eq]
        | _ => simp [aeq] at he
      | _ => simp [aeq] at he
    | bool =>
      simp at h; subst h
      simp only [Op.equalIn, Sem.run_bind, run_underlying hu, Result.andThen_ok]
      cases x with
      | bool a =>
        cases y with
        | bool b =>
          cases hx; cases hy
          simp [aeq] at he
          subst he
          simp
        | _ => simp [aeq] at he
      | _ => simp [aeq] at he
    | pointer e =>
      simp at h; subst h
      simp only [Op.equalIn, Sem.run_bind, run_underlying hu, Result.andThen_ok]
      cases x <;> simp [aeq, aeqNil] at he <;> cases y <;> simp [aeqNil] at he <;> subst he <;> cases hx <;> cases hy <;> simp
    | slice e =>
      simp at h; subst h
      simp only [Op.equalIn, Sem.run_bind, run_underlying hu, Result.andThen_ok]
      cases x <;> simp [aeq, aeqNil] at he <;> cases y <;> simp [aeqNil] at he <;> subst he <;> cases hx <;> cases hy <;> simp
    | map k e =>
      simp at h; subst h
      simp only [Op.equalIn, Sem.run_bind, run_underlying hu, Result.andThen_ok]
      cases x <;> simp [aeq, aeqNil] at he <;> cases y <;> simp [aeqNil] at he <;> subst he <;> cases hx <;> cases hy <;> simp
    | func _ _ _ =>
      simp at h; subst h
      simp only [Op.equalIn, Sem.run_bind, run_underlying hu, Result.andThen_ok]
      cases x <;> simp [aeq, aeqNil] at he <;> cases y <;> simp [aeqNil] at he <;> subst he <;> cases hx <;> cases hy <;> simp
    | struct fs =>
      simp only at h
      split at h
      · simp at h
      · rename_i hst
        simp at hst
        have hfs : P.fieldsOf t = fs := by simp [Program.fieldsOf, hu]
        have hagg : ∃ xs ys, x = .agg xs ∧ y = .agg ys := by
          generalize hl : fs.toList = l at h
          cases l with
          | nil => simp [cflds] at h; subst h; cases x <;> simp [aeq] at he <;> cases y <;> simp [aeq] at he; exact ⟨_, _, rfl, rfl⟩
          | cons f l =>
            simp only [cflds] at h
            split at h
            · simp at h
            · simp only [Option.bind_eq_some_iff, Option.map_eq_some_iff] at h
              obtain ⟨_, _, _, _, _, _, _, _, rfl⟩ := h
              cases x <;> simp only [aeq, reduceCtorEq] at he
              cases y <;> simp only [aeq, reduceCtorEq] at he
              exact ⟨_, _, rfl, rfl⟩
        obtain ⟨xs, ys, rfl, rfl⟩ := hagg
        cases hx with
        | agg _ xs' hx hx1 =>
          cases hy with
          | agg _ ys' hy hy1 =>
            rw [run_equalIn_struct w D t _ _ (by rw [hfs]; exact hu) hst.1, hfs]
            exact eqFields_sound (eqt_sound d) hx hx1 hy hy1 (by omega) fs.toList q h b w he
    | array n e =>
      simp only at h
      split at h
      · simp at h
      · simp only [Option.bind_eq_some_iff, Option.map_eq_some_iff] at h
        obtain ⟨es, hes, g, hg, q1, hq1, rfl⟩ := h
        cases x <;> simp only [aeq, reduceCtorEq] at he
        cases y <;> simp only [aeq, reduceCtorEq] at he
        cases hx with
        | agg _ xs' hx hx1 =>
          cases hy with
          | agg _ ys' hy hy1 =>
            have hi : ∃ i, P.info? e = some i ∧ i.size = es := by simpa [tsize, Option.map_eq_some_iff] using hes
            obtain ⟨i, hi, his⟩ := hi
            have hc : P.cellsOf e = es := by simp [Program.cellsOf, hi, his]
            rw [run_equalIn_array w D _ _ hu hi, hc, List.range_eq_range']
            exact eqItems_sound (fun D' hD' => eqt_sound d e q1 hq1 D' hD') hg hes hx hx1 hy hy1 (by omega) n 0 b w he
    | _ => simp at h

theorem aeq_junk (q : EqT) (y : AVal) : aeq q .junk y = none := by
  cases q with
  | nil k => cases k <;> rfl
  | _ => rfl

theorem aeq_any (q : EqT) (y : AVal) : aeq q .any y = none := by
  cases q with
  | nil k => cases k <;> rfl
  | _ => rfl

theorem ceqt_guard {d : Nat} {t : TypeId} {q : EqT} (h : ceqt P (d + 1) t = some q) {op : BinOp} {xo yo : Operand} {x y : AVal} {x' y' : Value} (hx : VRel m x x') (hy : VRel m y y') {b : Bool} (he : aeq q x y = some b) (w : World) :
    (eqGuard op t xo yo x' y').run P w = .ok () w := by
  have hxj : x ≠ .junk := by intro hh; subst hh; rw [aeq_junk] at he; cases he
  have hxn : x ≠ .any := by intro hh; subst hh; rw [aeq_any] at he; cases he
  have hnil : x' ≠ .nilIface := by
    intro hh; subst hh
    cases hx with
    | junk => exact absurd rfl hxj
    | any => exact absurd rfl hxn
    | nilIface =>
      cases q with
      | nil k => cases k <;> simp [aeq, aeqNil] at he
      | _ => simp [aeq] at he
  have hagg : ∀ c, x' = .agg c → P.eqGuardType P.depth t = false := by
    intro c hh; subst hh
    simp only [ceqt, Option.bind_eq_some_iff] at h
    obtain ⟨u, hu, h⟩ := h
    have hxa : ∃ l, x = .agg l := by
      cases hx with
      | junk => exact absurd rfl hxj
      | any => exact absurd rfl hxn
      | agg l => exact ⟨l, rfl⟩
    obtain ⟨l, rfl⟩ := hxa
    cases u <;> simp at h
    case int => subst h; simp [aeq] at he
    case string => subst h; simp [aeq] at he
    case bool => subst h; simp [aeq] at he
    case pointer => subst h; simp [aeq, aeqNil] at he
    case slice => subst h; simp [aeq, aeqNil] at he
    case map => subst h; simp [aeq, aeqNil] at he
    case func => subst h; simp [aeq, aeqNil] at he
    case struct => exact h.1.2
    case array => exact h.1
  unfold eqGuard
  cases op with
  | eql =>
    simp only [Bool.not_true, Bool.false_eq_true, if_false]
    split
    · exact absurd rfl hnil
    · simp [hagg _ rfl]
    · rfl
  | neq =>
    simp only [Bool.not_true, Bool.false_eq_true, if_false]
    split
    · exact absurd rfl hnil
    · simp [hagg _ rfl]
    · rfl
  | _ => rfl

theorem binOp_eql {t : TypeId} {x' y' : Value} (h1 : ∀ k n, x' ≠ .int k n) (h2 : ∀ s, x' ≠ .string s) (h3 : ∀ k b, x' ≠ .float k b) (h4 : ∀ k a b, x' ≠ .complex k a b) :
    binOp .eql t x' y' = (do pure (.bool (← Op.equal t x' y'))) ∧ binOp .neq t x' y' = (do pure (.bool (!(← Op.equal t x' y')))) := by
  cases x' with
  | int k n => exact absurd rfl (h1 k n)
  | string s => exact absurd rfl (h2 s)
  | float k b => exact absurd rfl (h3 k b)
  | complex k a b => exact absurd rfl (h4 k a b)
  | _ => exact ⟨rfl, rfl⟩

theorem ceqt_shape {d : Nat} {t : TypeId} {q : EqT} (h : ceqt P (d + 1) t = some q) (hk : ∀ u, P.underlying t = some u → (∀ k, u ≠ .int k) ∧ u ≠ .string) : (∀ k, q ≠ .int k) ∧ q ≠ .str := by
  simp only [ceqt, Option.bind_eq_some_iff] at h
  obtain ⟨u, hu, h⟩ := h
  have hn := hk u hu
  cases u with
  | int k => exact absurd rfl (hn.1 k)
  | string => exact absurd rfl hn.2
  | bool => simp at h; subst h; simp
  | pointer _ => simp at h; subst h; simp
  | slice _ => simp at h; subst h; simp
  | map _ _ => simp at h; subst h; simp
  | func _ _ _ => simp at h; subst h; simp
  | struct fs =>
    simp only at h
    split at h
    · simp at h
    · generalize fs.toList = l at h
      cases l with
      | nil => simp [cflds] at h; subst h; simp
      | cons f l =>
        simp only [cflds] at h
        split at h
        · simp at h
        · simp only [Option.bind_eq_some_iff, Option.map_eq_some_iff] at h
          obtain ⟨_, _, _, _, _, _, _, _, rfl⟩ := h
          simp
  | array n e =>
    simp only at h
    split at h
    · simp at h
    · simp only [Option.bind_eq_some_iff, Option.map_eq_some_iff] at h
      obtain ⟨_, _, _, _, _, _, rfl⟩ := h
      simp
  | _ => simp at h

theorem s_eq {neg : Bool} {t : TypeId} {q : EqT} (h : ceqt P 12 t = some q) {xo yo : Operand} {x y : AVal} {x' y' : Value} (hx : VRel m x x') (hy : VRel m y y') {b : Bool} (he : aeq q x y = some b)
    (hk : ∀ u, P.underlying t = some u → (∀ k, u ≠ .int k) ∧ u ≠ .string) (w : World) {op : BinOp} (hop : op = if neg then .neq else .eql) :
    ((do eqGuard op t xo yo x' y'; binOp op t x' y') : Sem Value).run P w = .ok (.bool (if neg then !b else b)) w := by
  simp only [Sem.run_bind, ceqt_guard h hx hy he w, Result.andThen_ok]
  have heq : (Op.equal t x' y').run P w = .ok b w := eqt_sound 12 t q h Op.maxDepth (by decide) x y x' y' b w hx hy he
  have hq := ceqt_shape h hk
  have h1 : ∀ k n, x ≠ .int k n := by
    intro k n hh; subst hh
    cases q with
    | int j => exact hq.1 j rfl
    | nil k => cases k <;> simp [aeq, aeqNil] at he
    | _ => simp [aeq] at he
  have h2 : ∀ s, x ≠ .str s := by
    intro s hh; subst hh
    cases q with
    | str => exact hq.2 rfl
    | nil k => cases k <;> simp [aeq, aeqNil] at he
    | _ => simp [aeq] at he
  have h3 : ∀ k s, x ≠ .flt k s := by
    intro k s hh; subst hh
    cases q with
    | nil k => cases k <;> simp [aeq, aeqNil] at he
    | _ => simp [aeq] at he
  have hxj : x ≠ .junk := by intro hh; subst hh; rw [aeq_junk] at he; cases he
  have hxn : x ≠ .any := by intro hh; subst hh; rw [aeq_any] at he; cases he
  obtain ⟨e1, e2⟩ := binOp_eql (t := t) (x' := x') (y' := y') (by
      intro k n hh; subst hh
      cases hx with
      | junk => exact hxj rfl
      | any => exact hxn rfl
      | int => exact h1 _ _ rfl) (by
      intro s hh; subst hh
      cases hx with
      | junk => exact hxj rfl
      | any => exact hxn rfl
      | str => exact h2 _ rfl)
    (by
      intro k s hh; subst hh
      cases hx with
      | junk => exact hxj rfl
      | any => exact hxn rfl
      | flt => exact h3 _ _ rfl
      | fltNan => exact h3 _ _ rfl) (by
      intro k a b hh; subst hh
      cases hx with
      | junk => exact hxj rfl
      | any => exact hxn rfl)
  subst hop
  cases neg with
  | true => rw [if_pos rfl, e2]; simp [heq]
  | false => simp only [Bool.false_eq_true, if_false]; rw [e1]; simp [heq]

end Go.Proofs.Ytfmjdlahabgkpaa.Am
end

section
/- What the abstract machine's operations answer, the model's do: slices, indexes, append, copy, clear, make. -/
set_option linter.unusedSimpArgs false
set_option linter.unusedVariables false
namespace Go.Proofs.Ytfmjdlahabgkpaa.Am
open Go Go.RowKit

variable {P : Program} {w0 w : World} {B : Nat → Bool} {m : Inj} {H H' : AHeap}

inductive OptRel (m : Inj) : Option AVal → Option Value → Prop where
  | none : OptRel m none none
  | some {x : AVal} {x' : Value} : VRel m x x' → OptRel m (some x) (some x')

theorem copdo_rel {nt : Nat} {env : Env} {a : Act} (hE : ERel m nt env a) {x : Option Operand} {y : Option AOpd} (h : copdo nt x = some y) : OptRel m (y.map (aev env)) (x.map a.eval) := by
  cases x with
  | none => simp [copdo] at h; subst h; exact .none
  | some x =>
    simp only [copdo, Option.map_eq_some_iff] at h
    obtain ⟨u, hu, rfl⟩ := h
    exact .some (copd_rel hE hu)

theorem s_bound {x : AVal} {x' : Value} (hx : VRel m x x') {d y y' r : Nat} (h : abound (some x) d y = some r) (hy : y ≤ y') (code : BoundsCode) (w : World) : (Instr.sliceBound x' y' code).run P w = .ok r w ∧ r ≤ y := by
  cases x with
  | int k i =>
    cases hx
    simp only [abound] at h
    split at h
    · rename_i hi
      simp at h; subst h
      refine ⟨?_, by omega⟩
      simp only [Instr.sliceBound, asIntOf, Sem.run_bind, Sem.run_pure, Result.andThen_ok]
      rw [if_pos ⟨hi.1, by omega⟩]
      rfl
    · simp at h
  | _ => simp [abound] at h

theorem s_bounds {len cap c' : Nat} {lo hi mx : Option AVal} {lo' hi' mx' : Option Value} (hlo : OptRel m lo lo') (hhi : OptRel m hi hi') (hmx : OptRel m mx mx') {l h mm : Nat} (hb : abounds len cap lo hi mx = some (l, h, mm)) (hc : cap ≤ c') (hlen : len ≤ cap) (isSlice : Bool) (w : World) :
    ∃ m', (Instr.sliceBounds isSlice len c' lo' hi' mx').run P w = .ok (l, h, m') w ∧ (mx.isSome = true → m' = mm) ∧ (mx.isSome = false → mm = cap ∧ m' = c') ∧ l ≤ h ∧ h ≤ mm ∧ mm ≤ cap := by
  simp only [abounds, Option.bind_eq_some_iff] at hb
  obtain ⟨m1, hm1, h1, hh1, l1, hl1, hb⟩ := hb
  split at hb
  · simp at hb
  · rename_i hnn
    simp at hb
    obtain ⟨rfl, rfl, rfl⟩ := hb
    have hl : ∀ code, ((match lo' with | some v => Instr.sliceBound v h1 code | none => pure 0) : Sem Nat).run P w = .ok l1 w ∧ l1 ≤ h1 := by
      intro code
      cases hlo with
      | none => simp [abound] at hl1; subst hl1; exact ⟨rfl, Nat.zero_le _⟩
      | some hx => exact s_bound hx hl1 (Nat.le_refl _) code w
    cases hmx with
    | none =>
      simp [abound] at hm1; subst hm1
      refine ⟨c', ?_, by simp, fun _ => ⟨rfl, rfl⟩, (hl .sliceB).2, ?_, Nat.le_refl _⟩
      · cases hhi with
        | none =>
          simp [abound] at hh1; subst hh1
          simp only [Instr.sliceBounds, Sem.run_bind, Sem.run_pure, Result.andThen_ok, Option.isSome_none, Bool.false_eq_true, if_false]
          have hl0 := hl .sliceB
          cases lo' with
          | none => simp only [Sem.run_pure] at hl0; simp at hl0; simp only [Sem.run_bind, Sem.run_pure, Result.andThen_ok, hl0.1]
          | some v => simp only at hl0; simp only [Sem.run_bind, Sem.run_pure, Result.andThen_ok, hl0.1]
        | some hx =>
          simp at hh1
          have := fun code => s_bound (P := P) hx hh1 hc code w
          simp only [Instr.sliceBounds, Sem.run_bind, Sem.run_pure, Result.andThen_ok, Option.isSome_none, Bool.false_eq_true, if_false, (this _).1]
          have hl0 := hl .sliceB
          cases lo' with
          | none => simp only [Sem.run_pure] at hl0; simp at hl0; simp only [Sem.run_bind, Sem.run_pure, Result.andThen_ok, hl0.1]
          | some v => simp only at hl0; simp only [Sem.run_bind, Sem.run_pure, Result.andThen_ok, hl0.1]
      · cases hhi with
        | none => simp [abound] at hh1; omega
        | some hx =>
          simp at hh1
          exact (s_bound (P := P) hx hh1 (Nat.le_refl _) .sliceB w).2
    | some hx =>
      have hm := fun code => s_bound (P := P) hx hm1 hc code w
      cases hhi with
      | none => simp at hnn
      | some hy =>
        simp at hh1
        have hh := fun code => s_bound (P := P) hy hh1 (Nat.le_refl _) code w
        refine ⟨m1, ?_, fun _ => rfl, by simp, (hl .sliceB).2, (hh .sliceB).2, (hm .sliceB).2⟩
        simp only [Instr.sliceBounds, Sem.run_bind, Sem.run_pure, Result.andThen_ok, Option.isSome_some, if_true, (hm _).1, (hh _).1]
        have hl0 := hl .slice3C
        cases lo' with
        | none => simp only [Sem.run_pure] at hl0; simp at hl0; simp only [Sem.run_bind, Sem.run_pure, Result.andThen_ok, hl0.1]
        | some v => simp only at hl0; simp only [Sem.run_bind, Sem.run_pure, Result.andThen_ok, hl0.1]

theorem s_slc {t e : TypeId} {es : Nat} (ht : P.underlying t = some (.slice e)) (hes : tsize P e = some es) {x v : AVal} {x' : Value} (hx : VRel m x x') {lo hi mx : Option AVal} {lo' hi' mx' : Option Value} (hlo : OptRel m lo lo') (hhi : OptRel m hi hi') (hmx : OptRel m mx mx')
    (h : aslc es x lo hi mx = some v) (w : World) : ∃ v', (Instr.sliceAt t x' lo' hi' mx').run P w = .ok v' w ∧ VRel m v v' := by
  simp only [Instr.sliceAt, Sem.run_bind, run_underlying ht, Result.andThen_ok, Instr.slice]
  cases hx with
  | nils =>
    simp only [aslc, Option.map_eq_some_iff] at h
    obtain ⟨⟨l, h0, mm⟩, hb, rfl⟩ := h
    obtain ⟨m', hr, hm1, hm2, hlh, hhm, hmc⟩ := s_bounds (P := P) hlo hhi hmx hb (Nat.le_refl _) (Nat.le_refl _) true w
    have h1 : h0 = 0 := by omega
    have h2 : l = 0 := by omega
    have h3 : m' = 0 := by
      cases hs : mx.isSome with
      | true => rw [hm1 hs]; omega
      | false => exact (hm2 hs).2
    subst h1 h2 h3
    simp only [Sem.run_bind, run_underlying ht, Result.andThen_ok, hr, run_sizeOf' hes, Sem.run_pure]
    exact ⟨_, rfl, by simpa using VRel.nils⟩
  | slice id off len cap g a' c' hid hlc hcc hg hge ho =>
    simp only [aslc, Option.bind_eq_some_iff] at h
    obtain ⟨⟨l, h0, mm⟩, hb, h⟩ := h
    obtain ⟨m', hr, hm1, hm2, hlh, hhm, hmc⟩ := s_bounds (P := P) hlo hhi hmx hb hcc hlc true w
    simp only [Sem.run_bind, run_underlying ht, Result.andThen_ok, hr, run_sizeOf' hes, Sem.run_pure]
    refine ⟨_, rfl, ?_⟩
    simp only [Option.map_some]
    -- a result whose capacity is known
    have exact_ : ∀ (hm' : m' = mm), VRel m (.slice id (if mm = l then off else off + l * es) (h0 - l) (mm - l) none)
        (.slice (if m' = l then some a' else some (a'.add (l * es))) (h0 - l) (m' - l)) := by
      intro hm'
      subst hm'
      by_cases hml : m' = l
      · simp only [hml, if_true]
        refine .slice _ _ _ _ _ _ _ hid (by omega) (Nat.le_refl _) (fun _ => rfl) (by simp) ?_
        rcases ho with ho | ho
        · exact .inl ho
        · exact .inr (by omega)
      · simp only [hml, if_false]
        refine .slice _ _ _ _ _ _ _ hid (by omega) (Nat.le_refl _) (fun _ => rfl) (by simp) ?_
        rcases ho with ho | ho
        · exact .inl (by rw [ho, addr_add, Nat.add_assoc])
        · exact .inr (by omega)
    cases g with
    | none =>
      simp at h; subst h
      refine exact_ ?_
      cases hs : mx.isSome with
      | true => exact hm1 hs
      | false => rw [(hm2 hs).1, (hm2 hs).2]; exact hg rfl
    | some e' =>
      simp only at h
      split at h
      · rename_i hee
        obtain ⟨rfl, hpos⟩ := hee
        cases hs : mx.isSome with
        | true =>
          simp [hs] at h; subst h
          exact exact_ (hm1 hs)
        | false =>
          simp [hs] at h; subst h
          obtain ⟨rfl, rfl⟩ := hm2 hs
          have htot := hge _ rfl
          by_cases hml : m' = l
          · simp only [hml, if_true]
            refine .slice _ _ _ _ _ _ _ hid (by omega) (by omega) (by simp) ?_ (.inr ⟨by omega, by omega⟩)
            intro e1 he1
            simp at he1; subst he1
            simp only [hml] at htot
            have : l - l = 0 := by omega
            rw [this]; omega
          · simp only [hml, if_false]
            refine .slice _ _ _ _ _ _ _ hid (by omega) (by omega) (by simp) ?_ ?_
            · intro e1 he1
              simp at he1; subst he1
              have : l * e' + (m' - l) * e' = m' * e' := by rw [← Nat.add_mul]; congr 1; omega
              omega
            · rcases ho with ho | ho
              · exact .inl (by rw [ho, addr_add, Nat.add_assoc])
              · exact .inr (by omega)
      · simp at h
  | _ => simp [aslc] at h

theorem s_slcArr {n es : Nat} {x v : AVal} {x' : Value} (hx : VRel m x x') {lo hi mx : Option AVal} {lo' hi' mx' : Option Value} (hlo : OptRel m lo lo') (hhi : OptRel m hi hi') (hmx : OptRel m mx mx')
    (h : aslcArr n es x lo hi mx = some v) (w : World) : ∃ a l h0 mm, x' = .pointer (some a) ∧ (Instr.sliceBounds false n n lo' hi' mx').run P w = .ok (l, h0, mm) w ∧ VRel m v (.slice (some (if mm = l then a else a.add (l * es))) (h0 - l) (mm - l)) := by
  cases hx with
  | ptr id off hid =>
    simp only [aslcArr, Option.map_eq_some_iff] at h
    obtain ⟨⟨l, h0, mm⟩, hb, rfl⟩ := h
    obtain ⟨m', hr, hm1, hm2, hlh, hhm, hmc⟩ := s_bounds (P := P) hlo hhi hmx hb (Nat.le_refl _) (Nat.le_refl _) false w
    have hm' : m' = mm := by
      cases hs : mx.isSome with
      | true => exact hm1 hs
      | false => rw [(hm2 hs).1, (hm2 hs).2]
    subst hm'
    refine ⟨_, l, h0, m', rfl, hr, ?_⟩
    by_cases hml : m' = l
    · simp only [hml, if_true]
      exact .slice _ _ _ _ _ _ _ hid (by omega) (Nat.le_refl _) (fun _ => rfl) (by simp) (.inl rfl)
    · simp only [hml, if_false, addr_add]
      exact .slice _ _ _ _ _ _ _ hid (by omega) (Nat.le_refl _) (fun _ => rfl) (by simp) (.inl (by rw [Nat.add_assoc]))
  | _ => simp [aslcArr] at h

theorem s_slcStr {t : TypeId} (ht : P.underlying t = some .string) {s : List UInt8} {lo hi : Option AVal} {lo' hi' : Option Value} (hlo : OptRel m lo lo') (hhi : OptRel m hi hi') {l h0 mm : Nat}
    (h : abounds s.length s.length lo hi none = some (l, h0, mm)) (w : World) : ∃ v', (Instr.sliceAt t (.string ⟨s.toArray⟩) lo' hi' none).run P w = .ok v' w ∧ VRel m (.str ((s.take h0).drop l)) v' := by
  obtain ⟨m', hr, hm1, hm2, hlh, hhm, hmc⟩ := s_bounds (P := P) hlo hhi .none h (Nat.le_refl _) (Nat.le_refl _) false w
  have hsz : (⟨s.toArray⟩ : ByteArray).size = s.length := rfl
  simp only [Instr.sliceAt, Sem.run_bind, run_underlying ht, Result.andThen_ok, Instr.slice, Option.isSome_none, Bool.false_eq_true, if_false, Sem.run_pure, hsz, hr]
  refine ⟨_, rfl, ?_⟩
  have : (⟨s.toArray⟩ : ByteArray).extract l h0 = ⟨((s.take h0).drop l).toArray⟩ := bytes_inj' (by simp [List.extract_eq_take_drop, List.drop_take])
  rw [this]
  exact .str _

/-! ### Indexes -/
theorem s_idx {n i : Nat} {x : AVal} {x' : Value} (hx : VRel m x x') (h : aidx n x = some i) : ∃ k j, x' = .int k j ∧ 0 ≤ j ∧ j < n ∧ j.toNat = i ∧ i < n := by
  cases hx <;> simp [aidx] at h
  obtain ⟨⟨h1, h2⟩, h3⟩ := h
  exact ⟨_, _, rfl, h1, h2, h3, by omega⟩

theorem s_idxAArr {t e : TypeId} {n es : Nat} (ht : P.underlying t = some (.array n e)) (hes : tsize P e = some es) {id o i : Nat} (hid : m.has id) {y : AVal} {y' : Value} (hy : VRel m y y') (h : aidx n y = some i) (w : World) :
    ∃ v', (Instr.indexAt t (.pointer (some ⟨(m.loc id).block, (m.loc id).off + o, none⟩)) y').run P w = .ok v' w ∧ VRel m (.ptr id (o + i * es)) v' := by
  obtain ⟨k, j, rfl, h1, h2, h3, _⟩ := s_idx hy h
  simp only [Instr.indexAt, asIntOf, Sem.run_bind, Sem.run_pure, Result.andThen_ok, run_underlying ht, Instr.sureAddr, run_sizeOf' hes]
  rw [if_pos ⟨h1, h2⟩]
  simp only [Sem.run_bind, Sem.run_pure, Result.andThen_ok, run_sizeOf' hes, addr_add, h3]
  refine ⟨_, rfl, ?_⟩
  rw [Nat.add_assoc]
  exact .ptr _ _ hid

theorem s_idxASl {t e : TypeId} {es : Nat} (ht : P.underlying t = some (.slice e)) (hes : tsize P e = some es) {id o len cap i : Nat} {g : Option Nat} {x' : Value} (hx : VRel m (.slice id o len cap g) x') {y : AVal} {y' : Value} (hy : VRel m y y') (h : aidx len y = some i) (w : World) :
    ∃ v', (Instr.indexAt t x' y').run P w = .ok v' w ∧ VRel m (.ptr id (o + i * es)) v' := by
  obtain ⟨k, j, rfl, h1, h2, h3, h4⟩ := s_idx hy h
  cases hx with
  | slice _ _ _ _ _ a' c' hid hlc hcc hg hge ho =>
    have ho : a' = ⟨(m.loc id).block, (m.loc id).off + o, none⟩ := by
      rcases ho with ho | ho
      · exact ho
      · omega
    subst ho
    simp only [Instr.indexAt, asIntOf, Sem.run_bind, Sem.run_pure, Result.andThen_ok, run_underlying ht, Instr.sureAddr, run_sizeOf' hes]
    rw [if_pos ⟨h1, h2⟩]
    simp only [Sem.run_bind, Sem.run_pure, Result.andThen_ok, run_sizeOf' hes, addr_add, h3]
    refine ⟨_, rfl, ?_⟩
    rw [Nat.add_assoc]
    exact .ptr _ _ hid

theorem s_idxArr {t e : TypeId} {n es : Nat} {g : Bool} (ht : P.underlying t = some (.array n e)) (hes : tsize P e = some es) (hg : tagg P e = some g) {l : List AVal} {x' : Value} (hx : VRel m (.agg l) x') {i : Nat} {y v : AVal} {y' : Value} (hy : VRel m y y') (h : aidx n y = some i)
    (hp : apart g (i * es) es l = some v) (w : World) : ∃ v', (Instr.index t x' y').run P w = .ok v' w ∧ VRel m v v' := by
  obtain ⟨k, j, rfl, h1, h2, h3, h4⟩ := s_idx hy h
  cases hx with
  | agg _ l' ha h1' =>
    obtain ⟨v', hv, hr⟩ := s_part (P := P) hg hes ha h1' hp w
    refine ⟨v', ?_, hr⟩
    simp only [Instr.index, asIntOf, Sem.run_bind, Sem.run_pure, Result.andThen_ok, run_underlying ht]
    rw [if_pos ⟨h1, h2⟩]
    simp only [Sem.run_bind, run_sizeOf' hes, Result.andThen_ok, h3]
    exact hv

theorem s_idxStr {t : TypeId} (ht : P.underlying t = some .string) {s : List UInt8} {i : Nat} {b : UInt8} {y : AVal} {y' : Value} (hy : VRel m y y') (h : aidx s.length y = some i) (hb : s[i]? = some b) (w : World) :
    (Instr.index t (.string ⟨s.toArray⟩) y').run P w = .ok (.int .u8 (b.toNat : Int)) w := by
  obtain ⟨k, j, rfl, h1, h2, h3, h4⟩ := s_idx hy h
  simp only [Instr.index, asIntOf, Sem.run_bind, Sem.run_pure, Result.andThen_ok, run_underlying ht]
  have : (⟨s.toArray⟩ : ByteArray)[j.toNat]? = some b := by
    rw [h3]
    show (if h : i < (⟨s.toArray⟩ : ByteArray).size then some ((⟨s.toArray⟩ : ByteArray)[i]'h) else none) = some b
    rw [dif_pos (show i < (⟨s.toArray⟩ : ByteArray).size from h4)]
    rw [List.getElem?_eq_getElem h4] at hb
    exact hb
  simp only [h1, if_true, this]
  rfl

end Go.Proofs.Ytfmjdlahabgkpaa.Am
end

section
/- What the abstract machine's operations answer, the model's do: append, copy, clear, make, build, texts and bytes. -/
set_option linter.unusedSimpArgs false
set_option linter.unusedVariables false
namespace Go.Proofs.Ytfmjdlahabgkpaa.Am
open Go Go.RowKit

variable {P : Program} {w0 w : World} {B : Nat → Bool} {m : Inj} {H H' : AHeap}

theorem s_len {x : AVal} {x' : Value} (hx : VRel m x x') {n : Nat} (h : alen x = some n) (w : World) : (Builtin.lenOf x').run P w = .ok n w := by
  cases hx <;> simp [alen] at h <;> subst h <;> rfl

theorem all2_bytes (l : List UInt8) : All2 (VRel m) (l.map fun b => AVal.int .u8 (b.toNat : Int)) (l.map fun b => Value.int .u8 (b.toNat : Int)) := by
  induction l with
  | nil => exact .nil
  | cons b l ih => exact .cons (.int _ _) ih

theorem bytes_one (l : List UInt8) : ∀ y, y ∈ (l.map fun b => Value.int .u8 (b.toNat : Int)) → y.oneCell' = true := by
  intro y hy
  simp at hy
  obtain ⟨b, _, rfl⟩ := hy
  rfl

theorem s_cells (hS : SRel w0 B m H w) {es n : Nat} {x : AVal} {x' : Value} (hx : VRel m x x') {cs : List AVal} (h : acells H es n x = some cs) :
    ∃ vs : List Value, (Builtin.firstCells es n x').run P w = .ok vs.toArray w ∧ All2 (VRel m) cs vs ∧ (∀ y, y ∈ vs → y.oneCell' = true) ∧ vs.length = cs.length := by
  cases hx with
  | nils =>
    simp [acells] at h; subst h
    exact ⟨[], rfl, .nil, by simp, rfl⟩
  | str s =>
    simp only [acells] at h
    split at h
    case isFalse => simp at h
    rename_i hn
    simp only [Option.some.injEq] at h
    subst h
    refine ⟨(s.take n).map fun b => .int .u8 (b.toNat : Int), ?_, all2_bytes _, bytes_one _, by simp⟩
    simp only [Builtin.firstCells, Sem.run_pure]
    congr 1
    apply Array.ext'
    simp [List.extract_eq_take_drop]
  | slice id off len cap g a' c' hid hlc hcc hg hge ho =>
    simp only [acells] at h
    by_cases hz : n * es = 0
    · rw [if_pos hz] at h
      simp at h; subst h
      refine ⟨[], ?_, .nil, by simp, rfl⟩
      simp only [Builtin.firstCells, hz]
      rfl
    rw [if_neg hz] at h
    split at h
    · rename_i l own hobj
      split at h
      · rename_i hb
        simp at h; subst h
        · have hn : 0 < n := by
            rcases Nat.eq_zero_or_pos n with h0 | h0
            · subst h0; simp at hz
            · exact h0
          have ho : a' = ⟨(m.loc id).block, (m.loc id).off + off, none⟩ := by
            rcases ho with ho | ho
            · exact ho
            · omega
          subst ho
          obtain ⟨vs, hr, ha, h1, hlen⟩ := hS.loadCells (P := P) hobj hb.2
          exact ⟨vs, hr, ha, h1, (forall2_length ha).symm⟩
      · simp at h
    · simp at h
  | _ => simp [acells] at h

/-! ### Zero values -/
theorem all2_of_get {α β : Type} {R : α → β → Prop} : ∀ {l : List α} {l' : List β}, l.length = l'.length → (∀ (i : Nat) x y, l[i]? = some x → l'[i]? = some y → R x y) → All2 R l l'
  | [], [], _, _ => .nil
  | [], _ :: _, h, _ => by simp at h
  | _ :: _, [], h, _ => by simp at h
  | a :: l, b :: l', h, hr => .cons (hr 0 a b rfl rfl) (all2_of_get (by simpa using h) fun i x y hx hy => hr (i + 1) x y (by simpa using hx) (by simpa using hy))

theorem arep_length (z : List AVal) : ∀ n, (arep z n).length = n * z.length
  | 0 => by simp [arep]
  | n + 1 => by simp [arep, arep_length z n, Nat.add_mul, Nat.add_comm]

theorem arep_get (z : List AVal) : ∀ (n i : Nat), i < n * z.length → (arep z n)[i]? = z[i % z.length]?
  | 0, i, h => by simp at h
  | n + 1, i, h => by
    simp only [arep]
    by_cases hi : i < z.length
    · rw [List.getElem?_append_left hi, Nat.mod_eq_of_lt hi]
    · rw [List.getElem?_append_right (by omega), arep_get z n (i - z.length) (by rw [Nat.add_mul] at h; omega)]
      congr 1
      rw [Nat.mod_eq_sub_mod (by omega : i ≥ z.length)]

theorem all2_zeros {z : List AVal} {zv : List Value} (hz : All2 (VRel m) z zv) (n : Nat) {k : Nat} (hk : k = n * zv.length) :
    All2 (VRel m) (arep z n) (((Array.range k).map fun i => (zv.toArray)[i % zv.toArray.size]!).toList) := by
  have hlz := forall2_length hz
  subst hk
  apply all2_of_get
  · simp [arep_length, hlz]
  · intro i x y hx hy
    have hi : i < n * z.length := by
      rcases Nat.lt_or_ge i (n * z.length) with h | h
      · exact h
      · rw [List.getElem?_eq_none (by rw [arep_length]; exact h)] at hx; cases hx
    rw [arep_get z n i hi] at hx
    obtain ⟨v, hv, hr⟩ := forall2_get hz _ _ hx
    have hpos : 0 < z.length := by
      rcases Nat.eq_zero_or_pos z.length with h0 | h0
      · rw [h0] at hi; simp at hi
      · exact h0
    have hlt : i % zv.length < zv.length := Nat.mod_lt _ (by omega)
    have hy' : y = v := by
      rw [hlz] at hi hv
      simp [hi] at hy
      rw [List.getElem?_eq_getElem hlt] at hv
      simp at hv
      rw [← hy, ← hv]
      simp [hlt]
    rw [hy']; exact hr

theorem zeros_cells {zv : List Value} (h : ∀ y, y ∈ zv → y.oneCell' = true) {n k : Nat} (hk : k = n * zv.length) :
    ∀ y, y ∈ ((Array.range k).map fun i => (zv.toArray)[i % zv.toArray.size]!).toList → y.oneCell' = true := by
  intro y hy
  subst hk
  simp at hy
  obtain ⟨i, hi, rfl⟩ := hy
  have hpos : 0 < zv.length := by
    rcases Nat.eq_zero_or_pos zv.length with h0 | h0
    · rw [h0] at hi; simp at hi
    · exact h0
  have hlt : i % zv.length < zv.length := Nat.mod_lt _ hpos
  simp [hlt]
  exact h _ (List.getElem_mem hlt)

/-! ### make -/
theorem s_mkS (hS : SRel w0 B m H w) {t e : TypeId} {es bs : Nat} {z : List AVal} (ht : P.underlying t = some (.slice e)) (hes : tsize P e = some es) (hbs : tbytes P e = some bs) (hz : tzero P e = some z) (hzl : z.length = es) {x y v : AVal} {x' y' : Value} (hx : VRel m x x') (hy : VRel m y y')
    (h : amkS H es bs z x y = some (v, H')) : DoneV w0 B m H' v ((Instr.makeSlice t x' y').run P w) := by
  cases hx with
  | int kx l =>
    cases hy with
    | int ky c =>
      simp only [amkS] at h
      split at h
      · rename_i hc
        obtain ⟨h0, h1, h2, h3, _⟩ := hc
        simp at h
        obtain ⟨rfl, rfl⟩ := h
        obtain ⟨zv, hzr, hzc⟩ := run_zero hz w
        obtain ⟨hza, hz1⟩ := cvals_rel (m := m) hzc
        obtain ⟨i, hi, hib⟩ := run_bytes hbs w
        have hl : IntKind.i64.wrap l = l := IntWalk.i64_in l (by omega)
        have hcw : IntKind.i64.wrap c = c := IntWalk.i64_in c (by omega)
        have hzvl : zv.cells.toList.length = es := by rw [← forall2_length hza]; exact hzl
        have hn : c.toNat * es = c.toNat * zv.cells.toList.length := by rw [hzvl]
        have hA := all2_zeros hza c.toNat hn
        have h1c := zeros_cells hz1 hn
        generalize hVS : ((Array.range (c.toNat * es)).map fun i => (zv.cells.toList.toArray)[i % zv.cells.toList.toArray.size]!) = VS at hA h1c
        obtain ⟨m', hm, hloc, hn', hS'⟩ := s_new hS e hA h1c
        have hrun : (Instr.makeSlice t (.int kx l) (.int ky c)).run P w = .ok (.slice (some ⟨w.heap.size, 0, none⟩) l.toNat c.toNat) (w.alloc (.cells VS e (0, 0))) := by
          have ht1 : ¬ (c < 0) := by omega
          have ht2 : ¬ ((bs : Int) * c > 281474976710656) := by rw [Int.mul_comm]; omega
          have ht3 : ¬ (l < 0) := by omega
          have ht4 : ¬ (l > c) := by omega
          simp only [Instr.makeSlice, Sem.run_bind, run_underlying ht, Result.andThen_ok, asInt, asIntOf, Sem.run_pure, hi, hl, hcw, hib]
          have hcond : ((decide (c < 0) || decide ((bs : Int) * c > 2 ^ 48)) || decide (l < 0) || decide (l > c)) = false := by
            simp; omega
          simp only [hcond, Bool.false_eq_true, if_false, askRoom]
          have hmark : ((if c.toNat * bs > roomBytes then mark .noRoom else pure ()) : Sem Unit).run P w = .ok () w := by split <;> rfl
          simp only [Sem.run_bind, hmark, Result.andThen_ok, run_sizeOf' hes]
          by_cases hzz : c.toNat * es = 0
          · simp only [hzz, if_true, Sem.run_bind, Sem.run_pure, Result.andThen_ok, run_newRow]
            rw [← hVS, hzz]
            simp [Array.range_zero']
          · simp only [hzz, if_false, Sem.run_bind, Sem.run_pure, Result.andThen_ok, hzr, run_newRow]
            rw [← hVS]
        refine ⟨_, _, m', hrun, hm, ?_, ?_⟩
        · simpa using hS'
        · rw [hS.next]
          have := VRel.slice (m := m') m.n 0 l.toNat c.toNat none ⟨w.heap.size, 0, none⟩ c.toNat hn' (by omega) (Nat.le_refl _) (fun _ => rfl) (by simp) (.inl (by rw [hloc]))
          exact this
      · simp at h
    | _ => simp [amkS] at h
  | _ => simp [amkS] at h

/-! ### Texts and bytes -/
theorem s_sToB (hS : SRel w0 B m H w) {s d e : TypeId} (hs : P.underlying s = some .string) (hd : P.underlying d = some (.slice e)) (he : P.underlying e = some (.int .u8)) (x : List UInt8) :
    DoneV w0 B m (H.new (.cells (x.map fun b => .int .u8 (b.toNat : Int)) true)) (.slice H.next 0 x.length x.length (some 1)) ((convert s d (.string ⟨x.toArray⟩)).run P w) := by
  have hge := grownCap_ge w x.length 0 e
  generalize hcap : grownCap w x.length 0 e = cap at hge
  have hcut : (Question.appendCap x.length 0 e).cut (w.tape w.drawn (.appendCap x.length 0 e)) = cap := hcap
  let vs : List Value := x.map fun b => .int .u8 (b.toNat : Int)
  let rest : List Value := List.replicate (cap - x.length) (.int .u8 0)
  have hlen : (vs ++ rest).length = cap := by simp [vs, rest]; omega
  have hS' := hS.drew.new (rest := rest) (all2_bytes x) (bytes_one x) e (cap, cap + 1) (fun j hj => by simp [vs, rest] at hj; simp; omega) (.cells (vs ++ rest).toArray e (cap, cap + 1)) rfl
  refine ⟨.slice (some ⟨w.heap.size, 0, none⟩) x.length cap, w.drew.alloc (.cells (vs ++ rest).toArray e (cap, cap + 1)), _, ?_, m.les_ext _, hS', ?_⟩
  · have hsz : (⟨x.toArray⟩ : ByteArray).size = x.length := rfl
    simp only [convert, Sem.run_bind, run_underlying hs, run_underlying hd, run_underlying he, Result.andThen_ok, Conv.stringToBytes, hsz]
    have hch : (choose (.appendCap x.length 0 e)).run P w = .ok cap w.drew := by
      simp only [choose, Sem.run]
      rw [if_neg (by simp [Question.forced])]
      rw [hcut]
      rfl
    have hcells : ((⟨x.toArray⟩ : ByteArray).data.map fun b => Value.int .u8 (b.toNat : Int)) ++ Array.replicate (cap - x.length) (.int .u8 0) = (vs ++ rest).toArray := by
      apply Array.ext'
      simp [vs, rest]
    simp only [hch, Result.andThen_ok, hcells, run_newRow, Sem.run_bind, markStringish, shape, freeze, Sem.run, World.shape?]
    have hheap : (w.drew.alloc (.cells (vs ++ rest).toArray e (0, 0))).heap[w.drew.heap.size]? = some (.cells (vs ++ rest).toArray e (0, 0)) := by
      show (w.drew.heap.push _)[w.drew.heap.size]? = _
      rw [Array.getElem?_push, if_pos rfl]
    simp only [hheap, Result.andThen_ok, Sem.run_bind, Sem.run, Sem.run_pure]
    congr 1
    simp only [World.freeze, World.alloc]
    simp only [show ¬ (1 = 0) by omega, if_false]
    congr 1
    apply Array.ext_getElem?
    intro i
    rw [Array.getElem?_modify, Array.getElem?_push, Array.getElem?_push]
    by_cases hi : i = w.drew.heap.size
    · subst hi
      simp [hlen]
    · rw [if_neg hi, if_neg hi, if_neg (Ne.symm hi)]
  · rw [hS.next]
    have hloc := m.ext_new ⟨w.drew.heap.size, 0, (vs ++ rest).length⟩
    have := VRel.slice (m := m.ext ⟨w.drew.heap.size, 0, (vs ++ rest).length⟩) m.n 0 x.length x.length (some 1) ⟨w.heap.size, 0, none⟩ cap (Inj.ext_has _ _) (Nat.le_refl _) hge (by simp) (by intro e1 h1; simp at h1; subst h1; rw [hloc, hlen]; simp) (.inl (by rw [hloc]; rfl))
    exact this

theorem bytes_foldl (P : Program) (w : World) (f : Value → ByteArray → Sem (ForInStep ByteArray)) (hf : ∀ (n : Int) (r : ByteArray), (f (.int .u8 n) r).run P w = .ok (.yield (r.push (UInt8.ofNat n.toNat))) w) :
    ∀ (vs : List Value) (l : List UInt8) (cs : List AVal) (acc : ByteArray), All2 (VRel m) cs vs → aop.abytes cs = some l → (forIn vs acc f).run P w = .ok ⟨(acc.data.toList ++ l).toArray⟩ w
  | [], l, cs, acc, ha, h => by
    cases ha
    simp [aop.abytes] at h; subst h
    simp only [List.forIn_nil, Sem.run_pure]
    congr 1
    exact bytes_inj' (by simp)
  | v :: vs, l, cs, acc, ha, h => by
    cases ha with
    | cons hv ha =>
      rename_i c cs
      cases hv with
      | int k n =>
        cases k <;> simp [aop.abytes] at h
        obtain ⟨r, hr, rfl⟩ := h
        simp only [List.forIn_cons, Sem.run_bind, hf, Result.andThen_ok]
        rw [bytes_foldl P w f hf vs r cs _ ha hr]
        congr 1
        exact bytes_inj' (by simp [ByteArray.push])
      | _ => simp [aop.abytes] at h

theorem s_bToS (hS : SRel w0 B m H w) {s d e : TypeId} (hs : P.underlying s = some (.slice e)) (hd : P.underlying d = some .string) (he : P.underlying e = some (.int .u8)) {x : AVal} {x' : Value} (hx : VRel m x x') (hxs : ∀ l, x ≠ .str l) {n : Nat} (hn : alen x = some n) {cs : List AVal} (hc : acells H 1 n x = some cs) {l : List UInt8} (hl : aop.abytes cs = some l) :
    (convert s d x').run P w = .ok (.string ⟨l.toArray⟩) w := by
  have hconv : (convert s d x').run P w = (Conv.bytesToString x').run P w := by
    cases hx with
    | nils => simp [convert, run_underlying hs, run_underlying hd, run_underlying he]
    | slice => simp [convert, run_underlying hs, run_underlying hd, run_underlying he]
    | str l => exact absurd rfl (hxs l)
    | _ => simp [alen] at hn
  rw [hconv]
  obtain ⟨vs, hr, ha, h1, hlen⟩ := s_cells (P := P) hS hx hc
  cases hx with
  | nils =>
    simp [alen] at hn; subst hn
    simp [acells] at hc; subst hc
    simp [aop.abytes] at hl; subst hl
    rfl
  | slice id off len cap g a' c' hid hlc hcc hg hge ho =>
    simp [alen] at hn; subst hn
    simp only [Builtin.firstCells, Nat.mul_one] at hr
    unfold Conv.bytesToString
    simp only [Sem.run_bind, hr, Result.andThen_ok, List.forIn_toArray]
    rw [bytes_foldl (m := m) P w _ (by intro n r; simp [Sem.run_pure]) vs l cs ByteArray.empty ha hl]
    simp
  | str l => exact absurd rfl (hxs l)
  | _ => simp [alen] at hn

end Go.Proofs.Ytfmjdlahabgkpaa.Am
end

section
/- What the abstract machine's operations answer, the model's do: append, copy, clear, build, min and max. -/
set_option linter.unusedSimpArgs false
set_option linter.unusedVariables false
namespace Go.Proofs.Ytfmjdlahabgkpaa.Am
open Go Go.RowKit

variable {P : Program} {w0 w : World} {B : Nat → Bool} {m : Inj} {H H' : AHeap}

/-! ### A row of cells of the model's, written -/
theorem setCells_heap : ∀ (vs : List Value) (b o : Nat) (c : Array Value) (e : TypeId) (fz : Nat × Nat) (w : World), w.heap[b]? = some (.cells c e fz) → o + vs.length ≤ c.size →
    ∃ c', (w.setCells b o vs).heap[b]? = some (.cells c' e fz) ∧ c'.size = c.size ∧ (∀ j v, vs[j]? = some v → c'[o + j]? = some v) ∧ (∀ j, j < o ∨ o + vs.length ≤ j → c'[j]? = c[j]?) ∧
      (∀ k, k ≠ b → (w.setCells b o vs).heap[k]? = w.heap[k]?) ∧ (w.setCells b o vs).heap.size = w.heap.size ∧ (∀ w0 B, Keep B w0 w → B b = false → Keep B w0 (w.setCells b o vs))
  | [], b, o, c, e, fz, w, h, _ => ⟨c, h, rfl, by simp, by simp, fun _ _ => rfl, rfl, fun _ _ hb _ => hb⟩
  | v :: vs, b, o, c, e, fz, w, h, hl => by
    simp at hl
    obtain ⟨c', h1, h2, h3, h4, h5, h6, h7⟩ := setCells_heap vs b (o + 1) (c.setIfInBounds o v) e fz (w.setCell ⟨b, o, none⟩ v) (heap_setCell v h) (by simp; omega)
    refine ⟨c', h1, by simpa using h2, ?_, ?_, ?_, ?_, ?_⟩
    · intro j u hj
      cases j with
      | zero =>
        simp at hj; subst hj
        rw [Nat.add_zero, h4 o (.inl (by omega)), Array.getElem?_setIfInBounds_self_of_lt (by omega)]
      | succ j =>
        have := h3 j u (by simpa using hj)
        rwa [show o + 1 + j = o + (j + 1) by omega] at this
    · intro j hj
      simp at hj
      rw [h4 j (by omega), Array.getElem?_setIfInBounds_ne (by omega)]
    · intro k hk
      rw [World.setCells, h5 k hk, Below.heap_setCell _ _ _ _ (by simpa using hk)]
    · rw [World.setCells, h6]; simp
    · intro w0 B hb hB
      exact h7 w0 B (hb.setCell (by simpa using hB) _) hB

theorem zero_size {e : TypeId} {z : List AVal} (hz : tzero P e = some z) (w : World) : ∃ zv, (zeroValue e).run P w = .ok zv w ∧ zv.cells.size = z.length := by
  obtain ⟨zv, h1, h2⟩ := run_zero hz w
  have := (cvals_rel (m := { n := 0, loc := fun _ => ⟨0, 0, 0⟩ }) h2).1
  exact ⟨zv, h1, by have := forall2_length this; simp at this; omega⟩

theorem growBy_le (need : Nat) : ∀ (r c : Nat), Builtin.growBy need r c ≤ c ∨ Builtin.growBy need r c ≤ need + (need + 768) / 4
  | 0, c => .inl (Nat.le_refl _)
  | r + 1, c => by
    unfold Builtin.growBy
    split
    · exact .inl (Nat.le_refl _)
    · have := growBy_le need r (c + (c + 768) / 4)
      omega
theorem cap_le {need sCap : Nat} (h : sCap < need) : 4 * Builtin.nextslicecap need sCap ≤ 5 * need + 2040 := by
  unfold Builtin.nextslicecap
  split
  · omega
  · split
    · omega
    · have := growBy_le need 4 sCap
      omega
theorem cap_room {need sCap bs : Nat} (h : sCap < need) (hb : 5 * (need * bs) + 2040 * bs ≤ 1125899906842624) : Builtin.nextslicecap need sCap * bs ≤ 281474976710656 := by
  have := Nat.mul_le_mul_right bs (cap_le h)
  rw [Nat.add_mul, Nat.mul_assoc, Nat.mul_assoc] at this
  omega

theorem s_grow (hS : SRel w0 B m H w) {t t' ty e : TypeId} {es bs : Nat} {z : List AVal} {u' : TypeDesc} (ht : P.underlying t = some (.slice e)) (ht' : P.underlying t' = some u') (hu' : u' = .string ∨ ∃ e', u' = .slice e') (hes : tsize P e = some es) (hbs : tbytes P e = some bs) (hz : tzero P e = some z) (hzl : z.length = es)
    {base : Option Addr} {sLen sCap n : Nat} {x' : Value} {old new : List AVal} {ov nv : List Value} (hlen : ∀ w, (Builtin.lenOf x').run P w = .ok n w)
    (hold : (Builtin.firstCells es sLen (.slice base sLen sCap)).run P w.drew = .ok ov.toArray w.drew) (hnew : (Builtin.firstCells es n x').run P w.drew = .ok nv.toArray w.drew)
    (ho : All2 (VRel m) old ov) (hn : All2 (VRel m) new nv) (ho1 : ∀ y, y ∈ ov → y.oneCell' = true) (hn1 : ∀ y, y ∈ nv → y.oneCell' = true) (hlo : ov.length = sLen * es) (hln : nv.length = n * es)
    (hg : sCap < sLen + n) (hb : 5 * ((sLen + n) * bs) + 2040 * bs ≤ 1125899906842624) (h63 : sLen + n ≤ 9223372036854775807) :
    ∃ cap w' m', (Builtin.append_ #[t, t'] ty #[.slice base sLen sCap, x']).run P w = .ok (.slice (some ⟨w.heap.size, 0, none⟩) (sLen + n) cap) w' ∧ m.les m' ∧ m'.has m.n ∧ SRel w0 B m' (H.new (.cells (old ++ new) true)) w' ∧ VRel m' (.slice H.next 0 (sLen + n) (sLen + n) (some es)) (.slice (some ⟨w.heap.size, 0, none⟩) (sLen + n) cap) ∧ TyAt (m'.loc H.next) (e, none) w' := by
  have hge := grownCap_ge w (sLen + n) sCap e
  generalize hcap : grownCap w (sLen + n) sCap e = cap at hge
  have hch : (choose (.appendCap (sLen + n) sCap e)).run P w = .ok cap w.drew := by
    simp only [choose, Sem.run]
    rw [if_neg (by simp [Question.forced])]
    rw [← hcap]
    rfl
  obtain ⟨zv, hzr, hzs⟩ := zero_size hz w.drew
  obtain ⟨i, hi, hib⟩ := run_bytes hbs w
  obtain ⟨i', hi', hib'⟩ := run_bytes hbs w.drew
  let rest := (Builtin.zeroCells zv.cells (cap - (sLen + n))).toList
  have hrest : rest.length = (cap - (sLen + n)) * es := by simp [rest, size_zeroCells, hzs, hzl]
  have hall : (ov ++ nv ++ rest).length = cap * es := by
    simp only [List.length_append, hlo, hln, hrest, ← Nat.add_mul]
    congr 1; omega
  have hS' := hS.drew.new (rest := rest) (forall2_append ho hn) (by intro y hy; simp at hy; rcases hy with hy | hy; exact ho1 y hy; exact hn1 y hy) e (0, 0) (free_zero _) (.cells (ov ++ nv ++ rest).toArray e (0, 0)) rfl
  have hns : Builtin.nextslicecap (sLen + n) sCap * i.bytes ≤ 281474976710656 := by
    rw [hib]; exact cap_room hg hb
  refine ⟨cap, _, _, ?_, m.les_ext _, m.ext_has _, hS', ?_, ?_⟩
  · have hroom : ¬ (sLen + n ≤ sCap) := by omega
    have hmax : ¬ (((sLen + n : Nat) : Int) > IntKind.i64.max) := by simp [IntKind.max, IntKind.signed, IntKind.bits]; omega
    have hask : ∀ k : Nat, (askRoom k).run P w.drew = .ok () w.drew := by intro k; unfold askRoom; split <;> rfl
    have e1 := hold
    have e2 := hnew
    have hns' : ¬ (Builtin.nextslicecap (sLen + n) sCap * i.bytes > 2 ^ 48) := by
      rw [show (2 : Nat) ^ 48 = 281474976710656 by decide]; omega
    have hfin : (ov.toArray ++ nv.toArray ++ Builtin.zeroCells zv.cells (cap - (sLen + n))) = (ov ++ nv ++ rest).toArray := by
      apply Array.ext'; simp [rest]
    rcases hu' with rfl | ⟨e', rfl⟩ <;>
    · simp only [Builtin.append_]
      simp only [List.getElem?_toArray, List.getElem?_cons_zero, List.getElem?_cons_succ, Sem.run_bind, run_underlying ht, run_underlying ht', Result.andThen_ok, run_sizeOf' hes, Sem.run_pure, Bool.false_eq_true, if_false, hlen, hroom, false_or]
      simp only [Sem.run_bind, hi, Result.andThen_ok, hmax, false_and, if_false, Sem.run_pure, hns', hch, hask, hi', e1, e2, hzr, hfin, run_newRow, Bool.not_false, if_true, Bool.false_eq_true]
      rfl
  · rw [hS.next]
    have hloc := m.ext_new ⟨w.drew.heap.size, 0, (ov ++ nv ++ rest).length⟩
    have := VRel.slice (m := m.ext ⟨w.drew.heap.size, 0, (ov ++ nv ++ rest).length⟩) m.n 0 (sLen + n) (sLen + n) (some es) ⟨w.heap.size, 0, none⟩ cap (Inj.ext_has _ _) (Nat.le_refl _) hge (by simp)
      (by intro e1 h1; simp at h1; subst h1; rw [hloc, hall]; simp) (.inl (by rw [hloc]; rfl))
    exact this
  · rw [hS.next, Inj.ext_new]
    exact ⟨rfl, _, heap_alloc_new w.drew _, fun k hk => by cases hk⟩

theorem run_append_has {t t' ty e : TypeId} {es n : Nat} {u' : TypeDesc} (ht : P.underlying t = some (.slice e)) (ht' : P.underlying t' = some u') (hu' : u' = .string ∨ ∃ e', u' = .slice e') (hes : tsize P e = some es)
    {base : Option Addr} {sLen sCap : Nat} {x' : Value} {nv : List Value} (hlen : (Builtin.lenOf x').run P w = .ok n w) (hnew : (Builtin.firstCells es n x').run P w = .ok nv.toArray w) (hroom : sLen + n ≤ sCap) {w' : World}
    (hst : (match base with | some a => storeCells (a.add (sLen * es)) nv | none => pure ()).run P w = .ok () w') :
    (Builtin.append_ #[t, t'] ty #[.slice base sLen sCap, x']).run P w = .ok (.slice base (sLen + n) sCap) w' := by
  rcases hu' with rfl | ⟨e', rfl⟩ <;>
  · simp only [Builtin.append_]
    simp only [List.getElem?_toArray, List.getElem?_cons_zero, List.getElem?_cons_succ, Sem.run_bind, run_underlying ht, run_underlying ht', Result.andThen_ok, run_sizeOf' hes, Sem.run_pure, Bool.false_eq_true, if_false, hlen, hroom, if_true, Bool.not_false, hnew]
    cases base with
    | none => simp only [Sem.run_pure] at hst ⊢; simp at hst; rw [hst]
    | some a => simp only [Sem.run_bind, List.toList_toArray, hst, Result.andThen_ok, Sem.run_pure]

theorem acells_length {es n : Nat} {x : AVal} {cs : List AVal} (h : acells H es n x = some cs) (hn : alen x = some n ∨ ∃ id off len cap g, x = .slice id off len cap g) : cs.length = n * es := by
  cases x with
  | nils =>
    simp [acells] at h; subst h
    rcases hn with hn | ⟨_, _, _, _, _, hn⟩
    · simp [alen] at hn; subst hn; simp
    · cases hn
  | str s =>
    simp only [acells] at h
    split at h
    · rename_i hc
      simp only [Option.some.injEq] at h
      subst h
      simp
      rw [hc.2]; omega
    · simp at h
  | slice id off len cap g =>
    simp only [acells] at h
    by_cases hz : n * es = 0
    · rw [if_pos hz] at h; simp at h; subst h; simp [hz]
    rw [if_neg hz] at h
    split at h
    · split at h
      · rename_i hc
        simp at h; subst h
        simp
        omega
      · simp at h
    · simp at h
  | _ => simp [acells] at h

theorem s_appendQ (hS : SRel w0 B m H w) {t t' ty e : TypeId} {es bs : Nat} {z : List AVal} {u' : TypeDesc} (ht : P.underlying t = some (.slice e)) (ht' : P.underlying t' = some u') (hu' : u' = .string ∨ ∃ e', u' = .slice e') (hes : tsize P e = some es) (hbs : tbytes P e = some bs) (hz : tzero P e = some z) (hzl : z.length = es)
    {s x v : AVal} {s' x' : Value} (hs : VRel m s s') (hx : VRel m x x') (h : aappend H es bs s x = some (v, H')) : ∃ v' w' m', (Builtin.append_ #[t, t'] ty #[s', x']).run P w = .ok v' w' ∧ m.les m' ∧ SRel w0 B m' H' w' ∧ VRel m' v v' ∧ (H'.next ≠ H.next → typed H e s = true → m'.has H.next ∧ TyAt (m'.loc H.next) (e, none) w') := by
  simp only [aappend, Option.bind_eq_some_iff] at h
  obtain ⟨n, hn, new, hnew, h⟩ := h
  have hlen := fun w => s_len (P := P) hx hn w
  obtain ⟨nv, hr, hna, hn1, hnl⟩ := s_cells (P := P) hS hx hnew
  obtain ⟨nvd, hrd, hnad, hn1d, hnld⟩ := s_cells (P := P) hS.drew hx hnew
  have hcl := acells_length hnew (.inl hn)
  cases hs with
  | nils =>
    simp only at h
    split at h
    · rename_i h0
      subst h0
      simp at h
      obtain ⟨rfl, rfl⟩ := h
      refine ⟨.slice none 0 0, w, m, ?_, m.les_refl, hS, .nils, fun h => absurd rfl h⟩
      exact run_append_has ht ht' hu' hes (hlen w) hr (by omega) (by rfl)
    · rename_i h0
      split at h
      · rename_i hb
        simp at h
        obtain ⟨rfl, rfl⟩ := h
        obtain ⟨cap, w', m', hrun, hm, hmn, hS', hv, hty⟩ := s_grow (P := P) hS (ty := ty) ht ht' hu' hes hbs hz hzl (base := none) (sLen := 0) (sCap := 0) (ov := []) (old := []) hlen (by simp [Builtin.firstCells]) hrd .nil hnad (by simp) hn1d (by simp) (by rw [hnld, hcl]) (by omega) (by simpa using hb.1) (by omega)
        refine ⟨_, w', m', hrun, hm, by simpa using hS', ?_, fun _ _ => ⟨by rw [hS.next]; exact hmn, hty⟩⟩
        simpa using hv
      · simp at h
  | slice id off len cap g a' c' hid hlc hcc hg hge ho =>
    simp only at h
    split at h
    · rename_i hroom
      split at h
      · rename_i h0
        subst h0
        simp at h
        obtain ⟨rfl, rfl⟩ := h
        have hnv : nv = [] := by
          apply List.eq_nil_of_length_eq_zero
          rw [hnl, hcl]; simp
        subst hnv
        refine ⟨.slice (some a') len c', w, m, ?_, m.les_refl, hS, .slice _ _ _ _ _ _ _ hid hlc hcc hg hge ho, fun h => absurd rfl h⟩
        exact run_append_has ht ht' hu' hes (hlen w) hr (by omega) (by rfl)
      · rename_i h0
        split at h
        · rename_i l hobj
          split at h
          · rename_i hb
            simp at h
            obtain ⟨rfl, rfl⟩ := h
            have ho : a' = ⟨(m.loc id).block, (m.loc id).off + off, none⟩ := by
              rcases ho with ho | ho
              · exact ho
              · omega
            subst ho
            have hfit : off + len * es + new.length ≤ l.length := by
              rw [hcl]; have := hb.1; rw [Nat.add_mul] at this; omega
            obtain ⟨w', hst, hS'⟩ := s_storeCells (P := P) hS hobj (off := off + len * es) hfit hna hn1
            refine ⟨.slice (some ⟨(m.loc id).block, (m.loc id).off + off, none⟩) (len + n) c', w', m, ?_, m.les_refl, hS', .slice _ _ _ _ _ _ _ hid hroom hcc hg hge (.inl rfl), fun h => absurd rfl h⟩
            refine run_append_has ht ht' hu' hes (hlen w) hr (by omega) ?_
            simp only [addr_add]
            rw [Nat.add_assoc]; exact hst
          · simp at h
        · simp at h
    · rename_i hroom
      simp only [Option.bind_eq_some_iff] at h
      obtain ⟨old, hold, h⟩ := h
      split at h
      case isFalse => simp at h
      rename_i hb
      obtain ⟨hb1, hb2, hes0⟩ := hb
      have hsl : VRel m (.slice id off len cap g) (.slice (some a') len c') := .slice _ _ _ _ _ _ _ hid hlc hcc hg hge ho
      obtain ⟨ov, hor, hoa, ho1, hol⟩ := s_cells (P := P) hS hsl hold
      obtain ⟨ovd, hord, hoad, ho1d, hold'⟩ := s_cells (P := P) hS.drew hsl hold
      have hocl := acells_length hold (.inr ⟨_, _, _, _, _, rfl⟩)
      by_cases hgrow : c' < len + n
      · obtain ⟨cap', w', m', hrun, hm, hmn, hS', hv, hty⟩ := s_grow (P := P) hS (ty := ty) ht ht' hu' hes hbs hz hzl (base := some a') (sLen := len) (sCap := c') hlen hord hrd hoad hnad ho1d hn1d (by rw [hold', hocl]) (by rw [hnld, hcl]) hgrow hb1 hb2
        cases g with
        | none =>
          simp at h
          obtain ⟨rfl, rfl⟩ := h
          exact ⟨_, w', m', hrun, hm, hS', hv, fun _ _ => ⟨by rw [hS.next]; exact hmn, hty⟩⟩
        | some e' =>
          simp only at h
          split at h
          case isFalse => simp at h
          split at h
          · simp at h
            obtain ⟨rfl, rfl⟩ := h
            obtain ⟨cap', w', m', hrun, hm, hmn, hS', hv, hty⟩ := s_grow (P := P) (hS.del id) (ty := ty) ht ht' hu' hes hbs hz hzl (base := some a') (sLen := len) (sCap := c') hlen hord hrd hoad hnad ho1d hn1d (by rw [hold', hocl]) (by rw [hnld, hcl]) hgrow hb1 hb2
            exact ⟨_, w', m', hrun, hm, hS', hv, fun _ _ => ⟨by rw [hS.next]; exact hmn, hty⟩⟩
          · simp at h
      · -- in place: behind what is seen there is room
        cases g with
        | none => exact absurd (hg rfl) (by omega)
        | some e' =>
          simp only at h
          split at h
          case isFalse => simp at h
          rename_i he
          subst he
          split at h
          case h_2 => simp at h
          rename_i l hobj
          simp at h
          obtain ⟨rfl, rfl⟩ := h
          have ho : a' = ⟨(m.loc id).block, (m.loc id).off + off, none⟩ := by
            rcases ho with ho | ho
            · exact ho
            · omega
          subst ho
          obtain ⟨_, c, e1, fz, hheap, hcell, hown⟩ := hS.obj id _ hobj
          obtain ⟨hB, htot, hfree⟩ := hown rfl
          have htot' := hge _ rfl
          have hnvl : nv.length = n * e' := by rw [hnl, hcl]
          have hovl : ov.length = len * e' := by rw [hol, hocl]
          have hroom' : len + n ≤ c' := by omega
          have hmul : (len + n) * e' ≤ c' * e' := Nat.mul_le_mul_right _ hroom'
          rw [Nat.add_mul] at hmul
          have hfit : (m.loc id).off + off + len * e' + nv.length ≤ c.size := by omega
          obtain ⟨c2, h1, h2, h3, h4, h5, h6, h7⟩ := setCells_heap nv (m.loc id).block ((m.loc id).off + off + len * e') c e1 fz w hheap hfit
          have hst := run_storeCells_cells (P := P) (m.loc id).block ((m.loc id).off + off + len * e') nv 0 w
            (by intro j hj; rw [cell_of_heap hheap]; simp; omega)
            (by intro j hj; exact frozen_of_heap hheap hfree (by omega)) hn1
          rw [Nat.add_zero] at hst
          -- where the old cells lie
          have hocells : ∀ (j : Nat) (x : AVal), old[j]? = some x → ∃ v, c[(m.loc id).off + off + j]? = some v ∧ VRel m x v ∧ v.oneCell' = true := by
            intro j x hj
            simp only [acells, hobj] at hold
            by_cases hz : len * e' = 0
            · rw [if_pos hz] at hold; simp at hold; subst hold; simp at hj
            rw [if_neg hz] at hold
            split at hold
            · simp at hold
              subst hold
              have hj' : l[off + j]? = some x := by
                have := hj
                rw [List.getElem?_take, List.getElem?_drop] at this
                split at this
                · exact this
                · simp at this
              have := hcell (off + j) x hj'
              rwa [show (m.loc id).off + (off + j) = (m.loc id).off + off + j by omega] at this
            · simp at hold
          let L : Loc := ⟨(m.loc id).block, (m.loc id).off + off, (m.loc id).total - off⟩
          have hS2 : SRel w0 B (m.ext L) ((H.del id).new (.cells (old ++ new) true)) (w.setCells (m.loc id).block ((m.loc id).off + off + len * e') nv) := by
            refine ⟨h7 _ _ hS.below hB, hS.size, by simp [AHeap.new, AHeap.del, Inj.ext, hS.next], ?_, ?_, fun k t hk => by
              simp only [AHeap.new, AHeap.del] at hk
              split at hk
              · cases hk
              obtain ⟨g1, g2⟩ := hS.ty k t hk
              refine ⟨((m.le_ext L).2 k g1).1, ?_⟩
              rw [Inj.ext_old m _ g1]
              by_cases hbk : (m.loc k).block = (m.loc id).block
              · obtain ⟨g3, c0, g4, g5⟩ := g2
                rw [hbk, hheap] at g4
                obtain ⟨rfl, rfl, rfl⟩ : c = c0 ∧ e1 = t.1 ∧ fz = (0, 0) := by simpa using g4
                exact ⟨g3, c2, by rw [hbk]; exact h1, fun q hq => by rw [h2]; exact g5 q hq⟩
              · exact g2.same (h5 _ hbk)⟩
            · intro k o hk
              simp only [AHeap.new, AHeap.del] at hk
              by_cases hkn : k = H.next
              · subst hkn
                simp at hk; subst hk
                rw [hS.next]
                refine ⟨Inj.ext_has _ _, ?_⟩
                rw [Inj.ext_new]
                refine ⟨c2, e1, fz, h1, ?_, ?_⟩
                · intro j x hj
                  by_cases hjl : j < old.length
                  · rw [List.getElem?_append_left hjl] at hj
                    obtain ⟨v, hv, hr', h1'⟩ := hocells j x hj
                    refine ⟨v, ?_, hr'.mono (m.le_ext _), h1'⟩
                    rw [h4 _ (.inl (by show (m.loc id).off + off + j < _; rw [hocl] at hjl; omega))]
                    exact hv
                  · rw [List.getElem?_append_right (by omega)] at hj
                    obtain ⟨v, hv, hr'⟩ := forall2_get hna _ x hj
                    refine ⟨v, ?_, hr'.mono (m.le_ext _), hn1 v (List.mem_of_getElem? hv)⟩
                    have := h3 _ v hv
                    show c2[(m.loc id).off + off + j]? = some v
                    rwa [show (m.loc id).off + off + len * e' + (j - old.length) = (m.loc id).off + off + j by rw [hocl] at hjl ⊢; omega] at this
                · intro _
                  refine ⟨hB, ?_, fun j hj => hfree j (by rw [← h2]; exact hj)⟩
                  show (m.loc id).off + off + ((m.loc id).total - off) ≤ c2.size
                  rw [h2]; omega
              · simp [hkn] at hk
                obtain ⟨hki, hk⟩ := hk
                obtain ⟨hkl, hko⟩ := hS.obj k o hk
                refine ⟨((m.le_ext L).2 k hkl).1, ?_⟩
                rw [Inj.ext_old m _ hkl]
                have hne := hS.apart id k _ _ hobj hk rfl (Ne.symm hki)
                cases o with
                | cells l' own' =>
                  obtain ⟨c', e'', fz', hb', hc', ho''⟩ := hko
                  exact ⟨c', e'', fz', by rw [h5 _ (Ne.symm hne)]; exact hb', fun i x hx => let ⟨v, q1, q2, q3⟩ := hc' i x hx; ⟨v, q1, q2.mono (m.le_ext _), q3⟩, ho''⟩
                | map l' =>
                  obtain ⟨es', ck', hb', hc', ho''⟩ := hko
                  exact ⟨es', ck', by rw [h5 _ (Ne.symm hne)]; exact hb', forall2_imp_mem hc' fun x y _ h => ⟨h.1.mono (m.le_ext _), h.2.mono (m.le_ext _)⟩, ho''⟩
            · have key : ∀ k ok, ((H.del id).new (.cells (old ++ new) true)).obj k = some ok → k ≠ H.next → k ≠ id ∧ H.obj k = some ok ∧ m.has k := by
                intro k ok hk hne
                simp only [AHeap.new, AHeap.del] at hk
                simp [hne] at hk
                exact ⟨hk.1, hk.2, (hS.obj k ok hk.2).1⟩
              intro a b o1 o2 ha hb hown hab
              by_cases hea : a = H.next
              · have hbn : b ≠ H.next := fun hh => hab (hea.trans hh.symm)
                obtain ⟨hbi, hb', hbl⟩ := key b o2 hb hbn
                rw [hea, hS.next, Inj.ext_new, Inj.ext_old m _ hbl]
                exact hS.apart id b _ _ hobj hb' rfl (Ne.symm hbi)
              · obtain ⟨hai, ha', hal⟩ := key a o1 ha hea
                by_cases heb : b = H.next
                · rw [heb, hS.next, Inj.ext_new, Inj.ext_old m _ hal]
                  exact Ne.symm (hS.apart id a _ _ hobj ha' rfl (Ne.symm hai))
                · obtain ⟨hbi, hb', hbl⟩ := key b o2 hb heb
                  rw [Inj.ext_old m _ hal, Inj.ext_old m _ hbl]
                  exact hS.apart a b o1 o2 ha' hb' hown hab
          refine ⟨.slice (some ⟨(m.loc id).block, (m.loc id).off + off, none⟩) (len + n) c', _, m.ext L, ?_, m.les_ext _, hS2, ?_, fun _ hty => ?_⟩
          · refine run_append_has ht ht' hu' hes (hlen w) hr hroom' ?_
            simp only [addr_add]
            exact hst
          · have hloc := m.ext_new L
            have := VRel.slice (m := m.ext L) m.n 0 (len + n) (len + n) (some e') ⟨(m.loc id).block, (m.loc id).off + off, none⟩ c' (Inj.ext_has _ _) (Nat.le_refl _) hroom' (by simp)
              (by intro e2 h2'; simp at h2'; subst h2'; rw [hloc]; show 0 + c' * e' ≤ (m.loc id).total - off; omega) (.inl (by rw [hloc]; rfl))
            show VRel _ (.slice H.next _ _ _ _) _
            rw [hS.next]
            exact this
          · simp only [typed, Bool.and_eq_true, beq_iff_eq] at hty
            obtain ⟨hoff, hty⟩ := hty
            split at hty
            · rename_i u k hu
              have hue : u = e := by simpa using hty
              subst hue
              obtain ⟨_, g3, c0, g4, _⟩ := hS.ty id _ hu
              rw [hheap] at g4
              obtain ⟨_, g5, g6⟩ : c = c0 ∧ e1 = u ∧ fz = (0, 0) := by simpa using g4
              rw [hS.next, Inj.ext_new]
              exact ⟨Inj.ext_has _ _, by show (m.loc id).off + off = 0; omega, c2, by rw [← g5, ← g6]; exact h1, fun k hk => by cases hk⟩
            · cases hty
  | _ => simp at h

theorem s_append (hS : SRel w0 B m H w) {t t' ty e : TypeId} {es bs : Nat} {z : List AVal} {u' : TypeDesc} (ht : P.underlying t = some (.slice e)) (ht' : P.underlying t' = some u') (hu' : u' = .string ∨ ∃ e', u' = .slice e') (hes : tsize P e = some es) (hbs : tbytes P e = some bs) (hz : tzero P e = some z) (hzl : z.length = es)
    {s x v : AVal} {s' x' : Value} (hs : VRel m s s') (hx : VRel m x x') (h : aappend H es bs s x = some (v, H')) : DoneV w0 B m H' v ((Builtin.append_ #[t, t'] ty #[s', x']).run P w) := by
  obtain ⟨v', w', m', h1, h2, h3, h4, _⟩ := s_appendQ (ty := ty) hS ht ht' hu' hes hbs hz hzl hs hx h
  exact ⟨v', w', m', h1, h2, h3, h4⟩
theorem s_appendT (hS : SRel w0 B m H w) {t t' ty e : TypeId} {es bs : Nat} {z : List AVal} {u' : TypeDesc} (ht : P.underlying t = some (.slice e)) (ht' : P.underlying t' = some u') (hu' : u' = .string ∨ ∃ e', u' = .slice e') (hes : tsize P e = some es) (hbs : tbytes P e = some bs) (hz : tzero P e = some z) (hzl : z.length = es)
    {s x v : AVal} {s' x' : Value} (hs : VRel m s s') (hx : VRel m x x') (h : aappendT e H es bs s x = some (v, H')) : DoneV w0 B m H' v ((Builtin.append_ #[t, t'] ty #[s', x']).run P w) := by
  simp only [aappendT, Option.map_eq_some_iff] at h
  obtain ⟨⟨v1, H1⟩, h1, h2⟩ := h
  obtain ⟨v', w', m', g1, g2, g3, g4, g5⟩ := s_appendQ (ty := ty) hS ht ht' hu' hes hbs hz hzl hs hx h1
  simp only [tagged] at h2
  split at h2
  · cases h2; exact ⟨v', w', m', g1, g2, g3, g4⟩
  · rename_i hn
    split at h2
    · rename_i hty
      cases h2
      obtain ⟨g6, g7⟩ := g5 hn hty
      exact ⟨v', w', m', g1, g2, g3.tag g6 g7, g4⟩
    · cases h2; exact ⟨v', w', m', g1, g2, g3, g4⟩

end Go.Proofs.Ytfmjdlahabgkpaa.Am
end

section
/- append(s, make(..)...): what the abstract machine answers, the model does. -/
set_option linter.unusedSimpArgs false
set_option linter.unusedVariables false
namespace Go.Proofs.Ytfmjdlahabgkpaa.Am
open Go Go.RowKit

variable {P : Program} {w0 w : World} {B : Nat → Bool} {m : Inj} {H H' : AHeap}

theorem zs_cells {e : TypeId} {es : Nat} {z : List AVal} (hz : tzero P e = some z) (hzl : z.length = es) (n : Nat) :
    ∃ nv : List Value, (∀ w : World, ((if n * es = 0 then pure #[] else do pure (Builtin.zeroCells (← zeroValue e).cells n) : Sem (Array Value))).run P w = .ok nv.toArray w) ∧ All2 (VRel m) (arep z n) nv ∧ (∀ y, y ∈ nv → y.oneCell' = true) ∧ nv.length = (arep z n).length := by
  have h0 := hz
  simp only [tzero, Option.bind_eq_some_iff] at h0
  obtain ⟨v, ⟨i, hi, hzi⟩, hc⟩ := h0
  have hrun : ∀ w : World, (zeroValue e).run P w = .ok v w := fun w => by simp [zeroValue, typeInfo, hi, hzi]
  obtain ⟨hza, hz1⟩ := cvals_rel (m := m) hc
  have hzvl : v.cells.toList.length = es := by rw [← forall2_length hza]; exact hzl
  have hn : n * es = n * v.cells.toList.length := by rw [hzvl]
  have hA := all2_zeros hza n hn
  have h1c := zeros_cells hz1 hn
  refine ⟨_, fun w => ?_, hA, h1c, (forall2_length hA).symm⟩
  by_cases hzz : n * es = 0
  · rw [if_pos hzz, Sem.run_pure, hzz]
    simp [Array.range_zero']
  · rw [if_neg hzz]
    simp only [Sem.run_bind, hrun, Result.andThen_ok, Sem.run_pure, Builtin.zeroCells]
    rw [show v.cells.size = es by simpa using hzvl]

theorem s_growZ (hS : SRel w0 B m H w) {t t' ty e : TypeId} {es bs : Nat} {z : List AVal} {u' : TypeDesc} (ht : P.underlying t = some (.slice e)) (ht' : P.underlying t' = some u') {k : IntKind} (hu' : u' = .int k) (hes : tsize P e = some es) (hbs : tbytes P e = some bs) (hz : tzero P e = some z) (hzl : z.length = es)
    {base : Option Addr} {sLen sCap n : Nat} {kx : IntKind} {old new : List AVal} {ov nv : List Value} (hn63 : n ≤ 9223372036854775807) (hnb : n * bs ≤ 281474976710656)
    (hold : (Builtin.firstCells es sLen (.slice base sLen sCap)).run P w.drew = .ok ov.toArray w.drew) (hnew : ((if n * es = 0 then pure #[] else do pure (Builtin.zeroCells (← zeroValue e).cells n) : Sem (Array Value))).run P w.drew = .ok nv.toArray w.drew)
    (ho : All2 (VRel m) old ov) (hn : All2 (VRel m) new nv) (ho1 : ∀ y, y ∈ ov → y.oneCell' = true) (hn1 : ∀ y, y ∈ nv → y.oneCell' = true) (hlo : ov.length = sLen * es) (hln : nv.length = n * es)
    (hg : sCap < sLen + n) (hb : 5 * ((sLen + n) * bs) + 2040 * bs ≤ 1125899906842624) (h63 : sLen + n ≤ 9223372036854775807) :
    ∃ cap w' m', (Builtin.append_ #[t, t'] ty #[.slice base sLen sCap, .int kx (n : Int)]).run P w = .ok (.slice (some ⟨w.heap.size, 0, none⟩) (sLen + n) cap) w' ∧ m.les m' ∧ m'.has m.n ∧ SRel w0 B m' (H.new (.cells (old ++ new) true)) w' ∧ VRel m' (.slice H.next 0 (sLen + n) (sLen + n) (some es)) (.slice (some ⟨w.heap.size, 0, none⟩) (sLen + n) cap) := by
  have hge := grownCap_ge w (sLen + n) sCap e
  generalize hcap : grownCap w (sLen + n) sCap e = cap at hge
  have hch : (choose (.appendCap (sLen + n) sCap e)).run P w = .ok cap w.drew := by
    simp only [choose, Sem.run]
    rw [if_neg (by simp [Question.forced])]
    rw [← hcap]
    rfl
  obtain ⟨zv, hzr, hzs⟩ := zero_size hz w.drew
  obtain ⟨i, hi, hib⟩ := run_bytes hbs w
  obtain ⟨i', hi', hib'⟩ := run_bytes hbs w.drew
  let rest := (Builtin.zeroCells zv.cells (cap - (sLen + n))).toList
  have hrest : rest.length = (cap - (sLen + n)) * es := by simp [rest, size_zeroCells, hzs, hzl]
  have hall : (ov ++ nv ++ rest).length = cap * es := by
    simp only [List.length_append, hlo, hln, hrest, ← Nat.add_mul]
    congr 1; omega
  have hS' := hS.drew.new (rest := rest) (forall2_append ho hn) (by intro y hy; simp at hy; rcases hy with hy | hy; exact ho1 y hy; exact hn1 y hy) e (0, 0) (free_zero _) (.cells (ov ++ nv ++ rest).toArray e (0, 0)) rfl
  have hns : Builtin.nextslicecap (sLen + n) sCap * i.bytes ≤ 281474976710656 := by
    rw [hib]; exact cap_room hg hb
  refine ⟨cap, _, _, ?_, m.les_ext _, m.ext_has _, hS', ?_⟩
  · have hroom : ¬ (sLen + n ≤ sCap) := by omega
    have hmax : ¬ (((sLen + n : Nat) : Int) > IntKind.i64.max) := by simp [IntKind.max, IntKind.signed, IntKind.bits]; omega
    have hask : ∀ k : Nat, (askRoom k).run P w.drew = .ok () w.drew := by intro k; unfold askRoom; split <;> rfl
    have e1 := hold
    have e2 := hnew
    have hns' : ¬ (Builtin.nextslicecap (sLen + n) sCap * i.bytes > 2 ^ 48) := by
      rw [show (2 : Nat) ^ 48 = 281474976710656 by decide]; omega
    have hfin : (ov.toArray ++ nv.toArray ++ Builtin.zeroCells zv.cells (cap - (sLen + n))) = (ov ++ nv ++ rest).toArray := by
      apply Array.ext'; simp [rest]
    have hwrap : IntKind.i64.wrap (n : Int) = (n : Int) := IntWalk.i64_in _ (by omega)
    have hneg : ¬ ((n : Int) < 0) := by omega
    have hbig : ¬ ((n : Int) * (i.bytes : Int) > 2 ^ 48) := by rw [hib, show (2 : Int) ^ 48 = 281474976710656 by decide]; have : ((n * bs : Nat) : Int) = (n : Int) * bs := by simp
                                                               omega
    subst hu'
    · simp only [Builtin.append_]
      simp only [List.getElem?_toArray, List.getElem?_cons_zero, List.getElem?_cons_succ, Sem.run_bind, run_underlying ht, run_underlying ht', Result.andThen_ok, run_sizeOf' hes, Sem.run_pure, Bool.true_eq_false, if_true, asInt, asIntOf, hwrap, hneg, if_false, hi, hbig, Int.toNat_natCast, hroom, true_or]
      simp only [Sem.run_bind, hi, Result.andThen_ok, hmax, false_and, if_false, Sem.run_pure, hns', hch, hask, hi', e1, e2, hzr, hfin, run_newRow, Bool.not_true, if_true, Bool.false_eq_true]
      rfl
  · rw [hS.next]
    have hloc := m.ext_new ⟨w.drew.heap.size, 0, (ov ++ nv ++ rest).length⟩
    have := VRel.slice (m := m.ext ⟨w.drew.heap.size, 0, (ov ++ nv ++ rest).length⟩) m.n 0 (sLen + n) (sLen + n) (some es) ⟨w.heap.size, 0, none⟩ cap (Inj.ext_has _ _) (Nat.le_refl _) hge (by simp)
      (by intro e1 h1; simp at h1; subst h1; rw [hloc, hall]; simp) (.inl (by rw [hloc]; rfl))
    exact this

theorem run_appendZ_has {t t' ty e : TypeId} {es n : Nat} {u' : TypeDesc} (ht : P.underlying t = some (.slice e)) (ht' : P.underlying t' = some u') {k : IntKind} (hu' : u' = .int k) (hes : tsize P e = some es) {bs : Nat} (hbs : tbytes P e = some bs)
    {base : Option Addr} {sLen sCap : Nat} {kx : IntKind} {nv : List Value} (hn63 : n ≤ 9223372036854775807) (hnb : n * bs ≤ 281474976710656) (hnew : ((if n * es = 0 then pure #[] else do pure (Builtin.zeroCells (← zeroValue e).cells n) : Sem (Array Value))).run P w = .ok nv.toArray w) (hroom : sLen + n ≤ sCap) {w' : World}
    (hst : (match base with | some a => storeCells (a.add (sLen * es)) nv | none => pure ()).run P w = .ok () w') :
    (Builtin.append_ #[t, t'] ty #[.slice base sLen sCap, .int kx (n : Int)]).run P w = .ok (.slice base (sLen + n) sCap) w' := by
  obtain ⟨i, hi, hib⟩ := run_bytes hbs w
  have hwrap : IntKind.i64.wrap (n : Int) = (n : Int) := IntWalk.i64_in _ (by omega)
  have hneg : ¬ ((n : Int) < 0) := by omega
  have hbig : ¬ ((n : Int) * (i.bytes : Int) > 2 ^ 48) := by
    rw [hib, show (2 : Int) ^ 48 = 281474976710656 by decide]
    have : ((n * bs : Nat) : Int) = (n : Int) * bs := by simp
    omega
  subst hu'
  · simp only [Builtin.append_]
    simp only [List.getElem?_toArray, List.getElem?_cons_zero, List.getElem?_cons_succ, Sem.run_bind, run_underlying ht, run_underlying ht', Result.andThen_ok, run_sizeOf' hes, Sem.run_pure, asInt, asIntOf, hwrap, hneg, hi, hbig, Int.toNat_natCast, if_false, hroom, if_true, Bool.not_true, Bool.false_eq_true, hnew]
    cases base with
    | none => simp only [Sem.run_pure] at hst ⊢; simp at hst; rw [hst]
    | some a => simp only [Sem.run_bind, List.toList_toArray, hst, Result.andThen_ok, Sem.run_pure]

theorem s_appendZ (hS : SRel w0 B m H w) {t t' ty e : TypeId} {es bs : Nat} {z : List AVal} {u' : TypeDesc} (ht : P.underlying t = some (.slice e)) (ht' : P.underlying t' = some u') {kk : IntKind} (hu' : u' = .int kk) (hes : tsize P e = some es) (hbs : tbytes P e = some bs) (hz : tzero P e = some z) (hzl : z.length = es)
    {s x v : AVal} {s' x' : Value} (hs : VRel m s s') (hx : VRel m x x') (h : aappendZ H es bs z s x = some (v, H')) : DoneV w0 B m H' v ((Builtin.append_ #[t, t'] ty #[s', x']).run P w) := by
  obtain ⟨kx, n0, rfl⟩ : ∃ k n0, x = .int k n0 := by
    cases x <;> simp only [aappendZ] at h <;> first | exact ⟨_, _, rfl⟩ | cases h
  obtain rfl : x' = .int kx n0 := by cases hx; rfl
  simp only [aappendZ] at h
  split at h
  case isFalse => simp at h
  rename_i hc
  obtain ⟨h00, hn63, hnb⟩ := hc
  obtain ⟨n, rfl⟩ := Int.eq_ofNat_of_zero_le h00
  rw [Int.toNat_natCast] at h hnb
  have hn63 : n ≤ 9223372036854775807 := by omega
  obtain ⟨nv, hr0, hna, hn1, hnl⟩ := zs_cells (P := P) (m := m) hz hzl n
  have hr := hr0 w
  have hrd := hr0 w.drew
  have hnad := hna
  have hn1d := hn1
  have hnld := hnl
  have hcl : (arep z n).length = n * es := by rw [arep_length, hzl]
  generalize arep z n = new at *
  cases hs with
  | nils =>
    simp only at h
    split at h
    · rename_i h0
      subst h0
      simp at h
      obtain ⟨rfl, rfl⟩ := h
      refine ⟨.slice none 0 0, w, m, ?_, m.les_refl, hS, .nils⟩
      exact run_appendZ_has ht ht' hu' hes hbs hn63 hnb hr (by omega) (by rfl)
    · rename_i h0
      split at h
      · rename_i hb
        simp at h
        obtain ⟨rfl, rfl⟩ := h
        obtain ⟨cap, w', m', hrun, hm, hmn, hS', hv⟩ := s_growZ (kx := kx) (P := P) hS (ty := ty) ht ht' hu' hes hbs hz hzl (base := none) (sLen := 0) (sCap := 0) (ov := []) (old := []) hn63 hnb (by simp [Builtin.firstCells]) hrd .nil hnad (by simp) hn1d (by simp) (by rw [hnld, hcl]) (by omega) (by simpa using hb.1) (by omega)
        refine ⟨_, w', m', hrun, hm, by simpa using hS', ?_⟩
        simpa using hv
      · simp at h
  | slice id off len cap g a' c' hid hlc hcc hg hge ho =>
    simp only at h
    split at h
    · rename_i hroom
      split at h
      · rename_i h0
        subst h0
        simp at h
        obtain ⟨rfl, rfl⟩ := h
        have hnv : nv = [] := by
          apply List.eq_nil_of_length_eq_zero
          rw [hnl, hcl]; simp
        subst hnv
        refine ⟨.slice (some a') len c', w, m, ?_, m.les_refl, hS, .slice _ _ _ _ _ _ _ hid hlc hcc hg hge ho⟩
        exact run_appendZ_has ht ht' hu' hes hbs hn63 hnb hr (by omega) (by rfl)
      · rename_i h0
        split at h
        · rename_i l hobj
          split at h
          · rename_i hb
            simp at h
            obtain ⟨rfl, rfl⟩ := h
            have ho : a' = ⟨(m.loc id).block, (m.loc id).off + off, none⟩ := by
              rcases ho with ho | ho
              · exact ho
              · omega
            subst ho
            have hfit : off + len * es + new.length ≤ l.length := by
              rw [hcl]; have := hb.1; rw [Nat.add_mul] at this; omega
            obtain ⟨w', hst, hS'⟩ := s_storeCells (P := P) hS hobj (off := off + len * es) hfit hna hn1
            refine ⟨.slice (some ⟨(m.loc id).block, (m.loc id).off + off, none⟩) (len + n) c', w', m, ?_, m.les_refl, hS', .slice _ _ _ _ _ _ _ hid hroom hcc hg hge (.inl rfl)⟩
            refine run_appendZ_has ht ht' hu' hes hbs hn63 hnb hr (by omega) ?_
            simp only [addr_add]
            rw [Nat.add_assoc]; exact hst
          · simp at h
        · simp at h
    · rename_i hroom
      simp only [Option.bind_eq_some_iff] at h
      obtain ⟨old, hold, h⟩ := h
      split at h
      case isFalse => simp at h
      rename_i hb
      obtain ⟨hb1, hb2, hes0⟩ := hb
      have hsl : VRel m (.slice id off len cap g) (.slice (some a') len c') := .slice _ _ _ _ _ _ _ hid hlc hcc hg hge ho
      obtain ⟨ov, hor, hoa, ho1, hol⟩ := s_cells (P := P) hS hsl hold
      obtain ⟨ovd, hord, hoad, ho1d, hold'⟩ := s_cells (P := P) hS.drew hsl hold
      have hocl := acells_length hold (.inr ⟨_, _, _, _, _, rfl⟩)
      by_cases hgrow : c' < len + n
      · obtain ⟨cap', w', m', hrun, hm, hmn, hS', hv⟩ := s_growZ (kx := kx) (P := P) hS (ty := ty) ht ht' hu' hes hbs hz hzl (base := some a') (sLen := len) (sCap := c') hn63 hnb hord hrd hoad hnad ho1d hn1d (by rw [hold', hocl]) (by rw [hnld, hcl]) hgrow hb1 hb2
        cases g with
        | none =>
          simp at h
          obtain ⟨rfl, rfl⟩ := h
          exact ⟨_, w', m', hrun, hm, hS', hv⟩
        | some e' =>
          simp only at h
          split at h
          case isFalse => simp at h
          split at h
          · simp at h
            obtain ⟨rfl, rfl⟩ := h
            obtain ⟨cap', w', m', hrun, hm, hmn, hS', hv⟩ := s_growZ (kx := kx) (P := P) (hS.del id) (ty := ty) ht ht' hu' hes hbs hz hzl (base := some a') (sLen := len) (sCap := c') hn63 hnb hord hrd hoad hnad ho1d hn1d (by rw [hold', hocl]) (by rw [hnld, hcl]) hgrow hb1 hb2
            exact ⟨_, w', m', hrun, hm, hS', hv⟩
          · simp at h
      · -- in place: behind what is seen there is room
        cases g with
        | none => exact absurd (hg rfl) (by omega)
        | some e' =>
          simp only at h
          split at h
          case isFalse => simp at h
          rename_i he
          subst he
          split at h
          case h_2 => simp at h
          rename_i l hobj
          simp at h
          obtain ⟨rfl, rfl⟩ := h
          have ho : a' = ⟨(m.loc id).block, (m.loc id).off + off, none⟩ := by
            rcases ho with ho | ho
            · exact ho
            · omega
          subst ho
          obtain ⟨_, c, e1, fz, hheap, hcell, hown⟩ := hS.obj id _ hobj
          obtain ⟨hB, htot, hfree⟩ := hown rfl
          have htot' := hge _ rfl
          have hnvl : nv.length = n * e' := by rw [hnl, hcl]
          have hovl : ov.length = len * e' := by rw [hol, hocl]
          have hroom' : len + n ≤ c' := by omega
          have hmul : (len + n) * e' ≤ c' * e' := Nat.mul_le_mul_right _ hroom'
          rw [Nat.add_mul] at hmul
          have hfit : (m.loc id).off + off + len * e' + nv.length ≤ c.size := by omega
          obtain ⟨c2, h1, h2, h3, h4, h5, h6, h7⟩ := setCells_heap nv (m.loc id).block ((m.loc id).off + off + len * e') c e1 fz w hheap hfit
          have hst := run_storeCells_cells (P := P) (m.loc id).block ((m.loc id).off + off + len * e') nv 0 w
            (by intro j hj; rw [cell_of_heap hheap]; simp; omega)
            (by intro j hj; exact frozen_of_heap hheap hfree (by omega)) hn1
          rw [Nat.add_zero] at hst
          -- where the old cells lie
          have hocells : ∀ (j : Nat) (x : AVal), old[j]? = some x → ∃ v, c[(m.loc id).off + off + j]? = some v ∧ VRel m x v ∧ v.oneCell' = true := by
            intro j x hj
            simp only [acells, hobj] at hold
            by_cases hz : len * e' = 0
            · rw [if_pos hz] at hold; simp at hold; subst hold; simp at hj
            rw [if_neg hz] at hold
            split at hold
            · simp at hold
              subst hold
              have hj' : l[off + j]? = some x := by
                have := hj
                rw [List.getElem?_take, List.getElem?_drop] at this
                split at this
                · exact this
                · simp at this
              have := hcell (off + j) x hj'
              rwa [show (m.loc id).off + (off + j) = (m.loc id).off + off + j by omega] at this
            · simp at hold
          let L : Loc := ⟨(m.loc id).block, (m.loc id).off + off, (m.loc id).total - off⟩
          have hS2 : SRel w0 B (m.ext L) ((H.del id).new (.cells (old ++ new) true)) (w.setCells (m.loc id).block ((m.loc id).off + off + len * e') nv) := by
            refine ⟨h7 _ _ hS.below hB, hS.size, by simp [AHeap.new, AHeap.del, Inj.ext, hS.next], ?_, ?_, fun k t hk => by
              simp only [AHeap.new, AHeap.del] at hk
              split at hk
              · cases hk
              obtain ⟨g1, g2⟩ := hS.ty k t hk
              refine ⟨((m.le_ext L).2 k g1).1, ?_⟩
              rw [Inj.ext_old m _ g1]
              by_cases hbk : (m.loc k).block = (m.loc id).block
              · obtain ⟨g3, c0, g4, g5⟩ := g2
                rw [hbk, hheap] at g4
                obtain ⟨rfl, rfl, rfl⟩ : c = c0 ∧ e1 = t.1 ∧ fz = (0, 0) := by simpa using g4
                exact ⟨g3, c2, by rw [hbk]; exact h1, fun q hq => by rw [h2]; exact g5 q hq⟩
              · exact g2.same (h5 _ hbk)⟩
            · intro k o hk
              simp only [AHeap.new, AHeap.del] at hk
              by_cases hkn : k = H.next
              · subst hkn
                simp at hk; subst hk
                rw [hS.next]
                refine ⟨Inj.ext_has _ _, ?_⟩
                rw [Inj.ext_new]
                refine ⟨c2, e1, fz, h1, ?_, ?_⟩
                · intro j x hj
                  by_cases hjl : j < old.length
                  · rw [List.getElem?_append_left hjl] at hj
                    obtain ⟨v, hv, hr', h1'⟩ := hocells j x hj
                    refine ⟨v, ?_, hr'.mono (m.le_ext _), h1'⟩
                    rw [h4 _ (.inl (by show (m.loc id).off + off + j < _; rw [hocl] at hjl; omega))]
                    exact hv
                  · rw [List.getElem?_append_right (by omega)] at hj
                    obtain ⟨v, hv, hr'⟩ := forall2_get hna _ x hj
                    refine ⟨v, ?_, hr'.mono (m.le_ext _), hn1 v (List.mem_of_getElem? hv)⟩
                    have := h3 _ v hv
                    show c2[(m.loc id).off + off + j]? = some v
                    rwa [show (m.loc id).off + off + len * e' + (j - old.length) = (m.loc id).off + off + j by rw [hocl] at hjl ⊢; omega] at this
                · intro _
                  refine ⟨hB, ?_, fun j hj => hfree j (by rw [← h2]; exact hj)⟩
                  show (m.loc id).off + off + ((m.loc id).total - off) ≤ c2.size
                  rw [h2]; omega
              · simp [hkn] at hk
                obtain ⟨hki, hk⟩ := hk
                obtain ⟨hkl, hko⟩ := hS.obj k o hk
                refine ⟨((m.le_ext L).2 k hkl).1, ?_⟩
                rw [Inj.ext_old m _ hkl]
                have hne := hS.apart id k _ _ hobj hk rfl (Ne.symm hki)
                cases o with
                | cells l' own' =>
                  obtain ⟨c', e'', fz', hb', hc', ho''⟩ := hko
                  exact ⟨c', e'', fz', by rw [h5 _ (Ne.symm hne)]; exact hb', fun i x hx => let ⟨v, q1, q2, q3⟩ := hc' i x hx; ⟨v, q1, q2.mono (m.le_ext _), q3⟩, ho''⟩
                | map l' =>
                  obtain ⟨es', ck', hb', hc', ho''⟩ := hko
                  exact ⟨es', ck', by rw [h5 _ (Ne.symm hne)]; exact hb', forall2_imp_mem hc' fun x y _ h => ⟨h.1.mono (m.le_ext _), h.2.mono (m.le_ext _)⟩, ho''⟩
            · have key : ∀ k ok, ((H.del id).new (.cells (old ++ new) true)).obj k = some ok → k ≠ H.next → k ≠ id ∧ H.obj k = some ok ∧ m.has k := by
                intro k ok hk hne
                simp only [AHeap.new, AHeap.del] at hk
                simp [hne] at hk
                exact ⟨hk.1, hk.2, (hS.obj k ok hk.2).1⟩
              intro a b o1 o2 ha hb hown hab
              by_cases hea : a = H.next
              · have hbn : b ≠ H.next := fun hh => hab (hea.trans hh.symm)
                obtain ⟨hbi, hb', hbl⟩ := key b o2 hb hbn
                rw [hea, hS.next, Inj.ext_new, Inj.ext_old m _ hbl]
                exact hS.apart id b _ _ hobj hb' rfl (Ne.symm hbi)
              · obtain ⟨hai, ha', hal⟩ := key a o1 ha hea
                by_cases heb : b = H.next
                · rw [heb, hS.next, Inj.ext_new, Inj.ext_old m _ hal]
                  exact Ne.symm (hS.apart id a _ _ hobj ha' rfl (Ne.symm hai))
                · obtain ⟨hbi, hb', hbl⟩ := key b o2 hb heb
                  rw [Inj.ext_old m _ hal, Inj.ext_old m _ hbl]
                  exact hS.apart a b o1 o2 ha' hb' hown hab
          refine ⟨.slice (some ⟨(m.loc id).block, (m.loc id).off + off, none⟩) (len + n) c', _, m.ext L, ?_, m.les_ext _, hS2, ?_⟩
          · refine run_appendZ_has ht ht' hu' hes hbs hn63 hnb hr hroom' ?_
            simp only [addr_add]
            exact hst
          · have hloc := m.ext_new L
            have := VRel.slice (m := m.ext L) m.n 0 (len + n) (len + n) (some e') ⟨(m.loc id).block, (m.loc id).off + off, none⟩ c' (Inj.ext_has _ _) (Nat.le_refl _) hroom' (by simp)
              (by intro e2 h2'; simp at h2'; subst h2'; rw [hloc]; show 0 + c' * e' ≤ (m.loc id).total - off; omega) (.inl (by rw [hloc]; rfl))
            show VRel _ (.slice H.next _ _ _ _) _
            rw [hS.next]
            exact this
  | _ => simp at h

end Go.Proofs.Ytfmjdlahabgkpaa.Am
end

section
/- What the abstract machine's operations answer, the model's do: copy, clear, build, min and max. -/
set_option linter.unusedSimpArgs false
set_option linter.unusedVariables false
namespace Go.Proofs.Ytfmjdlahabgkpaa.Am
open Go Go.RowKit

variable {P : Program} {w0 w : World} {B : Nat → Bool} {m : Inj} {H H' : AHeap}

theorem AHeap.set_same {H : AHeap} {id : Nat} {o : AObj} (h : H.obj id = some o) : H.set id o = H := by
  cases H with
  | mk obj next =>
    simp only [AHeap.set, AHeap.mk.injEq, and_true]
    funext i
    by_cases hi : i = id
    · subst hi; simp at h; simp [h]
    · simp [hi]

theorem acells_le {es n : Nat} {x : AVal} {cs : List AVal} (h : acells H es n x = some cs) : cs.length ≤ n * es := by
  cases x with
  | nils => simp [acells] at h; subst h; simp
  | str s =>
    simp only [acells] at h
    split at h
    · rename_i hc
      simp only [Option.some.injEq] at h
      subst h
      rw [hc.2]
      simp
      omega
    · simp at h
  | slice id off len cap g => exact Nat.le_of_eq (acells_length h (.inr ⟨_, _, _, _, _, rfl⟩))
  | _ => simp [acells] at h

theorem s_copy (hS : SRel w0 B m H w) {t t' ty e : TypeId} {es : Nat} (ht : P.underlying t = some (.slice e)) (hes : tsize P e = some es) {d s v : AVal} {d' s' : Value} (hd : VRel m d d') (hs : VRel m s s') (h : acopy H es d s = some (v, H')) :
    DoneV w0 B m H' v ((Builtin.copy_ #[t, t'] ty #[d', s']).run P w) := by
  simp only [acopy, Option.bind_eq_some_iff] at h
  obtain ⟨n, hn, dl, hdl, new, hnew, h⟩ := h
  have hlen := s_len (P := P) hs hn w
  have hk1 : Nat.min n dl ≤ dl := Nat.min_le_right _ _
  generalize hkk : Nat.min n dl = k at *
  obtain ⟨nv, hr, hna, hn1, hnl⟩ := s_cells (P := P) hS hs hnew
  have hcl := acells_le hnew
  cases hd with
  | nils =>
    simp [alen] at hdl; subst hdl
    simp at h
    obtain ⟨rfl, rfl⟩ := h
    refine ⟨.int .i64 (k : Int), w, m, ?_, m.les_refl, hS, .int _ _⟩
    simp only [Builtin.copy_, List.getElem?_toArray, List.getElem?_cons_zero, List.getElem?_cons_succ, Sem.run_bind, run_underlying ht, Result.andThen_ok, hlen, run_sizeOf' hes, hkk, hr, Sem.run_pure, goInt]
  | slice id off len cap g a' c' hid hlc hcc hg hge ho =>
    simp [alen] at hdl; subst hdl
    simp only at h
    by_cases hk : k = 0
    · rw [if_pos hk] at h
      simp at h
      obtain ⟨rfl, rfl⟩ := h
      have hnv : nv = [] := List.eq_nil_of_length_eq_zero (by rw [hk] at hcl; omega)
      subst hnv
      refine ⟨.int .i64 (k : Int), w, m, ?_, m.les_refl, hS, by rw [hk]; exact .int _ _⟩
      simp only [Builtin.copy_, List.getElem?_toArray, List.getElem?_cons_zero, List.getElem?_cons_succ, Sem.run_bind, run_underlying ht, Result.andThen_ok, hlen, run_sizeOf' hes, hkk, hr, Sem.run_pure, goInt, storeCells]
    · rw [if_neg hk] at h
      split at h
      · rename_i l hobj
        split at h
        · rename_i hb
          simp at h
          obtain ⟨rfl, rfl⟩ := h
          have ho : a' = ⟨(m.loc id).block, (m.loc id).off + off, none⟩ := by
            rcases ho with ho | ho
            · exact ho
            · omega
          subst ho
          obtain ⟨w', hst, hS'⟩ := s_storeCells (P := P) hS hobj (off := off) (by omega) hna hn1
          refine ⟨.int .i64 (k : Int), w', m, ?_, m.les_refl, hS', .int _ _⟩
          simp only [Builtin.copy_, List.getElem?_toArray, List.getElem?_cons_zero, List.getElem?_cons_succ, Sem.run_bind, run_underlying ht, Result.andThen_ok, hlen, run_sizeOf' hes, hkk, hr, Sem.run_pure, goInt, List.toList_toArray, hst]
        · simp at h
      · simp at h
  | _ => simp at h

theorem s_clear (hS : SRel w0 B m H w) {t ty e : TypeId} {es : Nat} {z : List AVal} (ht : P.underlying t = some (.slice e)) (hes : tsize P e = some es) (hz : tzero P e = some z) (hzl : z.length = es) {x : AVal} {x' : Value} (hx : VRel m x x') (h : aclear H es z x = some H') :
    ∃ w', (Builtin.clear_ #[t] ty #[x']).run P w = .ok (.tuple #[]) w' ∧ SRel w0 B m H' w' := by
  cases hx with
  | nils =>
    simp [aclear] at h; subst h
    refine ⟨w, ?_, hS⟩
    simp only [Builtin.clear_, List.getElem?_toArray, List.getElem?_cons_zero, Sem.run_bind, run_underlying ht, Result.andThen_ok, Sem.run_pure]
  | slice id off len cap g a' c' hid hlc hcc hg hge ho =>
    simp only [aclear] at h
    by_cases h0 : len = 0
    · subst h0
      simp at h; subst h
      refine ⟨w, ?_, hS⟩
      simp only [Builtin.clear_, List.getElem?_toArray, List.getElem?_cons_zero, Sem.run_bind, run_underlying ht, Result.andThen_ok, Sem.run_pure]
    · rw [if_neg h0] at h
      split at h
      · rename_i l hobj
        split at h
        · rename_i hb
          simp at h; subst h
          have ho : a' = ⟨(m.loc id).block, (m.loc id).off + off, none⟩ := by
            rcases ho with ho | ho
            · exact ho
            · omega
          subst ho
          obtain ⟨zv, hzr, hzc⟩ := run_zero hz w
          obtain ⟨hza, hz1⟩ := cvals_rel (m := m) hzc
          have hzvl : zv.cells.toList.length = es := by rw [← forall2_length hza]; exact hzl
          have hA := all2_zeros hza len (k := len * zv.cells.toList.length) rfl
          have h1c := zeros_cells hz1 (n := len) (k := len * zv.cells.toList.length) rfl
          have heq : ((Array.range (len * zv.cells.toList.length)).map fun i => (zv.cells.toList.toArray)[i % zv.cells.toList.toArray.size]!) = Builtin.zeroCells zv.cells len := by
            simp [Builtin.zeroCells]
          rw [heq] at hA h1c
          have hfit : off + (arep z len).length ≤ l.length := by rw [arep_length, hzl]; exact hb
          obtain ⟨w', hst, hS'⟩ := s_storeCells (P := P) hS hobj (off := off) hfit hA h1c
          refine ⟨w', ?_, hS'⟩
          obtain ⟨k, rfl⟩ : ∃ k, len = k + 1 := ⟨len - 1, by omega⟩
          simp only [Builtin.clear_, List.getElem?_toArray, List.getElem?_cons_zero, Sem.run_bind, run_underlying ht, Result.andThen_ok, Sem.run_pure, hzr, hst]
        · simp at h
      · simp at h
  | _ => simp [aclear] at h

/-! ### Parts laid into an aggregate -/
theorem lput_all2 : ∀ (cs : List AVal) (vs : List Value) (l : List AVal) (ls : List Value) (off k : Nat), All2 (VRel m) l ls → All2 (VRel m) cs vs →
    ∃ ls', ((vs.zipIdx k).foldl (fun (a : Array Value) (p : Value × Nat) => a.setIfInBounds (off + p.2) p.1) ls.toArray) = ls'.toArray ∧ All2 (VRel m) (lput l (off + k) cs) ls' ∧ ((∀ y, y ∈ ls → y.oneCell' = true) → (∀ y, y ∈ vs → y.oneCell' = true) → ∀ y, y ∈ ls' → y.oneCell' = true)
  | [], _, l, ls, off, k, hl, hc => by
    cases hc
    exact ⟨ls, rfl, hl, fun h _ => h⟩
  | c :: cs, _, l, ls, off, k, hl, hc => by
    cases hc with
    | cons hv hc =>
      rename_i v vs
      have hset : All2 (VRel m) (l.set (off + k) c) (ls.set (off + k) v) := all2_set hl hv (off + k)
      obtain ⟨ls', h1, h2, h3⟩ := lput_all2 cs vs (l.set (off + k) c) (ls.set (off + k) v) off (k + 1) hset hc
      refine ⟨ls', ?_, h2, ?_⟩
      · simp only [List.zipIdx_cons, List.foldl_cons]
        rw [← h1]
        congr 1
        simp
      · intro ha hb
        refine h3 ?_ (fun y hy => hb y (by simp [hy]))
        intro y hy
        rcases List.mem_or_eq_of_mem_set hy with hy | rfl
        · exact ha y hy
        · exact hb _ (by simp)
where
  all2_set : ∀ {l : List AVal} {ls : List Value} {c : AVal} {v : Value}, All2 (VRel m) l ls → VRel m c v → ∀ i, All2 (VRel m) (l.set i c) (ls.set i v)
    | [], _, _, _, h, _, i => by cases h; simp; exact .nil
    | _ :: _, _, _, _, h, hv, 0 => by cases h with | cons h1 h2 => exact .cons hv h2
    | _ :: _, _, _, _, h, hv, i + 1 => by cases h with | cons h1 h2 => exact .cons h1 (all2_set h2 hv i)

theorem s_fill {place : Nat → Option (Nat × Nat)} : ∀ (parts : List (Nat × Nat × AVal)) (parts' : List (Nat × Value)) (cells : List AVal) (cells' : List Value) (r : List AVal), All2 (VRel m) cells cells' → (∀ y, y ∈ cells' → y.oneCell' = true) →
    All2 (fun (p : Nat × Nat × AVal) (q : Nat × Value) => place q.1 = some (p.1, p.2.1) ∧ VRel m p.2.2 q.2) parts parts' → afill cells parts = some r →
    ∃ r', Instr.fill place cells'.toArray parts' = some r'.toArray ∧ All2 (VRel m) r r' ∧ ∀ y, y ∈ r' → y.oneCell' = true
  | [], _, cells, cells', r, hc, h1, hp, h => by
    cases hp
    simp [afill] at h; subst h
    exact ⟨cells', rfl, hc, h1⟩
  | (off, n, v) :: parts, _, cells, cells', r, hc, h1, hp, h => by
    cases hp with
    | cons hq hp =>
      rename_i q parts'
      obtain ⟨i, v'⟩ := q
      obtain ⟨hpl, hv⟩ := hq
      simp only [afill] at h
      split at h
      · rename_i hcond
        obtain ⟨hl, hb, ht⟩ := hcond
        obtain ⟨ls', he, ha, hone⟩ := lput_all2 _ _ _ _ off 0 hc (hv.cells ht)
        have hlv := forall2_length (hv.cells ht)
        obtain ⟨r', hr, har, hr1⟩ := s_fill parts parts' _ ls' r ha (hone h1 (hv.isCells ht)) hp h
        refine ⟨r', ?_, har, hr1⟩
        have hsz : v'.cells.size = n := by simp at hlv; omega
        have hcl := forall2_length hc
        have hcond' : (decide (v'.cells.size ≠ n) || decide (off + v'.cells.size > cells'.toArray.size)) = false := by
          simp [hsz]; omega
        have hfold : v'.cells.zipIdx.foldl (fun cs (p : Value × Nat) => cs.setIfInBounds (off + p.2) p.1) cells'.toArray = ls'.toArray := by
          rw [← he]
          rw [← Array.foldl_toList]
          simp
        simp only [Instr.fill, hpl]
        rw [if_neg (by rw [hcond']; simp)]
        rw [← hr, ← hfold]
      · simp at h

/-! ### min and max -/
theorem s_minmax {isMax : Bool} {x y v : AVal} {x' y' : Value} (hx : VRel m x x') (hy : VRel m y y') (h : aminmax isMax x y = some v) (w : World) :
    ∃ v', ((if isMax then Builtin.max2 x' y' else Builtin.min2 x' y')).run P w = .ok v' w ∧ VRel m v v' := by
  cases hx with
  | int k a =>
    cases hy with
    | int j b =>
      simp only [aminmax] at h
      split at h
      · rename_i hk
        subst hk
        simp at h; subst h
        cases isMax with
        | true => exact ⟨_, rfl, .int _ _⟩
        | false => exact ⟨_, rfl, .int _ _⟩
      · simp at h
    | _ => simp [aminmax] at h
  | _ => simp [aminmax] at h

theorem s_fold {isMax : Bool} : ∀ (l : List AVal) (l' : List Value) (v r : AVal) (v' : Value) (w : World), VRel m v v' → All2 (VRel m) l l' → afold isMax v l = some r →
    ∃ r', (l'.foldlM (fun a b => if isMax then Builtin.max2 a b else Builtin.min2 a b) v').run P w = .ok r' w ∧ VRel m r r'
  | [], _, v, r, v', w, hv, hl, h => by cases hl; simp [afold] at h; subst h; exact ⟨v', rfl, hv⟩
  | x :: l, _, v, r, v', w, hv, hl, h => by
    cases hl with
    | cons hx hl =>
      simp only [afold, Option.bind_eq_some_iff] at h
      obtain ⟨u, hu, h⟩ := h
      obtain ⟨u', hu', hur⟩ := s_minmax (P := P) hv hx hu w
      obtain ⟨r', hr, hrr⟩ := s_fold l _ u r u' w hur hl h
      exact ⟨r', by simp only [List.foldlM_cons, Sem.run_bind, hu', Result.andThen_ok]; exact hr, hrr⟩

end Go.Proofs.Ytfmjdlahabgkpaa.Am
end

section
/- Maps: what the abstract machine answers, the model does. -/
set_option linter.unusedSimpArgs false
set_option linter.unusedVariables false
namespace Go.Proofs.Ytfmjdlahabgkpaa.Am
open Go Go.RowKit

variable {P : Program} {w0 w : World} {B : Nat → Bool} {m : Inj} {H H' : AHeap}

theorem s_mkMap (hS : SRel w0 B m H w) {t : TypeId} : DoneV w0 B m (H.new (.map [])) (.map H.next) ((Instr.makeMap t none).run P w) := by
  refine ⟨.map (some w.heap.size), w.alloc (.map #[] 0), m.ext ⟨w.heap.size, 0, 0⟩, ?_, m.les_ext _, hS.newMap, ?_⟩
  · simp [Instr.makeMap, newObj, Sem.run]
  · have := VRel.map (m := m.ext ⟨w.heap.size, 0, 0⟩) m.n (m.ext_has _)
    rw [Inj.ext_new] at this
    rw [hS.next]
    exact this

abbrev MRel (m : Inj) (l : List (AVal × AVal)) (es : List MapEntry) : Prop := All2 (fun (p : AVal × AVal) (e : MapEntry) => VRel m p.1 e.key ∧ VRel m p.2 e.val) l es

theorem bytes_beq (a c : List UInt8) : ((⟨a.toArray⟩ : ByteArray) == ⟨c.toArray⟩) = (a == c) := by
  rw [beq_toListBytes, ByteArray.toList_eq, ByteArray.toList_eq]

theorem same_now {ku : TypeDesc} {kt : KeyT} (hkt : keyT ku = some kt) {k k' : AVal} {kv kv' : Value} (hk : VRel m k kv) (hk' : VRel m k' kv') {b : Bool} (h : keyEq kt k k' = some b) : Instr.sameNow ku kv kv' = some b ∧ (b = true → kv' = kv) := by
  unfold keyEq at h
  split at h
  · rename_i ki a kj c
    split at h
    · rename_i he
      obtain ⟨rfl, rfl⟩ := he
      injection h with h; subst h
      cases hk; cases hk'
      cases ku <;> simp [keyT] at hkt
      exact ⟨by simp [Instr.sameNow], fun h => by simp at h; rw [h]⟩
    · cases h
  · injection h with h; subst h
    cases hk; cases hk'
    rename_i a c
    cases ku <;> simp [keyT] at hkt
    refine ⟨?_, fun h => by simp at h; rw [h]⟩
    simp only [Instr.sameNow, Option.some.injEq]
    exact bytes_beq _ _
  · cases h

theorem find_rel {ku : TypeDesc} {kt : KeyT} (hkt : keyT ku = some kt) {k : AVal} {kv : Value} (hk : VRel m k kv) : ∀ {l : List (AVal × AVal)} {es : List MapEntry} {r : Option AVal} (i : Nat), MRel m l es → alook kt k l = some r →
    (r = none ∧ Instr.findNow ku kv es i = some none) ∨ ∃ v j vv, r = some v ∧ Instr.findNow ku kv es i = some (some (j, vv)) ∧ VRel m v vv
  | [], es, r, i, hR, h => by
    cases hR
    simp [alook] at h
    exact .inl ⟨h.symm, rfl⟩
  | (k', u) :: l, es, r, i, hR, h => by
    cases hR with
    | cons h1 h2 =>
      rename_i e es
      simp only [alook] at h
      split at h
      · rename_i hq
        injection h with h; subst h
        have := (same_now hkt hk h1.1 hq).1
        exact .inr ⟨u, i, e.val, rfl, by simp [Instr.findNow, this], h1.2⟩
      · rename_i hq
        have := (same_now hkt hk h1.1 hq).1
        rcases find_rel hkt hk (i + 1) h2 h with ⟨rfl, h3⟩ | ⟨v, j, vv, rfl, h3, h4⟩
        · exact .inl ⟨rfl, by simp [Instr.findNow, this, h3]⟩
        · exact .inr ⟨v, j, vv, rfl, by simp [Instr.findNow, this, h3], h4⟩
      · cases h

theorem put_rel {ku : TypeDesc} {kt : KeyT} (hkt : keyT ku = some kt) {k v : AVal} {kv vv : Value} (hk : VRel m k kv) (hv : VRel m v vv) (ck : Nat) : ∀ {l l' : List (AVal × AVal)} {es : List MapEntry} (i : Nat), MRel m l es → aput kt k v l = some l' →
    (Instr.findNow ku kv es i = some none ∧ MRel m l' (es ++ [{ key := kv, val := vv, born := ck }])) ∨
    ∃ j e, Instr.findNow ku kv es i = some (some (i + j, e.val)) ∧ es[j]? = some e ∧ e.key = kv ∧ MRel m l' (es.modify j fun e => { e with key := kv, val := vv })
  | [], l', es, i, hR, h => by
    cases hR
    simp [aput] at h
    subst h
    exact .inl ⟨rfl, .cons ⟨hk, hv⟩ .nil⟩
  | (k', u) :: l, l', es, i, hR, h => by
    cases hR with
    | cons h1 h2 =>
      rename_i e es
      simp only [aput] at h
      split at h
      · rename_i hq
        injection h with h; subst h
        obtain ⟨h3, h4⟩ := same_now hkt hk h1.1 hq
        refine .inr ⟨0, e, by simp [Instr.findNow, h3], rfl, h4 rfl, ?_⟩
        exact .cons ⟨hk, hv⟩ h2
      · rename_i hq
        obtain ⟨h3, _⟩ := same_now hkt hk h1.1 hq
        simp only [Option.map_eq_some_iff] at h
        obtain ⟨r, hr, rfl⟩ := h
        rcases put_rel hkt hk hv ck (i + 1) h2 hr with ⟨h4, h5⟩ | ⟨j, e', h4, h5, h6, h7⟩
        · exact .inl ⟨by simp [Instr.findNow, h3, h4], .cons h1 h5⟩
        · refine .inr ⟨j + 1, e', by simp [Instr.findNow, h3, h4]; omega, by simpa using h5, h6, ?_⟩
          exact .cons h1 h7
      · cases h

theorem is_key {ku : TypeDesc} {kt : KeyT} (hkt : keyT ku = some kt) {k : AVal} {kv : Value} (hk : VRel m k kv) (h : akey kt k = true) : MapKept.IsKey ku kv := by
  unfold akey at h
  split at h
  · have h := of_decide_eq_true h
    cases hk; cases ku <;> simp [keyT] at hkt; simp [MapKept.IsKey, h, hkt]
  · cases hk; cases ku <;> simp [keyT] at hkt; simp [MapKept.IsKey]
  · cases h

theorem s_mapGet (hS : SRel w0 B m H w) {t kty e : TypeId} {ku : TypeDesc} {kt : KeyT} (hu : P.underlying t = some (.map kty e)) (hku : P.underlying kty = some ku) (hkt : keyT ku = some kt) {z : AVal} (hz : czero P e = some z) {x k v : AVal} {xv kv : Value} (hx : VRel m x xv) (hk : VRel m k kv) {ok : Bool}
    (h : getX ok z H (amapGet H kt x k) = some (v, H')) : DoneV w0 B m H' v ((Instr.lookup t xv kv ok).run P w) := by
  simp only [czero, Option.bind_eq_some_iff] at hz
  obtain ⟨z0, ⟨i, hi, hi2⟩, hz⟩ := hz
  have hzr : VRel m z z0 := cval_rel hz
  have hzrun : (zeroValue e).run P w = .ok z0 w := by simp [zeroValue, typeInfo, hi, hi2]
  unfold amapGet at h
  split at h
  rotate_left
  · cases h
  rename_i hak
  have hck := fun b => MapKept.run_checkKey (w := w) hku (is_key hkt hk hak) b 9999
  have fin : ∀ (es : Array MapEntry) (r : Option AVal) (l : List (AVal × AVal)), MRel m l es.toList → alook kt k l = some r → some (if ok then AVal.tuple [r.getD z, .bool r.isSome] else r.getD z, H) = some (v, H') →
      (∀ r : Option (Nat × Value), Instr.findNow ku kv es.toList 0 = some r → (Instr.lookup t xv kv ok).run P w = .ok (match r with
        | some (_, vv) => if ok then .tuple #[vv, .bool true] else vv
        | none => if ok then .tuple #[z0, .bool false] else z0) w) → DoneV w0 B m H' v ((Instr.lookup t xv kv ok).run P w) := by
    intro es r l hR hr he hrun
    injection he with he
    injection he with he1 he2
    subst he1 he2
    rcases find_rel hkt hk 0 hR hr with ⟨rfl, h3⟩ | ⟨u, j, vv, rfl, h3, h4⟩
    · rw [hrun _ h3]
      cases ok
      · exact .same hS hzr
      · exact .same hS (.tuple _ _ (.cons hzr (.cons (.bool _) .nil)))
    · rw [hrun _ h3]
      cases ok
      · exact .same hS h4
      · exact .same hS (.tuple _ _ (.cons h4 (.cons (.bool _) .nil)))
  split at h
  · cases hx
    refine fin #[] none [] .nil rfl h ?_
    intro r hr
    simp [Instr.findNow] at hr
    subst hr
    simp [Instr.lookup, run_underlying hu, run_underlying hku, hck, Instr.findKey, Instr.findNow, hzrun, Result.andThen]
  · rename_i id
    split at h
    · rename_i l ho
      cases hx
      obtain ⟨_, es, ck, hb, hR, _⟩ := hS.obj id _ ho
      cases hr : alook kt k l with
      | none => rw [hr] at h; cases h
      | some r =>
        rw [hr] at h
        refine fin es r l hR hr h ?_
        intro r hr
        cases r with
        | none => simp [Instr.lookup, run_underlying hu, run_underlying hku, MapKept.run_getObj_map hb, hck, Instr.findKey, hr, hzrun, Result.andThen]
        | some r => simp [Instr.lookup, run_underlying hu, run_underlying hku, MapKept.run_getObj_map hb, hck, Instr.findKey, hr, Result.andThen]
    · cases h
  · cases h

theorem s_mapSet (hS : SRel w0 B m H w) {t kty e : TypeId} {ku : TypeDesc} {kt : KeyT} (hu : P.underlying t = some (.map kty e)) (hku : P.underlying kty = some ku) (hkt : keyT ku = some kt) {x k v : AVal} {xv kv vv : Value} (hx : VRel m x xv) (hk : VRel m k kv) (hv : VRel m v vv)
    (h : amapSet H kt x k v = some H') : ∃ w', (Instr.mapUpdate t xv kv vv).run P w = .ok () w' ∧ SRel w0 B m H' w' := by
  unfold amapSet at h
  split at h
  rotate_left
  · cases h
  rename_i hak
  rw [Bool.and_eq_true] at hak
  have hck := fun b => MapKept.run_checkKey (w := w) hku (is_key hkt hk hak.1) b 9999
  split at h
  · rename_i id
    split at h
    · rename_i l ho
      simp only [Option.map_eq_some_iff] at h
      obtain ⟨l', hl, rfl⟩ := h
      cases hx
      obtain ⟨_, es, ck, hb, hR, _⟩ := hS.obj id _ ho
      rcases put_rel hkt hk hv ck 0 hR hl with ⟨h3, h4⟩ | ⟨j, e', h3, h4, h5, h6⟩
      · refine ⟨_, ?_, hS.setMap ho (es' := es.push { key := kv, val := vv, born := ck }) (ck + 1) ?_⟩
        · simp [Instr.mapUpdate, run_underlying hu, MapKept.run_getObj_map hb, hck, Instr.findKey, run_underlying hku, h3, MapKept.run_setObj_map _ hb, Result.andThen]
        · obtain ⟨h3', h4'⟩ | ⟨j, e', h3', _⟩ := put_rel hkt hk hv ck 0 hR hl
          · simpa using h4'
          · rw [h3] at h3'; cases h3'
      · have hes : es[j]? = some e' := by simpa using h4
        have sb : Instr.sameBits 10000 kv kv = true := by
          have := hak.1
          unfold akey at this
          split at this
          · cases hk; simp [Instr.sameBits]
          · cases hk; simp only [Instr.sameBits]; rw [bytes_beq]; simp
          · cases this
        refine ⟨_, ?_, hS.setMap ho (es' := es.modify j fun e => { e with key := kv, val := vv }) ck (by simpa [Array.toList_modify] using h6)⟩
        simp only [Nat.zero_add] at h3
        simp [Instr.mapUpdate, run_underlying hu, MapKept.run_getObj_map hb, hck, Instr.findKey, run_underlying hku, h3, hes, h5, Instr.keyThatStays, sb, MapKept.run_setObj_map _ hb, Result.andThen]
    · cases h
  · cases h

theorem s_lenM (hS : SRel w0 B m H w) {t ty kty e : TypeId} (hu : P.underlying t = some (.map kty e)) {x : AVal} {xv : Value} (hx : VRel m x xv) {n : Nat} (h : amapLen H x = some n) : (Builtin.len_ #[t] ty #[xv]).run P w = .ok (.int .i64 (n : Int)) w := by
  unfold amapLen at h
  split at h
  · injection h with h; subst h
    cases hx
    simp [Builtin.len_, run_underlying hu, goInt, Result.andThen]
  · rename_i id
    split at h
    · rename_i l ho
      injection h with h; subst h
      cases hx
      obtain ⟨_, es, ck, hb, hR, _⟩ := hS.obj id _ ho
      have := forall2_length hR
      simp [Builtin.len_, run_underlying hu, MapKept.run_getObj_map hb, goInt, Result.andThen, this]
    · cases h
  · cases h

end Go.Proofs.Ytfmjdlahabgkpaa.Am
end
