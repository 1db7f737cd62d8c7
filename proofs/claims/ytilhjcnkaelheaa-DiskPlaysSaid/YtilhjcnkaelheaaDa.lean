/- Disks: the plain functions taken apart; the disks' beginning. -/
import Derived.Test.YtilhjcnkaelheaaDna
import Derived.Test.YtilhjcnkaelheaaAmFr
set_option maxRecDepth 100000
set_option linter.unusedSimpArgs false
set_option linter.unusedVariables false
set_option maxHeartbeats 2000000
namespace Go.Proofs.Ytilhjcnkaelheaa.Dk
open Go Go.Proofs.Ytilhjcnkaelheaa.Am DnFns Go.RowKit
open Sd (Sec noughts home homeno ofHome ofNo opened unfit pad)

theorem by8_of {n : Int} (h : 0 ≤ n ∧ n < 256) : AVal.int .u8 n = by8 (UInt8.ofNat n.toNat) := by
  unfold by8
  congr 1
  have : n.toNat < 256 := by omega
  rw [UInt8.toNat_ofNat', Nat.mod_eq_of_lt (by simpa using this)]
  omega
def gText (k : Nat) : List AVal → Option AVal
  | [.int .u8 n] => if 0 ≤ n ∧ n < 256 then some (.str (List.replicate k (UInt8.ofNat n.toNat))) else none
  | _ => none
theorem ok12 : ∀ args v, gText 512 args = some v → plains args = true ∧ plain v = true ∧ ∃ H', AC Sd.A 12 args noH = some (v, H') := by
  intro args v h
  unfold gText at h
  split at h
  · split at h
    · rename_i hn
      injection h with h; subst h
      exact ⟨rfl, rfl, noH, by rw [by8_of hn]; exact Sd.U12 _ _⟩
    · cases h
  · cases h
theorem ok40 : ∀ args v, gText 480 args = some v → plains args = true ∧ plain v = true ∧ ∃ H', AC Sd.A 40 args noH = some (v, H') := by
  intro args v h
  unfold gText at h
  split at h
  · split at h
    · rename_i hn
      injection h with h; subst h
      exact ⟨rfl, rfl, noH, by rw [by8_of hn]; exact Sd.U40 _ _⟩
    · cases h
  · cases h
def gBlank : List AVal → Option AVal
  | [] => some (.str (noughts 512))
  | _ => none
theorem ok44 : ∀ args v, gBlank args = some v → plains args = true ∧ plain v = true ∧ ∃ H', AC Sd.A 44 args noH = some (v, H') := by
  intro args v h
  unfold gBlank at h
  split at h
  · injection h with h; subst h; exact ⟨rfl, rfl, noH, Sd.U44 _⟩
  · cases h
def gNoughts : List AVal → Option AVal
  | [.int .i64 n] => if n = 512 then some (.str (noughts 512)) else if n = 480 then some (.str (noughts 480)) else none
  | _ => none
theorem ok52 : ∀ args v, gNoughts args = some v → plains args = true ∧ plain v = true ∧ ∃ H', AC Sd.A 52 args noH = some (v, H') := by
  intro args v h
  unfold gNoughts at h
  split at h
  · split at h
    · rename_i hn; subst hn; injection h with h; subst h; exact ⟨rfl, rfl, noH, Sd.U52a _⟩
    · split at h
      · rename_i hn; subst hn; injection h with h; subst h; exact ⟨rfl, rfl, noH, Sd.U52b _⟩
      · cases h
  · cases h
def gPad : List AVal → Option AVal
  | [.str s, .int .i64 n] => some (.str (pad s n))
  | _ => none
theorem ok60 : ∀ args v, gPad args = some v → plains args = true ∧ plain v = true ∧ ∃ H', AC Sd.A 60 args noH = some (v, H') := by
  intro args v h
  unfold gPad at h
  split at h
  · injection h with h; subst h; exact ⟨rfl, rfl, noH, Sd.U60 _ _ _⟩
  · cases h
def gZero : List AVal → Option AVal
  | [.str s] => some (.bool (s.all (· == 0)))
  | _ => none
theorem ok62 : ∀ args v, gZero args = some v → plains args = true ∧ plain v = true ∧ ∃ H', AC Sd.A 62 args noH = some (v, H') := by
  intro args v h
  unfold gZero at h
  split at h
  · injection h with h; subst h; exact ⟨rfl, rfl, noH, Sd.U62 _ _⟩
  · cases h
def gSeal : List AVal → Option AVal
  | [.agg [.int .i64 k, .int .u64 e, .int .u64 n, .int .i64 a, .int .i64 m, .str p]] => if 0 ≤ e ∧ 0 ≤ n then some (.tuple [.str (Sec.sealb ⟨k, e.toNat, n.toNat, a, m, p⟩), .int .i64 (Sec.no ⟨k, e.toNat, n.toNat, a, m, p⟩)]) else none
  | _ => none
theorem ok63 : ∀ args v, gSeal args = some v → plains args = true ∧ plain v = true ∧ ∃ H', AC Sd.A 63 args noH = some (v, H') := by
  intro args v h
  unfold gSeal at h
  split at h
  · rename_i k e n a m p
    split at h
    · rename_i hc
      injection h with h; subst h
      refine ⟨rfl, rfl, noH, ?_⟩
      have := Sd.U63 k e.toNat n.toNat a m p noH
      rw [Int.toNat_of_nonneg hc.1, Int.toNat_of_nonneg hc.2] at this
      exact this
    · cases h
  · cases h
def gOpen : List AVal → Option AVal
  | [.str b] => some (.tuple [.agg (opened b).cells, .int .i64 (unfit b)])
  | _ => none
theorem ok64 : ∀ args v, gOpen args = some v → plains args = true ∧ plain v = true ∧ ∃ H', AC Sd.A 64 args noH = some (v, H') := by
  intro args v h
  unfold gOpen at h
  split at h
  · injection h with h; subst h; exact ⟨rfl, rfl, noH, Sd.U64 _ _⟩
  · cases h
def gHome : List AVal → Option AVal
  | [.int .i64 a, .str t] => some (.tuple [.str (home a t), .int .i64 (homeno a t)])
  | _ => none
theorem ok41 : ∀ args v, gHome args = some v → plains args = true ∧ plain v = true ∧ ∃ H', AC Sd.A 41 args noH = some (v, H') := by
  intro args v h
  unfold gHome at h
  split at h
  · injection h with h; subst h; exact ⟨rfl, rfl, noH, Sd.U41 _ _ _⟩
  · cases h
def gOfHome : List AVal → Option AVal
  | [.str b, .int .i64 a] => some (.tuple [.str (ofHome b a), .int .i64 (ofNo b a)])
  | _ => none
theorem ok42 : ∀ args v, gOfHome args = some v → plains args = true ∧ plain v = true ∧ ∃ H', AC Sd.A 42 args noH = some (v, H') := by
  intro args v h
  unfold gOfHome at h
  split at h
  · injection h with h; subst h; exact ⟨rfl, rfl, noH, Sd.U42 _ _ _⟩
  · cases h

def mode : FuncId → Nat
  | 9 => 1
  | 14 => 2
  | 16 => 2
  | 18 => 2
  | 19 => 2
  | 22 => 2
  | 23 => 2
  | 24 => 2
  | 25 => 2
  | 30 => 2
  | 31 => 2
  | 32 => 2
  | 33 => 2
  | 34 => 2
  | 35 => 1
  | 36 => 2
  | 37 => 2
  | 39 => 1
  | 43 => 2
  | 45 => 2
  | 48 => 1
  | 49 => 2
  | 50 => 2
  | 56 => 2
  | 65 => 1
  | 68 => 2
  | 69 => 2
  | 81 => 1
  | _ => 0
def lib (f : FuncId) : Option (List AVal → AHeap → Option (AVal × AHeap)) :=
  if f = 12 then some (extOf (gText 512)) else if f = 40 then some (extOf (gText 480)) else if f = 44 then some (extOf (gBlank)) else if f = 52 then some (extOf (gNoughts)) else if f = 60 then some (extOf (gPad)) else if f = 62 then some (extOf (gZero)) else if f = 63 then some (extOf (gSeal)) else if f = 64 then some (extOf (gOpen)) else if f = 41 then some (extOf (gHome)) else if f = 42 then some (extOf (gOfHome)) else Sd.A.ext f
def A : AProg := ⟨DnFns.fn, lib, mode⟩
theorem A_sound (w0 : World) (B : Nat → Bool) : Sound Try.prog w0 B A := by
  refine ⟨Try.checked.mixed, DnFns.fn_is, fun f g h => ?_⟩
  change lib f = some g at h
  unfold lib at h
  split at h
  · rename_i hf; subst hf; injection h with h; subst h; exact ext_sound Sd.A_sound ok12 w0 B
  split at h
  · rename_i hf; subst hf; injection h with h; subst h; exact ext_sound Sd.A_sound ok40 w0 B
  split at h
  · rename_i hf; subst hf; injection h with h; subst h; exact ext_sound Sd.A_sound ok44 w0 B
  split at h
  · rename_i hf; subst hf; injection h with h; subst h; exact ext_sound Sd.A_sound ok52 w0 B
  split at h
  · rename_i hf; subst hf; injection h with h; subst h; exact ext_sound Sd.A_sound ok60 w0 B
  split at h
  · rename_i hf; subst hf; injection h with h; subst h; exact ext_sound Sd.A_sound ok62 w0 B
  split at h
  · rename_i hf; subst hf; injection h with h; subst h; exact ext_sound Sd.A_sound ok63 w0 B
  split at h
  · rename_i hf; subst hf; injection h with h; subst h; exact ext_sound Sd.A_sound ok64 w0 B
  split at h
  · rename_i hf; subst hf; injection h with h; subst h; exact ext_sound Sd.A_sound ok41 w0 B
  split at h
  · rename_i hf; subst hf; injection h with h; subst h; exact ext_sound Sd.A_sound ok42 w0 B
  exact (Sd.A_sound w0 B).ext f g h
theorem U12 (b : UInt8) (H : AHeap) : AC A 12 [by8 b] H = some (.str (List.replicate 512 b), H) := AC_ext_of rfl (by
  have h : (0 : Int) ≤ (b.toNat : Int) ∧ (b.toNat : Int) < 256 := by have := b.toNat_lt; omega
  simp only [gText, by8]; rw [if_pos h]; simp) H
theorem U40 (b : UInt8) (H : AHeap) : AC A 40 [by8 b] H = some (.str (List.replicate 480 b), H) := AC_ext_of rfl (by
  have h : (0 : Int) ≤ (b.toNat : Int) ∧ (b.toNat : Int) < 256 := by have := b.toNat_lt; omega
  simp only [gText, by8]; rw [if_pos h]; simp) H
theorem U44 (H : AHeap) : AC A 44 [] H = some (.str (noughts 512), H) := AC_ext_of rfl rfl H
theorem U52a (H : AHeap) : AC A 52 [.int .i64 512] H = some (.str (noughts 512), H) := AC_ext_of rfl rfl H
theorem U52b (H : AHeap) : AC A 52 [.int .i64 480] H = some (.str (noughts 480), H) := AC_ext_of rfl rfl H
theorem U60 (s : List UInt8) (n : Int) (H : AHeap) : AC A 60 [.str s, .int .i64 n] H = some (.str (pad s n), H) := AC_ext_of rfl rfl H
theorem U62 (s : List UInt8) (H : AHeap) : AC A 62 [.str s] H = some (.bool (s.all (· == 0)), H) := AC_ext_of rfl rfl H
theorem U63 (k : Int) (e n : Nat) (a m : Int) (p : List UInt8) (H : AHeap) : AC A 63 [.agg [.int .i64 k, .int .u64 (e : Int), .int .u64 (n : Int), .int .i64 a, .int .i64 m, .str p]] H = some (.tuple [.str (Sec.sealb ⟨k, e, n, a, m, p⟩), .int .i64 (Sec.no ⟨k, e, n, a, m, p⟩)], H) := AC_ext_of rfl (by
  simp only [gSeal]; rw [if_pos ⟨by omega, by omega⟩]; simp) H
theorem U64 (b : List UInt8) (H : AHeap) : AC A 64 [.str b] H = some (.tuple [.agg (opened b).cells, .int .i64 (unfit b)], H) := AC_ext_of rfl rfl H
theorem U41 (a : Int) (t : List UInt8) (H : AHeap) : AC A 41 [.int .i64 a, .str t] H = some (.tuple [.str (home a t), .int .i64 (homeno a t)], H) := AC_ext_of rfl rfl H
theorem U42 (b : List UInt8) (a : Int) (H : AHeap) : AC A 42 [.str b, .int .i64 a] H = some (.tuple [.str (ofHome b a), .int .i64 (ofNo b a)], H) := AC_ext_of rfl rfl H
theorem U9_is : (arun (acall A 4000) A.fn 4000 (some DnFns.c9) [] noH).map (·.1) = some (.bool true) := by kernel_rfl
theorem U9 (H : AHeap) : AC A 9 [] H = some (.bool true, H) := one_closed (x := DnFns.c9) rfl rfl rfl rfl rfl U9_is H

end Go.Proofs.Ytilhjcnkaelheaa.Dk
