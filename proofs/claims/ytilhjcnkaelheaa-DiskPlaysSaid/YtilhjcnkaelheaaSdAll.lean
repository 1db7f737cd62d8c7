/- The walk of the octets' chapter: what each function answers. -/
import Derived.Test.YtilhjcnkaelheaaDnFns
import Derived.Test.YtilhjcnkaelheaaAmSet
import Derived.Test.YtilhjcnkaelheaaShelf
set_option maxRecDepth 100000
set_option linter.unusedSimpArgs false
set_option linter.unusedVariables false
set_option maxHeartbeats 2000000
namespace Go.Proofs.Ytilhjcnkaelheaa.Sd
open Go Go.Proofs.Ytilhjcnkaelheaa.Am DnFns Go.RowKit

/-! ### Go's library, by its contracts -/
def gRep : List AVal → Option AVal
  | [.str s, .int .i64 n] => if 0 ≤ n ∧ n ≤ 9223372036854775807 ∧ s.length * n.toNat ≤ 140737488355328 then some (.str (Lib.repeatL s n.toNat)) else none
  | _ => none
def gCount : List AVal → Option AVal
  | [.str s, .str [c]] => some (.int .i64 (Lib.countByte s c : Nat))
  | _ => none

theorem enters {f : FuncId} {fn : Func} (h : Try.prog.funcs[f]? = some fn) (h1 : (fn.name == "runtime.NumGoroutine") = false) (h2 : fn.body.isNone = false) : Go.Proofs.Ytilhjcnkaelheaa.Am.Enters Try.prog f := ⟨fn, h, h1, h2⟩

theorem xRep : Go.Proofs.Ytilhjcnkaelheaa.Am.Enters Try.prog 71 ∧ ∀ args v, gRep args = some v → plain v = true ∧ ∀ (m : Inj) (args' : List Value) (w : World), All2 (VRel m) args args' → Calls Try.prog 71 args'.toArray w fun e w' => ∃ v', e = .returned v' ∧ VRel m v v' ∧ Below w.heap.size w w' := by
  refine ⟨enters Try.func71 (by kernel_rfl) (by kernel_rfl), fun args v h => ?_⟩
  unfold gRep at h
  split at h
  · rename_i s n
    split at h
    · rename_i hc
      injection h with h
      subst h
      refine ⟨rfl, fun m args' w ha => ?_⟩
      cases ha with
      | cons h1 ha =>
        cases ha with
        | cons h2 ha =>
          cases ha
          have e1 := vrel_str h1
          have e2 := vrel_int h2
          subst e1 e2
          have := Try.strings_Repeat ⟨s.toArray⟩ n.toNat w (by omega) (by show s.toArray.size * n.toNat ≤ _; rw [List.size_toArray]; exact hc.2.2)
          rw [Int.toNat_of_nonneg hc.1] at this
          refine this.mono fun e w' ⟨h3, h4⟩ => ⟨_, h3, ?_, h4⟩
          exact .str _
    · cases h
  · cases h

theorem xCount : Go.Proofs.Ytilhjcnkaelheaa.Am.Enters Try.prog 73 ∧ ∀ args v, gCount args = some v → plain v = true ∧ ∀ (m : Inj) (args' : List Value) (w : World), All2 (VRel m) args args' → Calls Try.prog 73 args'.toArray w fun e w' => ∃ v', e = .returned v' ∧ VRel m v v' ∧ Below w.heap.size w w' := by
  refine ⟨enters Try.func73 (by kernel_rfl) (by kernel_rfl), fun args v h => ?_⟩
  unfold gCount at h
  split at h
  · rename_i s c
    injection h with h
    subst h
    refine ⟨rfl, fun m args' w ha => ?_⟩
    cases ha with
    | cons h1 ha =>
      cases ha with
      | cons h2 ha =>
        cases ha
        have e1 := vrel_str h1
        have e2 := vrel_str h2
        subst e1 e2
        refine (Try.strings_Count_one ⟨s.toArray⟩ c w).mono fun e w' ⟨h3, h4⟩ => ⟨_, h3, .int _ _, ?_⟩
        rw [h4]
        exact Below.refl _ _
  · cases h

def mode : FuncId → Nat
  | 12 => 1
  | 40 => 1
  | 41 => 1
  | 42 => 1
  | 44 => 1
  | 52 => 1
  | 60 => 1
  | 61 => 1
  | 62 => 1
  | 63 => 1
  | 64 => 1
  | 67 => 1
  | 72 => 1
  | 74 => 1
  | 75 => 1
  | 76 => 1
  | 77 => 0
  | 78 => 0
  | 79 => 0
  | 90 => 1
  | 91 => 1
  | 92 => 0
  | 97 => 1
  | _ => 0
def lib (f : FuncId) : Option (List AVal → AHeap → Option (AVal × AHeap)) :=
  if f = 71 then some (extOf gRep) else if f = 73 then some (extOf gCount) else none
def A : AProg := ⟨DnFns.fn, lib, mode⟩
theorem A_sound (w0 : World) (B : Nat → Bool) : Sound Try.prog w0 B A := by
  refine ⟨Try.checked.mixed, DnFns.fn_is, fun f g h => ?_⟩
  change lib f = some g at h
  unfold lib at h
  split at h
  · rename_i hf; subst hf; injection h with h; subst h; exact lib_sound (xRep).1 (xRep).2 w0 B
  split at h
  · rename_i hf; subst hf; injection h with h; subst h; exact lib_sound (xCount).1 (xCount).2 w0 B
  cases h
theorem U90 (w : Int) (H : AHeap) : AC A 90 [.int .i64 w] H = some (.bool (decide (1 ≤ w) && decide (w ≤ 8)), H) := by
  refine one_val (x := DnFns.c90) rfl rfl rfl rfl rfl ?_ H
  cases h : decide (1 ≤ w) <;> simp only [c90, h, rwA, rwB, Nat.reduceAdd, Nat.reduceMul, Nat.reduceLeDiff, Int.reduceEq, Int.reduceLT, Int.reduceLE, Int.reduceAdd, Int.reduceSub, Int.reduceMul, ↓reduceIte, Nat.reduceEqDiff, reduceCtorEq, ↓cnd_true, ↓cnd_false] <;> simp

/-! ### A number's bytes -/
def u64 (n : Nat) : AVal := .int .u64 (n : Int)
def encl (w n : Nat) : List UInt8 := (List.range w).map fun j => UInt8.ofNat (n / 256 ^ (w - 1 - j))
def num (w : Int) (n : Nat) : List UInt8 := if 1 ≤ w ∧ w ≤ 8 then encl w.toNat n else []
theorem encl_len (w n : Nat) : (encl w n).length = w := by simp [encl]
theorem encl_get (w n j : Nat) (h : j < w) : (encl w n)[j]? = some (UInt8.ofNat (n / 256 ^ (w - 1 - j))) := by simp [encl, h]

theorem w_8 (n : Nat) : AVal.int .u8 (IntKind.u8.wrap (n : Int)) = by8 (UInt8.ofNat n) := by
  simp only [by8]
  congr 1
theorem c_8 (c : UInt8) : AVal.cells (by8 c) = [by8 c] := hid rfl
theorem t_8 (c : UInt8) : AVal.tup (by8 c) = false := hid rfl
theorem z_8 : AVal.int .u8 0 = by8 0 := hid rfl
theorem shr_u64 (n i : Nat) (hi : i ≤ 7) (w : Int) (hw : w = ((8 * i : Nat) : Int)) : abin .shr (.int .u64 (n : Int)) (.int .i64 w) = some (.int .u64 ((n / 256 ^ i : Nat) : Int)) := by
  subst hw
  simp only [abin, ashift]
  rw [if_neg (by omega)]
  simp only [IntKind.bits, Int.toNat_natCast, Nat.min_eq_left (show 8 * i ≤ 64 by omega)]
  congr 2
  rw [Int.fdiv_eq_ediv_of_nonneg _ (by exact Int.le_of_lt (by exact_mod_cast Nat.pow_pos (n := 8 * i) (show 0 < 2 by decide)))]
  have h : (2 : Int) ^ (8 * i) = ((2 ^ (8 * i) : Nat) : Int) := by norm_cast
  rw [h, Nat.pow_mul, ← Int.natCast_ediv]

theorem set_gets {l : List AVal} {k : Nat} {v : AVal} {P : Nat → AVal → Prop} (hk : k < l.length) (hl : ∀ i x, l[i]? = some x → P i x) (hv : P k v) : ∀ i x, (l.set k v)[i]? = some x → P i x := by
  intro i x hx
  by_cases h : i = k
  · subst h
    rw [List.getElem?_set_self hk] at hx
    injection hx with hx
    subst hx
    exact hv
  · rw [List.getElem?_set_ne (Ne.symm h)] at hx
    exact hl i x hx

def b74 : ACode := (.seq (.region [⟨(some 12), (.bin .lss (.tmp 11) (.tmp 10)), none, none⟩]) (.seq (.cond (.tmp 12) .skip (.exit 0)) (.seq (.block 1 (.seq (.region [⟨(some 13), (.mv (.tmp 11)), none, none⟩, ⟨(some 6), (.mv (.tmp 13)), none, none⟩]) (.region [⟨(some 14), (.mv (.tmp 0)), none, none⟩, ⟨(some 15), (.bin .sub (.tmp 14) (.con (.int .i64 1))), none, none⟩, ⟨(some 16), (.mv (.tmp 6)), none, none⟩, ⟨(some 17), (.bin .sub (.tmp 15) (.tmp 16)), none, none⟩, ⟨(some 18), (.mv (.tmp 1)), none, none⟩, ⟨(some 19), (.mv (.tmp 6)), none, none⟩, ⟨(some 20), (.bin .mul (.con (.int .i64 8)) (.tmp 19)), none, none⟩, ⟨(some 21), (.bin .shr (.tmp 18) (.tmp 20)), none, none⟩, ⟨(some 22), (.toInt .u8 (.tmp 21)), none, none⟩, ⟨(some 23), (.idxAArr 8 1 (.tmp 5) (.tmp 17)), none, none⟩, ⟨none, (.store 1 (.tmp 23) (.tmp 22)), none, none⟩]))) (.region [⟨(some 24), (.bin .add (.tmp 11) (.con (.int .i64 1))), none, none⟩, ⟨(some 11), (.mv (.tmp 24)), none, none⟩]))))

theorem loop74 {w n : Nat} (hw : 1 ≤ w ∧ w ≤ 8) {env : Env} {H : AHeap} {q : Nat} {c : List AVal} (h0 : env 0 = .int .i64 (w : Int)) (h1 : env 1 = .int .u64 (n : Int)) (h5 : env 5 = .ptr q 0) (h10 : env 10 = .int .i64 (w : Int)) (h11 : env 11 = .int .i64 0) (ho : H.obj q = some (.cells c true)) (hc : c.length = 8) :
    Outs (AX A (.loop b74) env H) fun e env' H' => e = .exit 0 ∧ env' 0 = .int .i64 (w : Int) ∧ env' 5 = .ptr q 0 ∧ ∃ c, H'.obj q = some (.cells c true) ∧ c.length = 8 ∧ c.take w = (encl w n).map by8 := by
  refine loop_ends (I := fun (j : Nat) env' H' => j ≤ w ∧ env' 0 = .int .i64 (w : Int) ∧ env' 1 = .int .u64 (n : Int) ∧ env' 5 = .ptr q 0 ∧ env' 10 = .int .i64 (w : Int) ∧ env' 11 = .int .i64 (j : Int) ∧ ∃ c, H'.obj q = some (.cells c true) ∧ c.length = 8 ∧ ∀ k, k < j → c[w - 1 - k]? = some (by8 (UInt8.ofNat (n / 256 ^ k)))) (fun j => w - j) ?_ 0 env H
    ⟨Nat.zero_le _, h0, h1, h5, h10, h11, c, ho, hc, by intro k hk; omega⟩
  rintro j env' H' ⟨hj, h0, h1, h5, h10, h11, c, ho, hc, hk⟩
  by_cases hlt : j < w
  · have e1 : decide ((j : Int) < (w : Int)) = true := by simp; omega
    have w1 : IntKind.i64.wrap ((j : Int) + 1) = ((j + 1 : Nat) : Int) := by rw [wrap_i64]; omega
    have w2 : IntKind.i64.wrap ((w : Int) - 1) = ((w - 1 : Nat) : Int) := by rw [wrap_i64]; omega
    have w3 : IntKind.i64.wrap (((w - 1 : Nat) : Int) - (j : Int)) = ((w - 1 - j : Nat) : Int) := by rw [wrap_i64]; omega
    have w4 : IntKind.i64.wrap (8 * (j : Int)) = ((8 * j : Nat) : Int) := by rw [wrap_i64]; omega
    have ha : aidx 8 (.int .i64 ((w - 1 - j : Nat) : Int)) = some (w - 1 - j) := by simp only [aidx]; rw [if_pos ⟨by omega, by omega⟩]; rfl
    have st := store_one H' q (w - 1 - j) (by8 (UInt8.ofNat (n / 256 ^ j))) c (by omega)
    simp only [b74, h0, h1, h5, h10, h11, e1, w1, w2, w3, w4, ha, ho, shr_u64 n j (by omega) _ rfl, w_8, c_8, t_8, st, rwA, rwB, Nat.reduceAdd, Nat.reduceMul, Nat.reduceLeDiff, Int.reduceEq, Int.reduceLT, Int.reduceLE, Int.reduceAdd, Int.reduceSub, Int.reduceMul, ↓reduceIte, Nat.reduceEqDiff, reduceCtorEq, ↓cnd_true, ↓cnd_false]
    rw [outs_some]
    refine .inl ⟨rfl, j + 1, by omega, by omega, by simp [Env.set, h0], by simp [Env.set, h1], by simp [Env.set, h5], by simp [Env.set, h10], by simp [Env.set], c.set (w - 1 - j) (by8 (UInt8.ofNat (n / 256 ^ j))), by simp [AHeap.set], by simp [hc], ?_⟩
    intro k hk'
    by_cases h : k = j
    · subst h
      rw [List.getElem?_set_self (by omega)]
    · rw [List.getElem?_set_ne (by omega)]
      exact hk k (by omega)
  · have e1 : decide ((j : Int) < (w : Int)) = false := by simp; omega
    have : j = w := by omega
    subst this
    simp only [b74, h10, h11, e1, rwA, rwB, Nat.reduceAdd, Nat.reduceMul, Nat.reduceLeDiff, Int.reduceEq, Int.reduceLT, Int.reduceLE, Int.reduceAdd, Int.reduceSub, Int.reduceMul, ↓reduceIte, Nat.reduceEqDiff, reduceCtorEq, ↓cnd_true, ↓cnd_false]
    rw [outs_some]
    refine .inr ⟨by simp, rfl, by simp [Env.set, h0], by simp [Env.set, h5], c, ho, hc, ?_⟩
    apply List.ext_getElem?
    intro i
    by_cases hi : i < j
    · rw [List.getElem?_take, if_pos hi, List.getElem?_map, encl_get _ _ _ hi]
      have := hk (j - 1 - i) (by omega)
      rw [show j - 1 - (j - 1 - i) = i by omega] at this
      exact this
    · rw [List.getElem?_eq_none (by rw [List.length_take]; omega), List.getElem?_eq_none (by rw [List.length_map, encl_len]; omega)]

theorem U74 (w : Int) (n : Nat) (H : AHeap) : AC A 74 [.int .i64 w, .int .u64 (n : Int)] H = some (.str (num w n), H) := by
  refine one_val (x := DnFns.c74) rfl rfl rfl rfl rfl ?_ H
  cases h1 : (decide (1 ≤ w) && decide (w ≤ 8))
  · have : num w n = [] := by
      simp only [num]
      rw [if_neg]
      simpa using h1
    simp only [c74, U90, h1, this, rwA, rwB, Nat.reduceAdd, Nat.reduceMul, Nat.reduceLeDiff, Int.reduceEq, Int.reduceLT, Int.reduceLE, Int.reduceAdd, Int.reduceSub, Int.reduceMul, ↓reduceIte, Nat.reduceEqDiff, reduceCtorEq, ↓cnd_true, ↓cnd_false]
  · have hw : 1 ≤ w ∧ w ≤ 8 := by simpa using h1
    obtain ⟨k, rfl⟩ : ∃ k : Nat, w = (k : Int) := ⟨w.toNat, by omega⟩
    have e : num (k : Int) n = encl k n := by
      simp only [num]
      rw [if_pos hw, Int.toNat_natCast]
    simp only [c74, U90, h1, rwA, rwB, Nat.reduceAdd, Nat.reduceMul, Nat.reduceLeDiff, Int.reduceEq, Int.reduceLT, Int.reduceLE, Int.reduceAdd, Int.reduceSub, Int.reduceMul, ↓reduceIte, Nat.reduceEqDiff, reduceCtorEq, ↓cnd_true, ↓cnd_false]
    repeat (first | refine outs_seq ?_ | refine outs_block ?_ | refine outs_step ?_ | refine outs_stepD ?_ | refine rets_end ?_ | refine ans_end ?_)
    refine (loop74 (w := k) (n := n) (q := 0) (c := [by8 0, by8 0, by8 0, by8 0, by8 0, by8 0, by8 0, by8 0]) (by omega) ?_ ?_ ?_ ?_ ?_ ?_ rfl).mono ?_
    · simp [Env.set, ainit]
    · simp [Env.set, ainit]
    · simp [Env.set]
    · simp [Env.set, ainit]
    · simp [Env.set]
    · simp only [new_obj, noH_next, if_true]; rfl
    · rintro e' env H ⟨rfl, h0, h5, c, ho, hc, ht⟩
      have sl : aslcArr 8 1 (.ptr 0 0) none (some (.int .i64 (k : Int))) none = some (.slice 0 0 k 8 none) := by
        simp only [aslcArr, abounds, abound, Option.bind_some, Option.isSome_none, Bool.false_eq_true, if_false]
        rw [if_pos ⟨by omega, by omega⟩]
        simp
      have hb := bToS_sl (H := H) (v := .slice 0 0 k 8 none) (s := encl k n) (.inr ⟨0, 0, k, 8, none, rfl, by simp [encl_len], .inr ⟨c, true, ho, by omega, by rw [List.drop_zero, Nat.mul_one, ht]⟩⟩)
      simp only [outs_some, h0, h5, sl, hb, e, rwA, rwB, Nat.reduceAdd, Nat.reduceMul, Nat.reduceLeDiff, Int.reduceEq, Int.reduceLT, Int.reduceLE, Int.reduceAdd, Int.reduceSub, Int.reduceMul, ↓reduceIte, Nat.reduceEqDiff, reduceCtorEq, ↓cnd_true, ↓cnd_false]

theorem wrap_u64 (n : Nat) (h : n < 18446744073709551616) : IntKind.u64.wrap (n : Int) = n := by
  simp [IntKind.wrap, IntKind.signed, IntKind.bits]
  omega
theorem not_u64 (n : Nat) (h : n < 18446744073709551616) : aun .xor (.int .u64 (n : Int)) = some (.int .u64 ((18446744073709551615 - n : Nat) : Int)) := by
  have e0 : aun .xor (.int .u64 (n : Int)) = some (.int .u64 (IntKind.u64.wrap ((BitVec.ofInt 64 18446744073709551615 ^^^ BitVec.ofInt 64 (n : Int)).toNat : Int))) := rfl
  have e1 : BitVec.ofInt 64 (n : Int) = BitVec.ofNat 64 n := by simp
  have e2 : (BitVec.ofInt 64 18446744073709551615 ^^^ BitVec.ofNat 64 n).toNat = 18446744073709551615 - n := by
    rw [show BitVec.ofInt 64 18446744073709551615 = BitVec.allOnes 64 from rfl, BitVec.allOnes_xor, BitVec.toNat_not, BitVec.toNat_ofNat]
    omega
  rw [e0, e1, e2, wrap_u64 _ (by omega)]

/-! ### A reader -/
def raw (s : List UInt8) (e n : Int) : List UInt8 × Int × List UInt8 :=
  if e ≠ 0 then (s, e, []) else if n < 0 then ([], 18, []) else if (s.length : Int) < n then ([], 20, []) else (s.drop n.toNat, 0, s.take n.toNat)

/-- A reader in memory. -/
def Rd (H : AHeap) (p : Nat) (s : List UInt8) (e : Int) : Prop := H.obj p = some (.cells [.str s, .int .i64 e] true)
def rd (s : List UInt8) (e : Int) : AObj := .cells [.str s, .int .i64 e] true

theorem U77 (s : List UInt8) (H : AHeap) : AC A 77 [.str s] H = some (.ptr H.next 0, H.new (rd s 0)) := by
  rw [s_fn (A := A) (f := 77) (x := DnFns.c77) rfl rfl rfl]
  simp only [c77, rwA, rwB, Nat.reduceAdd, Nat.reduceMul, Nat.reduceLeDiff, Int.reduceEq, Int.reduceLT, Int.reduceLE, Int.reduceAdd, Int.reduceSub, Int.reduceMul, ↓reduceIte, Nat.reduceEqDiff, reduceCtorEq, ↓cnd_true, ↓cnd_false]
  rfl

theorem U92 {H : AHeap} {p : Nat} {s : List UInt8} {e : Int} (h : Rd H p s e) (n : Int) : AC A 92 [.ptr p 0, .int .i64 n] H = some (.str [], H.set p (rd [] n)) := by
  unfold Rd at h
  rw [s_fn (A := A) (f := 92) (x := DnFns.c92) rfl rfl rfl]
  simp only [c92, h, AHeap.set_set, rwA, rwB, Nat.reduceAdd, Nat.reduceMul, Nat.reduceLeDiff, Int.reduceEq, Int.reduceLT, Int.reduceLE, Int.reduceAdd, Int.reduceSub, Int.reduceMul, ↓reduceIte, Nat.reduceEqDiff, reduceCtorEq, ↓cnd_true, ↓cnd_false]
  rfl

theorem slc_lo (s : List UInt8) (n : Int) (h0 : 0 ≤ n) (h1 : n ≤ s.length) : abounds s.length s.length (some (.int .i64 n)) none none = some (n.toNat, s.length, s.length) := by
  simp only [abounds, abound, Option.bind_some, Option.isSome_none, Bool.false_eq_true, if_false]
  rw [if_pos ⟨h0, by omega⟩]
  simp
theorem slc_hi (s : List UInt8) (n : Int) (h0 : 0 ≤ n) (h1 : n ≤ s.length) : abounds s.length s.length none (some (.int .i64 n)) none = some (0, n.toNat, s.length) := by
  simp only [abounds, abound, Option.bind_some, Option.isSome_none, Bool.false_eq_true, if_false]
  rw [if_pos ⟨h0, by omega⟩]
  simp

theorem U79 {H : AHeap} {p : Nat} {s : List UInt8} {e : Int} (h : Rd H p s e) (n : Int) : AC A 79 [.ptr p 0, .int .i64 n] H = some (.str (raw s e n).2.2, H.set p (rd (raw s e n).1 (raw s e n).2.1)) := by
  have h' := h
  unfold Rd at h'
  rw [s_fn (A := A) (f := 79) (x := DnFns.c79) rfl rfl rfl]
  unfold raw
  cases c1 : decide (e = 0)
  · have hne : e ≠ 0 := by simpa using c1
    rw [if_pos hne]
    have hs : H.set p (rd s e) = H := AHeap.set_same h'
    simp only [c79, h', c1, hs, rwA, rwB, Nat.reduceAdd, Nat.reduceMul, Nat.reduceLeDiff, Int.reduceEq, Int.reduceLT, Int.reduceLE, Int.reduceAdd, Int.reduceSub, Int.reduceMul, ↓reduceIte, Nat.reduceEqDiff, reduceCtorEq, ↓cnd_true, ↓cnd_false]
  · have he : e = 0 := by simpa using c1
    subst he
    rw [if_neg (by simp)]
    cases c2 : decide (n < 0)
    · have hn : ¬ n < 0 := by simpa using c2
      rw [if_neg hn]
      cases c3 : decide ((s.length : Int) < n)
      · have hl : ¬ (s.length : Int) < n := by simpa using c3
        rw [if_neg hl]
        simp only [c79, h', c2, c3, slc_lo s n (by omega) (by omega), slc_hi s n (by omega) (by omega), List.take_length, rwA, rwB, Nat.reduceAdd, Nat.reduceMul, Nat.reduceLeDiff, Int.reduceEq, Int.reduceLT, Int.reduceLE, Int.reduceAdd, Int.reduceSub, Int.reduceMul, ↓reduceIte, Nat.reduceEqDiff, reduceCtorEq, ↓cnd_true, ↓cnd_false]
        rfl
      · have hl : (s.length : Int) < n := by simpa using c3
        rw [if_pos hl]
        simp only [c79, h', c2, c3, U92 h, rwA, rwB, Nat.reduceAdd, Nat.reduceMul, Nat.reduceLeDiff, Int.reduceEq, Int.reduceLT, Int.reduceLE, Int.reduceAdd, Int.reduceSub, Int.reduceMul, ↓reduceIte, Nat.reduceEqDiff, reduceCtorEq, ↓cnd_true, ↓cnd_false]
    · have hn : n < 0 := by simpa using c2
      rw [if_pos hn]
      simp only [c79, h', c2, U92 h, rwA, rwB, Nat.reduceAdd, Nat.reduceMul, Nat.reduceLeDiff, Int.reduceEq, Int.reduceLT, Int.reduceLE, Int.reduceAdd, Int.reduceSub, Int.reduceMul, ↓reduceIte, Nat.reduceEqDiff, reduceCtorEq, ↓cnd_true, ↓cnd_false]

def ending (s : List UInt8) (e : Int) : Int := if e ≠ 0 then e else if 0 < s.length then 19 else 0
/-! ### A reader that is nil -/
theorem U79n (n : Int) (H : AHeap) : AC A 79 [.nilp, .int .i64 n] H = some (.str [], H) := by
  rw [s_fn (A := A) (f := 79) (x := DnFns.c79) rfl rfl rfl]
  simp only [c79, rwA, rwB, Nat.reduceAdd, Nat.reduceMul, Nat.reduceLeDiff, Int.reduceEq, Int.reduceLT, Int.reduceLE, Int.reduceAdd, Int.reduceSub, Int.reduceMul, ↓reduceIte, Nat.reduceEqDiff, reduceCtorEq, ↓cnd_true, ↓cnd_false]
theorem U78n (n : Int) (H : AHeap) : AC A 78 [.nilp, .int .i64 n] H = some (.int .u64 0, H.new (.cells [] true)) := by
  rw [s_fn (A := A) (f := 78) (x := DnFns.c78) rfl rfl rfl]
  have d : decide ((0 : Int) < ((0 : Nat) : Int)) = false := rfl
  cases c1 : (decide (1 ≤ n) && decide (n ≤ 8)) <;> simp only [c78, U90, c1, U79n, s_loop, d, List.map_nil, rwA, rwB, Nat.reduceAdd, Nat.reduceMul, Nat.reduceLeDiff, Int.reduceEq, Int.reduceLT, Int.reduceLE, Int.reduceAdd, Int.reduceSub, Int.reduceMul, ↓reduceIte, Nat.reduceEqDiff, reduceCtorEq, ↓cnd_true, ↓cnd_false]
end Go.Proofs.Ytilhjcnkaelheaa.Sd
