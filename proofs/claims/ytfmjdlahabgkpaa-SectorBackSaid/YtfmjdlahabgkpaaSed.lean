/- The sectors: opening bytes. -/
import Derived.Test.YtfmjdlahabgkpaaSeb
set_option maxRecDepth 100000
set_option linter.unusedSimpArgs false
set_option linter.unusedVariables false
set_option maxHeartbeats 4000000
namespace Go.Proofs.Ytfmjdlahabgkpaa.Sd
open Go Go.Proofs.Ytfmjdlahabgkpaa.Am SdFns Go.RowKit

def st (x : List UInt8 × Int) (w : Nat) : List UInt8 × Int := ((raw x.1 x.2 (w : Int)).1, (raw x.1 x.2 (w : Int)).2.1)
def va (x : List UInt8 × Int) (w : Nat) : Nat := be (raw x.1 x.2 (w : Int)).2.2
def steps : List Nat → List UInt8 × Int → List UInt8 × Int
  | [], x => x
  | w :: l, x => steps l (st x w)
theorem st_err (s : List UInt8) (e : Int) (h : e ≠ 0) (w : Nat) : st (s, e) w = (s, e) := by
  unfold st; simp only; rw [raw_err _ _ _ h]
theorem st_short (s : List UInt8) (w : Nat) (h : s.length < w) : st (s, 0) w = ([], 20) := by
  unfold st raw
  simp only
  rw [if_neg (by simp), if_neg (by omega), if_pos (by omega)]
theorem st_ok (s : List UInt8) (w : Nat) (h : w ≤ s.length) : st (s, 0) w = (s.drop w, 0) := by
  unfold st raw
  simp only
  rw [if_neg (by simp), if_neg (by omega), if_neg (by omega), Int.toNat_natCast]
theorem va_ok (s : List UInt8) (w : Nat) (h : w ≤ s.length) : va (s, 0) w = be (s.take w) := by
  unfold va raw
  simp only
  rw [if_neg (by simp), if_neg (by omega), if_neg (by omega), Int.toNat_natCast]
theorem steps_err : ∀ (l : List Nat) (s : List UInt8) (e : Int), e ≠ 0 → steps l (s, e) = (s, e)
  | [], s, e, _ => rfl
  | w :: l, s, e, h => by rw [steps, st_err s e h, steps_err l s e h]
theorem steps_end : ∀ (l : List Nat) (s : List UInt8), ending (steps l (s, 0)).1 (steps l (s, 0)).2 = 0 ↔ s.length = l.sum
  | [], s => by
    show ending s 0 = 0 ↔ s.length = 0
    unfold ending
    rw [if_neg (by simp)]
    by_cases h : 0 < s.length
    · rw [if_pos h]; simp; intro h0; rw [h0] at h; simp at h
    · rw [if_neg h]; simp; exact List.eq_nil_of_length_eq_zero (by omega)
  | w :: l, s => by
    rw [steps, List.sum_cons]
    by_cases h : w ≤ s.length
    · rw [st_ok s w h, steps_end l (s.drop w), List.length_drop]; omega
    · rw [st_short s w (by omega), steps_err l _ _ (by decide)]
      constructor
      · intro hh; exact absurd hh (by decide)
      · intro hh; omega

/-! ### Memory in which one object alone is written -/
def Kp (p : Nat) (H K : AHeap) : Prop := H.next ≤ K.next ∧ ∀ i, i ≠ p → i < H.next → K.obj i = H.obj i
theorem Kp.refl (p : Nat) (H : AHeap) : Kp p H H := ⟨Nat.le_refl _, fun _ _ _ => rfl⟩
theorem Kp.trans {p : Nat} {a b c : AHeap} (h : Kp p a b) (k : Kp p b c) : Kp p a c := ⟨Nat.le_trans h.1 k.1, fun i hp hi => (k.2 i hp (Nat.lt_of_lt_of_le hi h.1)).trans (h.2 i hp hi)⟩
theorem Kp.set (p : Nat) (H : AHeap) (o : AObj) : Kp p H (H.set p o) := ⟨Nat.le_refl _, fun i hp _ => by simp only [set_obj]; rw [if_neg hp]⟩
theorem Kp.new (p : Nat) (H : AHeap) (o : AObj) : Kp p H (H.new o) := ⟨Nat.le_succ _, fun i _ hi => by simp only [new_obj]; rw [if_neg (by omega)]⟩

/-- A reader whose state is this. -/
def Rs (H : AHeap) (p : Nat) (x : List UInt8 × Int) : Prop := Rd H p x.1 x.2 ∧ p < H.next
theorem readS {H : AHeap} {p : Nat} {x : List UInt8 × Int} (h : Rs H p x) (w : Nat) (hw : 1 ≤ w ∧ w ≤ 8) :
    ∃ K, AC A 51 [.ptr p 0, .int .i64 (w : Int)] H = some (.int .u64 (va x w : Int), K) ∧ Rs K p (st x w) ∧ Kp p H K := by
  have u := U51 h.1 (w : Int)
  rw [show wid (w : Int) = (w : Int) by unfold wid; rw [if_pos (by omega)]] at u
  refine ⟨_, u, ⟨?_, by simp only [new_next, set_next]; have := h.2; omega⟩, (Kp.set p H _).trans (Kp.new p _ _)⟩
  unfold Rd st
  simp only [new_obj, set_next, set_obj]
  rw [if_neg (by have := h.2; omega), if_pos trivial]
  rfl

theorem st_at {s : List UInt8} {k w : Nat} (h : k + w ≤ s.length) : st (s.drop k, 0) w = (s.drop (k + w), 0) := by
  rw [st_ok _ _ (by rw [List.length_drop]; omega), List.drop_drop]
theorem va_at {s : List UInt8} {k w : Nat} (h : k + w ≤ s.length) : va (s.drop k, 0) w = wd s k w := by
  rw [va_ok _ _ (by rw [List.length_drop]; omega)]
  unfold wd
  rw [if_neg (by omega)]
theorem va_at0 {s : List UInt8} {w : Nat} (h : w ≤ s.length) : va (s, 0) w = wd s 0 w := va_at (s := s) (k := 0) (by omega)
theorem st_at0 {s : List UInt8} {w : Nat} (h : w ≤ s.length) : st (s, 0) w = (s.drop w, 0) := st_ok s w h

/-- The states of the reader, and the sector read. -/
def f1 (b : List UInt8) : List UInt8 × Int := st (b, 0) 1
def f2 (b : List UInt8) : List UInt8 × Int := st (f1 b) 1
def f3 (b : List UInt8) : List UInt8 × Int := st (f2 b) 2
def f4 (b : List UInt8) : List UInt8 × Int := st (f3 b) 2
def f5 (b : List UInt8) : List UInt8 × Int := st (f4 b) 2
def f6 (b : List UInt8) : List UInt8 × Int := st (f5 b) 8
def f7 (b : List UInt8) : List UInt8 × Int := st (f6 b) 8
def f8 (b : List UInt8) : List UInt8 × Int := st (f7 b) 8
def fr (b : List UInt8) : Sec := ⟨wi (va (b, 0) 1), va (f5 b) 8, va (f6 b) 8, wi (va (f2 b) 2), wi (va (f3 b) 2), (raw (f8 b).1 (f8 b).2 480).2.2⟩

theorem fr_same {b : List UInt8} (h : b.length = 512) : fr b = had b := by
  have e1 : f1 b = (b.drop 1, 0) := by unfold f1; rw [st_at0 (by omega)]
  have e2 : f2 b = (b.drop 2, 0) := by unfold f2; rw [e1, st_at (by omega)]
  have e3 : f3 b = (b.drop 4, 0) := by unfold f3; rw [e2, st_at (by omega)]
  have e4 : f4 b = (b.drop 6, 0) := by unfold f4; rw [e3, st_at (by omega)]
  have e5 : f5 b = (b.drop 8, 0) := by unfold f5; rw [e4, st_at (by omega)]
  have e6 : f6 b = (b.drop 16, 0) := by unfold f6; rw [e5, st_at (by omega)]
  have e7 : f7 b = (b.drop 24, 0) := by unfold f7; rw [e6, st_at (by omega)]
  have e8 : f8 b = (b.drop 32, 0) := by unfold f8; rw [e7, st_at (by omega)]
  unfold fr had
  rw [e2, e3, e5, e6, e8, va_at0 (by omega), va_at (by omega), va_at (by omega), va_at (by omega), va_at (by omega)]
  have : (raw (b.drop 32) 0 480).2.2 = b.drop 32 := by
    unfold raw
    rw [if_neg (by simp), if_neg (by omega), if_neg (by rw [List.length_drop]; omega)]
    exact List.take_of_length_le (by rw [List.length_drop]; omega)
  rw [this]

/-- What is read has the same bytes just if the sector that stands there does. -/
theorem fr_fits (b : List UInt8) : (fits b = false ∧ ((fr b).ok = false ∨ decide ((fr b).bytes = b) = false)) ∨ (fits b = true ∧ fr b = had b ∧ (fr b).ok = true ∧ (fr b).bytes = b) := by
  by_cases h : b.length = 512
  · have e := fr_same h
    cases hf : fits b
    · refine .inl ⟨rfl, ?_⟩
      rw [e]
      unfold fits at hf
      rw [h] at hf
      simpa [Decidable.or_iff_not_imp_left] using hf
    · refine .inr ⟨rfl, e, ?_⟩
      rw [e]
      exact fits_is hf
  · refine .inl ⟨?_, ?_⟩
    · unfold fits
      rw [decide_eq_false h]
      rfl
    · cases hk : (fr b).ok
      · exact .inl rfl
      · refine .inr (decide_eq_false fun hb => h ?_)
        rw [← hb, bytes_len, (ok_is hk).2.2.2]

theorem fr_seal (b : List UInt8) : ((fr b).ok = false ∧ (fr b).sealb = [] ∧ (fr b).no = 18) ∨ ((fr b).ok = true ∧ (fr b).sealb = (fr b).bytes ∧ (fr b).no = 0) := by
  cases h : (fr b).ok
  · exact .inl ⟨rfl, by unfold Sec.sealb; rw [h]; rfl, by unfold Sec.no; rw [h]; rfl⟩
  · exact .inr ⟨rfl, by unfold Sec.sealb; rw [h]; rfl, by unfold Sec.no; rw [h]; rfl⟩

def z6 : List AVal := [.int .i64 0, .int .u64 0, .int .u64 0, .int .i64 0, .int .i64 0, .str []]

theorem U14 (b : List UInt8) (H : AHeap) : AC A 14 [.str b] H = some (.tuple [.agg (opened b).cells, .int .i64 (unfit b)], H) := by
  refine one_val (x := SdFns.c14) rfl rfl rfl rfl rfl ?_ H
  obtain ⟨H0, eH0⟩ : ∃ K, (noH.new (.cells [.int .i64 0, .int .u64 0, .int .u64 0, .int .i64 0, .int .i64 0, .str []] true)).new (rd b 0) = K := ⟨_, rfl⟩
  have n0 : H0.next = 2 := by rw [← eH0]; rfl
  have r0 : Rs H0 1 (b, 0) := ⟨by unfold Rd; rw [← eH0]; simp [AHeap.new, noH, rd], by omega⟩
  have o0 : H0.obj 0 = some (.cells [.int .i64 0, .int .u64 0, .int .u64 0, .int .i64 0, .int .i64 0, .str []] true) := by rw [← eH0]; simp [AHeap.new, noH]
  obtain ⟨K1, u1, r1, x1⟩ := readS r0 1 (by omega)
  have g1 := x1.1
  obtain ⟨k, ek⟩ : ∃ x, wi (va (b, 0) 1) = x := ⟨_, rfl⟩
  obtain ⟨K2, eK2⟩ : ∃ K, (K1.new (.cells [.int .i64 0, .int .u64 0, .int .u64 0, .int .i64 0, .int .i64 0, .str []] true)).set K1.next (.cells [.int .i64 k, .int .u64 0, .int .u64 0, .int .i64 0, .int .i64 0, .str []] true) = K := ⟨_, rfl⟩
  have n2 : K2.next = K1.next + 1 := by rw [← eK2]; rfl
  have k2 : ∀ i, i < K1.next → K2.obj i = K1.obj i := fun i hi => by rw [← eK2]; simp only [set_obj, new_obj]; rw [if_neg (by omega), if_neg (by omega)]
  have r2 : Rs K2 1 (f1 b) := ⟨by unfold Rd; rw [k2 1 (by omega)]; exact r1.1, by omega⟩
  have q2 : K2.obj K1.next = some (.cells [.int .i64 k, .int .u64 0, .int .u64 0, .int .i64 0, .int .i64 0, .str []] true) := by rw [← eK2]; simp [AHeap.set]
  obtain ⟨K3, u3, r3, x3⟩ := readS r2 1 (by omega)
  obtain ⟨K4, u4, r4, x4⟩ := readS r3 2 (by omega)
  obtain ⟨K5, u5, r5, x5⟩ := readS r4 2 (by omega)
  have y5 := x3.trans (x4.trans x5)
  have g5 := y5.1
  have q5 : K5.obj K1.next = some (.cells [.int .i64 k, .int .u64 0, .int .u64 0, .int .i64 0, .int .i64 0, .str []] true) := by rw [y5.2 _ (by omega) (by omega)]; exact q2
  obtain ⟨a, ea⟩ : ∃ x, wi (va (f2 b) 2) = x := ⟨_, rfl⟩
  obtain ⟨m, em⟩ : ∃ x, wi (va (f3 b) 2) = x := ⟨_, rfl⟩
  obtain ⟨K6, eK6⟩ : ∃ K, K5.set K1.next (.cells [.int .i64 k, .int .u64 0, .int .u64 0, .int .i64 a, .int .i64 0, .str []] true) = K := ⟨_, rfl⟩
  have q6 : K6.obj K1.next = some (.cells [.int .i64 k, .int .u64 0, .int .u64 0, .int .i64 a, .int .i64 0, .str []] true) := by rw [← eK6]; simp [AHeap.set]
  obtain ⟨K7, eK7⟩ : ∃ K, K6.set K1.next (.cells [.int .i64 k, .int .u64 0, .int .u64 0, .int .i64 a, .int .i64 m, .str []] true) = K := ⟨_, rfl⟩
  have q7 : K7.obj K1.next = some (.cells [.int .i64 k, .int .u64 0, .int .u64 0, .int .i64 a, .int .i64 m, .str []] true) := by rw [← eK7]; simp [AHeap.set]
  have k7 : ∀ i, i ≠ K1.next → K7.obj i = K5.obj i := fun i hi => by rw [← eK7, ← eK6]; simp only [set_obj]; rw [if_neg hi, if_neg hi]
  have n7 : K7.next = K5.next := by rw [← eK7, ← eK6]; rfl
  have r7 : Rs K7 1 (f4 b) := ⟨by unfold Rd; rw [k7 1 (by omega)]; exact r5.1, by omega⟩
  obtain ⟨K8, u8, r8, x8⟩ := readS r7 2 (by omega)
  obtain ⟨K9, u9, r9, x9⟩ := readS r8 8 (by omega)
  obtain ⟨K10, u10, r10, x10⟩ := readS r9 8 (by omega)
  have y10 := x8.trans (x9.trans x10)
  have g10 := y10.1
  have q10 : K10.obj K1.next = some (.cells [.int .i64 k, .int .u64 0, .int .u64 0, .int .i64 a, .int .i64 m, .str []] true) := by rw [y10.2 _ (by omega) (by omega)]; exact q7
  obtain ⟨e, ee⟩ : ∃ x, va (f5 b) 8 = x := ⟨_, rfl⟩
  obtain ⟨n, en⟩ : ∃ x, va (f6 b) 8 = x := ⟨_, rfl⟩
  obtain ⟨K11, eK11⟩ : ∃ K, K10.set K1.next (.cells [.int .i64 k, .int .u64 (e : Int), .int .u64 0, .int .i64 a, .int .i64 m, .str []] true) = K := ⟨_, rfl⟩
  have q11 : K11.obj K1.next = some (.cells [.int .i64 k, .int .u64 (e : Int), .int .u64 0, .int .i64 a, .int .i64 m, .str []] true) := by rw [← eK11]; simp [AHeap.set]
  obtain ⟨K12, eK12⟩ : ∃ K, K11.set K1.next (.cells [.int .i64 k, .int .u64 (e : Int), .int .u64 (n : Int), .int .i64 a, .int .i64 m, .str []] true) = K := ⟨_, rfl⟩
  have q12 : K12.obj K1.next = some (.cells [.int .i64 k, .int .u64 (e : Int), .int .u64 (n : Int), .int .i64 a, .int .i64 m, .str []] true) := by rw [← eK12]; simp [AHeap.set]
  have k12 : ∀ i, i ≠ K1.next → K12.obj i = K10.obj i := fun i hi => by rw [← eK12, ← eK11]; simp only [set_obj]; rw [if_neg hi, if_neg hi]
  have n12 : K12.next = K10.next := by rw [← eK12, ← eK11]; rfl
  have r12 : Rs K12 1 (f7 b) := ⟨by unfold Rd; rw [k12 1 (by omega)]; exact r10.1, by omega⟩
  obtain ⟨K13, u13, r13, x13⟩ := readS r12 8 (by omega)
  have g13 := x13.1
  have u14 := U52 r13.1 480
  obtain ⟨K14, eK14⟩ : ∃ K, K13.set 1 (rd (raw (f8 b).1 (f8 b).2 480).1 (raw (f8 b).1 (f8 b).2 480).2.1) = K := ⟨_, rfl⟩
  have q14 : K14.obj K1.next = some (.cells [.int .i64 k, .int .u64 (e : Int), .int .u64 (n : Int), .int .i64 a, .int .i64 m, .str []] true) := by
    rw [← eK14]; simp only [set_obj]; rw [if_neg (by omega), x13.2 _ (by omega) (by omega)]; exact q12
  obtain ⟨p, ep⟩ : ∃ x, (raw (f8 b).1 (f8 b).2 480).2.2 = x := ⟨_, rfl⟩
  have hS : st (f7 b) 8 = f8 b := rfl
  rw [hS, eK14, ep] at u14
  obtain ⟨K15, eK15⟩ : ∃ K, K14.set K1.next (.cells [.int .i64 k, .int .u64 (e : Int), .int .u64 (n : Int), .int .i64 a, .int .i64 m, .str p] true) = K := ⟨_, rfl⟩
  have q15 : K15.obj K1.next = some (.cells [.int .i64 k, .int .u64 (e : Int), .int .u64 (n : Int), .int .i64 a, .int .i64 m, .str p] true) := by rw [← eK15]; simp [AHeap.set]
  have o15 : K15.obj 0 = some (.cells [.int .i64 0, .int .u64 0, .int .u64 0, .int .i64 0, .int .i64 0, .str []] true) := by
    rw [← eK15, ← eK14]; simp only [set_obj]; rw [if_neg (by omega), if_neg (by omega), x13.2 0 (by omega) (by omega), k12 0 (by omega), y10.2 0 (by omega) (by omega), k7 0 (by omega), y5.2 0 (by omega) (by omega), k2 0 (by omega), x1.2 0 (by omega) (by omega)]; exact o0
  have w1 : ((1 : Nat) : Int) = 1 := rfl
  have w2 : ((2 : Nat) : Int) = 2 := rfl
  have w8 : ((8 : Nat) : Int) = 8 := rfl
  have fk : IntKind.i64.wrap (va (b, 0) 1 : Int) = k := ek
  have fa : IntKind.i64.wrap (va (f2 b) 2 : Int) = a := ea
  have fm : IntKind.i64.wrap (va (f3 b) 2 : Int) = m := em
  have s2 : st (f1 b) 1 = f2 b := rfl
  have s3 : st (f2 b) 2 = f3 b := rfl
  have s5 : st (f4 b) 2 = f5 b := rfl
  have s6 : st (f5 b) 8 = f6 b := rfl
  rw [w1] at u1 u3
  rw [w2] at u4 u5 u8
  rw [w8] at u9 u10 u13
  rw [s2] at u4 u5
  rw [s3] at u5
  rw [s5, ee] at u9
  rw [s5, s6, en] at u10
  have hfr : fr b = ⟨k, e, n, a, m, p⟩ := by unfold fr; rw [ek, ea, em, ee, en, ep]
  have hd := fr_seal b
  have hf := fr_fits b
  have u11 := U11 k e n a m p
  rw [← hfr] at u11
  rcases hf with ⟨hf, h⟩ | ⟨hf, h1, h2, h3⟩
  · have z1 : unfit b = 19 := by unfold unfit; rw [hf]; rfl
    have z2 : (opened b).cells = [.int .i64 0, .int .u64 0, .int .u64 0, .int .i64 0, .int .i64 0, .str []] := by unfold opened; rw [hf]; rfl
    rw [z1, z2]
    rcases hd with ⟨d1, d2, d3⟩ | ⟨d1, d2, d3⟩
    · rw [d2, d3] at u11
      simp only [c14, U50, eH0, u1, fk, eK2, u3, u4, fa, u5, fm, q5, eK6, q6, eK7, u8, u9, u10, q10, eK11, q11, eK12, u13, u14, q14, eK15, q15, u11, o15, rwA, rwB, Nat.reduceAdd, Nat.reduceMul, Nat.reduceLeDiff, Int.reduceEq, Int.reduceLT, Int.reduceLE, Int.reduceAdd, Int.reduceSub, Int.reduceMul, ↓reduceIte, Nat.reduceEqDiff, reduceCtorEq, ↓cnd_true, ↓cnd_false]
    · rcases h with h | h
      · rw [h] at d1; cases d1
      · rw [d2, d3] at u11
        generalize (fr b).bytes = B at u11 h
        simp only [c14, U50, eH0, u1, fk, eK2, u3, u4, fa, u5, fm, q5, eK6, q6, eK7, u8, u9, u10, q10, eK11, q11, eK12, u13, u14, q14, eK15, q15, u11, h, o15, rwA, rwB, Nat.reduceAdd, Nat.reduceMul, Nat.reduceLeDiff, Int.reduceEq, Int.reduceLT, Int.reduceLE, Int.reduceAdd, Int.reduceSub, Int.reduceMul, ↓reduceIte, Nat.reduceEqDiff, reduceCtorEq, ↓cnd_true, ↓cnd_false]
  · have z1 : unfit b = 0 := by unfold unfit; rw [hf]; rfl
    have z2 : (opened b).cells = [.int .i64 k, .int .u64 (e : Int), .int .u64 (n : Int), .int .i64 a, .int .i64 m, .str p] := by unfold opened; rw [hf, ← h1, hfr]; rfl
    rw [z1, z2]
    rcases hd with ⟨d1, d2, d3⟩ | ⟨d1, d2, d3⟩
    · rw [h2] at d1; cases d1
    · rw [d2, d3, h3] at u11
      have db : decide (b = b) = true := by simp
      simp only [c14, U50, eH0, u1, fk, eK2, u3, u4, fa, u5, fm, q5, eK6, q6, eK7, u8, u9, u10, q10, eK11, q11, eK12, u13, u14, q14, eK15, q15, u11, db, o15, rwA, rwB, Nat.reduceAdd, Nat.reduceMul, Nat.reduceLeDiff, Int.reduceEq, Int.reduceLT, Int.reduceLE, Int.reduceAdd, Int.reduceSub, Int.reduceMul, ↓reduceIte, Nat.reduceEqDiff, reduceCtorEq, ↓cnd_true, ↓cnd_false]

end Go.Proofs.Ytfmjdlahabgkpaa.Sd
