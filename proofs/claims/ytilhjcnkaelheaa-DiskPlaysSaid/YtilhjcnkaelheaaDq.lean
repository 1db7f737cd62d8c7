/- DiskPlays: one act. -/
import Derived.Test.YtilhjcnkaelheaaDp
import Derived.Test.YtilhjcnkaelheaaDi
set_option maxRecDepth 100000
set_option linter.unusedSimpArgs false
set_option linter.unusedVariables false
set_option maxHeartbeats 4000000
namespace Go.Proofs.Ytilhjcnkaelheaa.Dk
open Go Go.Proofs.Ytilhjcnkaelheaa.Am DnFns Go.RowKit
open Sd (Sec noughts home homeno ofHome ofNo opened unfit pad)

/-- Both disks, what they have apart, behind a memory that stays. -/
structure Two (B H : AHeap) (p a : Nat) (g : Option Nat) (vw vs rw : AVal) (d : DS) : Prop where
  D : D H p a g vw d
  R : R H vs rw d
  sv : ∀ i, i ∈ vs.ids → i ≠ p ∧ i ≠ a ∧ i ∉ vw.ids
  sw : ∀ i, i ∈ rw.ids → i ≠ p ∧ i ≠ a ∧ i ∉ vw.ids
  base : Keeps B H
  bp : B.next ≤ p
  ba : B.next ≤ a
  bw : ∀ i, i ∈ vw.ids → B.next ≤ i

/-- What is had is what was had, or new. -/
def New (H : AHeap) (p a : Nat) (vw vs rw : AVal) (p' a' : Nat) (vw' vs' rw' : AVal) : Prop :=
  ∀ i, (i = p' ∨ i = a' ∨ i ∈ vw'.ids ∨ i ∈ vs'.ids ∨ i ∈ rw'.ids) → (i = p ∨ i = a ∨ i ∈ vw.ids ∨ i ∈ vs.ids ∨ i ∈ rw.ids) ∨ H.next ≤ i

theorem Two.step {B H K K1 K2 : AHeap} {p a : Nat} {g : Option Nat} {vw vs rw vw' vs' rw' : AVal} {d d' : DS} (T : Two B H p a g vw vs rw d) (k : Keeps H K) (k1 : Keeps K K1) (hR : Dk.R K1 vs' rw' d') (hs : ∀ j, j ∈ vs'.ids → j ∈ vs.ids ∨ K.next ≤ j) (hw : ∀ j, j ∈ rw'.ids → j ∈ rw.ids ∨ K.next ≤ j)
    {L : List Nat} (hD : Dk.D K2 p a g vw' d') (f : Fr L K1 K2) (hL : ∀ i, i ∈ L → i = p ∨ i = a ∨ i ∈ vw.ids) (hv : ∀ j, j ∈ vw'.ids → j ∈ vw.ids ∨ K1.next ≤ j) {b : Nat} (hb : H.next ≤ b ∧ b < K.next) (o : AObj) :
    Two B (K2.set b o) p a g vw' vs' rw' d' ∧ Fr (p :: a :: vw.ids) H (K2.set b o) ∧ New H p a vw vs rw p a vw' vs' rw' := by
  have x0 := k.1
  have x1 := k1.1
  have x2 := f.1
  have pn := T.D.pn
  have an := T.D.an
  have wn := T.D.ow.lt
  have sb : ∀ j, j ∈ vs'.ids → j ∉ L ∧ j ≠ b ∧ j ≠ p ∧ j ≠ a ∧ j ∉ vw'.ids := by
    intro j hj
    have hj1 := hR.si j hj
    rcases hs j hj with h | h
    · have := T.sv j h
      have hn := T.R.si j h
      refine ⟨fun hl => by rcases hL j hl with rfl | rfl | hl <;> simp_all, by omega, this.1, this.2.1, fun hx => (hv j hx).elim this.2.2 (by omega)⟩
    · refine ⟨fun hl => by rcases hL j hl with rfl | rfl | hl; omega; omega; (have := wn j hl; omega), by omega, by omega, by omega, fun hx => (hv j hx).elim (fun h => by have := wn j h; omega) (by omega)⟩
  have rb : ∀ j, j ∈ rw'.ids → j ∉ L ∧ j ≠ b ∧ j ≠ p ∧ j ≠ a ∧ j ∉ vw'.ids := by
    intro j hj
    have hj1 := hR.wi j hj
    rcases hw j hj with h | h
    · have := T.sw j h
      have hn := T.R.wi j h
      refine ⟨fun hl => by rcases hL j hl with rfl | rfl | hl <;> simp_all, by omega, this.1, this.2.1, fun hx => (hv j hx).elim this.2.2 (by omega)⟩
    · refine ⟨fun hl => by rcases hL j hl with rfl | rfl | hl; omega; omega; (have := wn j hl; omega), by omega, by omega, by omega, fun hx => (hv j hx).elim (fun h => by have := wn j h; omega) (by omega)⟩
  have kb : Fr [b] K2 (K2.set b o) := Fr.set (.inl (by simp)) (Fr.refl _ _)
  have hR2 := hR.fr f (fun i hi => (sb i hi).1) (fun i hi => (rb i hi).1)
  have bb := T.base.1
  have bp := T.bp
  have ba := T.ba
  refine ⟨?_, ?_, ?_⟩
  rotate_left
  · refine ⟨by rw [set_next]; omega, fun i hi hL' => ?_⟩
    have hnL : i ∉ L := fun hl => hL' (by simp only [List.mem_cons]; exact hL i hl)
    rw [set_obj, if_neg (by omega), f.2 i (by omega) hnL, k1.2 i (by omega), k.2 i (by omega)]
  · intro i hi
    rcases hi with h | h | h | h | h
    · exact .inl (.inl h)
    · exact .inl (.inr (.inl h))
    · exact (hv i h).elim (fun h => .inl (.inr (.inr (.inl h)))) (fun h => .inr (by omega))
    · exact (hs i h).elim (fun h => .inl (.inr (.inr (.inr (.inl h))))) (fun h => .inr (by omega))
    · exact (hw i h).elim (fun h => .inl (.inr (.inr (.inr (.inr h))))) (fun h => .inr (by omega))
  refine ⟨hD.fr kb (by simp; omega) (by simp; omega) (fun i hi => by simp; exact fun h => by rcases hv i hi with h' | h' <;> (try have := wn i h') <;> omega), hR2.fr kb (fun i hi => by simp [(sb i hi).2.1]) (fun i hi => by simp [(rb i hi).2.1]), fun i hi => (sb i hi).2.2, fun i hi => (rb i hi).2.2, ⟨by rw [set_next]; omega, fun i hi => ?_⟩, T.bp, T.ba, fun i hi => (hv i hi).elim (T.bw i) (by omega)⟩
  have hnL : i ∉ L := fun hl => by rcases hL i hl with rfl | rfl | hl; omega; omega; (have := T.bw i hl; omega)
  rw [set_obj, if_neg (by omega), f.2 i (by omega) hnL, k1.2 i (by omega), k.2 i (by omega), T.base.2 i hi]

def txt (x : Act) : List UInt8 := if x.short then (tx x.byte).drop 1 else tx x.byte
def act (d : DS) (x : Act) : DS :=
  if x.kind = 0 then (d.write x.n (txt x)).1 else if x.kind = 1 then d.flush.1 else if x.kind = 2 then { d with arm := low x.n } else if x.kind = 3 then (d.up x.keep).1 else d

theorem act_w (d : DS) (x : Act) : (act d x).w.length ≤ d.w.length + 1 := by
  unfold act
  split
  · unfold DS.write
    split
    · split
      · simp
      · simp [step_w]
    · simp
  · split
    · unfold DS.flush
      split
      · simp [DS.settle]
      · simp [step_w]
    · split
      · simp
      · split
        · simp [DS.up, DS.settle]
        · simp

theorem sl_tx (b : UInt8) : ((abounds (tx b).length (tx b).length (some (.int .i64 1)) none none).map fun (l, h, _) => AVal.str (((tx b).take h).drop l)) = some (.str ((tx b).drop 1)) := by
  have e : abounds 512 512 (some (.int .i64 1)) none none = some (1, 512, 512) := rfl
  rw [tx_len, e]
  simp only [Option.map_some]
  rw [List.take_of_length_le (by rw [tx_len]; exact Nat.le_refl _)]

theorem by8_9 : by8 9 = AVal.int .u8 9 := rfl

def zz : List AVal := [.nils, .nils, .int .i64 0, .bool false, .int .i64 0]

/-- The memory in which an act begins. -/
theorem U21 {B H : AHeap} {p a : Nat} {g : Option Nat} {vw vs rw : AVal} {d : DS} (T : Two B H p a g vw vs rw d) (hw : d.w.length < 1000) {x : Act} (hx : x.mem B) :
    ∃ H' p' a' g' vw' vs' rw', AC A 21 [.ptr p 0, .agg (rc vs rw d), .agg (ac x)] H = some (.tuple [.ptr p' 0, .agg (rc vs' rw' (act d x)), .bool true], H') ∧ Two B H' p' a' g' vw' vs' rw' (act d x) ∧ Fr (p :: a :: vw.ids) H H' ∧ New H p a vw vs rw p' a' vw' vs' rw' := by
  obtain ⟨q, eq⟩ : ∃ q, H.next = q := ⟨_, rfl⟩
  obtain ⟨K, eK⟩ : ∃ K, ((H.new (.cells (rc vs rw d) true)).new (.cells (ac x) true)).new (.cells zz true) = K := ⟨_, rfl⟩
  have k : Keeps H K := by rw [← eK]; exact Keeps.new' (Keeps.new' (Keeps.new' (Keeps.refl _)))
  have nK : K.next = q + 3 := by rw [← eK]; simp [new_next, eq]
  have hR := T.R.keeps k
  have hD := T.D.keeps k
  have o0 : K.obj q = some (.cells (rc vs rw d) true) := by rw [← eK]; simp only [new_obj, new_next, eq]; rw [if_neg (by omega), if_neg (by omega), if_pos trivial]
  have o1 : K.obj (q + 1) = some (.cells (ac x) true) := by rw [← eK]; simp only [new_obj, new_next, eq]; rw [if_neg (by omega), if_pos trivial]
  have o2 : K.obj (q + 2) = some (.cells zz true) := by rw [← eK]; simp only [new_obj, new_next, eq]; rw [if_pos trivial]
  have m1 : (q + 2 = q) = False := by simp
  have m2 : (q + 2 = q + 1) = False := by simp
  have m3 : (q = q + 2) = False := by simp
  have m4 : (q + 1 = q + 2) = False := by simp
  have m5 : (q = q + 1) = False := by simp
  have m6 : (q + 1 = q) = False := by simp
  have pn := T.D.pn
  have an := T.D.an
  have wn := T.D.ow.lt
  have a0 := T.D.a0
  have a1 := T.D.a1
  have s1 := sl_shape' T.R.ss
  have s2 := sl_shape' T.R.sw
  have s3 := sl_shape' hx.1
  have hb : H.next ≤ q + 2 ∧ q + 2 < K.next := by omega
  have idk : ∀ i, i ∈ x.kv.ids → i < B.next := hx.2.1
  have hkK : Sl K 1 x.kv (x.keep.map .bool) := hx.1.keep idk (T.base.trans k)
  have bb := T.base.1
  have bp := T.bp
  have ba := T.ba
  unfold act
  by_cases c0 : x.kind = 0
  · have d0 : decide (x.kind = 0) = true := decide_eq_true c0
    rw [if_pos c0]
    obtain ⟨K1, vw1, e53, hR1, kk1, hw1⟩ := U53 hR a0 a1 (by omega) x.n (txt x)
    obtain ⟨d', ed'⟩ : ∃ d', (d.write x.n (txt x)).1 = d' := ⟨_, rfl⟩
    rw [ed'] at e53 hR1 ⊢
    obtain ⟨K2, eK2⟩ : ∃ K2, (K1.new (.cells zz true)).set K1.next (.cells (rc vs vw1 d') true) = K2 := ⟨_, rfl⟩
    have kk2 : Keeps K1 K2 := by rw [← eK2]; exact Keeps.set' (Nat.le_refl _) (Keeps.new' (Keeps.refl _))
    have nK2 : K2.next = K1.next + 1 := by rw [← eK2]; simp [set_next, new_next]
    have oT : K2.obj K1.next = some (.cells (rc vs vw1 d') true) := by rw [← eK2, set_obj, if_pos rfl]
    have k02 := kk1.trans kk2
    obtain ⟨K3, vw3, e11, hD3, f3, hv3⟩ := U11 (hD.keeps k02) (by omega) x.n (txt x)
    rw [ed'] at hD3
    have x1 := kk1.1
    have x2 := kk2.1
    have x3 := f3.1
    have oT3 : K3.obj K1.next = some (.cells (rc vs vw1 d') true) := by
      rw [f3.2 _ (by omega) (by simp; exact ⟨by omega, fun hx => by have := wn _ hx; omega⟩)]; exact oT
    have p1 : K1.obj (q + 1) = some (.cells (ac x) true) := by rw [kk1.2 _ (by omega)]; exact o1
    have p1' : K2.obj (q + 1) = some (.cells (ac x) true) := by rw [k02.2 _ (by omega)]; exact o1
    have p2 : K3.obj (q + 2) = some (.cells zz true) := by rw [f3.2 _ (by omega) (by simp; exact ⟨by omega, fun hx => by have := wn _ hx; omega⟩), k02.2 _ (by omega)]; exact o2
    refine ⟨K3.set (q + 2) (.cells (rc vs vw1 d') true), p, a, g, vw3, vs, vw1, ?_, T.step k k02 (hR1.keeps kk2) (fun j hj => .inl hj) (fun j hj => hw1 j hj) hD3 f3 (fun i hi => by rcases List.mem_cons.1 hi with h | h; exact .inl h; exact .inr (.inr h)) hv3 hb _⟩
    have dz : decide ((d.write x.n (txt x)).2 = (d.write x.n (txt x)).2) = true := by simp
    obtain ⟨er, eer⟩ : ∃ er, (d.write x.n (txt x)).2 = er := ⟨_, rfl⟩
    rw [eer] at e53 e11
    have dz : decide (er = er) = true := by simp
    have hT := e53
    have hT2 := e11
    have s4 := sl_shape' hR1.sw
    unfold rc zz ac at *
    rw [s_fn (A := A) (f := 21) (x := DnFns.c21) rfl rfl rfl]
    cases hs : x.short
    · have et : txt x = tx x.byte := by simp [txt, hs]
      rw [et] at hT hT2
      rw [hs] at eK o1 p1 p1'
      rcases s1 with rfl | ⟨_, _, _, _, _, rfl⟩ <;> rcases s2 with rfl | ⟨_, _, _, _, _, rfl⟩ <;> rcases s3 with s3 | ⟨_, _, _, _, _, s3⟩ <;> rcases s4 with rfl | ⟨_, _, _, _, _, rfl⟩ <;> rw [s3] at eK o1 p1 p1' <;>
        simp only [c21, eq, eK, hs, s3, o0, o1, o2, d0, U12t, hT, hT2, eK2, oT, oT3, p1, p1', p2, dz, m1, m2, m3, m4, rwA, rwB, Nat.reduceAdd, Nat.reduceMul, Nat.reduceLeDiff, Int.reduceEq, Int.reduceLT, Int.reduceLE, Int.reduceAdd, Int.reduceSub, Int.reduceMul, ↓reduceIte, Nat.reduceEqDiff, reduceCtorEq, ↓cnd_true, ↓cnd_false]
    · have et : txt x = (tx x.byte).drop 1 := by simp [txt, hs]
      rw [et] at hT hT2
      rw [hs] at eK o1 p1 p1'
      rcases s1 with rfl | ⟨_, _, _, _, _, rfl⟩ <;> rcases s2 with rfl | ⟨_, _, _, _, _, rfl⟩ <;> rcases s3 with s3 | ⟨_, _, _, _, _, s3⟩ <;> rcases s4 with rfl | ⟨_, _, _, _, _, rfl⟩ <;> rw [s3] at eK o1 p1 p1' <;>
        simp only [c21, eq, eK, hs, s3, o0, o1, o2, d0, U12t, sl_tx, hT, hT2, eK2, oT, oT3, p1, p1', p2, dz, m1, m2, m3, m4, rwA, rwB, Nat.reduceAdd, Nat.reduceMul, Nat.reduceLeDiff, Int.reduceEq, Int.reduceLT, Int.reduceLE, Int.reduceAdd, Int.reduceSub, Int.reduceMul, ↓reduceIte, Nat.reduceEqDiff, reduceCtorEq, ↓cnd_true, ↓cnd_false]
  rw [if_neg c0]
  have d0 : decide (x.kind = 0) = false := decide_eq_false c0
  have hat := T.D.hat
  have hs1 := T.D.n1
  have hs2 := T.D.n2
  by_cases c1 : x.kind = 1
  · have d1 : decide (x.kind = 1) = true := decide_eq_true c1
    rw [if_pos c1]
    obtain ⟨K1, vs1, vw1, e54, hR1, kk1, hs1', hw1⟩ := U54 hR a0 a1 (by omega) hs1 hs2 hat
    obtain ⟨d', ed'⟩ : ∃ d', d.flush.1 = d' := ⟨_, rfl⟩
    obtain ⟨er, eer⟩ : ∃ er, d.flush.2 = er := ⟨_, rfl⟩
    rw [ed'] at e54 hR1 ⊢
    obtain ⟨K2, eK2⟩ : ∃ K2, (K1.new (.cells zz true)).set K1.next (.cells (rc vs1 vw1 d') true) = K2 := ⟨_, rfl⟩
    have kk2 : Keeps K1 K2 := by rw [← eK2]; exact Keeps.set' (Nat.le_refl _) (Keeps.new' (Keeps.refl _))
    have nK2 : K2.next = K1.next + 1 := by rw [← eK2]; simp [set_next, new_next]
    have oT : K2.obj K1.next = some (.cells (rc vs1 vw1 d') true) := by rw [← eK2, set_obj, if_pos rfl]
    have k02 := kk1.trans kk2
    obtain ⟨K3, vw3, e13, hD3, f3, hv3⟩ := U13 (hD.keeps k02) (by omega)
    rw [ed'] at hD3
    rw [eer] at e54 e13
    have x1 := kk1.1
    have x2 := kk2.1
    have x3 := f3.1
    have oT3 : K3.obj K1.next = some (.cells (rc vs1 vw1 d') true) := by rw [f3.2 _ (by omega) (by simp; omega)]; exact oT
    have p2 : K3.obj (q + 2) = some (.cells zz true) := by rw [f3.2 _ (by omega) (by simp; omega), k02.2 _ (by omega)]; exact o2
    refine ⟨K3.set (q + 2) (.cells (rc vs1 vw1 d') true), p, a, g, vw3, vs1, vw1, ?_, T.step k k02 (hR1.keeps kk2) hs1' (fun j hj => .inl (hw1 j hj)) hD3 f3 (fun i hi => by simp at hi; rcases hi with h | h; exact .inl h; exact .inr (.inl h)) (fun j hj => .inl (hv3 j hj)) hb _⟩
    have dz : decide (er = er) = true := by simp
    have s4 := sl_shape' hR1.sw
    have s5 := sl_shape' hR1.ss
    unfold rc zz ac at *
    rw [s_fn (A := A) (f := 21) (x := DnFns.c21) rfl rfl rfl]
    rcases s1 with rfl | ⟨_, _, _, _, _, rfl⟩ <;> rcases s2 with rfl | ⟨_, _, _, _, _, rfl⟩ <;> rcases s3 with s3 | ⟨_, _, _, _, _, s3⟩ <;> rcases s4 with rfl | ⟨_, _, _, _, _, rfl⟩ <;> rcases s5 with rfl | ⟨_, _, _, _, _, rfl⟩ <;> rw [s3] at eK o1 <;>
      simp only [c21, eq, eK, s3, o0, o1, o2, d0, d1, e54, e13, eK2, oT, oT3, p2, dz, m1, m2, m3, m4, rwA, rwB, Nat.reduceAdd, Nat.reduceMul, Nat.reduceLeDiff, Int.reduceEq, Int.reduceLT, Int.reduceLE, Int.reduceAdd, Int.reduceSub, Int.reduceMul, ↓reduceIte, Nat.reduceEqDiff, reduceCtorEq, ↓cnd_true, ↓cnd_false]
  rw [if_neg c1]
  have d1 : decide (x.kind = 1) = false := decide_eq_false c1
  by_cases c2 : x.kind = 2
  · have d2 : decide (x.kind = 2) = true := decide_eq_true c2
    rw [if_pos c2]
    obtain ⟨K1, eK1⟩ : ∃ K1, K.set q (.cells (rc vs rw { d with arm := low x.n }) true) = K1 := ⟨_, rfl⟩
    have kk1 : Keeps H K1 := by rw [← eK1]; exact Keeps.set' (by omega) k
    have nK1 : K1.next = q + 3 := by rw [← eK1, set_next, nK]
    obtain ⟨K3, e15, hD3, f3⟩ := U15 (T.D.keeps kk1) hx.2.2.2
    have p0 : K1.obj q = some (.cells (rc vs rw { d with arm := low x.n }) true) := by rw [← eK1, set_obj, if_pos rfl]
    have p1 : K1.obj (q + 1) = some (.cells (ac x) true) := by rw [← eK1, set_obj, if_neg (by omega)]; exact o1
    have x3 := f3.1
    have r0 : K3.obj q = some (.cells (rc vs rw { d with arm := low x.n }) true) := by rw [f3.2 _ (by omega) (by simp; omega)]; exact p0
    have r2 : K3.obj (q + 2) = some (.cells zz true) := by rw [f3.2 _ (by omega) (by simp; omega), ← eK1, set_obj, if_neg (by omega)]; exact o2
    refine ⟨K3.set (q + 2) (.cells (rc vs rw { d with arm := low x.n }) true), p, a, g, vw, vs, rw, ?_, T.step kk1 (Keeps.refl _) ((T.R.keeps kk1).like (e := { d with arm := low x.n }) rfl rfl) (fun j hj => .inl hj) (fun j hj => .inl hj) hD3 f3 (fun i hi => .inl (by simpa using hi)) (fun j hj => .inl hj) (b := q + 2) (by omega) _⟩
    unfold rc zz ac low at *
    rw [s_fn (A := A) (f := 21) (x := DnFns.c21) rfl rfl rfl]
    rcases s1 with rfl | ⟨_, _, _, _, _, rfl⟩ <;> rcases s2 with rfl | ⟨_, _, _, _, _, rfl⟩ <;> rcases s3 with s3 | ⟨_, _, _, _, _, s3⟩ <;> rw [s3] at eK o1 p1 <;>
      simp only [c21, eq, eK, eK1, s3, o0, o1, o2, d0, d1, d2, e15, p0, p1, r0, r2, m1, m2, m3, m4, m5, m6, rwA, rwB, Nat.reduceAdd, Nat.reduceMul, Nat.reduceLeDiff, Int.reduceEq, Int.reduceLT, Int.reduceLE, Int.reduceAdd, Int.reduceSub, Int.reduceMul, ↓reduceIte, Nat.reduceEqDiff, reduceCtorEq, ↓cnd_true, ↓cnd_false]
  rw [if_neg c2]
  have d2 : decide (x.kind = 2) = false := decide_eq_false c2
  by_cases c3 : x.kind = 3
  · have d3 : decide (x.kind = 3) = true := decide_eq_true c3
    rw [if_pos c3]
    obtain ⟨K1, vs1, e55, hR1, kk1, hs1'⟩ := U55 hR hkK (fun i hi => by have := idk i hi; omega) (by omega) hs1 hs2 hat
    obtain ⟨d', ed'⟩ : ∃ d', (d.up x.keep).1 = d' := ⟨_, rfl⟩
    obtain ⟨er, eer⟩ : ∃ er, ((d.up x.keep).2 : Int) = er := ⟨_, rfl⟩
    rw [ed'] at e55 hR1 ⊢
    obtain ⟨K2, eK2⟩ : ∃ K2, (K1.new (.cells zz true)).set K1.next (.cells (rc vs1 .nils d') true) = K2 := ⟨_, rfl⟩
    have kk2 : Keeps K1 K2 := by rw [← eK2]; exact Keeps.set' (Nat.le_refl _) (Keeps.new' (Keeps.refl _))
    have nK2 : K2.next = K1.next + 1 := by rw [← eK2]; simp [set_next, new_next]
    have oT : K2.obj K1.next = some (.cells (rc vs1 .nils d') true) := by rw [← eK2, set_obj, if_pos rfl]
    have k02 := kk1.trans kk2
    have x1 := kk1.1
    have x2 := kk2.1
    obtain ⟨K3, e17, hD3, f3⟩ := U17 (hD.keeps k02) (by omega) (hkK.keep (fun i hi => by have := idk i hi; omega) k02) (fun i hi => ⟨by have := idk i hi; omega, by have := idk i hi; omega, by have := idk i hi; omega⟩)
    rw [ed'] at hD3
    rw [eer] at e55 e17
    have x3 := f3.1
    have oT3 : K3.obj K1.next = some (.cells (rc vs1 .nils d') true) := by rw [f3.2 _ (by omega) (by simp; omega)]; exact oT
    have p1' : K2.obj (q + 1) = some (.cells (ac x) true) := by rw [k02.2 _ (by omega)]; exact o1
    have p2 : K3.obj (q + 2) = some (.cells zz true) := by rw [f3.2 _ (by omega) (by simp; omega), k02.2 _ (by omega)]; exact o2
    refine ⟨K3.set (q + 2) (.cells (rc vs1 .nils d') true), p, a, g, .nils, vs1, .nils, ?_, T.step k k02 (hR1.keeps kk2) (fun j hj => .inr (hs1' j hj)) (fun j hj => by simp [AVal.ids] at hj) hD3 f3 (fun i hi => by simp at hi; rcases hi with h | h; exact .inl h; exact .inr (.inl h)) (fun j hj => by simp [AVal.ids] at hj) hb _⟩
    have dz : decide (er = er) = true := by simp
    have s5 := sl_shape' hR1.ss
    unfold rc zz ac at *
    rw [s_fn (A := A) (f := 21) (x := DnFns.c21) rfl rfl rfl]
    rcases s1 with rfl | ⟨_, _, _, _, _, rfl⟩ <;> rcases s2 with rfl | ⟨_, _, _, _, _, rfl⟩ <;> rcases s3 with s3 | ⟨_, _, _, _, _, s3⟩ <;> rcases s5 with rfl | ⟨_, _, _, _, _, rfl⟩ <;> rw [s3] at eK o1 p1' e55 e17 <;>
      simp only [c21, eq, eK, s3, o0, o1, o2, d0, d1, d2, d3, e55, e17, eK2, oT, oT3, p1', p2, dz, m1, m2, m3, m4, rwA, rwB, Nat.reduceAdd, Nat.reduceMul, Nat.reduceLeDiff, Int.reduceEq, Int.reduceLT, Int.reduceLE, Int.reduceAdd, Int.reduceSub, Int.reduceMul, ↓reduceIte, Nat.reduceEqDiff, reduceCtorEq, ↓cnd_true, ↓cnd_false]
  rw [if_neg c3]
  have d3 : decide (x.kind = 3) = false := decide_eq_false c3
  by_cases c4 : x.kind = 4
  · have d4 : decide (x.kind = 4) = true := decide_eq_true c4
    obtain ⟨K1, vw1, e26, hD1, kk1, hv1⟩ := U26 hD (by omega)
    have x1 := kk1.1
    obtain ⟨K2, vw2, e11, hD2, f2, hv2⟩ := U11 (hD.keeps kk1) (by omega) 0 (tx 9)
    have hl2 : (d.write 0 (tx 9)).1.w.length < 1000000 := by
      unfold DS.write; split
      · split
        · simp; omega
        · simp [step_w]; omega
      · simp; omega
    obtain ⟨K3, vw3, e13, hD3, f3, hv3⟩ := U13 hD2 hl2
    have x2 := f2.1
    have x3 := f3.1
    rw [nK] at e26 hD1 hv1
    have pn1 := hD1.pn
    have an1 := hD1.an
    have wn1 := hD1.ow.lt
    -- what both calls leave
    have st : ∀ i, H.next ≤ i → i < K1.next → K3.obj i = K1.obj i := fun i h1 h2 => by
      rw [f3.2 i (by omega) (by simp; omega), f2.2 i h2 (by simp; exact ⟨by omega, fun hx => by have := wn _ hx; omega⟩)]
    have fr : Fr (p :: a :: vw.ids) K1 K3 := (f2.mono (fun i hi => .inl (by simp only [List.mem_cons] at hi ⊢; rcases hi with h | h; exact .inl h; exact .inr (.inr h)))).trans f3 (fun i hi => .inl (by simp at hi ⊢; rcases hi with h | h; exact .inl h; exact .inr (.inl h)))
    have p0 : K3.obj q = some (.cells (rc vs rw d) true) := by rw [st q (by omega) (by omega), kk1.2 _ (by omega)]; exact o0
    have p2 : K3.obj (q + 2) = some (.cells zz true) := by rw [st _ (by omega) (by omega), kk1.2 _ (by omega)]; exact o2
    have hDc : D K3 (q + 3) (q + 3 + 1) (some 1) vw1 d := hD1.fr fr (by simp; exact ⟨by omega, by omega, fun hx => by have := wn _ hx; omega⟩) (by simp; exact ⟨by omega, by omega, fun hx => by have := wn _ hx; omega⟩) (fun i hi => by have := hv1 i hi; simp; exact ⟨by omega, by omega, fun hx => by have := wn _ hx; omega⟩)
    have hRc : R K3 vs rw d := (T.R.keeps (k.trans kk1)).fr fr (fun i hi => by have := T.sv i hi; simp; exact this) (fun i hi => by have := T.sw i hi; simp; exact this)
    have kb : Fr [q + 2] K3 (K3.set (q + 2) (.cells (rc vs rw d) true)) := Fr.set (.inl (by simp)) (Fr.refl _ _)
    have hDz := hDc.fr kb (by simp) (by simp) (fun i hi => by have := hv1 i hi; simp; omega)
    have hRz := hRc.fr kb (fun i hi => by have := T.R.si i hi; simp; omega) (fun i hi => by have := T.R.wi i hi; simp; omega)
    refine ⟨K3.set (q + 2) (.cells (rc vs rw d) true), q + 3, q + 3 + 1, some 1, vw1, vs, rw, ?_, ⟨hDz, hRz, fun i hi => by have := T.R.si i hi; exact ⟨by omega, by omega, fun hx => by have := hv1 i hx; omega⟩, fun i hi => by have := T.R.wi i hi; exact ⟨by omega, by omega, fun hx => by have := hv1 i hx; omega⟩, ⟨by rw [set_next]; omega, fun i hi => ?_⟩, by omega, by omega, fun i hi => by have := hv1 i hi; omega⟩, ⟨by rw [set_next]; omega, fun i hi hL => ?_⟩, ?_⟩
    · unfold rc zz ac at *
      rw [s_fn (A := A) (f := 21) (x := DnFns.c21) rfl rfl rfl]
      have u12 := fun M => U12t 9 M
      rw [by8_9] at u12
      rcases s1 with rfl | ⟨_, _, _, _, _, rfl⟩ <;> rcases s2 with rfl | ⟨_, _, _, _, _, rfl⟩ <;> rcases s3 with s3 | ⟨_, _, _, _, _, s3⟩ <;> rw [s3] at eK o1 <;>
        simp only [c21, eq, eK, s3, o0, o1, o2, d0, d1, d2, d3, d4, e26, e11, e13, u12, p0, p2, e_nilp0, Bool.not_false, m1, m2, m3, m4, rwA, rwB, Nat.reduceAdd, Nat.reduceMul, Nat.reduceLeDiff, Int.reduceEq, Int.reduceLT, Int.reduceLE, Int.reduceAdd, Int.reduceSub, Int.reduceMul, ↓reduceIte, Nat.reduceEqDiff, reduceCtorEq, ↓cnd_true, ↓cnd_false]
    · rw [set_obj, if_neg (by omega), fr.2 i (by omega) (by simp; exact ⟨by omega, by omega, fun hx => by have := T.bw _ hx; omega⟩), kk1.2 i (by omega), k.2 i (by omega), T.base.2 i hi]
    · rw [set_obj, if_neg (by omega), fr.2 i (by omega) hL, kk1.2 i (by omega), k.2 i (by omega)]
    · intro i hi
      rcases hi with h | h | h | h | h
      · exact .inr (by omega)
      · exact .inr (by omega)
      · exact .inr (by have := hv1 i h; omega)
      · exact .inl (.inr (.inr (.inr (.inl h))))
      · exact .inl (.inr (.inr (.inr (.inr h))))
  have d4 : decide (x.kind = 4) = false := decide_eq_false c4
  refine ⟨K.set (q + 2) (.cells (rc vs rw d) true), p, a, g, vw, vs, rw, ?_, T.step k (Keeps.refl _) hR (fun j hj => .inl hj) (fun j hj => .inl hj) hD (Fr.refl [] K) (fun i hi => by simp at hi) (fun j hj => .inl hj) hb _⟩
  unfold rc zz ac at *
  rw [s_fn (A := A) (f := 21) (x := DnFns.c21) rfl rfl rfl]
  rcases s1 with rfl | ⟨_, _, _, _, _, rfl⟩ <;> rcases s2 with rfl | ⟨_, _, _, _, _, rfl⟩ <;> rcases s3 with s3 | ⟨_, _, _, _, _, s3⟩ <;> rw [s3] at eK o1 <;>
    simp only [c21, eq, eK, s3, o0, o1, o2, d0, d1, d2, d3, d4, m1, m2, m3, m4, rwA, rwB, Nat.reduceAdd, Nat.reduceMul, Nat.reduceLeDiff, Int.reduceEq, Int.reduceLT, Int.reduceLE, Int.reduceAdd, Int.reduceSub, Int.reduceMul, ↓reduceIte, Nat.reduceEqDiff, reduceCtorEq, ↓cnd_true, ↓cnd_false]

end Go.Proofs.Ytilhjcnkaelheaa.Dk
