/- DiskWhole: the run. -/
import Derived.Test.YtilhjcnkaelheaaDh
set_option maxRecDepth 100000
set_option linter.unusedSimpArgs false
set_option linter.unusedVariables false
set_option maxHeartbeats 4000000
namespace Go.Proofs.Ytilhjcnkaelheaa.Dk
open Go Go.Proofs.Ytilhjcnkaelheaa.Am DnFns Go.RowKit
open Sd (Sec noughts home homeno ofHome ofNo opened unfit pad)

theorem U12t (b : UInt8) (H : AHeap) : AC A 12 [by8 b] H = some (.str (tx b), H) := U12 b H

/-- An act in memory, taken out of a slice. -/
theorem act_at {H : AHeap} {v : AVal} {l : List Act} (h : Sl H 5 v (l.flatMap ac)) {j : Nat} (c : j < l.length) :
    ∃ id off cp g k own, v = .slice id off l.length cp g ∧ H.obj id = some (.cells k own) ∧ apart true (off + j * 5) 5 k = some (.agg (ac l[j])) ∧ aidx l.length (.int .i64 (j : Int)) = some j := by
  obtain ⟨id, off, cp, g, k, own, e, ho, hk, hall, _⟩ := h.elem ac_len (by decide) c
  exact ⟨id, off, cp, g, k, own, e, ho, by rw [apart_agg _ _ _ (elem_room (es := 5) c hk), hall], by simp [aidx]; omega⟩

def b30 : ACode := (.seq (.region [⟨(some 62), (.bin .lss (.tmp 61) (.tmp 60)), none, none⟩]) (.seq (.cond (.tmp 62) .skip (.exit 0)) (.seq (.block 1 (.seq (.region [⟨(some 63), (.idxASl 5 (.tmp 59) (.tmp 61)), none, none⟩, ⟨(some 64), (.load true 5 (.tmp 63)), none, none⟩, ⟨(some 14), (.new [(.int .i64 0), (.int .i64 0), (.int .u8 0), (.bool false), .nils]), none, none⟩, ⟨none, (.store 5 (.tmp 14) (.tmp 64)), none, none⟩]) (.draw [⟨(some 65), (.mv (.tmp 11)), none, none⟩, ⟨(some 66), (.fieldA 1 (.tmp 14)), none, none⟩, ⟨(some 67), (.load false 1 (.tmp 66)), none, (some (0, 1))⟩, ⟨(some 68), (.fieldA 2 (.tmp 14)), none, none⟩, ⟨(some 69), (.load false 1 (.tmp 68)), none, none⟩, ⟨(some 70), (.call (.con (.func 12 [] [])) [(.tmp 69)]), none, none⟩, ⟨(some 71), (.call (.con (.func 11 [] [])) [(.tmp 65), (.tmp 67), (.tmp 70)]), none, none⟩]))) (.region [⟨(some 72), (.bin .add (.tmp 61) (.con (.int .i64 1))), none, none⟩, ⟨(some 61), (.mv (.tmp 72)), none, none⟩]))))
def b31 : ACode := (.seq (.region [⟨(some 84), (.bin .lss (.tmp 83) (.tmp 82)), none, none⟩]) (.seq (.cond (.tmp 84) .skip (.exit 2)) (.seq (.block 3 (.seq (.region [⟨(some 85), (.idxASl 5 (.tmp 81) (.tmp 83)), none, none⟩, ⟨(some 86), (.load true 5 (.tmp 85)), none, none⟩, ⟨(some 18), (.new [(.int .i64 0), (.int .i64 0), (.int .u8 0), (.bool false), .nils]), none, none⟩, ⟨none, (.store 5 (.tmp 18) (.tmp 86)), none, none⟩]) (.seq (.draw [⟨(some 87), (.mv (.tmp 11)), none, none⟩, ⟨(some 88), (.fieldA 1 (.tmp 18)), none, none⟩, ⟨(some 89), (.load false 1 (.tmp 88)), none, (some (0, 1))⟩, ⟨(some 90), (.fieldA 2 (.tmp 18)), none, none⟩, ⟨(some 91), (.load false 1 (.tmp 90)), none, none⟩, ⟨(some 92), (.call (.con (.func 12 [] [])) [(.tmp 91)]), none, none⟩, ⟨(some 93), (.call (.con (.func 11 [] [])) [(.tmp 87), (.tmp 89), (.tmp 92)]), none, none⟩, ⟨(some 94), (.bin .eql (.tmp 93) (.con (.int .i64 0))), none, none⟩]) (.cond (.tmp 94) (.region [⟨(some 95), (.mv (.tmp 16)), none, none⟩, ⟨(some 96), (.bin .add (.tmp 95) (.con (.int .i64 1))), none, none⟩, ⟨(some 16), (.mv (.tmp 96)), none, none⟩]) .skip)))) (.region [⟨(some 97), (.bin .add (.tmp 83) (.con (.int .i64 1))), none, none⟩, ⟨(some 83), (.mv (.tmp 97)), none, none⟩]))))
def b32 : ACode := (.seq (.region [⟨(some 109), (.bin .lss (.tmp 108) (.tmp 107)), none, none⟩]) (.seq (.cond (.tmp 109) .skip (.exit 4)) (.seq (.block 5 (.seq (.region [⟨(some 110), (.mv (.tmp 108)), none, none⟩, ⟨(some 111), (.idxASl 1 (.tmp 106) (.tmp 108)), none, none⟩, ⟨(some 112), (.load false 1 (.tmp 111)), none, none⟩, ⟨(some 19), (.mv (.tmp 110)), none, none⟩, ⟨(some 20), (.mv (.tmp 112)), none, none⟩]) (.seq (.region [⟨(some 113), (.mv (.tmp 20)), none, none⟩, ⟨(some 114), (.mv (.tmp 15)), none, none⟩, ⟨(some 115), (.mv (.tmp 19)), none, none⟩, ⟨(some 116), (.idxASl 1 (.tmp 114) (.tmp 115)), none, none⟩, ⟨(some 117), (.load false 1 (.tmp 116)), none, none⟩, ⟨(some 118), (.bin .eql (.tmp 113) (.tmp 117)), none, none⟩, ⟨(some 21), (.mv (.tmp 118)), none, none⟩]) (.seq (.seq (.region [⟨(some 119), (.mv (.tmp 2)), none, none⟩, ⟨(some 120), (.len false (.tmp 119)), none, none⟩, ⟨(some 121), (.mv (.con (.int .i64 0))), none, none⟩]) (.block 6 (.loop (.seq (.region [⟨(some 122), (.bin .lss (.tmp 121) (.tmp 120)), none, none⟩]) (.seq (.cond (.tmp 122) .skip (.exit 6)) (.seq (.block 7 (.seq (.region [⟨(some 123), (.idxASl 5 (.tmp 119) (.tmp 121)), none, none⟩, ⟨(some 124), (.load true 5 (.tmp 123)), none, none⟩, ⟨(some 23), (.new [(.int .i64 0), (.int .i64 0), (.int .u8 0), (.bool false), .nils]), none, none⟩, ⟨none, (.store 5 (.tmp 23) (.tmp 124)), none, none⟩]) (.region [⟨(some 125), (.mv (.tmp 21)), none, none⟩, ⟨(some 126), (.mv (.tmp 125)), none, none⟩, ⟨(some 127), (.fieldA 1 (.tmp 23)), (some (126, false)), none⟩, ⟨(some 128), (.load false 1 (.tmp 127)), (some (126, false)), none⟩, ⟨(some 129), (.mv (.tmp 19)), (some (126, false)), none⟩, ⟨(some 130), (.bin .eql (.tmp 128) (.tmp 129)), (some (126, false)), none⟩, ⟨(some 131), (.mv (.tmp 130)), (some (126, false)), none⟩, ⟨(some 132), (.mv (.tmp 20)), (some (131, true)), none⟩, ⟨(some 133), (.fieldA 2 (.tmp 23)), (some (131, true)), none⟩, ⟨(some 134), (.load false 1 (.tmp 133)), (some (131, true)), none⟩, ⟨(some 135), (.call (.con (.func 12 [] [])) [(.tmp 134)]), (some (131, true)), none⟩, ⟨(some 136), (.bin .eql (.tmp 132) (.tmp 135)), (some (131, true)), none⟩, ⟨(some 137), (.pick (.tmp 131) (.tmp 136) (.con (.bool false))), (some (126, false)), none⟩, ⟨(some 138), (.pick (.tmp 126) (.con (.bool true)) (.tmp 137)), none, none⟩, ⟨(some 21), (.mv (.tmp 138)), none, none⟩]))) (.region [⟨(some 139), (.bin .add (.tmp 121) (.con (.int .i64 1))), none, none⟩, ⟨(some 121), (.mv (.tmp 139)), none, none⟩]))))))) (.seq (.region [⟨(some 141), (.mv (.tmp 11)), none, none⟩, ⟨(some 142), (.mv (.tmp 19)), none, none⟩, ⟨(some 143), (.call (.con (.func 18 [] [])) [(.tmp 141), (.tmp 142)]), none, none⟩, ⟨(some 140), (.mv (.tmp 143)), none, none⟩, ⟨(some 144), (.extract (.tmp 140) 0), none, none⟩, ⟨(some 145), (.extract (.tmp 140) 1), none, none⟩, ⟨(some 24), (.mv (.tmp 144)), none, none⟩, ⟨(some 25), (.mv (.tmp 145)), none, none⟩]) (.seq (.region [⟨(some 146), (.mv (.tmp 21)), none, none⟩, ⟨(some 147), (.un .not (.tmp 146)), none, none⟩, ⟨(some 148), (.mv (.tmp 147)), none, none⟩, ⟨(some 149), (.mv (.tmp 25)), (some (148, false)), none⟩, ⟨(some 150), (.bin .neq (.tmp 149) (.con (.int .i64 0))), (some (148, false)), none⟩, ⟨(some 151), (.pick (.tmp 148) (.con (.bool true)) (.tmp 150)), none, none⟩, ⟨(some 152), (.mv (.tmp 151)), none, none⟩, ⟨(some 153), (.mv (.tmp 24)), (some (152, false)), none⟩, ⟨(some 154), (.mv (.tmp 20)), (some (152, false)), none⟩, ⟨(some 155), (.bin .neq (.tmp 153) (.tmp 154)), (some (152, false)), none⟩, ⟨(some 156), (.pick (.tmp 152) (.con (.bool true)) (.tmp 155)), none, none⟩, ⟨(some 157), (.mv (.tmp 156)), none, none⟩, ⟨(some 158), (.mv (.tmp 4)), (some (157, false)), none⟩, ⟨(some 159), (.len false (.tmp 158)), (some (157, false)), none⟩, ⟨(some 160), (.bin .eql (.tmp 159) (.con (.int .i64 0))), (some (157, false)), none⟩, ⟨(some 161), (.mv (.tmp 160)), (some (157, false)), none⟩, ⟨(some 162), (.mv (.tmp 20)), (some (161, true)), none⟩, ⟨(some 163), (.mv (.tmp 15)), (some (161, true)), none⟩, ⟨(some 164), (.mv (.tmp 19)), (some (161, true)), none⟩, ⟨(some 165), (.idxASl 1 (.tmp 163) (.tmp 164)), (some (161, true)), none⟩, ⟨(some 166), (.load false 1 (.tmp 165)), (some (161, true)), none⟩, ⟨(some 167), (.bin .neq (.tmp 162) (.tmp 166)), (some (161, true)), none⟩, ⟨(some 168), (.pick (.tmp 161) (.tmp 167) (.con (.bool false))), (some (157, false)), none⟩, ⟨(some 169), (.pick (.tmp 157) (.con (.bool true)) (.tmp 168)), none, none⟩]) (.cond (.tmp 169) (.seq (.region [⟨(some 10), (.mv (.con (.bool false))), none, none⟩]) .ret) .skip))))))) (.region [⟨(some 170), (.bin .add (.tmp 108) (.con (.int .i64 1))), none, none⟩, ⟨(some 108), (.mv (.tmp 170)), none, none⟩]))))
def b33 : ACode := (.seq (.region [⟨(some 122), (.bin .lss (.tmp 121) (.tmp 120)), none, none⟩]) (.seq (.cond (.tmp 122) .skip (.exit 6)) (.seq (.block 7 (.seq (.region [⟨(some 123), (.idxASl 5 (.tmp 119) (.tmp 121)), none, none⟩, ⟨(some 124), (.load true 5 (.tmp 123)), none, none⟩, ⟨(some 23), (.new [(.int .i64 0), (.int .i64 0), (.int .u8 0), (.bool false), .nils]), none, none⟩, ⟨none, (.store 5 (.tmp 23) (.tmp 124)), none, none⟩]) (.region [⟨(some 125), (.mv (.tmp 21)), none, none⟩, ⟨(some 126), (.mv (.tmp 125)), none, none⟩, ⟨(some 127), (.fieldA 1 (.tmp 23)), (some (126, false)), none⟩, ⟨(some 128), (.load false 1 (.tmp 127)), (some (126, false)), none⟩, ⟨(some 129), (.mv (.tmp 19)), (some (126, false)), none⟩, ⟨(some 130), (.bin .eql (.tmp 128) (.tmp 129)), (some (126, false)), none⟩, ⟨(some 131), (.mv (.tmp 130)), (some (126, false)), none⟩, ⟨(some 132), (.mv (.tmp 20)), (some (131, true)), none⟩, ⟨(some 133), (.fieldA 2 (.tmp 23)), (some (131, true)), none⟩, ⟨(some 134), (.load false 1 (.tmp 133)), (some (131, true)), none⟩, ⟨(some 135), (.call (.con (.func 12 [] [])) [(.tmp 134)]), (some (131, true)), none⟩, ⟨(some 136), (.bin .eql (.tmp 132) (.tmp 135)), (some (131, true)), none⟩, ⟨(some 137), (.pick (.tmp 131) (.tmp 136) (.con (.bool false))), (some (126, false)), none⟩, ⟨(some 138), (.pick (.tmp 126) (.con (.bool true)) (.tmp 137)), none, none⟩, ⟨(some 21), (.mv (.tmp 138)), none, none⟩]))) (.region [⟨(some 139), (.bin .add (.tmp 121) (.con (.int .i64 1))), none, none⟩, ⟨(some 121), (.mv (.tmp 139)), none, none⟩]))))

theorem loop30 {H : AHeap} {p a : Nat} {g : Option Nat} {vw : AVal} {d : DS} (h : D H p a g vw d) {bv : AVal} {l : List Act} (hb : Sl H 5 bv (l.flatMap ac)) (hid : ∀ i, i ∈ bv.ids → i < H.next ∧ i ≠ p ∧ i ∉ vw.ids) (hl : l.length ≤ 100) (hw : d.w.length ≤ 100) {env : Env}
    (h11 : env 11 = .ptr p 0) (h59 : env 59 = bv) (h60 : env 60 = .int .i64 (l.length : Int)) (h61 : env 61 = .int .i64 0) :
    Outs (AX A (.loop b30) env H) fun e env' K => e = .exit 0 ∧ (∀ i, i < 59 → i ≠ 14 → env' i = env i) ∧ ∃ vw', D K p a g vw' (wrs d l) ∧ Fr (p :: vw.ids) H K ∧ ∀ i, i ∈ vw'.ids → i ∈ vw.ids ∨ H.next ≤ i := by
  refine loop_ends (I := fun (j : Nat) env' K => j ≤ l.length ∧ (∀ i, i < 61 → i ≠ 14 → env' i = env i) ∧ env' 61 = .int .i64 (j : Int) ∧ ∃ vw', D K p a g vw' (wrs d (l.take j)) ∧ Fr (p :: vw.ids) H K ∧ ∀ i, i ∈ vw'.ids → i ∈ vw.ids ∨ H.next ≤ i) (fun j => l.length - j) ?_ 0 env H
    ⟨Nat.zero_le _, fun _ _ _ => rfl, h61, vw, h, Fr.refl _ _, fun i hi => .inl hi⟩
  rintro j env1 K ⟨hj, hE, e61, vw', hD, hF, hI⟩
  have e11 := (hE 11 (by decide) (by decide)).trans h11
  have e59 := (hE 59 (by decide) (by decide)).trans h59
  have e60 := (hE 60 (by decide) (by decide)).trans h60
  by_cases c : j < l.length
  · have c1 : decide ((j : Int) < (l.length : Int)) = true := by simp; omega
    have w1 : IntKind.i64.wrap ((j : Int) + 1) = ((j + 1 : Nat) : Int) := by rw [wrap_i64]; omega
    have hbK := hb.fr hF (fun i hi => ⟨(hid i hi).1, by simp [(hid i hi).2]⟩)
    obtain ⟨id, off, cp, g', k, own, rfl, ho, ld, ha⟩ := act_at hbK c
    obtain ⟨x, ex⟩ : ∃ x, l[j] = x := ⟨_, rfl⟩
    rw [ex] at ld
    obtain ⟨K1, eK1⟩ : ∃ K1, (K.new (.cells [.int .i64 0, .int .i64 0, .int .u8 0, .bool false, .nils] true)).set K.next (.cells [.int .i64 x.kind, .int .i64 x.n, by8 x.byte, .bool x.short, x.kv] true) = K1 := ⟨_, rfl⟩
    have k1 : Keeps K K1 := by rw [← eK1]; exact Keeps.set' (Nat.le_refl _) (Keeps.new' (Keeps.refl _))
    have oN : K1.obj K.next = some (.cells [.int .i64 x.kind, .int .i64 x.n, by8 x.byte, .bool x.short, x.kv] true) := by rw [← eK1, set_obj, if_pos rfl]
    have hD1 := hD.keeps k1
    have hwl := wrs_len (l.take j) d
    rw [List.length_take, Nat.min_eq_left hj] at hwl
    obtain ⟨K2, vw2, hW, hD2, hF2, hI2⟩ := U11 hD1 (by omega) x.n (tx x.byte)
    have hs : wrs d (l.take (j + 1)) = (DS.write (wrs d (l.take j)) x.n (tx x.byte)).1 := by rw [wrs_take d l c, ex]; rfl
    unfold ac at ld
    simp only [b30, e11, e59, e60, e61, c1, ha, ho, ld, eK1, oN, U12t, hW, w1, rwA, rwB, Nat.reduceAdd, Nat.reduceMul, Nat.reduceLeDiff, Int.reduceEq, Int.reduceLT, Int.reduceLE, Int.reduceAdd, Int.reduceSub, Int.reduceMul, ↓reduceIte, Nat.reduceEqDiff, reduceCtorEq, ↓cnd_true, ↓cnd_false]
    rw [outs_some]
    have hFt : Fr (p :: vw.ids) H K2 := (hF.trans (Fr.of (L := []) k1) (by simp)).trans hF2 (fun i hi => by
      rcases List.mem_cons.1 hi with rfl | hi
      · exact .inl (by simp)
      · exact (hI i hi).elim (fun h => .inl (by simp [h])) .inr)
    refine .inl ⟨rfl, j + 1, by omega, by omega, ?_, by simp [Env.set], vw2, by rw [hs]; exact hD2, hFt, ?_⟩
    · intro i h1 h2
      (try simp only [Env.set])
      repeat rw [if_neg (by omega)]
      exact hE i h1 h2
    · intro i hi
      rcases hI2 i hi with hi | hi
      · exact hI i hi
      · exact .inr (by have := hF.1; have := k1.1; omega)
  · have e : j = l.length := by omega
    subst e
    have c1 : decide ((l.length : Int) < (l.length : Int)) = false := by simp
    simp only [b30, e60, e61, c1, rwA, rwB, Nat.reduceAdd, Nat.reduceMul, Nat.reduceLeDiff, Int.reduceEq, Int.reduceLT, Int.reduceLE, Int.reduceAdd, Int.reduceSub, Int.reduceMul, ↓reduceIte, Nat.reduceEqDiff, reduceCtorEq, ↓cnd_true, ↓cnd_false]
    rw [outs_some]
    rw [List.take_length] at hD
    refine .inr ⟨by simp, rfl, ?_, vw', hD, hF, hI⟩
    intro i h1 h2
    simp only [Env.set]
    repeat rw [if_neg (by omega)]
    exact hE i (by omega) h2

theorem loop31 {H : AHeap} {p a : Nat} {g : Option Nat} {vw : AVal} {d : DS} (h : D H p a g vw d) {bv : AVal} {l : List Act} (hb : Sl H 5 bv (l.flatMap ac)) (hid : ∀ i, i ∈ bv.ids → i < H.next ∧ i ≠ p ∧ i ∉ vw.ids) (hl : l.length ≤ 100) (hw : d.w.length ≤ 100) {env : Env}
    (h11 : env 11 = .ptr p 0) (h16 : env 16 = .int .i64 (d.w.length : Int)) (h59 : env 81 = bv) (h60 : env 82 = .int .i64 (l.length : Int)) (h61 : env 83 = .int .i64 0) :
    Outs (AX A (.loop b31) env H) fun e env' K => e = .exit 2 ∧ (∀ i, i < 81 → i ≠ 16 → i ≠ 18 → env' i = env i) ∧ env' 16 = .int .i64 ((wrs d l).w.length : Int) ∧ ∃ vw', D K p a g vw' (wrs d l) ∧ Fr (p :: vw.ids) H K ∧ ∀ i, i ∈ vw'.ids → i ∈ vw.ids ∨ H.next ≤ i := by
  refine loop_ends (I := fun (j : Nat) env' K => j ≤ l.length ∧ (∀ i, i < 83 → i ≠ 16 → i ≠ 18 → env' i = env i) ∧ env' 16 = .int .i64 ((wrs d (l.take j)).w.length : Int) ∧ env' 83 = .int .i64 (j : Int) ∧ ∃ vw', D K p a g vw' (wrs d (l.take j)) ∧ Fr (p :: vw.ids) H K ∧ ∀ i, i ∈ vw'.ids → i ∈ vw.ids ∨ H.next ≤ i) (fun j => l.length - j) ?_ 0 env H
    ⟨Nat.zero_le _, fun _ _ _ _ => rfl, h16, h61, vw, h, Fr.refl _ _, fun i hi => .inl hi⟩
  rintro j env1 K ⟨hj, hE, e16, e61, vw', hD, hF, hI⟩
  have e11 := (hE 11 (by decide) (by decide) (by decide)).trans h11
  have e59 := (hE 81 (by decide) (by decide) (by decide)).trans h59
  have e60 := (hE 82 (by decide) (by decide) (by decide)).trans h60
  by_cases c : j < l.length
  · have c1 : decide ((j : Int) < (l.length : Int)) = true := by simp; omega
    have w1 : IntKind.i64.wrap ((j : Int) + 1) = ((j + 1 : Nat) : Int) := by rw [wrap_i64]; omega
    have hbK := hb.fr hF (fun i hi => ⟨(hid i hi).1, by simp [(hid i hi).2]⟩)
    obtain ⟨id, off, cp, g', k, own, rfl, ho, ld, ha⟩ := act_at hbK c
    obtain ⟨x, ex⟩ : ∃ x, l[j] = x := ⟨_, rfl⟩
    rw [ex] at ld
    obtain ⟨K1, eK1⟩ : ∃ K1, (K.new (.cells [.int .i64 0, .int .i64 0, .int .u8 0, .bool false, .nils] true)).set K.next (.cells [.int .i64 x.kind, .int .i64 x.n, by8 x.byte, .bool x.short, x.kv] true) = K1 := ⟨_, rfl⟩
    have k1 : Keeps K K1 := by rw [← eK1]; exact Keeps.set' (Nat.le_refl _) (Keeps.new' (Keeps.refl _))
    have oN : K1.obj K.next = some (.cells [.int .i64 x.kind, .int .i64 x.n, by8 x.byte, .bool x.short, x.kv] true) := by rw [← eK1, set_obj, if_pos rfl]
    have hD1 := hD.keeps k1
    have hwl := wrs_len (l.take j) d
    rw [List.length_take, Nat.min_eq_left hj] at hwl
    obtain ⟨K2, vw2, hW, hD2, hF2, hI2⟩ := U11 hD1 (by omega) x.n (tx x.byte)
    have hs : wrs d (l.take (j + 1)) = (DS.write (wrs d (l.take j)) x.n (tx x.byte)).1 := by rw [wrs_take d l c, ex]; rfl
    have hlen := wr_len (wrs d (l.take j)) x
    have hlen' : (wrs d (l.take (j + 1))).w.length = (wrs d (l.take j)).w.length + (if decide ((DS.write (wrs d (l.take j)) x.n (tx x.byte)).2 = 0) then 1 else 0) := by rw [hs]; exact hlen
    have hFt : Fr (p :: vw.ids) H K2 := (hF.trans (Fr.of (L := []) k1) (by simp)).trans hF2 (fun i hi => by
      rcases List.mem_cons.1 hi with rfl | hi
      · exact .inl (by simp)
      · exact (hI i hi).elim (fun h => .inl (by simp [h])) .inr)
    have hIt : ∀ i, i ∈ vw2.ids → i ∈ vw.ids ∨ H.next ≤ i := by
      intro i hi
      rcases hI2 i hi with hi | hi
      · exact hI i hi
      · exact .inr (by have := hF.1; have := k1.1; omega)
    have w2 : IntKind.i64.wrap (((wrs d (l.take j)).w.length : Int) + 1) = (((wrs d (l.take j)).w.length + 1 : Nat) : Int) := by rw [wrap_i64]; omega
    unfold ac at ld
    cases c2 : decide ((DS.write (wrs d (l.take j)) x.n (tx x.byte)).2 = 0) <;> rw [c2] at hlen'
    · simp only [b31, e11, e16, e59, e60, e61, c1, c2, ha, ho, ld, eK1, oN, U12t, hW, w1, rwA, rwB, Nat.reduceAdd, Nat.reduceMul, Nat.reduceLeDiff, Int.reduceEq, Int.reduceLT, Int.reduceLE, Int.reduceAdd, Int.reduceSub, Int.reduceMul, ↓reduceIte, Nat.reduceEqDiff, reduceCtorEq, ↓cnd_true, ↓cnd_false]
      rw [outs_some]
      refine .inl ⟨rfl, j + 1, by omega, by omega, ?_, by rw [hlen']; simp [Env.set, e16], by simp [Env.set], vw2, by rw [hs]; exact hD2, hFt, hIt⟩
      intro i h1 h2 h3
      (try simp only [Env.set])
      repeat rw [if_neg (by omega)]
      exact hE i h1 h2 h3
    · simp only [b31, e11, e16, e59, e60, e61, c1, c2, ha, ho, ld, eK1, oN, U12t, hW, w1, w2, rwA, rwB, Nat.reduceAdd, Nat.reduceMul, Nat.reduceLeDiff, Int.reduceEq, Int.reduceLT, Int.reduceLE, Int.reduceAdd, Int.reduceSub, Int.reduceMul, ↓reduceIte, Nat.reduceEqDiff, reduceCtorEq, ↓cnd_true, ↓cnd_false]
      rw [outs_some]
      refine .inl ⟨rfl, j + 1, by omega, by omega, ?_, by rw [hlen']; simp [Env.set], by simp [Env.set], vw2, by rw [hs]; exact hD2, hFt, hIt⟩
      intro i h1 h2 h3
      (try simp only [Env.set])
      repeat rw [if_neg (by omega)]
      exact hE i h1 h2 h3
  · have e : j = l.length := by omega
    subst e
    have c1 : decide ((l.length : Int) < (l.length : Int)) = false := by simp
    simp only [b31, e60, e61, c1, rwA, rwB, Nat.reduceAdd, Nat.reduceMul, Nat.reduceLeDiff, Int.reduceEq, Int.reduceLT, Int.reduceLE, Int.reduceAdd, Int.reduceSub, Int.reduceMul, ↓reduceIte, Nat.reduceEqDiff, reduceCtorEq, ↓cnd_true, ↓cnd_false]
    rw [outs_some]
    rw [List.take_length] at hD e16
    refine .inr ⟨by simp, rfl, ?_, by simp [Env.set, e16], vw', hD, hF, hI⟩
    intro i h1 h2 h3
    simp only [Env.set]
    repeat rw [if_neg (by omega)]
    exact hE i (by omega) h2 h3

theorem loop33 {H : AHeap} {bv : AVal} {l : List Act} (hb : Sl H 5 bv (l.flatMap ac)) (hid : ∀ i, i ∈ bv.ids → i < H.next) (hl : l.length ≤ 100) {i : Nat} {s : List UInt8} {o : Bool} {env : Env}
    (h19 : env 19 = .int .i64 (i : Int)) (h20 : env 20 = .str s) (h21 : env 21 = .bool o) (h59 : env 119 = bv) (h60 : env 120 = .int .i64 (l.length : Int)) (h61 : env 121 = .int .i64 0) :
    Outs (AX A (.loop b33) env H) fun e env' K => e = .exit 6 ∧ (∀ i, i < 119 → i ≠ 21 → i ≠ 23 → env' i = env i) ∧ env' 21 = .bool (o || found i s l) ∧ Keeps H K := by
  refine loop_ends (I := fun (j : Nat) env' K => j ≤ l.length ∧ (∀ i, i < 121 → i ≠ 21 → i ≠ 23 → env' i = env i) ∧ env' 21 = .bool (o || found i s (l.take j)) ∧ env' 121 = .int .i64 (j : Int) ∧ Keeps H K) (fun j => l.length - j) ?_ 0 env H
    ⟨Nat.zero_le _, fun _ _ _ _ => rfl, by rw [h21]; simp [found], h61, Keeps.refl _⟩
  rintro j env1 K ⟨hj, hE, e21, e61, hK⟩
  have e19 := (hE 19 (by decide) (by decide) (by decide)).trans h19
  have e20 := (hE 20 (by decide) (by decide) (by decide)).trans h20
  have e59 := (hE 119 (by decide) (by decide) (by decide)).trans h59
  have e60 := (hE 120 (by decide) (by decide) (by decide)).trans h60
  by_cases c : j < l.length
  · have c1 : decide ((j : Int) < (l.length : Int)) = true := by simp; omega
    have w1 : IntKind.i64.wrap ((j : Int) + 1) = ((j + 1 : Nat) : Int) := by rw [wrap_i64]; omega
    have hbK := hb.keep hid hK
    obtain ⟨id, off, cp, g', k, own, rfl, ho, ld, ha⟩ := act_at hbK c
    have hf : found i s (l.take (j + 1)) = (found i s (l.take j) || (decide (l[j].n = (i : Int)) && decide (s = tx l[j].byte))) := any_take _ l c
    obtain ⟨x, ex⟩ : ∃ x, l[j] = x := ⟨_, rfl⟩
    rw [ex] at ld hf
    obtain ⟨K1, eK1⟩ : ∃ K1, (K.new (.cells [.int .i64 0, .int .i64 0, .int .u8 0, .bool false, .nils] true)).set K.next (.cells [.int .i64 x.kind, .int .i64 x.n, by8 x.byte, .bool x.short, x.kv] true) = K1 := ⟨_, rfl⟩
    have k1 : Keeps K K1 := by rw [← eK1]; exact Keeps.set' (Nat.le_refl _) (Keeps.new' (Keeps.refl _))
    have oN : K1.obj K.next = some (.cells [.int .i64 x.kind, .int .i64 x.n, by8 x.byte, .bool x.short, x.kv] true) := by rw [← eK1, set_obj, if_pos rfl]
    have hne : (K.next = id) = False := by
      have := hid id (by simp [AVal.ids])
      have := hK.1
      simp; omega
    have env_ok : ∀ i, i < 121 → i ≠ 21 → i ≠ 23 → env1 i = env i := hE
    unfold ac at ld
    cases c0 : (o || found i s (l.take j)) <;> rw [c0] at e21 <;> (try cases c2 : decide (x.n = (i : Int))) <;> (try cases c3 : decide (s = tx x.byte))
    all_goals
      simp only [b33, e19, e20, e21, e59, e60, e61, c1, ha, ho, ld, eK1, oN, U12t, w1, *, rwA, rwB, Nat.reduceAdd, Nat.reduceMul, Nat.reduceLeDiff, Int.reduceEq, Int.reduceLT, Int.reduceLE, Int.reduceAdd, Int.reduceSub, Int.reduceMul, ↓reduceIte, Nat.reduceEqDiff, reduceCtorEq, ↓cnd_true, ↓cnd_false]
      rw [outs_some]
      refine .inl ⟨rfl, j + 1, by omega, by omega, ?_, by rw [hf, ← Bool.or_assoc, c0]; (try rw [c2]); (try rw [c3]); simp [Env.set], by simp [Env.set], hK.trans k1⟩
      intro i h1 h2 h3
      (try simp only [Env.set])
      repeat rw [if_neg (by omega)]
      exact env_ok i h1 h2 h3
  · have e : j = l.length := by omega
    subst e
    have c1 : decide ((l.length : Int) < (l.length : Int)) = false := by simp
    simp only [b33, e60, e61, c1, rwA, rwB, Nat.reduceAdd, Nat.reduceMul, Nat.reduceLeDiff, Int.reduceEq, Int.reduceLT, Int.reduceLE, Int.reduceAdd, Int.reduceSub, Int.reduceMul, ↓reduceIte, Nat.reduceEqDiff, reduceCtorEq, ↓cnd_true, ↓cnd_false]
    rw [outs_some]
    rw [List.take_length] at e21
    refine .inr ⟨by simp, rfl, ?_, by simp [Env.set, e21], hK⟩
    intro i h1 h2 h3
    simp only [Env.set]
    repeat rw [if_neg (by omega)]
    exact hE i (by omega) h2 h3

theorem loop32 {H : AHeap} {p a : Nat} {g : Option Nat} {vw : AVal} {n : Nat} {d2 d4 : DS} (h : DL H p a g vw d4) (hw : d4.w.length < 1000000) (hn4 : d4.s.length = n) (hn2 : d2.s.length = n) (hn : n < 1000000) {bv sv wv kv : AVal} {behind : List Act} {keep : List Bool}
    (hb : Sl H 5 bv (behind.flatMap ac)) (hbi : ∀ i, i ∈ bv.ids → i < H.next) (hl : behind.length ≤ 100) (hs : Sl H 1 sv (d4.s.map .str)) (hsi : ∀ i, i ∈ sv.ids → i < H.next) (hws : Sl H 1 wv (d2.s.map .str)) (hwi : ∀ i, i ∈ wv.ids → i < H.next) (hk : Sl H 1 kv (keep.map .bool))
    (law : ∀ i, i < n → (decide (d4.s.getD i [] = d2.s.getD i []) || found i (d4.s.getD i []) behind) = true ∧ d4.read i = (d4.s.getD i [], 0) ∧ (keep = [] → d4.s = d2.s)) {env : Env}
    (h2 : env 2 = bv) (h4 : env 4 = kv) (h11 : env 11 = .ptr p 0) (h15 : env 15 = wv) (h106 : env 106 = sv) (h107 : env 107 = .int .i64 (n : Int)) (h108 : env 108 = .int .i64 0) :
    Outs (AX A (.loop b32) env H) fun e env' K => e = .exit 4 ∧ env' 11 = .ptr p 0 ∧ Keeps H K := by
  refine loop_ends (I := fun (j : Nat) env' K => j ≤ n ∧ (∀ i, i < 108 → i ≠ 19 → i ≠ 20 → i ≠ 21 → i ≠ 23 → i ≠ 24 → i ≠ 25 → env' i = env i) ∧ env' 108 = .int .i64 (j : Int) ∧ Keeps H K) (fun j => n - j) ?_ 0 env H
    ⟨Nat.zero_le _, fun _ _ _ _ _ _ _ _ => rfl, h108, Keeps.refl _⟩
  rintro j env1 K ⟨hj, hE, e108, hK⟩
  have g := fun i (h : i < 108 ∧ i ≠ 19 ∧ i ≠ 20 ∧ i ≠ 21 ∧ i ≠ 23 ∧ i ≠ 24 ∧ i ≠ 25) => hE i h.1 h.2.1 h.2.2.1 h.2.2.2.1 h.2.2.2.2.1 h.2.2.2.2.2.1 h.2.2.2.2.2.2
  have e2 := (g 2 (by decide)).trans h2
  have e4 := (g 4 (by decide)).trans h4
  have e11 := (g 11 (by decide)).trans h11
  have e15 := (g 15 (by decide)).trans h15
  have e106 := (g 106 (by decide)).trans h106
  have e107 := (g 107 (by decide)).trans h107
  by_cases c : j < n
  · have c1 : decide ((j : Int) < (n : Int)) = true := by simp; omega
    have w1 : IntKind.i64.wrap ((j : Int) + 1) = ((j + 1 : Nat) : Int) := by rw [wrap_i64]; omega
    obtain ⟨id, off, cp, g', k, own, rfl, ho, _, hc⟩ := (hs.keep hsi hK).elem1 (i := j) (by omega)
    obtain ⟨id', off', cp', g'', k', own', rfl, ho', _, hc'⟩ := (hws.keep hwi hK).elem1 (i := j) (by omega)
    have ha : aidx d4.s.length (.int .i64 (j : Int)) = some j := by simp [aidx]; omega
    have ha' : aidx d2.s.length (.int .i64 (j : Int)) = some j := by simp [aidx]; omega
    obtain ⟨l1, l2, l3⟩ := law j c
    obtain ⟨x, ex⟩ : ∃ x, d4.s.getD j [] = x := ⟨_, rfl⟩
    obtain ⟨y, ey⟩ : ∃ y, d2.s.getD j [] = y := ⟨_, rfl⟩
    have ex' : d4.s[j]'(by omega) = x := by rw [← ex]; simp [show j < d4.s.length by omega]
    have ey' : d2.s[j]'(by omega) = y := by rw [← ey]; simp [show j < d2.s.length by omega]
    rw [ex'] at hc
    rw [ey'] at hc'
    rw [ex, ey] at l1
    rw [ex] at l2
    have hbl := (hb.keep hbi hK).alen
    rw [slen_fm ac_len (by decide) hb] at hbl
    have hkl := hk.alen
    rw [slen1 hk] at hkl
    have key : ∀ env : Env, _ := fun env => loop33 (env := env) (i := j) (s := x) (o := decide (x = y)) (hb.keep hbi hK) (fun i hi => Nat.lt_of_lt_of_le (hbi i hi) hK.1) hl
    simp only [b32, e2, e106, e107, e108, e15, c1, ha, ha', ho, ho', hc, hc', hbl, rwA, rwB, Nat.reduceAdd, Nat.reduceMul, Nat.reduceLeDiff, Int.reduceEq, Int.reduceLT, Int.reduceLE, Int.reduceAdd, Int.reduceSub, Int.reduceMul, ↓reduceIte, Nat.reduceEqDiff, reduceCtorEq, ↓cnd_true, ↓cnd_false]
    repeat (first | refine outs_seq ?_ | refine outs_block ?_ | refine outs_step ?_ | refine outs_stepD ?_ | refine rets_end ?_ | refine ans_end ?_)
    refine outs_gen (fun env' => (∀ i, i < 108 → i ≠ 19 → i ≠ 20 → i ≠ 21 → i ≠ 23 → i ≠ 24 → i ≠ 25 → env' i = env i) ∧ env' 108 = .int .i64 (j : Int) ∧ env' 19 = .int .i64 (j : Int) ∧ env' 20 = .str x ∧ env' 21 = .bool (decide (x = y)) ∧ env' 119 = bv ∧ env' 120 = .int .i64 (behind.length : Int) ∧ env' 121 = .int .i64 0) ?_ ?_
    · refine ⟨?_, by simp [Env.set, e108], by simp [Env.set], by simp [Env.set], by simp [Env.set], by simp [Env.set], by simp [Env.set], by simp [Env.set]⟩
      intro i h1 h2 h3 h4 h5 h6 h7
      (try simp only [Env.set])
      repeat rw [if_neg (by omega)]
      exact hE i h1 h2 h3 h4 h5 h6 h7
    rintro env2 ⟨hE2, f108, f19, f20, f21, f119, f120, f121⟩
    refine (key env2 f19 f20 f21 f119 f120 f121).mono ?_
    rintro e env3 K2 ⟨rfl, hE3, g21, hK2⟩
    rw [l1] at g21
    have G := fun i (h : i < 108 ∧ i ≠ 19 ∧ i ≠ 20 ∧ i ≠ 21 ∧ i ≠ 23 ∧ i ≠ 24 ∧ i ≠ 25) => (hE3 i (by omega) h.2.2.2.1 h.2.2.2.2.1).trans (hE2 i h.1 h.2.1 h.2.2.1 h.2.2.2.1 h.2.2.2.2.1 h.2.2.2.2.2.1 h.2.2.2.2.2.2)
    have g4 := (G 4 (by decide)).trans h4
    have g11 := (G 11 (by decide)).trans h11
    have g15 := (G 15 (by decide)).trans h15
    have g19 := (hE3 19 (by decide) (by decide) (by decide)).trans f19
    have g20 := (hE3 20 (by decide) (by decide) (by decide)).trans f20
    have g108 := (hE3 108 (by decide) (by decide) (by decide)).trans f108
    have u18 := U18 (h.keeps (hK.trans hK2)) hw (j : Int)
    rw [l2] at u18
    have ho2 : K2.obj id' = some (.cells k' own') := by rw [hK2.2 _ (by have := hwi id' (by simp [AVal.ids]); have := hK.1; omega)]; exact ho'
    have fin : ∀ env' : Env, env' = env' → (∀ i, i < 108 → i ≠ 19 → i ≠ 20 → i ≠ 21 → i ≠ 23 → i ≠ 24 → i ≠ 25 → env3 i = env i) := fun _ _ i h1 h2 h3 h4 h5 h6 h7 => G i ⟨h1, h2, h3, h4, h5, h6, h7⟩
    cases ck : decide ((keep.length : Int) = 0)
    · simp only [outs_some, g4, g11, g15, g19, g20, g21, g108, u18, hkl, ck, w1, rwA, rwB, Nat.reduceAdd, Nat.reduceMul, Nat.reduceLeDiff, Int.reduceEq, Int.reduceLT, Int.reduceLE, Int.reduceAdd, Int.reduceSub, Int.reduceMul, ↓reduceIte, Nat.reduceEqDiff, reduceCtorEq, ↓cnd_true, ↓cnd_false]
      refine .inl ⟨trivial, j + 1, by omega, by omega, ?_, by simp [Env.set], hK.trans hK2⟩
      intro i h1 h2 h3 h4 h5 h6 h7
      (try simp only [Env.set])
      repeat rw [if_neg (by omega)]
      exact G i ⟨h1, h2, h3, h4, h5, h6, h7⟩
    · have hk0 : keep = [] := List.eq_nil_of_length_eq_zero (by simp at ck; simp [ck])
      have exy : x = y := by rw [← ex, ← ey, l3 hk0]
      subst exy
      simp only [outs_some, g4, g11, g15, g19, g20, g21, g108, u18, hkl, ck, ha', ho2, hc', w1, rwA, rwB, Nat.reduceAdd, Nat.reduceMul, Nat.reduceLeDiff, Int.reduceEq, Int.reduceLT, Int.reduceLE, Int.reduceAdd, Int.reduceSub, Int.reduceMul, ↓reduceIte, Nat.reduceEqDiff, reduceCtorEq, ↓cnd_true, ↓cnd_false]
      refine .inl ⟨trivial, j + 1, by omega, by omega, ?_, by simp [Env.set], hK.trans hK2⟩
      intro i h1 h2 h3 h4 h5 h6 h7
      (try simp only [Env.set])
      repeat rw [if_neg (by omega)]
      exact G i ⟨h1, h2, h3, h4, h5, h6, h7⟩
  · have e : j = n := by omega
    subst e
    have c1 : decide ((j : Int) < (j : Int)) = false := by simp
    simp only [b32, e107, e108, c1, rwA, rwB, Nat.reduceAdd, Nat.reduceMul, Nat.reduceLeDiff, Int.reduceEq, Int.reduceLT, Int.reduceLE, Int.reduceAdd, Int.reduceSub, Int.reduceMul, ↓reduceIte, Nat.reduceEqDiff, reduceCtorEq, ↓cnd_true, ↓cnd_false]
    rw [outs_some]
    exact .inr ⟨by simp, rfl, by simp [Env.set, e11], hK⟩

end Go.Proofs.Ytilhjcnkaelheaa.Dk
