/- DiskPlays: the law. -/
import Derived.Test.YtilhjcnkaelheaaDq
import Derived.Test.YtilhjcnkaelheaaDi
set_option maxRecDepth 100000
set_option linter.unusedSimpArgs false
set_option linter.unusedVariables false
set_option maxHeartbeats 4000000
namespace Go.Proofs.Ytilhjcnkaelheaa.Dk
open Go Go.Proofs.Ytilhjcnkaelheaa.Am DnFns Go.RowKit
open Sd (Sec noughts home homeno ofHome ofNo opened unfit pad)

def acts (d : DS) (l : List Act) : DS := l.foldl act d
theorem acts_take (d : DS) (l : List Act) {j : Nat} (h : j < l.length) : acts d (l.take (j + 1)) = act (acts d (l.take j)) l[j] := by
  rw [List.take_add_one, List.getElem?_eq_getElem h, Option.toList_some]
  unfold acts; rw [List.foldl_append]; rfl
theorem acts_w (l : List Act) : ∀ d : DS, (acts d l).w.length ≤ d.w.length + l.length := by
  induction l with
  | nil => intro d; exact Nat.le_refl _
  | cons a l ih =>
    intro d
    have h1 := ih (act d a)
    have h2 := act_w d a
    show (acts (act d a) l).w.length ≤ _
    simp only [List.length_cons]
    omega
theorem act_s (d : DS) (x : Act) : (act d x).s.length = d.s.length := by
  unfold act
  split
  · unfold DS.write
    split
    · split
      · show d.step.s.length = _; rw [step_s]
      · show d.step.s.length = _; rw [step_s]
    · rfl
  · split
    · unfold DS.flush
      split
      · show (puts d.step.s _).length = _; rw [puts_len, step_s]
      · show d.step.s.length = _; rw [step_s]
    · split
      · rfl
      · split
        · show (puts d.s _).length = _; rw [puts_len]
        · rfl
theorem acts_s (l : List Act) : ∀ d : DS, (acts d l).s.length = d.s.length := by
  induction l with
  | nil => intro d; rfl
  | cons a l ih => intro d; show (acts (act d a) l).s.length = _; rw [ih, act_s]

theorem Two.fr {B H K : AHeap} {M : List Nat} {p a : Nat} {g : Option Nat} {vw vs rw : AVal} {d : DS} (T : Two B H p a g vw vs rw d) (f : Fr M H K) (hM : ∀ i, i ∈ M → B.next ≤ i ∧ i ≠ p ∧ i ≠ a ∧ i ∉ vw.ids ∧ i ∉ vs.ids ∧ i ∉ rw.ids) : Two B K p a g vw vs rw d :=
  ⟨T.D.fr f (fun h => (hM _ h).2.1 rfl) (fun h => (hM _ h).2.2.1 rfl) (fun i hi h => (hM _ h).2.2.2.1 hi), T.R.fr f (fun i hi h => (hM _ h).2.2.2.2.1 hi) (fun i hi h => (hM _ h).2.2.2.2.2 hi), T.sv, T.sw,
    ⟨Nat.le_trans T.base.1 f.1, fun i hi => by rw [f.2 i (Nat.lt_of_lt_of_le hi T.base.1) (fun h => by have := (hM _ h).1; omega)]; exact T.base.2 i hi⟩, T.bp, T.ba, T.bw⟩

theorem ok_34 (st : List AHeap) (o : AOp) (env : Env) (v : AVal) : ARead.ok st ⟨o, env, v, 3, 4⟩ = (okAt o env v st[3]? && okAt o env v st[4]?) := by rw [ok_lohi]; simp [List.range_succ]

def b4 : ACode := (.seq (.region [⟨(some 60), (.bin .lss (.tmp 59) (.tmp 58)), none, none⟩]) (.seq (.cond (.tmp 60) .skip (.exit 0)) (.seq (.block 1 (.seq (.region [⟨(some 61), (.idxASl 5 (.tmp 57) (.tmp 59)), none, none⟩, ⟨(some 62), (.load true 5 (.tmp 61)), none, none⟩, ⟨(some 12), (.new [(.int .i64 0), (.int .i64 0), (.int .u8 0), (.bool false), .nils]), none, none⟩, ⟨none, (.store 5 (.tmp 12) (.tmp 62)), none, none⟩]) (.seq (.region [⟨(some 13), (.mv (.con (.bool false))), none, none⟩]) (.seq (.region [⟨(some 64), (.mv (.tmp 7)), none, none⟩, ⟨(some 65), (.load true 5 (.tmp 9)), none, none⟩, ⟨(some 66), (.load true 5 (.tmp 12)), none, none⟩, ⟨(some 67), (.call (.con (.func 21 [] [])) [(.tmp 64), (.tmp 65), (.tmp 66)]), none, none⟩, ⟨(some 63), (.mv (.tmp 67)), none, none⟩, ⟨(some 68), (.extract (.tmp 63) 0), none, none⟩, ⟨(some 69), (.extract (.tmp 63) 1), none, none⟩, ⟨(some 70), (.extract (.tmp 63) 2), none, none⟩, ⟨(some 7), (.mv (.tmp 68)), none, none⟩, ⟨none, (.store 5 (.tmp 9) (.tmp 69)), none, none⟩, ⟨(some 13), (.mv (.tmp 70)), none, none⟩]) (.seq (.seq (.region [⟨(some 71), (.mv (.tmp 13)), none, none⟩, ⟨(some 72), (.un .not (.tmp 71)), none, none⟩]) (.cond (.tmp 72) (.seq (.region [⟨(some 6), (.mv (.con (.bool false))), none, none⟩]) .ret) .skip)) (.seq (.region [⟨(some 74), (.load true 5 (.tmp 9)), none, none⟩, ⟨(some 75), (.mv (.tmp 2)), none, none⟩, ⟨(some 76), (.call (.con (.func 22 [] [])) [(.tmp 74), (.tmp 75)]), none, none⟩, ⟨(some 73), (.mv (.tmp 76)), none, none⟩, ⟨(some 77), (.extract (.tmp 73) 0), none, none⟩, ⟨(some 78), (.extract (.tmp 73) 1), none, none⟩, ⟨(some 14), (.mv (.tmp 77)), none, none⟩, ⟨(some 15), (.mv (.tmp 78)), none, none⟩]) (.seq (.region [⟨(some 80), (.mv (.tmp 7)), none, none⟩, ⟨(some 81), (.mv (.tmp 2)), none, none⟩, ⟨(some 82), (.call (.con (.func 18 [] [])) [(.tmp 80), (.tmp 81)]), none, none⟩, ⟨(some 79), (.mv (.tmp 82)), none, none⟩, ⟨(some 83), (.extract (.tmp 79) 0), none, none⟩, ⟨(some 84), (.extract (.tmp 79) 1), none, none⟩, ⟨(some 16), (.mv (.tmp 83)), none, none⟩, ⟨(some 17), (.mv (.tmp 84)), none, none⟩]) (.seq (.draw [⟨(some 85), (.mv (.tmp 14)), none, none⟩, ⟨(some 86), (.mv (.tmp 16)), none, none⟩, ⟨(some 87), (.bin .neq (.tmp 85) (.tmp 86)), none, none⟩, ⟨(some 88), (.mv (.tmp 87)), none, none⟩, ⟨(some 89), (.mv (.tmp 15)), (some (88, false)), none⟩, ⟨(some 90), (.mv (.tmp 17)), (some (88, false)), none⟩, ⟨(some 91), (.bin .neq (.tmp 89) (.tmp 90)), (some (88, false)), none⟩, ⟨(some 92), (.pick (.tmp 88) (.con (.bool true)) (.tmp 91)), none, none⟩, ⟨(some 93), (.mv (.tmp 92)), none, none⟩, ⟨(some 94), (.mv (.tmp 7)), (some (93, false)), none⟩, ⟨(some 95), (.call (.con (.func 19 [] [])) [(.tmp 94)]), (some (93, false)), none⟩, ⟨(some 96), (.fieldA 3 (.tmp 9)), (some (93, false)), none⟩, ⟨(some 97), (.load false 1 (.tmp 96)), (some (93, false)), (some (0, 1))⟩, ⟨(some 98), (.eq true .bool (.tmp 95) (.tmp 97)), (some (93, false)), none⟩, ⟨(some 99), (.pick (.tmp 93) (.con (.bool true)) (.tmp 98)), none, none⟩, ⟨(some 100), (.mv (.tmp 99)), none, none⟩, ⟨(some 101), (.mv (.tmp 7)), (some (100, false)), none⟩, ⟨(some 102), (.call (.con (.func 16 [] [])) [(.tmp 101)]), (some (100, false)), none⟩, ⟨(some 103), (.fieldA 1 (.tmp 9)), (some (100, false)), none⟩, ⟨(some 104), (.load false 1 (.tmp 103)), (some (100, false)), (some (1, 2))⟩, ⟨(some 105), (.len false (.tmp 104)), (some (100, false)), none⟩, ⟨(some 106), (.bin .neq (.tmp 102) (.tmp 105)), (some (100, false)), none⟩, ⟨(some 107), (.pick (.tmp 100) (.con (.bool true)) (.tmp 106)), none, none⟩, ⟨(some 108), (.mv (.tmp 107)), none, none⟩, ⟨(some 109), (.mv (.tmp 7)), (some (108, false)), none⟩, ⟨(some 110), (.call (.con (.func 23 [] [])) [(.tmp 109)]), (some (108, false)), none⟩, ⟨(some 111), (.fieldA 4 (.tmp 9)), (some (108, false)), none⟩, ⟨(some 112), (.load false 1 (.tmp 111)), (some (108, false)), (some (2, 3))⟩, ⟨(some 113), (.bin .neq (.tmp 110) (.tmp 112)), (some (108, false)), none⟩, ⟨(some 114), (.pick (.tmp 108) (.con (.bool true)) (.tmp 113)), none, none⟩, ⟨(some 115), (.mv (.tmp 114)), none, none⟩, ⟨(some 116), (.mv (.tmp 7)), (some (115, false)), none⟩, ⟨(some 117), (.call (.con (.func 14 [] [])) [(.tmp 116)]), (some (115, false)), none⟩, ⟨(some 118), (.fieldA 0 (.tmp 9)), (some (115, false)), none⟩, ⟨(some 119), (.load false 1 (.tmp 118)), (some (115, false)), (some (3, 4))⟩, ⟨(some 120), (.call (.con (.func 24 [] [])) [(.tmp 117), (.tmp 119)]), (some (115, false)), none⟩, ⟨(some 121), (.un .not (.tmp 120)), (some (115, false)), none⟩, ⟨(some 122), (.pick (.tmp 115) (.con (.bool true)) (.tmp 121)), none, none⟩, ⟨(some 123), (.mv (.tmp 122)), none, none⟩, ⟨(some 124), (.mv (.tmp 7)), (some (123, false)), none⟩, ⟨(some 125), (.call (.con (.func 25 [] [])) [(.tmp 124)]), (some (123, false)), none⟩, ⟨(some 126), (.mv (.tmp 0)), (some (123, false)), none⟩, ⟨(some 127), (.bin .neq (.tmp 125) (.tmp 126)), (some (123, false)), none⟩, ⟨(some 128), (.pick (.tmp 123) (.con (.bool true)) (.tmp 127)), none, none⟩]) (.cond (.tmp 128) (.seq (.region [⟨(some 6), (.mv (.con (.bool false))), none, none⟩]) .ret) .skip))))))))) (.region [⟨(some 129), (.bin .add (.tmp 59) (.con (.int .i64 1))), none, none⟩, ⟨(some 59), (.mv (.tmp 129)), none, none⟩]))))

theorem loop4 {B H : AHeap} {q n : Nat} {at' : Int} {lv : AVal} {l : List Act} {d : DS} (hl : Sl B 5 lv (l.flatMap ac)) (hli : ∀ i, i ∈ lv.ids → i < B.next) (hln : l.length ≤ 60) (hmem : ∀ a, a ∈ l → a.mem B) (hw : d.w = []) (hn : d.s.length = n)
    {p a : Nat} {g : Option Nat} {vw vs rw : AVal} (T : Two B H p a g vw vs rw d) (hq : H.obj q = some (.cells (rc vs rw d) true)) (hqn : q < H.next) (hqB : B.next ≤ q) (hqd : ∀ i, (i = p ∨ i = a ∨ i ∈ vw.ids ∨ i ∈ vs.ids ∨ i ∈ rw.ids) → i ≠ q) {env : Env}
    (h0 : env 0 = .int .i64 (n : Int)) (h2 : env 2 = .int .i64 at') (h7 : env 7 = .ptr p 0) (h8 : env 8 = .int .i64 0) (h9 : env 9 = .ptr q 0) (h57 : env 57 = lv) (h58 : env 58 = .int .i64 (l.length : Int)) (h59 : env 59 = .int .i64 0) :
    Outs (AX A (.loop b4) env H) fun e env' K => e = .exit 0 ∧ env' 8 = .int .i64 0 := by
  refine loop_ends (I := fun (j : Nat) env' K => j ≤ l.length ∧ env' 0 = .int .i64 (n : Int) ∧ env' 2 = .int .i64 at' ∧ env' 8 = .int .i64 0 ∧ env' 9 = .ptr q 0 ∧ env' 57 = lv ∧ env' 58 = .int .i64 (l.length : Int) ∧ env' 59 = .int .i64 (j : Int) ∧
    ∃ p a g vw vs rw, env' 7 = .ptr p 0 ∧ Two B K p a g vw vs rw (acts d (l.take j)) ∧ K.obj q = some (.cells (rc vs rw (acts d (l.take j))) true) ∧ q < K.next ∧ (∀ i, (i = p ∨ i = a ∨ i ∈ vw.ids ∨ i ∈ vs.ids ∨ i ∈ rw.ids) → i ≠ q)) (fun j => l.length - j) ?_ 0 env H
    ⟨Nat.zero_le _, h0, h2, h8, h9, h57, h58, h59, p, a, g, vw, vs, rw, h7, T, hq, hqn, hqd⟩
  rintro j env1 K ⟨hj, h0, h2, h8, h9, h57, h58, h59, p, a, g, vw, vs, rw, h7, T, hq, hqn, hqd⟩
  by_cases c : j < l.length
  · have c1 : decide ((j : Int) < (l.length : Int)) = true := by simp; omega
    have w1 : IntKind.i64.wrap ((j : Int) + 1) = ((j + 1 : Nat) : Int) := by rw [wrap_i64]; omega
    obtain ⟨id, off, cp, g', k, own, rfl, ho, ld, ha⟩ := act_at (hl.keep hli T.base) c
    have ht := acts_take d l c
    have hx := hmem l[j] (List.getElem_mem c)
    have hwl := acts_w (l.take j) d
    rw [hw, List.length_take] at hwl
    have hsl := acts_s (l.take (j + 1)) d
    have hwl2 := acts_w (l.take (j + 1)) d
    rw [hw, List.length_take] at hwl2
    obtain ⟨x, ex⟩ : ∃ x, l[j] = x := ⟨_, rfl⟩
    rw [ex] at ld ht hx
    obtain ⟨d0, ed0⟩ : ∃ d0, acts d (l.take j) = d0 := ⟨_, rfl⟩
    rw [ed0] at T hq hwl ht
    obtain ⟨d', ed'⟩ : ∃ d', act d0 x = d' := ⟨_, rfl⟩
    rw [ht, ed'] at hsl hwl2
    rw [ed'] at ht
    rw [hn] at hsl
    obtain ⟨K1, eK1⟩ : ∃ K1, (K.new (.cells [.int .i64 0, .int .i64 0, .int .u8 0, .bool false, .nils] true)).set K.next (.cells (ac x) true) = K1 := ⟨_, rfl⟩
    have k1 : Keeps K K1 := by rw [← eK1]; exact Keeps.set' (Nat.le_refl _) (Keeps.new' (Keeps.refl _))
    have oN : K1.obj K.next = some (.cells (ac x) true) := by rw [← eK1, set_obj, if_pos rfl]
    have q1 : K1.obj q = some (.cells (rc vs rw d0) true) := by rw [k1.2 _ hqn]; exact hq
    have x1 := k1.1
    have T1 := T.fr (M := []) (Fr.of k1) (by simp)
    obtain ⟨H2, p', a', g2, vw', vs', rw', e21, T2, F2, N2⟩ := U21 T1 (by simp at hwl; omega) hx
    rw [ed'] at e21 T2
    have x2 := F2.1
    have q2 : H2.obj q = some (.cells (rc vs rw d0) true) := by
      rw [F2.2 q (by omega) (fun hm => by
        simp only [List.mem_cons] at hm
        rcases hm with h | h | h
        · exact hqd q (.inl h) rfl
        · exact hqd q (.inr (.inl h)) rfl
        · exact hqd q (.inr (.inr (.inl h))) rfl)]
      exact q1
    have hqd' : ∀ i, (i = p' ∨ i = a' ∨ i ∈ vw'.ids ∨ i ∈ vs'.ids ∨ i ∈ rw'.ids) → i ≠ q := fun i hi => (N2 i hi).elim (hqd i) (by omega)
    obtain ⟨H3, eH3⟩ : ∃ H3, H2.set q (.cells (rc vs' rw' d') true) = H3 := ⟨_, rfl⟩
    have f3 : Fr [q] H2 H3 := by rw [← eH3]; exact Fr.set (.inl (by simp)) (Fr.refl _ _)
    have T3 := T2.fr f3 (fun i hi => by
      simp at hi; subst hi
      exact ⟨hqB, fun h => hqd' _ (.inl h) rfl, fun h => hqd' _ (.inr (.inl h)) rfl, fun h => hqd' _ (.inr (.inr (.inl h))) rfl, fun h => hqd' _ (.inr (.inr (.inr (.inl h)))) rfl, fun h => hqd' _ (.inr (.inr (.inr (.inr h)))) rfl⟩)
    have q3 : H3.obj q = some (.cells (rc vs' rw' d') true) := by rw [← eH3, set_obj, if_pos rfl]
    have x3 := f3.1
    have L3 := T3.D.look
    have hw3 : d'.w.length < 1000000 := by simp at hwl2; omega
    have u22 := U22 T3.R hw3 at'
    have u18 := U18 L3 hw3 at'
    have u19 := U19 L3
    have u16 := U16 L3
    have u23 := U23 L3
    have u14 := U14 L3 T3.D.n1 T3.D.n2
    obtain ⟨H4, eH4⟩ : ∃ H4, H3.new (.cells (d'.s.map .str) true) = H4 := ⟨_, rfl⟩
    have k4 : Keeps H3 H4 := by rw [← eH4]; exact Keeps.new _ _
    have T4 := T3.fr (M := []) (Fr.of k4) (by simp)
    have oS : H4.obj H3.next = some (.cells (d'.s.map .str) true) := by rw [← eH4, new_obj, if_pos rfl]
    have q4 : H4.obj q = some (.cells (rc vs' rw' d') true) := by rw [k4.2 q (by omega)]; exact q3
    rw [eH4] at u14
    have u24 := U24 (safe_sl (g := some 1) oS) T4.R.ss (by rw [hsl]; have := T3.D.n2; omega)
    have dz : decide (d'.s = d'.s) = true := by simp
    have u25 := U25 T4.D.look
    have wl := T3.R.wlen
    have wl4 := T4.R.wlen
    rw [dz] at u24
    rw [hsl] at u25
    have s1 := sl_shape' T.R.ss
    have s2 := sl_shape' T.R.sw
    have s3 := sl_shape' hx.1
    have s4 := sl_shape' T2.R.ss
    have s5 := sl_shape' T2.R.sw
    obtain ⟨rd1, e1⟩ : ∃ y, (d'.read at').1 = y := ⟨_, rfl⟩
    obtain ⟨rd2, e2⟩ : ∃ y, (d'.read at').2 = y := ⟨_, rfl⟩
    rw [e1, e2] at u22 u18
    have x4 := k4.1
    unfold ac at ld eK1 oN e21
    unfold rc at e21 q1 q2 q3 q4 eH3 u22
    simp only [b4, h0, h2, h7, h8, h9, h57, h58, h59, c1, ha, ho, ld, eK1, oN, q1, e21, q2, q3, q4, eH3, u22, u18, u19, u16, u23, u14, u24, u25, wl, wl4, w1, ok_34, rwA, rwB, Nat.reduceAdd, Nat.reduceMul, Nat.reduceLeDiff, Int.reduceEq, Int.reduceLT, Int.reduceLE, Int.reduceAdd, Int.reduceSub, Int.reduceMul, ↓reduceIte, Nat.reduceEqDiff, reduceCtorEq, ↓cnd_true, ↓cnd_false]
    rw [outs_some]
    refine .inl ⟨rfl, j + 1, by omega, by omega, by simp [Env.set, h0], by simp [Env.set, h2], by simp [Env.set, h8], by simp [Env.set, h9], by simp [Env.set, h57], by simp [Env.set, h58], by simp [Env.set], p', a', g2, vw', vs', rw', by simp [Env.set], ?_, ?_, by omega, hqd' _ (.inl rfl), hqd' _ (.inr (.inl rfl)), fun i hi => hqd' i (.inr (.inr hi))⟩
    · rw [ht]; exact T4
    · rw [ht]; exact q4
  · have e : j = l.length := by omega
    subst e
    have c1 : decide ((l.length : Int) < (l.length : Int)) = false := by simp
    simp only [b4, h58, h59, c1, rwA, rwB, Nat.reduceAdd, Nat.reduceMul, Nat.reduceLeDiff, Int.reduceEq, Int.reduceLT, Int.reduceLE, Int.reduceAdd, Int.reduceSub, Int.reduceMul, ↓reduceIte, Nat.reduceEqDiff, reduceCtorEq, ↓cnd_true, ↓cnd_false]
    rw [outs_some]
    exact .inr ⟨by simp, rfl, by simp [Env.set, h8]⟩

theorem run4 {H : AHeap} {n at' : Int} {lv : AVal} {l : List Act} (hl : Sl H 5 lv (l.flatMap ac)) (hli : ∀ i, i ∈ lv.ids → i < H.next) (hmem : ∀ a, a ∈ l → a.mem H) :
    Ans (AC A 4 [.int .i64 n, lv, .int .i64 at'] H) (.bool true) := by
  rw [s_fn (A := A) (f := 4) (x := DnFns.c4) rfl rfl rfl]
  have ll := hl.alen
  rw [slen_fm ac_len (by decide) hl] at ll
  cases c1 : (decide (60 < n) && decide (n ≤ 4865))
  rotate_left
  · simp only [Bool.and_eq_true] at c1
    simp only [c4, U9, c1.1, c1.2, rwA, rwB, Nat.reduceAdd, Nat.reduceMul, Nat.reduceLeDiff, Int.reduceEq, Int.reduceLT, Int.reduceLE, Int.reduceAdd, Int.reduceSub, Int.reduceMul, ↓reduceIte, Nat.reduceEqDiff, reduceCtorEq, ↓cnd_true, ↓cnd_false]
  cases c2 : decide ((60 : Int) < (l.length : Int))
  rotate_left
  · cases c3 : decide (60 < n)
    · simp only [c4, U9, c3, c2, ll, rwA, rwB, Nat.reduceAdd, Nat.reduceMul, Nat.reduceLeDiff, Int.reduceEq, Int.reduceLT, Int.reduceLE, Int.reduceAdd, Int.reduceSub, Int.reduceMul, ↓reduceIte, Nat.reduceEqDiff, reduceCtorEq, ↓cnd_true, ↓cnd_false]
    · rw [c3, Bool.true_and] at c1
      simp only [c4, U9, c3, c1, c2, ll, rwA, rwB, Nat.reduceAdd, Nat.reduceMul, Nat.reduceLeDiff, Int.reduceEq, Int.reduceLT, Int.reduceLE, Int.reduceAdd, Int.reduceSub, Int.reduceMul, ↓reduceIte, Nat.reduceEqDiff, reduceCtorEq, ↓cnd_true, ↓cnd_false]
  have hln : l.length ≤ 60 := by simp at c2; omega
  have key : ∀ (b1 b2 : Bool), decide (60 < n) = b1 → decide (n ≤ 4865) = b2 → (b1 && b2) = false → Ans (endX c4.results (AX A c4.body (ainit [.int .i64 n, lv, .int .i64 at']) H)) (.bool true) := by
    intro b1 b2 e1 e2 e12
    by_cases hn : 1 ≤ n ∧ n ≤ 4865
    · obtain ⟨m, rfl⟩ : ∃ m : Nat, n = (m : Int) := ⟨n.toNat, by omega⟩
      have e2' : b2 = true := by rw [← e2]; simp; omega
      subst e2'
      have e1' : b1 = false := by simpa using e12
      subst e1'
      obtain ⟨H1, eN, hD, k1⟩ := U10 (n := m) (by omega) (by omega) H
      obtain ⟨H2, vs, e20, hR, k2, hv⟩ := U20 (n := m) (by omega) (by omega) H1
      obtain ⟨H3, eH3⟩ : ∃ H3, (H2.new (.cells zz true)).set H2.next (.cells (rc vs .nils (fresh m)) true) = H3 := ⟨_, rfl⟩
      have k3 : Keeps H2 H3 := by rw [← eH3]; exact Keeps.set' (Nat.le_refl _) (Keeps.new' (Keeps.refl _))
      have oq : H3.obj H2.next = some (.cells (rc vs .nils (fresh m)) true) := by rw [← eH3, set_obj, if_pos rfl]
      have n3 : H3.next = H2.next + 1 := by rw [← eH3, set_next, new_next]
      have x1 := k1.1
      have x2 := k2.1
      have pn := hD.pn
      have si := hR.si
      have T : Two H H3 (H.next + 2) (H.next + 1) none .nils vs .nils (fresh m) :=
        ⟨(hD.keeps k2).keeps k3, hR.keeps k3, fun i hi => ⟨by have := hv i hi; omega, by have := hv i hi; omega, by simp [AVal.ids]⟩, by simp [AVal.ids], (k1.trans k2).trans k3, by omega, by omega, by simp [AVal.ids]⟩
      have L := fun env h0 h2 h7 h8 h9 h57 h58 h59 => loop4 (B := H) (q := H2.next) (n := m) (at' := at') (env := env) hl hli hln hmem rfl (by simp [fresh]) T oq (by omega) (by omega) (fun i hi => by
        simp only [AVal.ids, List.not_mem_nil, false_or, or_false] at hi
        rcases hi with h | h | h
        · omega
        · omega
        · have := si i h; omega) h0 h2 h7 h8 h9 h57 h58 h59
      have s1 := sl_shape' hR.ss
      unfold zz rc at eH3
      unfold rc at e20
      simp only [c4, U9, e1, c2, ll, eN, e20, eH3, e_nilp0, rwA, rwB, Nat.reduceAdd, Nat.reduceMul, Nat.reduceLeDiff, Int.reduceEq, Int.reduceLT, Int.reduceLE, Int.reduceAdd, Int.reduceSub, Int.reduceMul, ↓reduceIte, Nat.reduceEqDiff, reduceCtorEq, ↓cnd_true, ↓cnd_false]
      repeat (first | refine outs_seq ?_ | refine outs_block ?_ | refine outs_step ?_ | refine outs_stepD ?_ | refine rets_end ?_ | refine ans_end ?_)
      refine (L _ (by simp [Env.set, ainit]) (by simp [Env.set, ainit]) (by simp [Env.set]) (by simp [Env.set]) (by simp [Env.set]) (by simp [Env.set]) (by simp [Env.set]) (by simp [Env.set])).mono ?_
      rintro e env K ⟨rfl, h8⟩
      simp only [outs_some, h8, rwA, rwB, Nat.reduceAdd, Nat.reduceMul, Nat.reduceLeDiff, Int.reduceEq, Int.reduceLT, Int.reduceLE, Int.reduceAdd, Int.reduceSub, Int.reduceMul, ↓reduceIte, Nat.reduceEqDiff, reduceCtorEq, ↓cnd_true, ↓cnd_false]
    · obtain ⟨H2, e20, k2⟩ := U20x hn H
      cases b1
      · simp only [c4, U9, e1, c2, ll, U10x hn, e20, e_nilp1, rwA, rwB, Nat.reduceAdd, Nat.reduceMul, Nat.reduceLeDiff, Int.reduceEq, Int.reduceLT, Int.reduceLE, Int.reduceAdd, Int.reduceSub, Int.reduceMul, ↓reduceIte, Nat.reduceEqDiff, reduceCtorEq, ↓cnd_true, ↓cnd_false]
      · have e2' : b2 = false := by simpa using e12
        subst e2'
        simp only [c4, U9, e1, e2, c2, ll, U10x hn, e20, e_nilp1, rwA, rwB, Nat.reduceAdd, Nat.reduceMul, Nat.reduceLeDiff, Int.reduceEq, Int.reduceLT, Int.reduceLE, Int.reduceAdd, Int.reduceSub, Int.reduceMul, ↓reduceIte, Nat.reduceEqDiff, reduceCtorEq, ↓cnd_true, ↓cnd_false]
  exact key _ _ rfl rfl c1

theorem law4 (H : AHeap) (args : List AVal) (dats : List Dat) (h : AArgs Try.prog H [3, 22, 3] args dats) : ∃ k H', acall A k 4 args H = some (.bool true, H') := by
  obtain ⟨v0, r, d0, ds, rfl, rfl, h0, h⟩ := args_cons h
  obtain ⟨v1, r, d1, ds, rfl, rfl, h1, h⟩ := args_cons h
  obtain ⟨v2, r, d2, ds, rfl, rfl, h2, h⟩ := args_cons h
  obtain rfl := args_nil h
  obtain ⟨n, rfl, _⟩ := arg_int Try.underlying3 h0
  obtain ⟨l, hl, hli, _, _, hm⟩ := arg_acts h1
  obtain ⟨at', rfl, _⟩ := arg_int Try.underlying3 h2
  obtain ⟨H', hr⟩ := run4 (n := n) (at' := at') hl hli hm
  obtain ⟨k, hk⟩ := AC_iff.1 hr
  exact ⟨k, H', hk⟩

end Go.Proofs.Ytilhjcnkaelheaa.Dk
