/- Texts put together by program: YtilhjcnkaelheaaDu, YtilhjcnkaelheaaDv. -/
import Derived.Test.YtilhjcnkaelheaaTopHomesP2
section
/- TopHomes: the round. -/
set_option maxRecDepth 100000
set_option linter.unusedSimpArgs false
set_option linter.unusedVariables false
set_option maxHeartbeats 8000000
namespace Go.Proofs.Ytilhjcnkaelheaa.Dk
open Go Go.Proofs.Ytilhjcnkaelheaa.Am DnFns Go.RowKit
open Sd (Sec noughts home homeno ofHome ofNo opened unfit pad)

theorem len_upd {ls : Nat → List (List UInt8)} {n k p : Nat} (h : ∀ i, i < n → (ls i).length ≤ k) (hp : p < n) (t : List UInt8) : ∀ i, i < n → (upd ls p (ls p ++ [t]) i).length ≤ k + 1 := by
  intro i hi
  by_cases c : i = p
  · subst c; rw [upd_same]; have := h i hi; simp; omega
  · rw [upd_ne _ _ c]; have := h i hi; omega

theorem loop81 {B H : AHeap} {p a : Nat} {g : Option Nat} {vw : AVal} {d : DS} {M n : Nat} {vs : Nat → AVal} {ls : Nat → List (List UInt8)} (h : Hm B H p a g vw d M n vs ls) (hi : Inv n d ls) (hn : 1 ≤ n ∧ n ≤ 20) (hls : ∀ i, i < n → (ls i).length ≤ 1) (hwl : d.w.length = 0)
    {lv : AVal} {l : List Ho} (hl : Sl B 3 lv (l.flatMap hc)) (hli : ∀ i, i ∈ lv.ids → i < B.next) (hln : l.length ≤ 60) (hpage : ∀ x, x ∈ l → x.page < 256) {env : Env}
    (h9 : env 9 = .int .i64 (n : Int)) (h10 : env 10 = .ptr p 0) (h12 : env 12 = .slice M 0 n n none) (h74 : env 74 = lv) (h75 : env 75 = .int .i64 (l.length : Int)) (h76 : env 76 = .int .i64 0) :
    Outs (AX A (.loop b81) env H) fun e env' K => e = .exit 2 ∧ (∀ i, i < 74 → (i < 15 ∨ 19 < i) → env' i = env i) ∧ ∃ vw' d' vs' ls', Hm B K p a g vw' d' M n vs' ls' ∧ Inv n d' ls' ∧ (∀ i, i < n → (ls' i).length ≤ 61) ∧ d'.w.length ≤ 60 := by
  refine loop_ends (I := fun (j : Nat) env' K => j ≤ l.length ∧ (∀ i, i < 76 → (i < 15 ∨ 19 < i) → env' i = env i) ∧ env' 76 = .int .i64 (j : Int) ∧ ∃ vw' d' vs' ls', Hm B K p a g vw' d' M n vs' ls' ∧ Inv n d' ls' ∧ (∀ i, i < n → (ls' i).length ≤ j + 1) ∧ d'.w.length ≤ j) (fun j => l.length - j) ?_ 0 env H
    ⟨Nat.zero_le _, fun _ _ _ => rfl, h76, vw, d, vs, ls, h, hi, fun i h => by have := hls i h; omega, by omega⟩
  rintro j env1 K ⟨hj, hE, e76, vw1, d1, vs1, ls1, hm, inv, hls, hwl⟩
  have e9 := (hE 9 (by decide) (by decide)).trans h9
  have e10 := (hE 10 (by decide) (by decide)).trans h10
  have e12 := (hE 12 (by decide) (by decide)).trans h12
  have e74 := (hE 74 (by decide) (by decide)).trans h74
  have e75 := (hE 75 (by decide) (by decide)).trans h75
  by_cases c : j < l.length
  rotate_left
  · have e : j = l.length := by omega
    subst e
    have c1 : decide ((l.length : Int) < (l.length : Int)) = false := by simp
    simp only [b81, e75, e76, c1, rwA, rwB, Nat.reduceAdd, Nat.reduceMul, Nat.reduceLeDiff, Int.reduceEq, Int.reduceLT, Int.reduceLE, Int.reduceAdd, Int.reduceSub, Int.reduceMul, ↓reduceIte, Nat.reduceEqDiff, reduceCtorEq, ↓cnd_true, ↓cnd_false]
    rw [outs_some]
    refine .inr ⟨by simp, rfl, ?_, vw1, d1, vs1, ls1, hm, inv, fun i h => by have := hls i h; omega, by omega⟩
    intro i h1 h2
    simp only [Env.set]
    repeat rw [if_neg (by omega)]
    exact hE i (by omega) h2
  have c1 : decide ((j : Int) < (l.length : Int)) = true := by simp; omega
  have w1 : IntKind.i64.wrap ((j : Int) + 1) = ((j + 1 : Nat) : Int) := by rw [wrap_i64]; omega
  obtain ⟨id, off, cp, g', k, own, rfl, ho, hk, hall, _⟩ := (hl.keep hli hm.base).elem hc_len (by decide) c
  have ha : aidx l.length (.int .i64 (j : Int)) = some j := by simp [aidx]; omega
  have ld : apart true (off + j * 3) 3 k = some (.agg (hc l[j])) := by rw [apart_agg _ _ _ (elem_room (es := 3) c hk), hall]
  have hpx := hpage l[j] (List.getElem_mem c)
  obtain ⟨x, ex⟩ : ∃ x, l[j] = x := ⟨_, rfl⟩
  rw [ex] at ld hpx
  obtain ⟨K1, eK1⟩ : ∃ K1, (K.new (.cells [.int .u8 0, .int .u8 0, .bool false] true)).set K.next (.cells [.int .u8 (x.page : Int), by8 x.byte, .bool x.flush] true) = K1 := ⟨_, rfl⟩
  have k1 : Keeps K K1 := by rw [← eK1]; exact Keeps.set' (Nat.le_refl _) (Keeps.new' (Keeps.refl _))
  have oN : K1.obj K.next = some (.cells [.int .u8 (x.page : Int), by8 x.byte, .bool x.flush] true) := by rw [← eK1, set_obj, if_pos rfl]
  have nK1 : K1.next = K.next + 1 := by rw [← eK1, set_next, new_next]
  have hm1 := hm.keeps k1
  have wx : IntKind.i64.wrap (x.page : Int) = (x.page : Int) := by rw [wrap_i64]; omega
  have cz : decide ((n : Int) = 0) = false := by simp; omega
  obtain ⟨q, eq⟩ : ∃ q, x.page % n = q := ⟨_, rfl⟩
  have hq : q < n := by rw [← eq]; exact Nat.mod_lt _ (by omega)
  have tm : ((x.page : Nat) : Int).tmod (n : Int) = (q : Int) := by rw [Int.tmod_eq_emod_of_nonneg (by omega), ← eq]; rfl
  have hno : homeno (q : Int) (pg x.byte) = 0 := Sd.homeno_ok (by omega) (by omega) (pg_len _)
  have hhl := Sd.home_len (q : Int) (pg x.byte) hno
  obtain ⟨K2, vw2, e11, hD2, F2, hv2⟩ := U11 hm1.D (by omega) (q : Int) (home (q : Int) (pg x.byte))
  have cw : (0 ≤ (q : Int) ∧ (q : Int) < (d1.s.length : Int)) ∧ (home (q : Int) (pg x.byte)).length = 512 := ⟨⟨by omega, by rw [inv.len]; omega⟩, hhl⟩
  have x1 := k1.1
  have x2 := F2.1
  have pn := hm.D.pn
  have wn := hm.D.ow.lt
  have oN2 : K2.obj K.next = some (.cells [.int .u8 (x.page : Int), by8 x.byte, .bool x.flush] true) := by
    rw [F2.2 _ (by omega) (by simp; exact ⟨by omega, fun hx => by have := wn _ hx; omega⟩)]; exact oN
  have hL2 : ∀ i, i ∈ p :: vw1.ids → i = p ∨ i = a ∨ i ∈ vw1.ids := fun i hi => by rcases List.mem_cons.1 hi with h | h; exact .inl h; exact .inr (.inr h)
  have hm2 := hm1.disk F2 hL2 hD2 hv2
  have hdw : d1.write (q : Int) (home (q : Int) (pg x.byte)) = if d1.goes then ({ d1.step with w := d1.w ++ [(q, home (q : Int) (pg x.byte))] }, 0) else (d1.step, 17) := by
    unfold DS.write; rw [if_pos cw, Int.toNat_natCast]
  rw [hdw] at e11 hm2
  unfold hc at ld
  have EE : ∀ env2 : Env, (∀ i, i < 76 → (i < 15 ∨ 19 < i) → env2 i = env1 i) → ∀ i, i < 76 → (i < 15 ∨ 19 < i) → env2 i = env i := fun env2 h i h1 h2 => (h i h1 h2).trans (hE i h1 h2)
  cases hg : d1.goes
  · rw [hg] at e11 hm2
    simp only [Bool.false_eq_true, if_false] at e11 hm2
    have hm3 := hm2
    have inv3 : Inv n d1.step ls1 := inv.like (step_s _) (step_w _)
    have hls3 : ∀ i, i < n → (ls1 i).length ≤ j + 1 + 1 := fun i hi => by have := hls i hi; omega
    have hwl3 : d1.step.w.length ≤ j + 1 := by rw [step_w]; omega
    have oN3 := oN2
    have yy := hm3.D.pn
    have wn3 := hm3.D.ow.lt
    have sepN : K.next ≠ p ∧ K.next ≠ a ∧ K.next ∉ vw2.ids := ⟨by omega, by have := hm.D.an; omega, fun hx => (hv2 _ hx).elim (fun h => by have := wn _ h; omega) (by omega)⟩
    cases hf : x.flush
    · rw [hf] at eK1 oN oN2 oN3
      simp only [b81, e9, e10, e12, e74, e75, e76, c1, ha, ho, ld, hf, eK1, oN, wx, cz, tm, U40t, U41, hno, e11, oN2, oN3, w1, rwA, rwB, Nat.reduceAdd, Nat.reduceMul, Nat.reduceLeDiff, Int.reduceEq, Int.reduceLT, Int.reduceLE, Int.reduceAdd, Int.reduceSub, Int.reduceMul, ↓reduceIte, Nat.reduceEqDiff, reduceCtorEq, ↓cnd_true, ↓cnd_false]
      rw [outs_some]
      refine .inl ⟨rfl, j + 1, by omega, by omega, ?_, by simp [Env.set], _, _, _, _, hm3, inv3, hls3, hwl3⟩
      intro i h1 h2
      simp only [Env.set]
      repeat rw [if_neg (by omega)]
      exact hE i h1 h2
    · rw [hf] at eK1 oN oN2 oN3
      obtain ⟨K4, vw4, e13, hD4, F4, hv4⟩ := U13 hm3.D (Nat.lt_of_le_of_lt hwl3 (by omega))
      have hm4 := hm3.disk F4 (fun i hi => by simp at hi; rcases hi with h | h; exact .inl h; exact .inr (.inl h)) hD4 (fun j hj => .inl (hv4 j hj))
      unfold DS.flush at e13 hm4
      cases hg2 : (d1.step).goes
      · rw [hg2] at e13 hm4
        simp only [Bool.false_eq_true, if_false] at e13 hm4
        simp only [b81, e9, e10, e12, e74, e75, e76, c1, ha, ho, ld, hf, eK1, oN, wx, cz, tm, U40t, U41, hno, e11, oN2, oN3, e13, w1, rwA, rwB, Nat.reduceAdd, Nat.reduceMul, Nat.reduceLeDiff, Int.reduceEq, Int.reduceLT, Int.reduceLE, Int.reduceAdd, Int.reduceSub, Int.reduceMul, ↓reduceIte, Nat.reduceEqDiff, reduceCtorEq, ↓cnd_true, ↓cnd_false]
        rw [outs_some]
        refine .inl ⟨rfl, j + 1, by omega, by omega, ?_, by simp [Env.set], _, _, _, _, hm4, inv3.like (step_s _) (step_w _), hls3, by rw [step_w]; exact hwl3⟩
        intro i h1 h2
        simp only [Env.set]
        repeat rw [if_neg (by omega)]
        exact hE i h1 h2
      · rw [hg2] at e13 hm4
        simp only [if_true] at e13 hm4
        simp only [b81, e9, e10, e12, e74, e75, e76, c1, ha, ho, ld, hf, eK1, oN, wx, cz, tm, U40t, U41, hno, e11, oN2, oN3, e13, w1, rwA, rwB, Nat.reduceAdd, Nat.reduceMul, Nat.reduceLeDiff, Int.reduceEq, Int.reduceLT, Int.reduceLE, Int.reduceAdd, Int.reduceSub, Int.reduceMul, ↓reduceIte, Nat.reduceEqDiff, reduceCtorEq, ↓cnd_true, ↓cnd_false]
        repeat (first | refine outs_seq ?_ | refine outs_block ?_ | refine outs_step ?_ | refine outs_stepD ?_ | refine rets_end ?_ | refine ans_end ?_)
        refine outs_gen (fun env2 => (∀ i, i < 76 → (i < 15 ∨ 19 < i) → env2 i = env1 i) ∧ env2 12 = .slice M 0 n n none ∧ env2 76 = .int .i64 (j : Int) ∧ env2 120 = .int .i64 (n : Int) ∧ env2 121 = .int .i64 0) ⟨?_, by simp [Env.set, e12], by simp [Env.set, e76], by simp [Env.set], by simp [Env.set]⟩ ?_
        · intro i h1 h2
          simp only [Env.set]
          repeat rw [if_neg (by omega)]
        rintro env2 ⟨hE2, f12, f76, f120, f121⟩
        refine (loop82 hm4 (by omega) (fun i hi => by have := hls3 i hi; omega) f12 f120 f121).mono ?_
        rintro e env3 K5 ⟨rfl, hE3, vs5, hm5⟩
        have f76' := (hE3 76 (by decide) (by decide)).trans f76
        simp only [outs_some, f76', w1, rwA, rwB, Nat.reduceAdd, Nat.reduceMul, Nat.reduceLeDiff, Int.reduceEq, Int.reduceLT, Int.reduceLE, Int.reduceAdd, Int.reduceSub, Int.reduceMul, ↓reduceIte, Nat.reduceEqDiff, reduceCtorEq, ↓cnd_true, ↓cnd_false]
        have fl := inv3.flush
        have inv5 : Inv n ((d1.step).step.settle (fun _ => true)) (fun i => if i < n then [(ls1 i).getLastD []] else ls1 i) :=
          ⟨fl.len, fun i hi => by rw [if_pos hi]; exact fl.ne i hi, fun i hi => by rw [if_pos hi]; exact fl.last i hi, fun i hi => by rw [if_pos hi]; exact fl.safe i hi, fun x hx => by
            obtain ⟨h1, t, ht, e⟩ := fl.mem x hx
            refine ⟨h1, t, ?_, e⟩
            rw [if_pos h1]; exact ht⟩
        refine .inl ⟨trivial, j + 1, by omega, by omega, ?_, by simp [Env.set], _, _, _, _, hm5, inv5, fun i hi => by rw [if_pos hi]; simp, by show (0 : Nat) ≤ _; omega⟩
        intro i h1 h2
        (try simp only [Env.set])
        repeat rw [if_neg (by omega)]
        exact (hE3 i (by omega) (by omega)).trans ((hE2 i h1 h2).trans (hE i h1 h2))
  · rw [hg] at e11 hm2
    simp only [if_true] at e11 hm2
    have gq := hm2.L.gs q hq
    obtain ⟨v3, K3, ap, g3, s3, F3⟩ := gq.push (by have := hls q hq; omega) (pg x.byte)
    obtain ⟨o3, g3', ev3⟩ := g3.shape
    have om := hm2.L.om
    have mn := hm2.L.mn
    have x3 := F3.1
    have sl := gq.lt
    have at1 := map_at vs1 hq
    have hMs : M ≠ sid (vs1 q) := Ne.symm (hm2.L.mi q hq)
    have om1 : (K2.new (.cells [.str (pg x.byte)] true)).obj M = some (.cells ((List.range n).map vs1) true) := by rw [new_obj, if_neg (by omega)]; exact om
    have om3 : K3.obj M = some (.cells ((List.range n).map vs1) true) := by rw [F3.2 M mn (by simpa using hMs)]; exact om
    have haq : aidx n (.int .i64 (q : Int)) = some q := by simp [aidx]; omega
    have st := store_one K3 M q v3 ((List.range n).map vs1) (by simp; exact hq)
    rw [map_upd] at st
    have hm3 := hm2.put hq F3 (fun j hj => by simpa using hj) g3 (.inr (by omega))
    have sN : K.next ≠ sid (vs1 q) := by have := (hm.L.gs q hq).lt; omega
    have mN : K.next ≠ M := by have := hm.L.mn; omega
    have oN3 : (K3.set M (.cells ((List.range n).map (upd vs1 q v3)) true)).obj K.next = some (.cells [.int .u8 (x.page : Int), by8 x.byte, .bool x.flush] true) := by
      rw [set_obj, if_neg mN, F3.2 _ (by omega) (by simpa using sN)]; exact oN2
    have inv3 := inv.write hq x.byte
    have hls3 := len_upd hls hq (pg x.byte)
    have hwl3 : (d1.w ++ [(q, home (q : Int) (pg x.byte))]).length ≤ j + 1 := by simp; omega
    rw [ev3] at ap st hm3 oN3
    have yy := hm3.D.pn
    have wn3 := hm3.D.ow.lt
    cases hf : x.flush
    · rw [hf] at eK1 oN oN2 oN3
      simp only [b81, e9, e10, e12, e74, e75, e76, c1, ha, ho, ld, hf, eK1, oN, wx, cz, tm, U40t, U41, hno, e11, ap, om, om1, om3, at1, haq, st, oldne (show M < K2.next by omega), nene mN, oN2, oN3, w1, rwA, rwB, Nat.reduceAdd, Nat.reduceMul, Nat.reduceLeDiff, Int.reduceEq, Int.reduceLT, Int.reduceLE, Int.reduceAdd, Int.reduceSub, Int.reduceMul, ↓reduceIte, Nat.reduceEqDiff, reduceCtorEq, ↓cnd_true, ↓cnd_false]
      rw [outs_some]
      refine .inl ⟨rfl, j + 1, by omega, by omega, ?_, by simp [Env.set], _, _, _, _, hm3, inv3, hls3, hwl3⟩
      intro i h1 h2
      simp only [Env.set]
      repeat rw [if_neg (by omega)]
      exact hE i h1 h2
    · rw [hf] at eK1 oN oN2 oN3
      obtain ⟨K4, vw4, e13, hD4, F4, hv4⟩ := U13 hm3.D (Nat.lt_of_le_of_lt hwl3 (by omega))
      have hm4 := hm3.disk F4 (fun i hi => by simp at hi; rcases hi with h | h; exact .inl h; exact .inr (.inl h)) hD4 (fun j hj => .inl (hv4 j hj))
      unfold DS.flush at e13 hm4
      cases hg2 : ({ d1.step with w := d1.w ++ [(q, home (q : Int) (pg x.byte))] } : DS).goes
      · rw [hg2] at e13 hm4
        simp only [Bool.false_eq_true, if_false] at e13 hm4
        simp only [b81, e9, e10, e12, e74, e75, e76, c1, ha, ho, ld, hf, eK1, oN, wx, cz, tm, U40t, U41, hno, e11, ap, om, om1, om3, at1, haq, st, oldne (show M < K2.next by omega), nene mN, oN2, oN3, e13, w1, rwA, rwB, Nat.reduceAdd, Nat.reduceMul, Nat.reduceLeDiff, Int.reduceEq, Int.reduceLT, Int.reduceLE, Int.reduceAdd, Int.reduceSub, Int.reduceMul, ↓reduceIte, Nat.reduceEqDiff, reduceCtorEq, ↓cnd_true, ↓cnd_false]
        rw [outs_some]
        refine .inl ⟨rfl, j + 1, by omega, by omega, ?_, by simp [Env.set], _, _, _, _, hm4, inv3.like (step_s _) (step_w _), hls3, by rw [step_w]; exact hwl3⟩
        intro i h1 h2
        simp only [Env.set]
        repeat rw [if_neg (by omega)]
        exact hE i h1 h2
      · rw [hg2] at e13 hm4
        simp only [if_true] at e13 hm4
        simp only [b81, e9, e10, e12, e74, e75, e76, c1, ha, ho, ld, hf, eK1, oN, wx, cz, tm, U40t, U41, hno, e11, ap, om, om1, om3, at1, haq, st, oldne (show M < K2.next by omega), nene mN, oN2, oN3, e13, w1, rwA, rwB, Nat.reduceAdd, Nat.reduceMul, Nat.reduceLeDiff, Int.reduceEq, Int.reduceLT, Int.reduceLE, Int.reduceAdd, Int.reduceSub, Int.reduceMul, ↓reduceIte, Nat.reduceEqDiff, reduceCtorEq, ↓cnd_true, ↓cnd_false]
        repeat (first | refine outs_seq ?_ | refine outs_block ?_ | refine outs_step ?_ | refine outs_stepD ?_ | refine rets_end ?_ | refine ans_end ?_)
        refine outs_gen (fun env2 => (∀ i, i < 76 → (i < 15 ∨ 19 < i) → env2 i = env1 i) ∧ env2 12 = .slice M 0 n n none ∧ env2 76 = .int .i64 (j : Int) ∧ env2 120 = .int .i64 (n : Int) ∧ env2 121 = .int .i64 0) ⟨?_, by simp [Env.set, e12], by simp [Env.set, e76], by simp [Env.set], by simp [Env.set]⟩ ?_
        · intro i h1 h2
          simp only [Env.set]
          repeat rw [if_neg (by omega)]
        rintro env2 ⟨hE2, f12, f76, f120, f121⟩
        refine (loop82 hm4 (by omega) (fun i hi => by have := hls3 i hi; omega) f12 f120 f121).mono ?_
        rintro e env3 K5 ⟨rfl, hE3, vs5, hm5⟩
        have f76' := (hE3 76 (by decide) (by decide)).trans f76
        simp only [outs_some, f76', w1, rwA, rwB, Nat.reduceAdd, Nat.reduceMul, Nat.reduceLeDiff, Int.reduceEq, Int.reduceLT, Int.reduceLE, Int.reduceAdd, Int.reduceSub, Int.reduceMul, ↓reduceIte, Nat.reduceEqDiff, reduceCtorEq, ↓cnd_true, ↓cnd_false]
        have fl := inv3.flush
        have inv5 : Inv n (({ d1.step with w := d1.w ++ [(q, home (q : Int) (pg x.byte))] } : DS).step.settle (fun _ => true)) (fun i => if i < n then [((upd ls1 q (ls1 q ++ [pg x.byte])) i).getLastD []] else (upd ls1 q (ls1 q ++ [pg x.byte])) i) :=
          ⟨fl.len, fun i hi => by rw [if_pos hi]; exact fl.ne i hi, fun i hi => by rw [if_pos hi]; exact fl.last i hi, fun i hi => by rw [if_pos hi]; exact fl.safe i hi, fun x hx => by
            obtain ⟨h1, t, ht, e⟩ := fl.mem x hx
            refine ⟨h1, t, ?_, e⟩
            rw [if_pos h1]; exact ht⟩
        refine .inl ⟨trivial, j + 1, by omega, by omega, ?_, by simp [Env.set], _, _, _, _, hm5, inv5, fun i hi => by rw [if_pos hi]; simp, by show (0 : Nat) ≤ _; omega⟩
        intro i h1 h2
        (try simp only [Env.set])
        repeat rw [if_neg (by omega)]
        exact (hE3 i (by omega) (by omega)).trans ((hE2 i h1 h2).trans (hE i h1 h2))

end Go.Proofs.Ytilhjcnkaelheaa.Dk
end

section
/- TopHomes: the law. -/
set_option maxRecDepth 100000
set_option linter.unusedSimpArgs false
set_option linter.unusedVariables false
set_option maxHeartbeats 8000000
namespace Go.Proofs.Ytilhjcnkaelheaa.Dk
open Go Go.Proofs.Ytilhjcnkaelheaa.Am DnFns Go.RowKit
open Sd (Sec noughts home homeno ofHome ofNo opened unfit pad)

theorem loop84 {H : AHeap} {v : AVal} {l : List (List UInt8)} (hg : Gs H v l) (hl : l.length < 1000) {t : List UInt8} {env : Env} (h23 : env 23 = .str t) (h25 : env 25 = .bool false) (h163 : env 163 = v) (h164 : env 164 = .int .i64 (l.length : Int)) (h165 : env 165 = .int .i64 0) :
    Outs (AX A (.loop b84) env H) fun e env' K => e = .exit 8 ∧ K = H ∧ (∀ i, i < 163 → i ≠ 25 → i ≠ 27 → env' i = env i) ∧ env' 25 = .bool (l.any fun x => decide (x = t)) := by
  refine loop_ends (I := fun (j : Nat) env' K => j ≤ l.length ∧ K = H ∧ (∀ i, i < 165 → i ≠ 25 → i ≠ 27 → env' i = env i) ∧ env' 165 = .int .i64 (j : Int) ∧ env' 25 = .bool ((l.take j).any fun x => decide (x = t))) (fun j => l.length - j) ?_ 0 env H
    ⟨Nat.zero_le _, rfl, fun _ _ _ _ => rfl, h165, by simpa using h25⟩
  rintro j env1 _ ⟨hj, rfl, hE, e165, e25⟩
  have e23 := (hE 23 (by decide) (by decide) (by decide)).trans h23
  have e163 := (hE 163 (by decide) (by decide) (by decide)).trans h163
  have e164 := (hE 164 (by decide) (by decide) (by decide)).trans h164
  by_cases c : j < l.length
  · have c1 : decide ((j : Int) < (l.length : Int)) = true := by simp; omega
    have w1 : IntKind.i64.wrap ((j : Int) + 1) = ((j + 1 : Nat) : Int) := by rw [wrap_i64]; omega
    obtain ⟨id, off, cp, g', k, own, rfl, ho, _, hc⟩ := hg.sl.elem1 c
    have ha : aidx l.length (.int .i64 (j : Int)) = some j := by simp [aidx]; omega
    have hf := any_take (fun x => decide (x = t)) l c
    obtain ⟨x, ex⟩ : ∃ x, l[j] = x := ⟨_, rfl⟩
    rw [ex] at hc hf
    cases c0 : ((l.take j).any fun x => decide (x = t)) <;> rw [c0] at e25 hf <;> cases c2 : decide (x = t) <;> rw [c2] at hf
    all_goals
      simp only [b84, e23, e25, e163, e164, e165, c1, ha, ho, hc, c2, w1, rwA, rwB, Nat.reduceAdd, Nat.reduceMul, Nat.reduceLeDiff, Int.reduceEq, Int.reduceLT, Int.reduceLE, Int.reduceAdd, Int.reduceSub, Int.reduceMul, ↓reduceIte, Nat.reduceEqDiff, reduceCtorEq, ↓cnd_true, ↓cnd_false]
      rw [outs_some]
      refine .inl ⟨rfl, j + 1, by omega, by omega, rfl, ?_, by simp [Env.set], by rw [hf]; simp [Env.set]⟩
      intro i h1 h2 h3
      simp only [Env.set]
      repeat rw [if_neg (by omega)]
      exact hE i h1 h2 h3
  · have e : j = l.length := by omega
    subst e
    have c1 : decide ((l.length : Int) < (l.length : Int)) = false := by simp
    simp only [b84, e164, e165, c1, rwA, rwB, Nat.reduceAdd, Nat.reduceMul, Nat.reduceLeDiff, Int.reduceEq, Int.reduceLT, Int.reduceLE, Int.reduceAdd, Int.reduceSub, Int.reduceMul, ↓reduceIte, Nat.reduceEqDiff, reduceCtorEq, ↓cnd_true, ↓cnd_false]
    rw [outs_some]
    rw [List.take_length] at e25
    refine .inr ⟨by simp, rfl, rfl, ?_, by simp [Env.set, e25]⟩
    intro i h1 h2 h3
    simp only [Env.set]
    repeat rw [if_neg (by omega)]
    exact hE i (by omega) h2 h3

theorem loop83 {B H : AHeap} {p a : Nat} {g : Option Nat} {vw : AVal} {d : DS} {M n : Nat} {vs : Nat → AVal} {ls : Nat → List (List UInt8)} (h : Hm B H p a g vw d M n vs ls) (hn : n ≤ 20) (hls : ∀ i, i < n → (ls i).length ≤ 61) (hw : d.w = []) (hd : d.dead = false) (hlen : d.s.length = n)
    (law : ∀ i, i < n → ∃ b, pg b ∈ ls i ∧ d.s.getD i [] = home (i : Int) (pg b)) {env : Env} (h10 : env 10 = .ptr p 0) (h12 : env 12 = .slice M 0 n n none) (h144 : env 144 = .int .i64 (n : Int)) (h145 : env 145 = .int .i64 0) :
    Outs (AX A (.loop b83) env H) fun e env' K => e = .exit 6 := by
  refine loop_ends (I := fun (j : Nat) env' K => j ≤ n ∧ K = H ∧ (∀ i, i < 145 → (i < 20 ∨ 29 < i) → env' i = env i) ∧ env' 145 = .int .i64 (j : Int)) (fun j => n - j) ?_ 0 env H ⟨Nat.zero_le _, rfl, fun _ _ _ => rfl, h145⟩
  rintro j env1 _ ⟨hj, rfl, hE, e145⟩
  have e10 := (hE 10 (by decide) (by decide)).trans h10
  have e12 := (hE 12 (by decide) (by decide)).trans h12
  have e144 := (hE 144 (by decide) (by decide)).trans h144
  by_cases c : j < n
  · have c1 : decide ((j : Int) < (n : Int)) = true := by simp; omega
    have w1 : IntKind.i64.wrap ((j : Int) + 1) = ((j + 1 : Nat) : Int) := by rw [wrap_i64]; omega
    have w2 : IntKind.i64.wrap ((j : Int) + 1) = (j : Int) + 1 := by rw [wrap_i64]; omega
    have ha : aidx n (.int .i64 (j : Int)) = some j := by simp [aidx]; omega
    obtain ⟨b, hb, hs⟩ := law j c
    have hno : homeno (j : Int) (pg b) = 0 := Sd.homeno_ok (by omega) (by omega) (pg_len _)
    obtain ⟨hb1, hb2⟩ := Sd.home_back (j : Int) (pg b) hno
    have hr : d.read (j : Int) = (home (j : Int) (pg b), 0) := by
      have hi' : (0 : Int) ≤ (j : Int) ∧ (j : Int) < (d.s.length : Int) := by omega
      unfold DS.read
      rw [hd, hw, if_pos hi', ← hs]
      simp [lw]
    have u18 := U18 h.D.look (by rw [hw]; decide) (j : Int)
    rw [hr] at u18
    have u42 := U42 (home (j : Int) (pg b)) (j : Int)
    rw [hb1, hb2] at u42
    have u42' := U42 (home (j : Int) (pg b)) ((j : Int) + 1)
    have gs := h.L.gs j c
    have om := h.L.om
    have at1 := map_at vs c
    have hll := gs.sl.len1
    rw [List.length_map] at hll
    have hany : ((ls j).any fun x => decide (x = pg b)) = true := List.any_eq_true.2 ⟨pg b, hb, by simp⟩
    have key := fun env f23 f25 f163 f164 f165 => loop84 (env := env) (t := pg b) gs (by have := hls j c; omega) f23 f25 f163 f164 f165
    rw [hany] at key
    simp only [b83, e10, e12, e144, e145, c1, u18, u42, ha, om, at1, hll, rwA, rwB, Nat.reduceAdd, Nat.reduceMul, Nat.reduceLeDiff, Int.reduceEq, Int.reduceLT, Int.reduceLE, Int.reduceAdd, Int.reduceSub, Int.reduceMul, ↓reduceIte, Nat.reduceEqDiff, reduceCtorEq, ↓cnd_true, ↓cnd_false]
    repeat (first | refine outs_seq ?_ | refine outs_block ?_ | refine outs_step ?_ | refine outs_stepD ?_ | refine rets_end ?_ | refine ans_end ?_)
    refine outs_gen (fun env2 => (∀ i, i < 145 → (i < 20 ∨ 29 < i) → env2 i = env i) ∧ env2 145 = .int .i64 (j : Int) ∧ env2 20 = .int .i64 (j : Int) ∧ env2 21 = .str (home (j : Int) (pg b)) ∧ env2 22 = .int .i64 0 ∧ env2 24 = .int .i64 0 ∧ env2 23 = .str (pg b) ∧ env2 25 = .bool false ∧ env2 163 = vs j ∧ env2 164 = .int .i64 ((ls j).length : Int) ∧ env2 165 = .int .i64 0) ⟨?_, by simp [Env.set, e145], by simp [Env.set], by simp [Env.set], by simp [Env.set], by simp [Env.set], by simp [Env.set], by simp [Env.set], by simp [Env.set], by simp [Env.set], by simp [Env.set]⟩ ?_
    · intro i h1 h2
      simp only [Env.set]
      repeat rw [if_neg (by omega)]
      exact hE i h1 h2
    rintro env2 ⟨hE2, f145, f20, f21, f22, f24, f23, f25, f163, f164, f165⟩
    refine (key env2 f23 f25 f163 f164 f165).mono ?_
    rintro e env3 K2 ⟨rfl, rfl, hE3, g25⟩
    have g20 := (hE3 20 (by decide) (by decide) (by decide)).trans f20
    have g21 := (hE3 21 (by decide) (by decide) (by decide)).trans f21
    have g22 := (hE3 22 (by decide) (by decide) (by decide)).trans f22
    have g23 := (hE3 23 (by decide) (by decide) (by decide)).trans f23
    have g24 := (hE3 24 (by decide) (by decide) (by decide)).trans f24
    have g145 := (hE3 145 (by decide) (by decide) (by decide)).trans f145
    have u40 := fun X => U40t 0 X
    rw [by8_0] at u40
    cases cn : decide (ofNo (home (j : Int) (pg b)) ((j : Int) + 1) = 0)
    · simp only [outs_some, g20, g21, g22, g23, g24, g25, g145, w2, u42', cn, Bool.not_true, rwA, rwB, Nat.reduceAdd, Nat.reduceMul, Nat.reduceLeDiff, Int.reduceEq, Int.reduceLT, Int.reduceLE, Int.reduceAdd, Int.reduceSub, Int.reduceMul, ↓reduceIte, Nat.reduceEqDiff, reduceCtorEq, ↓cnd_true, ↓cnd_false]
      refine .inl ⟨trivial, j + 1, by omega, by omega, trivial, ?_, by simp [Env.set]⟩
      intro i h1 h2
      (try simp only [Env.set])
      repeat rw [if_neg (by omega)]
      exact (hE3 i (by omega) (by omega) (by omega)).trans (hE2 i h1 h2)
    · have e0 : pg b = pg 0 := by
        have := Sd.home_other (j : Int) (pg b) hno (of_decide_eq_true cn)
        rw [this]; rfl
      have dz : decide (pg b = pg 0) = true := by rw [e0]; simp
      simp only [outs_some, g20, g21, g22, g23, g24, g25, g145, w2, u42', cn, u40, dz, Bool.not_true, rwA, rwB, Nat.reduceAdd, Nat.reduceMul, Nat.reduceLeDiff, Int.reduceEq, Int.reduceLT, Int.reduceLE, Int.reduceAdd, Int.reduceSub, Int.reduceMul, ↓reduceIte, Nat.reduceEqDiff, reduceCtorEq, ↓cnd_true, ↓cnd_false]
      refine .inl ⟨trivial, j + 1, by omega, by omega, trivial, ?_, by simp [Env.set]⟩
      intro i h1 h2
      (try simp only [Env.set])
      repeat rw [if_neg (by omega)]
      exact (hE3 i (by omega) (by omega) (by omega)).trans (hE2 i h1 h2)
  · have e : j = n := by omega
    subst e
    have c1 : decide ((j : Int) < (j : Int)) = false := by simp
    simp only [b83, e144, e145, c1, rwA, rwB, Nat.reduceAdd, Nat.reduceMul, Nat.reduceLeDiff, Int.reduceEq, Int.reduceLT, Int.reduceLE, Int.reduceAdd, Int.reduceSub, Int.reduceMul, ↓reduceIte, Nat.reduceEqDiff, reduceCtorEq, ↓cnd_true, ↓cnd_false]
    rw [outs_some]
    exact .inr ⟨by simp, rfl⟩

theorem U39_is : (arun (acall A 4000) A.fn 4000 (some DnFns.c39) [] noH).map (·.1) = some (.bool true) := by kernel_rfl
theorem U39 (H : AHeap) : AC A 39 [] H = some (.bool true, H) := one_closed (x := DnFns.c39) rfl rfl rfl rfl rfl U39_is H

theorem arg_homes {H : AHeap} {v : AVal} {d : Dat} (h : AArg Try.prog H 77 v d) : ∃ l : List Ho, Sl H 3 v (l.flatMap hc) ∧ (∀ i, i ∈ v.ids → i < H.next) ∧ ∀ x, x ∈ l → x.page < 256 := by
  obtain ⟨cs, hs, hv⟩ := arg_sh (f := 9) (sh := .slice 3 3 (.st 3 (.fld 0 1 (.int .u8) (.fld 1 1 (.int .u8) (.fld 2 1 .bool .fend))))) (by kernel_rfl) h
  obtain ⟨v', l, h1, h2, h3, h4, h5, h6, h7, h8⟩ := shp_listP (enc := hc) (Pr := fun x => x.page < 256) hs (fun c hc' => by
    simp only [Shp] at hc'
    obtain ⟨hl, ⟨k, e0, b0⟩, ⟨b, e2, b2⟩, ⟨s, e3⟩, _⟩ := hc'
    match c, hl with
    | [c0, c1, c2], _ =>
      simp at e0 e2 e3
      subst e0 e2 e3
      have b0' : (0 : Int) ≤ k ∧ k ≤ 255 := b0
      have b2' : (0 : Int) ≤ b ∧ b ≤ 255 := b2
      obtain ⟨b', eb⟩ := u8_of b2'.1 b2'.2
      refine ⟨⟨k.toNat, b', s⟩, by show k.toNat < 256; omega, ?_⟩
      show _ = [AVal.int .u8 ((k.toNat : Nat) : Int), _, _]
      rw [eb, Int.toNat_of_nonneg b0'.1])
  have hv := hv.1 rfl
  rw [h1] at hv
  simp at hv
  subst hv
  exact ⟨l, h2, h4, h8⟩

theorem run8 {H : AHeap} {k : Nat} {step : Int} {lv kv : AVal} {l : List Ho} {keep : List Bool} (hk256 : k < 256) (hs1 : step ≤ 9223372036854775807) (hl : Sl H 3 lv (l.flatMap hc)) (hli : ∀ i, i ∈ lv.ids → i < H.next) (hp : ∀ x, x ∈ l → x.page < 256) (hk : Sl H 1 kv (keep.map .bool)) (hki : ∀ i, i ∈ kv.ids → i < H.next) :
    Ans (AC A 8 [.int .u8 (k : Int), lv, .int .i64 step, kv] H) (.bool true) := by
  rw [s_fn (A := A) (f := 8) (x := DnFns.c8) rfl rfl rfl]
  have ll := hl.alen
  rw [slen_fm hc_len (by decide) hl] at ll
  obtain ⟨n, en⟩ : ∃ n, k % 20 + 1 = n := ⟨_, rfl⟩
  have hn : 1 ≤ n ∧ n ≤ 20 := by omega
  have w1 : IntKind.i64.wrap (k : Int) = (k : Int) := by rw [wrap_i64]; omega
  have w2 : IntKind.i64.wrap ((k : Int).tmod 20 + 1) = (n : Int) := by
    rw [Int.tmod_eq_emod_of_nonneg (by omega), wrap_i64, ← en]; omega
  obtain ⟨H1, eN, hD, k1⟩ := U10 (n := n) (by omega) (by omega) H
  cases c2 : decide ((60 : Int) < (l.length : Int))
  rotate_left
  · simp only [c8, U39, w1, w2, eN, ll, c2, e_nilp0, rwA, rwB, Nat.reduceAdd, Nat.reduceMul, Nat.reduceLeDiff, Int.reduceEq, Int.reduceLT, Int.reduceLE, Int.reduceAdd, Int.reduceSub, Int.reduceMul, ↓reduceIte, Nat.reduceEqDiff, reduceCtorEq, ↓cnd_true, ↓cnd_false]
  have hln : l.length ≤ 60 := by simp at c2; omega
  have mk : amkS H1 1 24 [.nils] (.int .i64 (n : Int)) (.int .i64 (n : Int)) = some (.slice H1.next 0 n n none, H1.new (.cells (List.replicate n .nils) true)) := by
    have hr : ∀ n, arep [AVal.nils] n = List.replicate n .nils := by
      intro n
      induction n with
      | zero => rfl
      | succ n ih => rw [arep, ih, List.replicate_succ]; rfl
    simp only [amkS]
    rw [if_pos ⟨by omega, by omega, by omega, by omega, rfl⟩, Int.toNat_natCast, hr]
  obtain ⟨H2, eH2⟩ : ∃ H2, H1.new (.cells (List.replicate n .nils) true) = H2 := ⟨_, rfl⟩
  rw [eH2] at mk
  have k2 : Keeps H1 H2 := by rw [← eH2]; exact Keeps.new _ _
  have n2 : H2.next = H1.next + 1 := by rw [← eH2, new_next]
  have oM : H2.obj H1.next = some (.cells (List.replicate n .nils) true) := by rw [← eH2, new_obj, if_pos rfl]
  have x1 := k1.1
  have pn := hD.pn
  have an := hD.an
  have hD2 := hD.keeps k2
  simp only [c8, U39, w1, w2, eN, ll, c2, mk, e_nilp0, rwA, rwB, Nat.reduceAdd, Nat.reduceMul, Nat.reduceLeDiff, Int.reduceEq, Int.reduceLT, Int.reduceLE, Int.reduceAdd, Int.reduceSub, Int.reduceMul, ↓reduceIte, Nat.reduceEqDiff, reduceCtorEq, ↓cnd_true, ↓cnd_false]
  repeat (first | refine outs_seq ?_ | refine outs_block ?_ | refine outs_step ?_ | refine outs_stepD ?_ | refine rets_end ?_ | refine ans_end ?_)
  refine outs_gen (fun env => env 1 = lv ∧ env 2 = .int .i64 step ∧ env 3 = kv ∧ env 9 = .int .i64 (n : Int) ∧ env 10 = .ptr (H.next + 2) 0 ∧ env 12 = .slice H1.next 0 n n none ∧ env 61 = .int .i64 (n : Int) ∧ env 62 = .int .i64 0) ⟨by simp [Env.set, ainit], by simp [Env.set, ainit], by simp [Env.set, ainit], by simp [Env.set], by simp [Env.set], by simp [Env.set], by simp [Env.set], by simp [Env.set]⟩ ?_
  rintro env1 ⟨a1, a2, a3, a9, a10, a12, a61, a62⟩
  refine (loop80 (by omega) oM (by omega) a12 a61 a62).mono ?_
  rintro e env2 K1 ⟨rfl, hE, hF, vs, hL, hvs⟩
  have b1 := (hE 1 (by decide) (by decide)).trans a1
  have b2 := (hE 2 (by decide) (by decide)).trans a2
  have b3 := (hE 3 (by decide) (by decide)).trans a3
  have b9 := (hE 9 (by decide) (by decide)).trans a9
  have b10 := (hE 10 (by decide) (by decide)).trans a10
  have b12 := (hE 12 (by decide) (by decide)).trans a12
  have xF := hF.1
  have hm : Hm H K1 (H.next + 2) (H.next + 1) none .nils (fresh n) H1.next n vs (fun _ => [pg 0]) :=
    ⟨hD2.fr hF (by simp; omega) (by simp; omega) (by simp [AVal.ids]), hL, fun x hx => by
      rcases hx with rfl | ⟨i, hi, rfl⟩
      · exact ⟨by omega, by omega, by simp [AVal.ids], by omega⟩
      · have := hvs i hi; exact ⟨by omega, by omega, by simp [AVal.ids], by omega⟩, ⟨by omega, fun i hi => by rw [hF.2 i (by omega) (by simp; omega), k2.2 i (by omega), k1.2 i hi]⟩, by omega, by omega, by simp [AVal.ids]⟩
  obtain ⟨K2, e15, hD3, F3⟩ := U15 hm.D hs1
  have hm2 := hm.disk F3 (fun i hi => .inl (by simpa using hi)) hD3 (fun j hj => .inl hj)
  have inv0 := (Inv.first hn.2).like (e := { fresh n with arm := low step }) rfl rfl
  simp only [outs_some, b1, b2, b10, e15, ll, rwA, rwB, Nat.reduceAdd, Nat.reduceMul, Nat.reduceLeDiff, Int.reduceEq, Int.reduceLT, Int.reduceLE, Int.reduceAdd, Int.reduceSub, Int.reduceMul, ↓reduceIte, Nat.reduceEqDiff, reduceCtorEq, ↓cnd_true, ↓cnd_false]
  repeat (first | refine outs_seq ?_ | refine outs_block ?_ | refine outs_step ?_ | refine outs_stepD ?_ | refine rets_end ?_ | refine ans_end ?_)
  refine outs_gen (fun env => env 3 = kv ∧ env 9 = .int .i64 (n : Int) ∧ env 10 = .ptr (H.next + 2) 0 ∧ env 12 = .slice H1.next 0 n n none ∧ env 74 = lv ∧ env 75 = .int .i64 (l.length : Int) ∧ env 76 = .int .i64 0) ⟨by simp [Env.set, b3], by simp [Env.set, b9], by simp [Env.set, b10], by simp [Env.set, b12], by simp [Env.set], by simp [Env.set], by simp [Env.set]⟩ ?_
  rintro env3 ⟨a3, a9, a10, a12, a74, a75, a76⟩
  refine (loop81 hm2 inv0 hn (fun i hi => by simp) rfl hl hli hln hp a9 a10 a12 a74 a75 a76).mono ?_
  rintro e env4 K3 ⟨rfl, hE, vw', d', vs', ls', hm3, inv3, hls3, hwl3⟩
  have b3 := (hE 3 (by decide) (by decide)).trans a3
  have b10 := (hE 10 (by decide) (by decide)).trans a10
  have b12 := (hE 12 (by decide) (by decide)).trans a12
  have x3 := hm3.base.1
  obtain ⟨K4, e17, hD4, F4⟩ := U17 hm3.D (by omega) (hk.keep hki hm3.base) (fun i hi => ⟨by have := hki i hi; omega, by have := hki i hi; have := hm3.bp; omega, by have := hki i hi; have := hm3.ba; omega⟩)
  have hm4 := hm3.disk F4 (fun i hi => by simp at hi; rcases hi with h | h; exact .inl h; exact .inr (.inl h)) hD4 (fun j hj => by simp [AVal.ids] at hj)
  simp only [outs_some, b3, b10, b12, e17, rwA, rwB, Nat.reduceAdd, Nat.reduceMul, Nat.reduceLeDiff, Int.reduceEq, Int.reduceLT, Int.reduceLE, Int.reduceAdd, Int.reduceSub, Int.reduceMul, ↓reduceIte, Nat.reduceEqDiff, reduceCtorEq, ↓cnd_true, ↓cnd_false]
  repeat (first | refine outs_seq ?_ | refine outs_block ?_ | refine outs_step ?_ | refine outs_stepD ?_ | refine rets_end ?_ | refine ans_end ?_)
  refine outs_gen (fun env => env 10 = .ptr (H.next + 2) 0 ∧ env 12 = .slice H1.next 0 n n none ∧ env 144 = .int .i64 (n : Int) ∧ env 145 = .int .i64 0) ⟨by simp [Env.set, b10], by simp [Env.set, b12], by simp [Env.set], by simp [Env.set]⟩ ?_
  rintro env5 ⟨a10, a12, a144, a145⟩
  refine (loop83 hm4 hn.2 hls3 rfl rfl (by show (puts d'.s _).length = n; rw [puts_len]; exact inv3.len) (fun i hi => by
    obtain ⟨t, ht, e⟩ := inv3.up keep hi
    obtain ⟨b, rfl⟩ := (inv3.ne i hi).2 t ht
    exact ⟨b, ht, e⟩) a10 a12 a144 a145).mono ?_
  rintro e env6 K5 rfl
  simp only [outs_some, rwA, rwB, Nat.reduceAdd, Nat.reduceMul, Nat.reduceLeDiff, Int.reduceEq, Int.reduceLT, Int.reduceLE, Int.reduceAdd, Int.reduceSub, Int.reduceMul, ↓reduceIte, Nat.reduceEqDiff, reduceCtorEq, ↓cnd_true, ↓cnd_false]

theorem law8 (H : AHeap) (args : List AVal) (dats : List Dat) (h : AArgs Try.prog H [5, 77, 3, 23] args dats) : ∃ k H', acall A k 8 args H = some (.bool true, H') := by
  obtain ⟨v0, r, d0, ds, rfl, rfl, h0, h⟩ := args_cons h
  obtain ⟨v1, r, d1, ds, rfl, rfl, h1, h⟩ := args_cons h
  obtain ⟨v3, r, d3, ds, rfl, rfl, h3, h⟩ := args_cons h
  obtain ⟨v4, r, d4, ds, rfl, rfl, h4, h⟩ := args_cons h
  obtain rfl := args_nil h
  obtain ⟨n, rfl, _, b0, b1⟩ := arg_int Try.underlying5 h0
  obtain ⟨l, hl, hli, hp⟩ := arg_homes h1
  obtain ⟨step, rfl, _, _, hs⟩ := arg_int Try.underlying3 h3
  obtain ⟨keep, hk, hki, _⟩ := arg_keep h4
  have b0 : (0 : Int) ≤ n := b0
  have b1 : n ≤ 255 := b1
  obtain ⟨H', hr⟩ := run8 (k := n.toNat) (by omega) hs hl hli hp hk hki
  rw [Int.toNat_of_nonneg b0] at hr
  obtain ⟨k, hk⟩ := AC_iff.1 hr
  exact ⟨k, H', hk⟩

end Go.Proofs.Ytilhjcnkaelheaa.Dk
end
