/- Histories: how Left grows with the limit; ours. -/
import Derived.Test.YtfpbmoiconopcaaGhI
set_option maxRecDepth 100000
set_option linter.unusedSimpArgs false
set_option linter.unusedVariables false
set_option maxHeartbeats 2000000
namespace Go.Proofs.Ytfpbmoiconopcaa.Gh
open Go Go.Proofs.Ytfpbmoiconopcaa.Am GaFns Go.RowKit

theorem fdiv_by_inf {x y : Nat} (hx : Fl.rg x < 9218868437227405312) (hy : Fl.rg y = 9218868437227405312) : fdiv x y = Ieee.double.word (Fl.sg x ^^ Fl.sg y) 0 := by
  unfold fdiv Ieee.Format.div
  obtain ⟨n, q, hn, hv⟩ := Fl.read_num hx
  rw [hn, Fl.read_inf hy]
  simp only [Ieee.Datum.quotient, Option.map_some, Option.getD_some]
  have := Fl.write_num (Fl.sg x ^^ Fl.sg y) 0 0
  simp only [Int.add_zero, Nat.zero_mul, Int.toNat_zero] at this
  first | (rw [show (Fl.rn 0 (2 ^ (-(0 : Int)).toNat)) = 0 from Fl.rn_zero _] at this; exact this) | (simp [Ieee.Format.write]; done)

/-- A number that is not negative. -/
def nn (x : Nat) : Prop := Fl.num x ∧ Fl.sg x = false
theorem nn_word {r : Nat} (h : r ≤ 9218868437227405312) : nn (Ieee.double.word false r) := ⟨Fl.num_word _ h, Fl.sg_word _ (by omega)⟩
theorem nn_0 : nn 0 := ⟨by decide, rfl⟩
theorem nn_inf : nn 9218868437227405312 := ⟨by decide, by decide⟩
theorem rg_inf : Fl.rg 9218868437227405312 = 9218868437227405312 := by decide

theorem fint_nn {n : Int} (h : 0 ≤ n) : nn (fint n) := ⟨Fl.fint_num n, by rw [Fl.fint_sg]; exact decide_eq_false (by omega)⟩
theorem fint_rg_up {a b : Int} (h0 : 0 ≤ a) (h : a ≤ b) : Fl.rg (fint a) ≤ Fl.rg (fint b) := by
  have := Fl.fint_mono h
  have e1 := (fint_nn h0).2
  have e2 := (fint_nn (show 0 ≤ b by omega)).2
  simp only [Fl.sr, e1, e2, Bool.false_eq_true, if_false] at this
  omega

/-- What is divided by a positive number. -/
theorem fdiv_pos {s : Nat} (hs : fgtr s 0 = true) {a : Int} (h0 : 0 ≤ a) (h1 : a ≤ 9223372036854775807) : nn (fdiv (fint a) s) ∧
    ∀ b, a ≤ b → b ≤ 9223372036854775807 → Fl.rg (fdiv (fint a) s) ≤ Fl.rg (fdiv (fint b) s) := by
  rw [Fl.fgtr_0] at hs
  simp only [Bool.and_eq_true, decide_eq_true_eq, Bool.not_eq_true'] at hs
  obtain ⟨⟨hn, hr⟩, hsg⟩ := hs
  have ha := Fl.fint_lt_inf (n := a) (by omega)
  have ea := (fint_nn h0).2
  unfold Fl.num at hn
  rcases Nat.lt_or_eq_of_le hn with hlt | heq
  · have d1 := Fl.fdiv_is ha (by omega) hlt
    rw [ea, hsg] at d1
    have d1 : fdiv (fint a) s = Ieee.double.word false (Fl.rn (Fl.u (Fl.rg (fint a)) * Fl.one) (Fl.u (Fl.rg s))) := d1
    rw [d1]
    refine ⟨nn_word (Fl.rn_le_inf _ _), fun b hab hb => ?_⟩
    have hb' := Fl.fint_lt_inf (n := b) (by omega)
    have eb := (fint_nn (show 0 ≤ b by omega)).2
    have d2 := Fl.fdiv_is hb' (by omega) hlt
    rw [eb, hsg] at d2
    have d2 : fdiv (fint b) s = Ieee.double.word false (Fl.rn (Fl.u (Fl.rg (fint b)) * Fl.one) (Fl.u (Fl.rg s))) := d2
    rw [d2, Fl.rg_word _ (Fl.rn_lt _ _), Fl.rg_word _ (Fl.rn_lt _ _)]
    have hu := Fl.u_pos (r := Fl.rg s) (by omega)
    refine Fl.rn_mono hu hu ?_
    exact Nat.mul_le_mul_right _ (Nat.mul_le_mul_right _ (Fl.u_le_iff.2 (fint_rg_up h0 hab)))
  · have d1 := fdiv_by_inf ha heq
    rw [ea, hsg] at d1
    have d1 : fdiv (fint a) s = Ieee.double.word false 0 := d1
    rw [d1]
    refine ⟨nn_word (by omega), fun b hab hb => ?_⟩
    rw [Fl.rg_word _ (by omega)]
    exact Nat.zero_le _

theorem left_nn {r : Int} {ps : List (Int × Int)} (hh : has r ps = true) (hl : 0 ≤ (lastP ps).2) {low : Int} (h0 : 0 ≤ low) (h1 : low ≤ 9223372036854775807) : nn (leftH r ps low) := by
  simp only [leftH, hh, if_true]
  rw [if_neg (by omega)]
  split
  · exact nn_0
  · split
    · rename_i hs
      exact (fdiv_pos hs (by omega) (by omega)).1
    · exact nn_inf
theorem left_mono {r : Int} {ps : List (Int × Int)} (hh : has r ps = true) (hl : 0 ≤ (lastP ps).2) {low high : Int} (h0 : 0 ≤ low) (h : low ≤ high) (h1 : high ≤ 9223372036854775807) : Fl.rg (leftH r ps low) ≤ Fl.rg (leftH r ps high) := by
  simp only [leftH, hh, if_true]
  rw [if_neg (show ¬ low < 0 by omega), if_neg (show ¬ high < 0 by omega)]
  by_cases q1 : low ≤ (lastP ps).2
  · rw [if_pos q1, Fl.rg_0]
    exact Nat.zero_le _
  · rw [if_neg q1, if_neg (show ¬ high ≤ (lastP ps).2 by omega)]
    split
    · rename_i hs
      exact (fdiv_pos hs (by omega) (by omega)).2 _ (by omega) (by omega)
    · exact Nat.le_refl _
theorem left_low {r : Int} {ps : List (Int × Int)} (hh : has r ps = true) {low : Int} (h0 : 0 ≤ low) (h : low ≤ (lastP ps).2) : leftH r ps low = 0 := by
  simp only [leftH, hh, if_true]
  rw [if_neg (by omega), if_pos h]
theorem left_neg {r : Int} {ps : List (Int × Int)} (hh : has r ps = true) : leftH r ps (-1) = 9218868437227405312 := by
  simp only [leftH, hh, if_true]
  rw [if_pos (by omega)]

theorem nn_sr {x : Nat} (h : nn x) : Fl.sr x = (Fl.rg x : Int) := by simp [Fl.sr, h.2]
theorem nn_ky {x : Nat} (h : nn x) : Fl.ky x = (Fl.rg x : Int) := by simp [Fl.ky, h.1, h.2]
theorem nn_kd {x : Nat} (h : nn x) : 3 ≤ Fl.kd x ∧ Fl.kd x ≤ 5 := by
  unfold Fl.kd
  rw [if_pos h.1, h.2]
  split <;> (try split) <;> simp_all
def inT (x : Nat) (tk : Int) : Bool := flss x (fint tk) || feq x (fint tk)
theorem inT_is {x : Nat} (h : nn x) (tk : Int) : inT x tk = decide ((Fl.rg x : Int) ≤ Fl.sr (fint tk)) := by
  have hf := Fl.fint_num tk
  unfold inT
  rw [Fl.flss_is, Fl.feq_is, nn_sr h]
  have h1 := h.1
  by_cases q : (Fl.rg x : Int) ≤ Fl.sr (fint tk)
  · rcases Int.lt_or_eq_of_le q with q1 | q1
    · rw [decide_eq_true (p := Fl.num x ∧ Fl.num (fint tk) ∧ (Fl.rg x : Int) < Fl.sr (fint tk)) ⟨h1, hf, q1⟩, decide_eq_true q]; rfl
    · rw [decide_eq_true (p := Fl.num x ∧ Fl.num (fint tk) ∧ (Fl.rg x : Int) = Fl.sr (fint tk)) ⟨h1, hf, q1⟩, decide_eq_true q, Bool.or_true]
  · rw [decide_eq_false q, decide_eq_false (fun hx => q (by have := hx.2.2; omega)), decide_eq_false (fun hx => q (by have := hx.2.2; omega))]; rfl
theorem inT_mono {x y : Nat} {s t : Int} (hx : nn x) (hy : nn y) (h : Fl.rg x ≤ Fl.rg y) (hst : s ≤ t) (hy' : inT y s = true) : inT x t = true := by
  rw [inT_is hy, decide_eq_true_eq] at hy'
  rw [inT_is hx, decide_eq_true_eq]
  have := Fl.fint_mono hst
  omega
theorem inT_inf {t : Int} (ht : t.natAbs < 2 ^ 64) : inT 9218868437227405312 t = false := by
  rw [inT_is nn_inf, decide_eq_false_iff_not, rg_inf]
  have := Fl.fint_lt_inf (n := t) ht
  simp only [Fl.sr]
  split <;> omega
theorem inT_0 {t : Int} (ht : 0 ≤ t) : inT 0 t = true := by
  rw [inT_is nn_0, decide_eq_true_eq, nn_sr (fint_nn ht)]
  exact Int.ofNat_le.2 (Nat.zero_le _)

/-! ### ours -/
def b34 : ACode := (.seq (.region [⟨(some 10), (.bin .lss (.tmp 9) (.tmp 8)), none, none⟩]) (.seq (.cond (.tmp 10) .skip (.exit 0)) (.seq (.block 1 (.seq (.region [⟨(some 11), (.idxASl 2 (.tmp 7) (.tmp 9)), none, none⟩, ⟨(some 12), (.load true 2 (.tmp 11)), none, none⟩, ⟨(some 5), (.new [(.int .i64 0), (.int .i64 0)]), none, none⟩, ⟨none, (.store 2 (.tmp 5) (.tmp 12)), none, none⟩]) (.region [⟨(some 13), (.mv (.tmp 3)), none, none⟩, ⟨(some 14), (.fieldA 0 (.tmp 5)), none, none⟩, ⟨(some 15), (.load false 1 (.tmp 14)), none, none⟩, ⟨(some 16), (.fieldA 1 (.tmp 5)), none, none⟩, ⟨(some 17), (.load false 1 (.tmp 16)), none, none⟩, ⟨(some 18), (.build [(.int .i64 0), (.int .i64 0)] [(0, (1, (.tmp 15))), (1, (1, (.tmp 17)))]), none, none⟩, ⟨(some 19), (.buildS 1 [(.int .i64 0), (.int .i64 0)] [(0, (2, (.tmp 18)))]), none, none⟩, ⟨(some 20), (.append 2 16 (.tmp 13) (.tmp 19)), none, none⟩, ⟨(some 3), (.mv (.tmp 20)), none, none⟩]))) (.region [⟨(some 21), (.bin .add (.tmp 9) (.con (.int .i64 1))), none, none⟩, ⟨(some 9), (.mv (.tmp 21)), none, none⟩]))))
def J34 (K0 : AHeap) (p : Nat) (s : AVal) (ps : List (Int × Int)) (j : Nat) (env : Env) (K : AHeap) : Prop :=
  j ≤ ps.length ∧ Keeps K0 K ∧ env 1 = .ptr p 0 ∧ env 2 = .ptr (p + 1) 0 ∧ env 7 = s ∧ env 8 = .int .i64 (ps.length : Int) ∧ env 9 = .int .i64 (j : Int) ∧ ∃ v, env 3 = v ∧ Ow K 2 v (PS (ps.take j)) ∧ ∀ i, i ∈ v.ids → K0.next ≤ i
theorem round34 {K0 K : AHeap} {p j : Nat} {s : AVal} {ps : List (Int × Int)} {env : Env} (hs : Sl K0 2 s (PS ps)) (hid : ∀ i, i ∈ s.ids → i < K0.next) (hl : ps.length ≤ 8796093021952) (h : J34 K0 p s ps j env K) (hlt : j < ps.length) :
    Outs (AX A b34 env K) fun e env' K' => e = .normal ∧ J34 K0 p s ps (j + 1) env' K' := by
  obtain ⟨hj, hk, h1, h2, h7, h8, h9, v, h3, hv, hvi⟩ := h
  have hsK := hs.keep hid hk
  obtain ⟨id, off, cap, g, l, own, et, ho, hkk, hall⟩ := pts_at hsK (by omega)
  have e1 : decide ((j : Int) < (ps.length : Int)) = true := by simp; omega
  have w1 : IntKind.i64.wrap ((j : Int) + 1) = ((j + 1 : Nat) : Int) := by rw [wrap_i64]; omega
  have ha : aidx ps.length (.int .i64 (j : Int)) = some j := by simp [aidx]; omega
  obtain ⟨g1, g2, g3⟩ := hall j hlt
  obtain ⟨⟨x, y⟩, exy⟩ : ∃ q, ps[j] = q := ⟨_, rfl⟩
  rw [exy] at g1 g2 g3
  subst et
  obtain ⟨K1, eK1⟩ : ∃ X, (K.new (.cells [.int .i64 0, .int .i64 0] true)).set K.next (.cells [.int .i64 x, .int .i64 y] true) = X := ⟨_, rfl⟩
  have nK1 : K1.next = K.next + 1 := by rw [← eK1]; rfl
  have oK1 : K1.obj K.next = some (.cells [.int .i64 x, .int .i64 y] true) := by rw [← eK1]; simp [AHeap.set]
  have kK1 : Keeps K K1 := ⟨by omega, fun i hi => by rw [← eK1]; simp only [set_obj, new_obj]; rw [if_neg (by omega), if_neg (by omega)]⟩
  have hv1 : Ow K1 2 v (PS (ps.take j)) := hv.keeps kK1.1 fun i hi => kK1.2 i (hv.lt i hi)
  obtain ⟨K2, ap, oN, nK2, kK2⟩ := bp_push (.inl hv1) x y (by simp; omega)
  have elen : (ps.take j).length = j := by simp; omega
  have etk : ps.take j ++ [(x, y)] = ps.take (j + 1) := by rw [← exy, List.take_succ_eq_append_getElem hlt]
  rw [nK1, elen] at ap
  rw [nK1] at oN nK2 kK2
  rw [etk] at oN
  simp only [b34, h1, h2, h3, h7, h8, h9, e1, w1, ha, ho, g1, eK1, nK1, oK1, ap, rwA, rwB, Nat.reduceAdd, Nat.reduceMul, Nat.reduceLeDiff, Int.reduceEq, Int.reduceLT, Int.reduceLE, Int.reduceAdd, Int.reduceSub, Int.reduceMul, ↓reduceIte, Nat.reduceEqDiff, reduceCtorEq, ↓cnd_true, ↓cnd_false]
  rw [outs_some]
  refine ⟨rfl, by omega, ⟨by have := hk.1; omega, fun i hi => ?_⟩, by simp [Env.set, h1], by simp [Env.set, h2], by simp [Env.set, h7], by simp [Env.set, h8], by simp [Env.set], .slice (K.next + 1 + 1) 0 (j + 1) (j + 1) (some 2), by simp [Env.set], ?_, ?_⟩
  · have hkn := hk.1
    rw [kK2 i (by omega) (fun hx => by have := hvi i hx; omega), kK1.2 i (by omega), hk.2 i hi]
  · refine .inr ⟨_, _, rfl, ?_, by omega, oN, by omega⟩
    rw [PS_len]; simp; omega
  · intro i hi
    simp [AVal.ids] at hi
    have := hk.1
    omega

theorem one_agg {n id b m : Nat} {r : Int} {K : AHeap} {cs : List AVal} (h : n ≤ id) (ho : K.obj id = some (.cells cs true)) (hc : oldl n cs = true) :
    One n (.agg [.int .i64 r, .slice id 0 m m (some 2)]) K (.agg [.int .i64 r, .slice b 0 m m (some 2)]) b cs :=
  ⟨id, by simp [AVal.ids, idsl, h, nub], ho, hc, by simp [AVal.ren, renl, sig_new [] h]⟩

end Go.Proofs.Ytfpbmoiconopcaa.Gh
