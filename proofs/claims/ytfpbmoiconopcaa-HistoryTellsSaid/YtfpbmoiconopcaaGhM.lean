/- HistoryLast: the last points; the inner loop. -/
import Derived.Test.YtfpbmoiconopcaaGhK
set_option maxRecDepth 100000
set_option linter.unusedSimpArgs false
set_option linter.unusedVariables false
set_option maxHeartbeats 2000000
namespace Go.Proofs.Ytfpbmoiconopcaa.Gh
open Go Go.Proofs.Ytfpbmoiconopcaa.Am GaFns Go.RowKit

def Good (ps : List (Int × Int)) : Prop := ∀ i, i < ps.length → stp ps i = true
theorem good_of {ps : List (Int × Int)} : goodN ps ps.length = true ↔ Good ps := by simp [goodN, Good, List.all_eq_true, List.mem_range]
theorem Good.nil : Good [] := fun i h => by simp at h
theorem at0_app {ps qs : List (Int × Int)} {i : Nat} (h : i < ps.length) : at0 (ps ++ qs) i = at0 ps i := by
  rw [at0_get h, at0_get (by simp; omega), List.getElem_append_left h]
theorem at0_push (ps : List (Int × Int)) (p : Int × Int) : at0 (ps ++ [p]) ps.length = p := by
  rw [at0_get (by simp)]; simp
theorem Good.push {ps : List (Int × Int)} {p : Int × Int} (h : Good ps) (hp : okp p = true) (hl : ps.length = 0 ∨ (lastP ps).1 < p.1) : Good (ps ++ [p]) := by
  intro i hi
  simp at hi
  by_cases hlt : i < ps.length
  · have := h i hlt
    unfold stp at this ⊢
    rw [at0_app hlt, at0_app (show i - 1 < ps.length by omega)]
    exact this
  · have : i = ps.length := by omega
    subst this
    unfold stp
    rw [at0_push, hp, Bool.true_and, Bool.or_eq_true, decide_eq_true_eq, decide_eq_true_eq]
    rcases hl with h0 | h1
    · exact .inl h0
    · by_cases h0 : ps.length = 0
      · exact .inl h0
      · rw [at0_app (show ps.length - 1 < ps.length by omega)]
        exact .inr h1
theorem at0_drop (ps : List (Int × Int)) (k i : Nat) : at0 (ps.drop k) i = at0 ps (k + i) := by simp [at0, List.getElem?_drop]
theorem Good.drop {ps : List (Int × Int)} (h : Good ps) (k : Nat) : Good (ps.drop k) := by
  intro i hi
  simp at hi
  have := h (k + i) (by omega)
  unfold stp at this ⊢
  rw [at0_drop, at0_drop]
  simp only [Bool.and_eq_true, Bool.or_eq_true, decide_eq_true_eq] at this ⊢
  refine ⟨this.1, ?_⟩
  by_cases h0 : i = 0
  · exact .inl h0
  · rcases this.2 with h1 | h1
    · omega
    · rw [show k + (i - 1) = k + i - 1 by omega]
      exact .inr h1

def lastN (R : Nat) (all : List (Int × Int)) : List (Int × Int) := all.drop (all.length - R)
theorem lastN_len (R : Nat) (all : List (Int × Int)) : (lastN R all).length = min all.length R := by simp [lastN]; omega
theorem lastN_kept {r : Int} (hr : 1 ≤ r) (all : List (Int × Int)) (t u : Int) : kept r (lastN r.toNat all) t u = lastN r.toNat (all ++ [(t, u)]) := by
  unfold kept
  rw [lastN_len]
  unfold lastN
  rw [← List.drop_append_of_le_length (by omega), List.drop_drop]
  congr 1
  simp
  omega
theorem lastN_right {r : Int} (h1 : 1 ≤ r ∧ r ≤ 64) {all : List (Int × Int)} (hg : Good all) : right r (lastN r.toNat all) = true := by
  unfold right
  have hg' : Good (lastN r.toNat all) := hg.drop _
  rw [good_of.2 hg', lastN_len]
  simp
  omega
theorem lastN_last {r : Int} (hr : 1 ≤ r) {all : List (Int × Int)} (h : all.length ≠ 0) : lastP (lastN r.toNat all) = lastP all := by
  unfold lastP
  rw [lastN_len]
  unfold lastN
  rw [at0_drop]
  congr 1
  omega
theorem lastN_has {r : Int} (h1 : 1 ≤ r ∧ r ≤ 64) {all : List (Int × Int)} (hg : Good all) : has r (lastN r.toNat all) = !decide (all.length = 0) := by
  unfold has
  rw [lastN_right h1 hg, lastN_len, Bool.true_and]
  congr 2
  simp
  omega
def may9 (all : List (Int × Int)) (t u : Int) : Bool := okp (t, u) && (decide (all.length = 0) || decide ((lastP all).1 < t))
theorem may_is {r : Int} (h1 : 1 ≤ r ∧ r ≤ 64) {all : List (Int × Int)} (hg : Good all) (t u : Int) : may r (lastN r.toNat all) t u = may9 all t u := by
  unfold may may9
  rw [lastN_right h1 hg, lastN_has h1 hg, Bool.true_and]
  by_cases h0 : all.length = 0
  · simp [h0]
  · rw [lastN_last h1.1 h0]
    simp [h0]
    congr 1
    by_cases q : t ≤ (lastP all).1
    · simp [q]
    · simp [q]; omega

def b9b : ACode := (.seq (.region [⟨(some 126), (.bin .lss (.tmp 125) (.tmp 124)), none, none⟩]) (.seq (.cond (.tmp 126) .skip (.exit 2)) (.seq (.block 3 (.seq (.region [⟨(some 127), (.mv (.tmp 125)), none, none⟩, ⟨(some 128), (.idxASl 2 (.tmp 123) (.tmp 125)), none, none⟩, ⟨(some 129), (.load true 2 (.tmp 128)), none, none⟩, ⟨(some 15), (.new [(.int .i64 0), (.int .i64 0)]), none, none⟩, ⟨(some 14), (.mv (.tmp 127)), none, none⟩, ⟨none, (.store 2 (.tmp 15) (.tmp 129)), none, none⟩]) (.seq (.draw [⟨(some 130), (.load true 2 (.tmp 15)), none, none⟩, ⟨(some 131), (.mv (.tmp 7)), none, none⟩, ⟨(some 132), (.mv (.tmp 7)), none, none⟩, ⟨(some 133), (.len false (.tmp 132)), none, none⟩, ⟨(some 134), (.fieldA 1 (.tmp 5)), none, none⟩, ⟨(some 135), (.load false 1 (.tmp 134)), none, none⟩, ⟨(some 136), (.len false (.tmp 135)), none, none⟩, ⟨(some 137), (.bin .sub (.tmp 133) (.tmp 136)), none, none⟩, ⟨(some 138), (.mv (.tmp 14)), none, none⟩, ⟨(some 139), (.bin .add (.tmp 137) (.tmp 138)), none, none⟩, ⟨(some 140), (.idxASl 2 (.tmp 131) (.tmp 139)), none, none⟩, ⟨(some 141), (.load true 2 (.tmp 140)), none, none⟩, ⟨(some 142), (.eq true (.fld 0 1 false (.int .i64) (.fld 1 1 false (.int .i64) .fend)) (.tmp 130) (.tmp 141)), none, none⟩]) (.cond (.tmp 142) (.seq (.region [⟨(some 4), (.mv (.con (.bool false))), none, none⟩]) .ret) .skip)))) (.region [⟨(some 143), (.bin .add (.tmp 125) (.con (.int .i64 1))), none, none⟩, ⟨(some 125), (.mv (.tmp 143)), none, none⟩]))))
theorem round9b {K0 K : AHeap} {p i : Nat} {r : Int} {v hs : AVal} {all : List (Int × Int)} {env : Env} (hk : Keeps K0 K) (op : K0.obj p = some (.cells [.int .i64 r, hs] true)) (hp : p < K0.next) (hv : Sl K0 2 v (PS all)) (hvi : ∀ i, i ∈ v.ids → i < K0.next)
    (hh : Sl K0 2 hs (PS (lastN r.toNat all))) (hhi : ∀ i, i ∈ hs.ids → i < K0.next) (hl : all.length ≤ 8796093021952) (hr : 1 ≤ r ∧ r ≤ 64)
    (h5 : env 5 = .ptr p 0) (h7 : env 7 = v) (h1 : env 123 = hs) (h2 : env 124 = .int .i64 ((lastN r.toNat all).length : Int)) (h3 : env 125 = .int .i64 (i : Int)) (hi : i < (lastN r.toNat all).length) :
    Outs (AX A b9b env K) fun e env' K' => e = .normal ∧ Keeps K0 K' ∧ env' 125 = .int .i64 ((i + 1 : Nat) : Int) ∧ ∀ j, j < 126 → j ≠ 125 → j ≠ 14 → j ≠ 15 → env' j = env j := by
  have hn := lastN_len r.toNat all
  have hvK := hv.keep hvi hk
  have hhK := hh.keep hhi hk
  obtain ⟨id, off, cap, g, l, own, et, ho, hkk, hall⟩ := pts_at hhK (by omega)
  obtain ⟨id2, off2, cap2, gg2, l2, own2, et2, ho2, hkk2, hall2⟩ := pts_at hvK (by omega)
  have e1 : decide ((i : Int) < ((lastN r.toNat all).length : Int)) = true := by simp; omega
  have w1 : IntKind.i64.wrap ((i : Int) + 1) = ((i + 1 : Nat) : Int) := by rw [wrap_i64]; omega
  have ha : aidx (lastN r.toNat all).length (.int .i64 (i : Int)) = some i := by simp [aidx]; omega
  obtain ⟨m, em⟩ : ∃ m, all.length - r.toNat + i = m := ⟨_, rfl⟩
  have hm : m < all.length := by omega
  have w2 : IntKind.i64.wrap ((all.length : Int) - ((lastN r.toNat all).length : Int)) = ((all.length - r.toNat : Nat) : Int) := by rw [wrap_i64]; omega
  have w3 : IntKind.i64.wrap (((all.length - r.toNat : Nat) : Int) + (i : Int)) = (m : Int) := by rw [wrap_i64]; omega
  have ha2 : aidx all.length (.int .i64 (m : Int)) = some m := by simp [aidx]; omega
  obtain ⟨g1, _, _⟩ := hall i hi
  obtain ⟨g2, _, _⟩ := hall2 m hm
  have ee : (lastN r.toNat all)[i] = all[m] := by
    simp only [lastN, List.getElem_drop]
    congr 1
  rw [ee] at g1
  obtain ⟨⟨x, y⟩, exy⟩ : ∃ q, all[m] = q := ⟨_, rfl⟩
  rw [exy] at g1 g2
  obtain ⟨n, en⟩ : ∃ n, (lastN r.toNat all).length = n := ⟨_, rfl⟩
  rw [en] at e1 w2 h2 ha et
  have idn : id < K.next := by have := hhi id (by rw [et]; simp [AVal.ids]); have := hk.1; omega
  have idn2 : id2 < K.next := by have := hvi id2 (by rw [et2]; simp [AVal.ids]); have := hk.1; omega
  have opK : K.obj p = some (.cells [.int .i64 r, hs] true) := by rw [hk.2 p hp]; exact op
  obtain ⟨K1, eK1⟩ : ∃ X, (K.new (.cells [.int .i64 0, .int .i64 0] true)).set K.next (.cells [.int .i64 x, .int .i64 y] true) = X := ⟨_, rfl⟩
  have nK1 : K1.next = K.next + 1 := by rw [← eK1]; rfl
  have oK1 : K1.obj K.next = some (.cells [.int .i64 x, .int .i64 y] true) := by rw [← eK1]; simp [AHeap.set]
  have kK1 : Keeps K K1 := ⟨by omega, fun i hi => by rw [← eK1]; simp only [set_obj, new_obj]; rw [if_neg (by omega), if_neg (by omega)]⟩
  have opK1 : K1.obj p = some (.cells [.int .i64 r, hs] true) := by rw [kK1.2 p (by have := hk.1; omega)]; exact opK
  have ho2' : K1.obj id2 = some (.cells l2 own2) := by rw [kK1.2 id2 idn2]; exact ho2
  subst et et2
  simp only [b9b, h5, h7, h1, h2, h3, e1, w1, ha, ho, g1, eK1, nK1, oK1, opK1, w2, w3, ha2, ho2', g2, Bool.not_true, rwA, rwB, Nat.reduceAdd, Nat.reduceMul, Nat.reduceLeDiff, Int.reduceEq, Int.reduceLT, Int.reduceLE, Int.reduceAdd, Int.reduceSub, Int.reduceMul, ↓reduceIte, Nat.reduceEqDiff, reduceCtorEq, ↓cnd_true, ↓cnd_false]
  rw [outs_some]
  refine ⟨rfl, hk.trans kK1, by simp [Env.set], fun j hj j1 j2 j3 => ?_⟩
  simp only [Env.set]
  repeat rw [if_neg (by omega)]

theorem loop9b {K0 : AHeap} {p : Nat} {r : Int} {v hs : AVal} {all : List (Int × Int)} {env : Env} (op : K0.obj p = some (.cells [.int .i64 r, hs] true)) (hp : p < K0.next) (hv : Sl K0 2 v (PS all)) (hvi : ∀ i, i ∈ v.ids → i < K0.next)
    (hh : Sl K0 2 hs (PS (lastN r.toNat all))) (hhi : ∀ i, i ∈ hs.ids → i < K0.next) (hl : all.length ≤ 8796093021952) (hr : 1 ≤ r ∧ r ≤ 64)
    (h5 : env 5 = .ptr p 0) (h7 : env 7 = v) (h1 : env 123 = hs) (h2 : env 124 = .int .i64 ((lastN r.toNat all).length : Int)) (h3 : env 125 = .int .i64 0) :
    Outs (AX A (.loop b9b) env K0) fun e env' K' => e = .exit 2 ∧ Keeps K0 K' ∧ ∀ j, j < 125 → j ≠ 14 → j ≠ 15 → env' j = env j := by
  refine loop_ends (I := fun (i : Nat) env' K' => i ≤ (lastN r.toNat all).length ∧ Keeps K0 K' ∧ env' 125 = .int .i64 (i : Int) ∧ ∀ j, j < 125 → j ≠ 14 → j ≠ 15 → env' j = env j) (fun i => (lastN r.toNat all).length - i) ?_ 0 env K0 ⟨Nat.zero_le _, Keeps.refl _, h3, fun _ _ _ _ => rfl⟩
  rintro i env' K' ⟨hi, hk, h3, hE⟩
  by_cases hlt : i < (lastN r.toNat all).length
  · refine (round9b hk op hp hv hvi hh hhi hl hr (by rw [hE 5 (by omega) (by omega) (by omega)]; exact h5) (by rw [hE 7 (by omega) (by omega) (by omega)]; exact h7) (by rw [hE 123 (by omega) (by omega) (by omega)]; exact h1) (by rw [hE 124 (by omega) (by omega) (by omega)]; exact h2) h3 hlt).mono ?_
    rintro e env2 K2 ⟨rfl, hk2, h3', hE2⟩
    exact .inl ⟨rfl, i + 1, by omega, by omega, hk2, h3', fun j j1 j2 j3 => by rw [hE2 j (by omega) (by omega) j2 j3, hE j j1 j2 j3]⟩
  · have : i = (lastN r.toNat all).length := by omega
    subst this
    have h2' : env' 124 = .int .i64 ((lastN r.toNat all).length : Int) := by rw [hE 124 (by omega) (by omega) (by omega)]; exact h2
    have e1 : decide (((lastN r.toNat all).length : Int) < ((lastN r.toNat all).length : Int)) = false := by simp
    simp only [b9b, h2', h3, e1, rwA, rwB, Nat.reduceAdd, Nat.reduceMul, Nat.reduceLeDiff, Int.reduceEq, Int.reduceLT, Int.reduceLE, Int.reduceAdd, Int.reduceSub, Int.reduceMul, ↓reduceIte, Nat.reduceEqDiff, reduceCtorEq, ↓cnd_true, ↓cnd_false]
    rw [outs_some]
    refine .inr ⟨by simp, rfl, hk, fun j j1 j2 j3 => ?_⟩
    simp only [Env.set]
    repeat rw [if_neg (by omega)]
    exact hE j j1 j2 j3

end Go.Proofs.Ytfpbmoiconopcaa.Gh
