/- HistoryPeaks: what peaks are; the inner loops. -/
import Derived.Test.YtfpbmoiconopcaaGhR
set_option maxRecDepth 100000
set_option linter.unusedSimpArgs false
set_option linter.unusedVariables false
set_option maxHeartbeats 4000000
namespace Go.Proofs.Ytfpbmoiconopcaa.Gh
open Go Go.Proofs.Ytfpbmoiconopcaa.Am GaFns Go.RowKit

def mxN (ps : List (Int × Int)) : Nat → Int
  | 0 => -1
  | j + 1 => if (at0 ps j).2 > mxN ps j then (at0 ps j).2 else mxN ps j
def inR (a x t : Int) : Bool := decide (a < t) && decide (t ≤ x)
def lowN (ps : List (Int × Int)) (a x : Int) : Nat → Int
  | 0 => 1152921504606846976
  | j + 1 => if inR a x (at0 ps j).1 = true then (if (at0 ps j).2 < lowN ps a x j then (at0 ps j).2 else lowN ps a x j) else lowN ps a x j

theorem mxN_ge (ps : List (Int × Int)) : ∀ j i, i < j → (at0 ps i).2 ≤ mxN ps j
  | 0, i, h => by omega
  | j + 1, i, h => by
    simp only [mxN]
    by_cases e : i = j
    · subst e; split <;> omega
    · have := mxN_ge ps j i (by omega)
      split <;> omega
theorem mxN_at (ps : List (Int × Int)) : ∀ j, mxN ps j = -1 ∨ ∃ i, i < j ∧ (at0 ps i).2 = mxN ps j
  | 0 => .inl rfl
  | j + 1 => by
    simp only [mxN]
    split
    · exact .inr ⟨j, by omega, rfl⟩
    · rcases mxN_at ps j with h | ⟨i, h1, h2⟩
      · exact .inl h
      · exact .inr ⟨i, by omega, h2⟩
theorem lowN_le (ps : List (Int × Int)) (a x : Int) : ∀ j i, i < j → inR a x (at0 ps i).1 = true → lowN ps a x j ≤ (at0 ps i).2
  | 0, i, h, _ => by omega
  | j + 1, i, h, hi => by
    simp only [lowN]
    by_cases e : i = j
    · subst e
      rw [if_pos hi]
      split <;> omega
    · have := lowN_le ps a x j i (by omega) hi
      split
      · split <;> omega
      · exact this

theorem Good.ticks {ps : List (Int × Int)} (h : Good ps) : ∀ j i, i < j → j < ps.length → (at0 ps i).1 < (at0 ps j).1
  | 0, i, h1, _ => by omega
  | j + 1, i, h1, h2 => by
    have hj := h (j + 1) h2
    unfold stp at hj
    simp only [Bool.and_eq_true, Bool.or_eq_true, decide_eq_true_eq, Nat.add_sub_cancel] at hj
    have h3 : (at0 ps j).1 < (at0 ps (j + 1)).1 := hj.2.resolve_left (by omega)
    by_cases e : i = j
    · subst e; exact h3
    · have := Good.ticks h j i (by omega) (by omega)
      omega
theorem Good.nonneg {ps : List (Int × Int)} (h : Good ps) {i : Nat} (hi : i < ps.length) : 0 ≤ (at0 ps i).1 ∧ 0 ≤ (at0 ps i).2 := by
  have hj := h i hi
  unfold stp okp cnt at hj
  simp only [Bool.and_eq_true, decide_eq_true_eq] at hj
  exact ⟨hj.1.1.1, hj.1.2.1⟩

def ik (ps : List (Int × Int)) (k : Nat) : Nat := (pki ps ps.length).getD k 0
theorem pks_at {ps : List (Int × Int)} {k : Nat} (h : k < (pks ps ps.length).length) : (pks ps ps.length)[k] = at0 ps (ik ps k) ∧ ik ps k < ps.length ∧ pk ps (ik ps k) = true := by
  have hl : k < (pki ps ps.length).length := by simpa [pks] using h
  have e : ik ps k = (pki ps ps.length)[k] := by simp [ik, hl]
  have hm : (pki ps ps.length)[k] ∈ pki ps ps.length := List.getElem_mem _
  rw [← e] at hm
  have := List.mem_filter.1 hm
  refine ⟨by rw [e]; simp [pks], by simpa using this.1, this.2⟩
theorem ik_lt {ps : List (Int × Int)} {k m : Nat} (hkm : k < m) (h : m < (pks ps ps.length).length) : ik ps k < ik ps m := by
  have hl : m < (pki ps ps.length).length := by simpa [pks] using h
  have hp : (pki ps ps.length).Pairwise (· < ·) := List.Pairwise.filter _ List.pairwise_lt_range
  have := List.pairwise_iff_getElem.1 hp k m (by omega) hl hkm
  simpa [ik, hl, show k < (pki ps ps.length).length by omega] using this

/-- Where the last peak was. -/
def aK (ps : List (Int × Int)) (k : Nat) : Int := if k = 0 then -1 else (at0 ps (ik ps (k - 1))).1
theorem peak_later {ps : List (Int × Int)} (hg : Good ps) {k : Nat} (h : k < (pks ps ps.length).length) : aK ps k < (at0 ps (ik ps k)).1 := by
  obtain ⟨_, h1, h2⟩ := pks_at h
  unfold aK
  split
  · have := (hg.nonneg h1).1; omega
  · exact hg.ticks _ _ (ik_lt (by omega) h) h1
theorem peak_low {ps : List (Int × Int)} (hg : Good ps) {k : Nat} (h : k < (pks ps ps.length).length) (ha : 0 ≤ aK ps k) : lowN ps (aK ps k) (at0 ps (ik ps k)).1 ps.length < (at0 ps (ik ps k)).2 := by
  obtain ⟨_, h1, h2⟩ := pks_at h
  have hk : k ≠ 0 := by intro e; subst e; simp [aK] at ha
  have ea : aK ps k = (at0 ps (ik ps (k - 1))).1 := by simp [aK, hk]
  have hlt := ik_lt (ps := ps) (show k - 1 < k by omega) h
  obtain ⟨_, h3, h4⟩ := pks_at (ps := ps) (k := k - 1) (by omega)
  unfold pk at h2 h4
  simp only [Bool.and_eq_true] at h2 h4
  have hu := h2.1
  have hd := h4.2
  unfold upP at hu
  unfold dnP at hd
  simp only [Bool.or_eq_true, decide_eq_true_eq] at hu hd
  have hu' := hu.resolve_left (by omega)
  have hd' := hd.resolve_left (by omega)
  have hne : ik ps (k - 1) ≠ ik ps k - 1 := by
    intro e
    rw [show ik ps (k - 1) + 1 = ik ps k by omega, e] at hd'
    omega
  have := lowN_le ps (aK ps k) (at0 ps (ik ps k)).1 ps.length (ik ps k - 1) (by omega) (by
    unfold inR
    rw [Bool.and_eq_true, decide_eq_true_eq, decide_eq_true_eq, ea]
    exact ⟨hg.ticks _ _ (by omega) (by omega), Int.le_of_lt (hg.ticks _ _ (by omega) h1)⟩)
  omega

theorem least_such (P : Nat → Prop) [DecidablePred P] : ∀ n, P n → ∃ m, m ≤ n ∧ P m ∧ ∀ q, q < m → ¬ P q
  | 0, h => ⟨0, by omega, h, fun q hq => by omega⟩
  | n + 1, h => by
    by_cases e : ∃ q, q < n + 1 ∧ P q
    · obtain ⟨q, hq, hp⟩ := e
      have key : ∀ k, ∀ q, q ≤ k → P q → ∃ m, m ≤ q ∧ P m ∧ ∀ q', q' < m → ¬ P q' := by
        intro k
        induction k with
        | zero => intro q hq hp; exact ⟨q, by omega, hp, fun q' h' => by omega⟩
        | succ k ih =>
          intro q hq hp
          by_cases e : ∃ q', q' < q ∧ P q'
          · obtain ⟨q', h1, h2⟩ := e
            obtain ⟨m, m1, m2, m3⟩ := ih q' (by omega) h2
            exact ⟨m, by omega, m2, m3⟩
          · exact ⟨q, by omega, hp, fun q' h' hp' => e ⟨q', h', hp'⟩⟩
      obtain ⟨m, m1, m2, m3⟩ := key q q (by omega) hp
      exact ⟨m, by omega, m2, m3⟩
    · exact ⟨n + 1, by omega, h, fun q hq hp => e ⟨q, hq, hp⟩⟩
theorem peak_most {ps : List (Int × Int)} (hg : Good ps) (h0 : ps.length ≠ 0) : ∃ k, k < (pks ps ps.length).length ∧ (at0 ps (ik ps k)).2 = mxN ps ps.length := by
  have hge := mxN_ge ps ps.length
  obtain ⟨i0, hi0, ei0⟩ : ∃ i, i < ps.length ∧ (at0 ps i).2 = mxN ps ps.length := by
    rcases mxN_at ps ps.length with h | h
    · have := hge 0 (by omega)
      have := (hg.nonneg (show 0 < ps.length by omega)).2
      omega
    · exact h
  obtain ⟨i, hi, ei, hmin⟩ := least_such (fun i => (at0 ps i).2 = mxN ps ps.length) i0 ei0
  have hin : i < ps.length := by omega
  have hp : pk ps i = true := by
    unfold pk upP dnP
    simp only [Bool.and_eq_true, Bool.or_eq_true, decide_eq_true_eq]
    constructor
    · by_cases e : i = 0
      · exact .inl e
      · have h1 := hge (i - 1) (by omega)
        have h2 := hmin (i - 1) (by omega)
        exact .inr (by rw [ei]; omega)
    · by_cases e : i = ps.length - 1
      · exact .inl e
      · have h1 := hge (i + 1) (by omega)
        exact .inr (by rw [ei]; omega)
  have hm : i ∈ pki ps ps.length := List.mem_filter.2 ⟨by simpa using hin, hp⟩
  obtain ⟨k, hk, ek⟩ := List.getElem_of_mem hm
  refine ⟨k, by simpa [pks] using hk, ?_⟩
  have : ik ps k = i := by simp [ik, hk, ek]
  rw [this, ei]

/-! ### The loop over all points: the greatest -/
def b10a : ACode := (.seq (.region [⟨(some 44), (.bin .lss (.tmp 43) (.tmp 42)), none, none⟩]) (.seq (.cond (.tmp 44) .skip (.exit 0)) (.seq (.block 1 (.seq (.region [⟨(some 45), (.idxASl 2 (.tmp 41) (.tmp 43)), none, none⟩, ⟨(some 46), (.load true 2 (.tmp 45)), none, none⟩, ⟨(some 8), (.new [(.int .i64 0), (.int .i64 0)]), none, none⟩, ⟨none, (.store 2 (.tmp 8) (.tmp 46)), none, none⟩]) (.region [⟨(some 47), (.mv (.tmp 5)), none, none⟩, ⟨(some 48), (.fieldA 1 (.tmp 8)), none, none⟩, ⟨(some 49), (.load false 1 (.tmp 48)), none, none⟩, ⟨(some 50), (.minmax true [(.tmp 47), (.tmp 49)]), none, none⟩, ⟨(some 5), (.mv (.tmp 50)), none, none⟩]))) (.region [⟨(some 51), (.bin .add (.tmp 43) (.con (.int .i64 1))), none, none⟩, ⟨(some 43), (.mv (.tmp 51)), none, none⟩]))))
theorem loop10a {K0 : AHeap} {v : AVal} {ps : List (Int × Int)} {env : Env} (hs : Sl K0 2 v (PS ps)) (hid : ∀ i, i ∈ v.ids → i < K0.next) (hl : ps.length ≤ 8796093021952)
    (h5 : env 5 = .int .i64 (-1)) (h41 : env 41 = v) (h42 : env 42 = .int .i64 (ps.length : Int)) (h43 : env 43 = .int .i64 0) :
    Outs (AX A (.loop b10a) env K0) fun e env' K' => e = .exit 0 ∧ Keeps K0 K' ∧ env' 5 = .int .i64 (mxN ps ps.length) ∧ ∀ i, i < 41 → i ≠ 5 → i ≠ 8 → env' i = env i := by
  refine loop_ends (I := fun (j : Nat) env' K' => j ≤ ps.length ∧ Keeps K0 K' ∧ env' 5 = .int .i64 (mxN ps j) ∧ env' 41 = v ∧ env' 42 = .int .i64 (ps.length : Int) ∧ env' 43 = .int .i64 (j : Int) ∧ ∀ i, i < 41 → i ≠ 5 → i ≠ 8 → env' i = env i) (fun j => ps.length - j) ?_ 0 env K0
    ⟨Nat.zero_le _, Keeps.refl _, h5, h41, h42, h43, fun _ _ _ _ => rfl⟩
  rintro j env' K ⟨hj, hk, h5, h41, h42, h43, hE⟩
  by_cases hlt : j < ps.length
  · have hsK := hs.keep hid hk
    obtain ⟨id, off, cap, g, l, own, et, ho, hkk, hall⟩ := pts_at hsK (by omega)
    have e1 : decide ((j : Int) < (ps.length : Int)) = true := by simp; omega
    have w1 : IntKind.i64.wrap ((j : Int) + 1) = ((j + 1 : Nat) : Int) := by rw [wrap_i64]; omega
    have ha : aidx ps.length (.int .i64 (j : Int)) = some j := by simp [aidx]; omega
    obtain ⟨g1, _, _⟩ := hall j hlt
    have ej := at0_get hlt
    obtain ⟨⟨x, y⟩, exy⟩ : ∃ q, ps[j] = q := ⟨_, rfl⟩
    rw [exy] at g1 ej
    obtain ⟨K1, eK1⟩ : ∃ X, (K.new (.cells [.int .i64 0, .int .i64 0] true)).set K.next (.cells [.int .i64 x, .int .i64 y] true) = X := ⟨_, rfl⟩
    have oK1 : K1.obj K.next = some (.cells [.int .i64 x, .int .i64 y] true) := by rw [← eK1]; simp [AHeap.set]
    have kK1 : Keeps K K1 := ⟨by rw [← eK1]; simp [set_next, new_next], fun i hi => by rw [← eK1]; simp only [set_obj, new_obj]; rw [if_neg (by omega), if_neg (by omega)]⟩
    have em : (if y > mxN ps j then y else mxN ps j) = mxN ps (j + 1) := by simp only [mxN, ej]
    subst et
    simp only [b10a, h5, h41, h42, h43, e1, w1, ha, ho, g1, eK1, oK1, em, rwA, rwB, Nat.reduceAdd, Nat.reduceMul, Nat.reduceLeDiff, Int.reduceEq, Int.reduceLT, Int.reduceLE, Int.reduceAdd, Int.reduceSub, Int.reduceMul, ↓reduceIte, Nat.reduceEqDiff, reduceCtorEq, ↓cnd_true, ↓cnd_false]
    rw [outs_some]
    refine .inl ⟨rfl, j + 1, by omega, by omega, hk.trans kK1, by simp [Env.set], by simp [Env.set, h41], by simp [Env.set, h42], by simp [Env.set], fun i i1 i2 i3 => ?_⟩
    simp only [Env.set]
    repeat rw [if_neg (by omega)]
    exact hE i i1 i2 i3
  · have : j = ps.length := by omega
    subst this
    have e1 : decide ((ps.length : Int) < (ps.length : Int)) = false := by simp
    simp only [b10a, h42, h43, e1, rwA, rwB, Nat.reduceAdd, Nat.reduceMul, Nat.reduceLeDiff, Int.reduceEq, Int.reduceLT, Int.reduceLE, Int.reduceAdd, Int.reduceSub, Int.reduceMul, ↓reduceIte, Nat.reduceEqDiff, reduceCtorEq, ↓cnd_true, ↓cnd_false]
    rw [outs_some]
    refine .inr ⟨by simp, rfl, hk, by simp [Env.set, h5], fun i i1 i2 i3 => ?_⟩
    simp only [Env.set]
    repeat rw [if_neg (by omega)]
    exact hE i i1 i2 i3

/-! ### The least between two peaks -/
def b10c : ACode := (.seq (.region [⟨(some 66), (.bin .lss (.tmp 65) (.tmp 64)), none, none⟩]) (.seq (.cond (.tmp 66) .skip (.exit 4)) (.seq (.block 5 (.seq (.region [⟨(some 67), (.idxASl 2 (.tmp 63) (.tmp 65)), none, none⟩, ⟨(some 68), (.load true 2 (.tmp 67)), none, none⟩, ⟨(some 14), (.new [(.int .i64 0), (.int .i64 0)]), none, none⟩, ⟨none, (.store 2 (.tmp 14) (.tmp 68)), none, none⟩]) (.seq (.region [⟨(some 69), (.fieldA 0 (.tmp 14)), none, none⟩, ⟨(some 70), (.load false 1 (.tmp 69)), none, none⟩, ⟨(some 71), (.mv (.tmp 6)), none, none⟩, ⟨(some 72), (.bin .gtr (.tmp 70) (.tmp 71)), none, none⟩, ⟨(some 73), (.mv (.tmp 72)), none, none⟩, ⟨(some 74), (.fieldA 0 (.tmp 14)), (some (73, true)), none⟩, ⟨(some 75), (.load false 1 (.tmp 74)), (some (73, true)), none⟩, ⟨(some 76), (.fieldA 0 (.tmp 11)), (some (73, true)), none⟩, ⟨(some 77), (.load false 1 (.tmp 76)), (some (73, true)), none⟩, ⟨(some 78), (.bin .leq (.tmp 75) (.tmp 77)), (some (73, true)), none⟩, ⟨(some 79), (.pick (.tmp 73) (.tmp 78) (.con (.bool false))), none, none⟩]) (.cond (.tmp 79) (.region [⟨(some 80), (.mv (.tmp 12)), none, none⟩, ⟨(some 81), (.fieldA 1 (.tmp 14)), none, none⟩, ⟨(some 82), (.load false 1 (.tmp 81)), none, none⟩, ⟨(some 83), (.minmax false [(.tmp 80), (.tmp 82)]), none, none⟩, ⟨(some 12), (.mv (.tmp 83)), none, none⟩]) .skip)))) (.region [⟨(some 84), (.bin .add (.tmp 65) (.con (.int .i64 1))), none, none⟩, ⟨(some 65), (.mv (.tmp 84)), none, none⟩]))))
theorem loop10c {K0 : AHeap} {v : AVal} {ps : List (Int × Int)} {env : Env} {a px py : Int} {o : Nat} (hs : Sl K0 2 v (PS ps)) (hid : ∀ i, i ∈ v.ids → i < K0.next) (hl : ps.length ≤ 8796093021952)
    (ho11 : K0.obj o = some (.cells [.int .i64 px, .int .i64 py] true)) (hon : o < K0.next)
    (h6 : env 6 = .int .i64 a) (h11 : env 11 = .ptr o 0) (h12 : env 12 = .int .i64 1152921504606846976) (h63 : env 63 = v) (h64 : env 64 = .int .i64 (ps.length : Int)) (h65 : env 65 = .int .i64 0) :
    Outs (AX A (.loop b10c) env K0) fun e env' K' => e = .exit 4 ∧ Keeps K0 K' ∧ env' 12 = .int .i64 (lowN ps a px ps.length) ∧ ∀ i, i < 63 → i ≠ 12 → i ≠ 14 → env' i = env i := by
  refine loop_ends (I := fun (j : Nat) env' K' => j ≤ ps.length ∧ Keeps K0 K' ∧ env' 12 = .int .i64 (lowN ps a px j) ∧ env' 63 = v ∧ env' 64 = .int .i64 (ps.length : Int) ∧ env' 65 = .int .i64 (j : Int) ∧ ∀ i, i < 63 → i ≠ 12 → i ≠ 14 → env' i = env i) (fun j => ps.length - j) ?_ 0 env K0
    ⟨Nat.zero_le _, Keeps.refl _, h12, h63, h64, h65, fun _ _ _ _ => rfl⟩
  rintro j env' K ⟨hj, hk, h12, h63, h64, h65, hE⟩
  have h6' : env' 6 = .int .i64 a := by rw [hE 6 (by omega) (by omega) (by omega)]; exact h6
  have h11' : env' 11 = .ptr o 0 := by rw [hE 11 (by omega) (by omega) (by omega)]; exact h11
  by_cases hlt : j < ps.length
  · have hsK := hs.keep hid hk
    obtain ⟨id, off, cap, g, l, own, et, ho, hkk, hall⟩ := pts_at hsK (by omega)
    have e1 : decide ((j : Int) < (ps.length : Int)) = true := by simp; omega
    have w1 : IntKind.i64.wrap ((j : Int) + 1) = ((j + 1 : Nat) : Int) := by rw [wrap_i64]; omega
    have ha : aidx ps.length (.int .i64 (j : Int)) = some j := by simp [aidx]; omega
    obtain ⟨g1, _, _⟩ := hall j hlt
    have ej := at0_get hlt
    obtain ⟨⟨x, y⟩, exy⟩ : ∃ q, ps[j] = q := ⟨_, rfl⟩
    rw [exy] at g1 ej
    obtain ⟨K1, eK1⟩ : ∃ X, (K.new (.cells [.int .i64 0, .int .i64 0] true)).set K.next (.cells [.int .i64 x, .int .i64 y] true) = X := ⟨_, rfl⟩
    have oK1 : K1.obj K.next = some (.cells [.int .i64 x, .int .i64 y] true) := by rw [← eK1]; simp [AHeap.set]
    have kK1 : Keeps K K1 := ⟨by rw [← eK1]; simp [set_next, new_next], fun i hi => by rw [← eK1]; simp only [set_obj, new_obj]; rw [if_neg (by omega), if_neg (by omega)]⟩
    have oo1 : K1.obj o = some (.cells [.int .i64 px, .int .i64 py] true) := by rw [kK1.2 o (by have := hk.1; omega), hk.2 o hon]; exact ho11
    have es : lowN ps a px (j + 1) = if (decide (a < x) && decide (x ≤ px)) = true then (if y < lowN ps a px j then y else lowN ps a px j) else lowN ps a px j := by simp only [lowN, ej, inR]
    subst et
    cases c1 : decide (a < x)
    · rw [c1] at es
      simp only [b10c, h6', h11', h12, h63, h64, h65, e1, w1, ha, ho, g1, eK1, oK1, oo1, c1, rwA, rwB, Nat.reduceAdd, Nat.reduceMul, Nat.reduceLeDiff, Int.reduceEq, Int.reduceLT, Int.reduceLE, Int.reduceAdd, Int.reduceSub, Int.reduceMul, ↓reduceIte, Nat.reduceEqDiff, reduceCtorEq, ↓cnd_true, ↓cnd_false]
      rw [outs_some]
      refine .inl ⟨rfl, j + 1, by omega, by omega, hk.trans kK1, by rw [es]; simp [Env.set, h12], by simp [Env.set, h63], by simp [Env.set, h64], by simp [Env.set], fun i i1 i2 i3 => ?_⟩
      simp only [Env.set]
      repeat rw [if_neg (by omega)]
      exact hE i i1 i2 i3
    · cases c2 : decide (x ≤ px)
      · rw [c1, c2] at es
        simp only [b10c, h6', h11', h12, h63, h64, h65, e1, w1, ha, ho, g1, eK1, oK1, oo1, c1, c2, rwA, rwB, Nat.reduceAdd, Nat.reduceMul, Nat.reduceLeDiff, Int.reduceEq, Int.reduceLT, Int.reduceLE, Int.reduceAdd, Int.reduceSub, Int.reduceMul, ↓reduceIte, Nat.reduceEqDiff, reduceCtorEq, ↓cnd_true, ↓cnd_false]
        rw [outs_some]
        refine .inl ⟨rfl, j + 1, by omega, by omega, hk.trans kK1, by rw [es]; simp [Env.set, h12], by simp [Env.set, h63], by simp [Env.set, h64], by simp [Env.set], fun i i1 i2 i3 => ?_⟩
        simp only [Env.set]
        repeat rw [if_neg (by omega)]
        exact hE i i1 i2 i3
      · rw [c1, c2] at es
        simp only [Bool.and_self, if_true] at es
        simp only [b10c, h6', h11', h12, h63, h64, h65, e1, w1, ha, ho, g1, eK1, oK1, oo1, c1, c2, ← es, rwA, rwB, Nat.reduceAdd, Nat.reduceMul, Nat.reduceLeDiff, Int.reduceEq, Int.reduceLT, Int.reduceLE, Int.reduceAdd, Int.reduceSub, Int.reduceMul, ↓reduceIte, Nat.reduceEqDiff, reduceCtorEq, ↓cnd_true, ↓cnd_false]
        rw [outs_some]
        refine .inl ⟨rfl, j + 1, by omega, by omega, hk.trans kK1, by simp [Env.set], by simp [Env.set, h63], by simp [Env.set, h64], by simp [Env.set], fun i i1 i2 i3 => ?_⟩
        simp only [Env.set]
        repeat rw [if_neg (by omega)]
        exact hE i i1 i2 i3
  · have : j = ps.length := by omega
    subst this
    have e1 : decide ((ps.length : Int) < (ps.length : Int)) = false := by simp
    simp only [b10c, h64, h65, e1, rwA, rwB, Nat.reduceAdd, Nat.reduceMul, Nat.reduceLeDiff, Int.reduceEq, Int.reduceLT, Int.reduceLE, Int.reduceAdd, Int.reduceSub, Int.reduceMul, ↓reduceIte, Nat.reduceEqDiff, reduceCtorEq, ↓cnd_true, ↓cnd_false]
    rw [outs_some]
    refine .inr ⟨by simp, rfl, hk, by simp [Env.set, h12], fun i i1 i2 i3 => ?_⟩
    simp only [Env.set]
    repeat rw [if_neg (by omega)]
    exact hE i i1 i2 i3

end Go.Proofs.Ytfpbmoiconopcaa.Gh
