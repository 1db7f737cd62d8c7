/- Histories: what Add makes. -/
import Derived.Test.YtfpbmoiconopcaaGhH
set_option maxRecDepth 100000
set_option linter.unusedSimpArgs false
set_option linter.unusedVariables false
set_option maxHeartbeats 2000000
namespace Go.Proofs.Ytfpbmoiconopcaa.Gh
open Go Go.Proofs.Ytfpbmoiconopcaa.Am GaFns Go.RowKit

theorem PS_old (n : Nat) (ps : List (Int × Int)) : oldl n (PS ps) = true := by
  induction ps with
  | nil => rfl
  | cons p ps ih =>
    have : PS (p :: ps) = [.int .i64 p.1, .int .i64 p.2] ++ PS ps := by simp [PS]
    rw [this]
    simp only [List.cons_append, List.nil_append, oldl, AVal.old, ih, Bool.and_self]

theorem U70a (H : AHeap) : AC A 70 [.nils] H = some (.nils, H) := by
  refine look_val (x := GaFns.c70) rfl rfl rfl rfl ?_
  simp only [c70, rwA, rwB, Nat.reduceAdd, Nat.reduceMul, Nat.reduceLeDiff, Int.reduceEq, Int.reduceLT, Int.reduceLE, Int.reduceAdd, Int.reduceSub, Int.reduceMul, ↓reduceIte, Nat.reduceEqDiff, reduceCtorEq, ↓cnd_true, ↓cnd_false]
theorem U70b {H : AHeap} {s : AVal} {ps : List (Int × Int)} (hs : Sl H 2 s (PS ps)) (hid : ∀ i, i ∈ s.ids → i < H.next) (h0 : 0 < ps.length) (hl : ps.length ≤ 8796093021952) :
    AC A 70 [s] H = some (.slice H.next 0 ps.length ps.length (some 2), H.new (.cells (PS ps) true)) := by
  refine look_new (x := GaFns.c70) (u := .slice H.next 0 ps.length ps.length (some 2)) rfl rfl rfl ?_
  have hsf := hs.frz
  have ap := app_clone hsf h0 hl hid
  have hn : (frz H).next = H.next := rfl
  rw [hn] at ap
  obtain ⟨id, off, cap, g, l, own, et, ho, hk, hall⟩ := pts_at hsf h0
  subst et
  obtain ⟨K, eK⟩ : ∃ K, ((frz H).new (.cells [] true)).new (.cells (PS ps) true) = K := ⟨_, rfl⟩
  rw [eK] at ap
  have oK : K.obj (H.next + 1) = some (.cells (PS ps) true) := by rw [← eK]; simp [AHeap.new, hn]
  simp only [c70, hn, ap, rwA, rwB, Nat.reduceAdd, Nat.reduceMul, Nat.reduceLeDiff, Int.reduceEq, Int.reduceLT, Int.reduceLE, Int.reduceAdd, Int.reduceSub, Int.reduceMul, ↓reduceIte, Nat.reduceEqDiff, reduceCtorEq, ↓cnd_true, ↓cnd_false]
  rw [rets_some]
  exact one_slice (by omega) oK (PS_old _ _)
theorem U70c {H : AHeap} {id off cap : Nat} {g : Option Nat} : AC A 70 [.slice id off 0 cap g] H = some (.slice H.next 0 0 0 none, H.new (.cells [] true)) := by
  refine look_new (x := GaFns.c70) (u := .slice H.next 0 0 0 none) rfl rfl rfl ?_
  have hn : (frz H).next = H.next := rfl
  have ap : aappend ((frz H).new (.cells [] true)) 2 16 (.slice H.next 0 0 0 none) (.slice id off 0 cap g) = some (.slice H.next 0 0 0 none, (frz H).new (.cells [] true)) :=
    app_none (Nat.le_refl _) rfl (by simp [acells])
  obtain ⟨K, eK⟩ : ∃ K, (frz H).new (.cells [] true) = K := ⟨_, rfl⟩
  rw [eK] at ap
  have oK : K.obj H.next = some (.cells [] true) := by rw [← eK]; simp [AHeap.new, hn]
  simp only [c70, hn, eK, ap, rwA, rwB, Nat.reduceAdd, Nat.reduceMul, Nat.reduceLeDiff, Int.reduceEq, Int.reduceLT, Int.reduceLE, Int.reduceAdd, Int.reduceSub, Int.reduceMul, ↓reduceIte, Nat.reduceEqDiff, reduceCtorEq, ↓cnd_true, ↓cnd_false]
  rw [rets_some]
  exact one_slice (Nat.le_refl _) oK rfl

/-- A slice of points that append made, or made empty. -/
def Bp (K : AHeap) (v : AVal) (ps : List (Int × Int)) : Prop := Ow K 2 v (PS ps) ∨ (ps = [] ∧ ∃ id, v = .slice id 0 0 0 none ∧ id < K.next ∧ K.obj id = some (.cells [] true))
theorem clone_any {H : AHeap} {s : AVal} {ps : List (Int × Int)} (hs : Sl H 2 s (PS ps)) (hid : ∀ i, i ∈ s.ids → i < H.next) (hl : ps.length ≤ 8796093021952) :
    ∃ v K, AC A 70 [s] H = some (v, K) ∧ Keeps H K ∧ Bp K v ps ∧ (∀ i, i ∈ v.ids → H.next ≤ i ∧ i < K.next) ∧ K.next ≤ H.next + 1 := by
  by_cases h0 : 0 < ps.length
  · refine ⟨_, _, U70b hs hid h0 hl, Keeps.new _ _, .inl (Ow.made h0 (PS_len ps)), ?_, by simp [new_next]⟩
    intro i hi
    simp [AVal.ids] at hi
    simp only [new_next]; omega
  · have e : ps = [] := List.eq_nil_of_length_eq_zero (by omega)
    subst e
    rcases hs with ⟨rfl, _⟩ | ⟨id, off, n, cap, g, rfl, h1, _⟩
    · exact ⟨_, _, U70a H, Keeps.refl _, .inl (.inl ⟨rfl, rfl⟩), by simp [AVal.ids], by omega⟩
    · have : n = 0 := by simp [PS] at h1; omega
      subst this
      refine ⟨_, _, U70c, Keeps.new _ _, .inr ⟨rfl, H.next, rfl, by simp [new_next], by simp [AHeap.new]⟩, ?_, by simp [new_next]⟩
      intro i hi
      simp [AVal.ids] at hi
      simp only [new_next]; omega
theorem bp_push {K : AHeap} {v : AVal} {ps : List (Int × Int)} (h : Bp K v ps) (t u : Int) (hl : ps.length ≤ 8796093021952) :
    ∃ K', aappend (K.new (.cells [.int .i64 t, .int .i64 u] true)) 2 16 v (.slice K.next 0 1 1 none) = some (.slice (K.next + 1) 0 (ps.length + 1) (ps.length + 1) (some 2), K') ∧
      K'.obj (K.next + 1) = some (.cells (PS (ps ++ [(t, u)])) true) ∧ K'.next = K.next + 2 ∧ ∀ i, i < K.next → i ∉ v.ids → K'.obj i = K.obj i := by
  have hx : acells (K.new (.cells [.int .i64 t, .int .i64 u] true)) 2 1 (.slice K.next 0 1 1 none) = some [.int .i64 t, .int .i64 u] := by
    simp [acells, AHeap.new]
  have hp1 : PS (ps ++ [(t, u)]) = PS ps ++ [.int .i64 t, .int .i64 u] := by rw [PS_app]; rfl
  rcases h with h | ⟨rfl, id, rfl, h1, h2⟩
  · have hlt := h.lt
    have hO : Ow (K.new (.cells [.int .i64 t, .int .i64 u] true)) 2 v (PS ps) := (Ow_new (fun hx => by have := hlt _ hx; omega)).2 h
    have hsl := PS_slen hO.sl
    have ap := hO.append (by' := 16) (by decide) (rfl : alen (.slice K.next 0 1 1 none) = some 1) hx (by decide) (by rw [hsl]; omega)
    rw [hsl, new_next] at ap
    refine ⟨_, ap, ?_, by simp [new_next, delS_next], ?_⟩
    · rw [hp1]; simp [AHeap.new, delS_next]
    · intro i hi hv
      simp only [new_obj, delS_next, new_next]
      rw [if_neg (by omega), delS_obj _ _ hv, new_obj, if_neg (by omega)]
  · have ap := app_known (H := K.new (.cells [.int .i64 t, .int .i64 u] true)) (es := 2) (by' := 16) (id := id) (off := 0) (len := 0) (cap := 0) (n := 1) (old := []) (new := [.int .i64 t, .int .i64 u]) (by decide) rfl hx (by simp [acells]) (by decide) (by decide)
    simp only [Nat.zero_add, new_next] at ap
    refine ⟨_, ap, ?_, by simp [new_next], ?_⟩
    · rw [hp1]; simp [AHeap.new, PS]
    · intro i hi hv
      simp only [new_obj, new_next]
      rw [if_neg (by omega), if_neg (by omega)]

/-- May the point be put behind; what is kept then. -/
def may (r : Int) (ps : List (Int × Int)) (t u : Int) : Bool := right r ps && okp (t, u) && !(has r ps && decide (t ≤ (lastP ps).1))
def kept (r : Int) (ps : List (Int × Int)) (t u : Int) : List (Int × Int) := (ps ++ [(t, u)]).drop (ps.length + 1 - r.toNat)

theorem PS_drop (ps : List (Int × Int)) : ∀ k, (PS ps).drop (k * 2) = PS (ps.drop k) := by
  induction ps with
  | nil => intro k; simp [PS]
  | cons p ps ih =>
    intro k
    cases k with
    | zero => simp
    | succ k =>
      have : PS (p :: ps) = [.int .i64 p.1, .int .i64 p.2] ++ PS ps := by simp [PS]
      rw [this, show (k + 1) * 2 = 2 + k * 2 by omega, ← List.drop_drop, List.drop_succ_cons, ← ih k]
      rfl

theorem U36f {H : AHeap} {r : Int} {s : AVal} {ps : List (Int × Int)} (hs : Sl H 2 s (PS ps)) (hid : ∀ i, i ∈ s.ids → i < H.next) (hl : ps.length ≤ 8796093021952) (t u : Int) (hm : may r ps t u = false) :
    AC A 36 [.agg [.int .i64 r, s], .agg [.int .i64 t, .int .i64 u]] H = some (.tuple [.agg [.int .i64 0, .nils], .int .i64 18], H) := by
  refine look_val (x := GaFns.c36) rfl rfl rfl rfl ?_
  have hsf := hs.frz
  have hn : (frz H).next = H.next := rfl
  obtain ⟨K, eK⟩ : ∃ K, (((frz H).new (.cells [.int .i64 r, s] true)).new (.cells [.int .i64 t, .int .i64 u] true)).new (.cells [.int .i64 0, .nils] true) = K := ⟨_, rfl⟩
  have kK : Keeps (frz H) K := by rw [← eK]; exact ((Keeps.new _ _).trans (Keeps.new _ _)).trans (Keeps.new _ _)
  have hsK := hsf.keep hid kK
  have nK : K.next = H.next + 3 := by rw [← eK]; simp [new_next, hn]
  have u40 := U40 (r := r) hsK (fun i hi => by have := hid i hi; omega) (by omega)
  have oK : K.obj H.next = some (.cells [.int .i64 r, s] true) := by rw [← eK]; simp only [new_obj, new_next, hn]; rw [if_neg (by omega), if_neg (by omega), if_pos trivial]
  obtain ⟨⟨x, y⟩, elo⟩ : ∃ q, lastOf r ps = q := ⟨_, rfl⟩
  rw [elo] at u40
  obtain ⟨K2, eK2⟩ : ∃ K2, (K.new (.cells [.int .i64 0, .int .i64 0] true)).set (H.next + 3) (.cells [.int .i64 x, .int .i64 y] true) = K2 := ⟨_, rfl⟩
  have nK2 : K2.next = H.next + 4 := by rw [← eK2]; simp [set_next, new_next, nK]
  have kK2 : Keeps K K2 := ⟨by omega, fun i hi => by rw [← eK2]; simp only [set_obj, new_obj, nK]; rw [if_neg (by omega), if_neg (by omega)]⟩
  have hsK2 := hsK.keep (fun i hi => by have := hid i hi; omega) kK2
  have oK2 : K2.obj H.next = some (.cells [.int .i64 r, s] true) := by rw [kK2.2 _ (by omega)]; exact oK
  have oKp : K2.obj (H.next + 1) = some (.cells [.int .i64 t, .int .i64 u] true) := by rw [kK2.2 _ (by omega), ← eK]; simp [AHeap.new, hn]
  have oK4 : K2.obj (H.next + 2) = some (.cells [.int .i64 0, .nils] true) := by rw [kK2.2 _ (by omega), ← eK]; simp [AHeap.new, hn]
  have oK3 : K2.obj (H.next + 3) = some (.cells [.int .i64 x, .int .i64 y] true) := by rw [← eK2]; simp [AHeap.set]
  have u35 := U35 (r := r) hsK2 (fun i hi => by have := hid i hi; omega) (by omega)
  have c0 := chk0 r ps
  unfold may at hm
  cases hr : right r ps <;> rw [hr] at c0 hm
  · simp only [c36, eK, nK, oK, hn, u40, eK2, nK2, oK2, oK3, oK4, oKp, u35, c0, Bool.not_false, Bool.not_true, rwA, rwB, Nat.reduceAdd, Nat.reduceMul, Nat.reduceLeDiff, Int.reduceEq, Int.reduceLT, Int.reduceLE, Int.reduceAdd, Int.reduceSub, Int.reduceMul, ↓reduceIte, Nat.reduceEqDiff, reduceCtorEq, ↓cnd_true, ↓cnd_false]
  · cases hp : okp (t, u) <;> rw [hp] at hm
    · simp only [c36, eK, nK, oK, hn, u40, eK2, nK2, oK2, oK3, oK4, oKp, u35, c0, U69, hp, Bool.not_false, Bool.not_true, rwA, rwB, Nat.reduceAdd, Nat.reduceMul, Nat.reduceLeDiff, Int.reduceEq, Int.reduceLT, Int.reduceLE, Int.reduceAdd, Int.reduceSub, Int.reduceMul, ↓reduceIte, Nat.reduceEqDiff, reduceCtorEq, ↓cnd_true, ↓cnd_false]
    · cases hh : has r ps <;> rw [hh] at hm u40
      · simp at hm
      · have el : lastP ps = (x, y) := by rw [← elo]; simp [lastOf, hh]
        rw [el] at hm
        have d1 : decide (t ≤ x) = true := by simpa using hm
        simp only [c36, eK, nK, oK, hn, u40, eK2, nK2, oK2, oK3, oK4, oKp, u35, c0, U69, hp, d1, Bool.not_false, Bool.not_true, rwA, rwB, Nat.reduceAdd, Nat.reduceMul, Nat.reduceLeDiff, Int.reduceEq, Int.reduceLT, Int.reduceLE, Int.reduceAdd, Int.reduceSub, Int.reduceMul, ↓reduceIte, Nat.reduceEqDiff, reduceCtorEq, ↓cnd_true, ↓cnd_false]

theorem slc_grown (id n : Nat) (k : Int) (h0 : 0 ≤ k) (h1 : k ≤ n) : aslc 2 (.slice id 0 n n (some 2)) (some (.int .i64 k)) none none = some (.slice id (k.toNat * 2) (n - k.toNat) (n - k.toNat) (some 2)) := by
  have h2 : (k.toNat : Int) ≤ n := by omega
  simp only [aslc, abounds, abound, Option.isSome_none, Bool.false_eq_true, if_false, Option.bind_some, if_pos (show (0 : Int) ≤ k ∧ k ≤ (n : Int) from ⟨h0, h1⟩), false_and, and_self, Nat.zero_add]
  simp

theorem one_res {n id b m : Nat} {r e : Int} {K : AHeap} {cs : List AVal} (h : n ≤ id) (ho : K.obj id = some (.cells cs true)) (hc : oldl n cs = true) :
    One n (.tuple [.agg [.int .i64 r, .slice id 0 m m (some 2)], .int .i64 e]) K (.tuple [.agg [.int .i64 r, .slice b 0 m m (some 2)], .int .i64 e]) b cs :=
  ⟨id, by simp [AVal.ids, idsl, h, nub], ho, hc, by simp [AVal.ren, renl, sig_new [] h]⟩

theorem U36t {H : AHeap} {r : Int} {s : AVal} {ps : List (Int × Int)} (hs : Sl H 2 s (PS ps)) (hid : ∀ i, i ∈ s.ids → i < H.next) (t u : Int) (hm : may r ps t u = true) :
    AC A 36 [.agg [.int .i64 r, s], .agg [.int .i64 t, .int .i64 u]] H = some (.tuple [.agg [.int .i64 r, .slice H.next 0 (kept r ps t u).length (kept r ps t u).length (some 2)], .int .i64 0], H.new (.cells (PS (kept r ps t u)) true)) := by
  refine look_new (x := GaFns.c36) (u := .tuple [.agg [.int .i64 r, .slice H.next 0 (kept r ps t u).length (kept r ps t u).length (some 2)], .int .i64 0]) rfl rfl rfl ?_
  unfold may at hm
  simp only [Bool.and_eq_true, Bool.not_eq_true', Bool.and_eq_false_iff] at hm
  obtain ⟨⟨hr, hp⟩, hlast⟩ := hm
  obtain ⟨⟨hr1, hr2⟩, hrl, hg⟩ := right_good hr
  have hsf := hs.frz
  have hn : (frz H).next = H.next := rfl
  obtain ⟨K, eK⟩ : ∃ K, (((frz H).new (.cells [.int .i64 r, s] true)).new (.cells [.int .i64 t, .int .i64 u] true)).new (.cells [.int .i64 0, .nils] true) = K := ⟨_, rfl⟩
  have kK : Keeps (frz H) K := by rw [← eK]; exact ((Keeps.new _ _).trans (Keeps.new _ _)).trans (Keeps.new _ _)
  have hsK := hsf.keep hid kK
  have nK : K.next = H.next + 3 := by rw [← eK]; simp [new_next, hn]
  have u40 := U40 (r := r) hsK (fun i hi => by have := hid i hi; omega) (by omega)
  have oK : K.obj H.next = some (.cells [.int .i64 r, s] true) := by rw [← eK]; simp only [new_obj, new_next, hn]; rw [if_neg (by omega), if_neg (by omega), if_pos trivial]
  obtain ⟨⟨x, y⟩, elo⟩ : ∃ q, lastOf r ps = q := ⟨_, rfl⟩
  rw [elo] at u40
  obtain ⟨K2, eK2⟩ : ∃ K2, (K.new (.cells [.int .i64 0, .int .i64 0] true)).set (H.next + 3) (.cells [.int .i64 x, .int .i64 y] true) = K2 := ⟨_, rfl⟩
  have nK2 : K2.next = H.next + 4 := by rw [← eK2]; simp [set_next, new_next, nK]
  have kK2 : Keeps K K2 := ⟨by omega, fun i hi => by rw [← eK2]; simp only [set_obj, new_obj, nK]; rw [if_neg (by omega), if_neg (by omega)]⟩
  have hsK2 := hsK.keep (fun i hi => by have := hid i hi; omega) kK2
  have hidK2 : ∀ i, i ∈ s.ids → i < K2.next := fun i hi => by have := hid i hi; omega
  have oK2 : K2.obj H.next = some (.cells [.int .i64 r, s] true) := by rw [kK2.2 _ (by omega)]; exact oK
  have oKp : K2.obj (H.next + 1) = some (.cells [.int .i64 t, .int .i64 u] true) := by rw [kK2.2 _ (by omega), ← eK]; simp [AHeap.new, hn]
  have oK4 : K2.obj (H.next + 2) = some (.cells [.int .i64 0, .nils] true) := by rw [kK2.2 _ (by omega), ← eK]; simp [AHeap.new, hn]
  have oK3 : K2.obj (H.next + 3) = some (.cells [.int .i64 x, .int .i64 y] true) := by rw [← eK2]; simp [AHeap.set]
  have u35 := U35 (r := r) hsK2 hidK2 (by omega)
  have c0 := chk0 r ps
  rw [hr] at c0
  -- the clone, and the point behind it
  obtain ⟨v, K3, e70, kK3, hbp, hvid, _⟩ := clone_any hsK2 hidK2 (by omega)
  have oKp3 : K3.obj (H.next + 1) = some (.cells [.int .i64 t, .int .i64 u] true) := by rw [kK3.2 _ (by omega)]; exact oKp
  obtain ⟨K4, ap, oN, nK4, kK4⟩ := bp_push hbp t u (by omega)
  have hK3 : H.next + 4 ≤ K3.next := by have := kK3.1; omega
  have old4 : ∀ i, i < H.next + 4 → K4.obj i = K2.obj i := fun i hi => by
    rw [kK4 i (by omega) (fun hx => by have := (hvid i hx).1; omega), kK3.2 i (by omega)]
  have oK24 : K4.obj H.next = some (.cells [.int .i64 r, s] true) := by rw [old4 _ (by omega)]; exact oK2
  have oK44 : K4.obj (H.next + 2) = some (.cells [.int .i64 0, .nils] true) := by rw [old4 _ (by omega)]; exact oK4
  -- what is cut off
  obtain ⟨k, ek⟩ : ∃ k : Int, (if (0 : Int) > ((ps.length + 1 : Nat) : Int) - r then (0 : Int) else ((ps.length + 1 : Nat) : Int) - r) = k := ⟨_, rfl⟩
  have k0 : 0 ≤ k := by rw [← ek]; split <;> omega
  have k1 : k ≤ ((ps.length + 1 : Nat) : Int) := by rw [← ek]; split <;> omega
  have k2 : k.toNat = ps.length + 1 - r.toNat := by rw [← ek]; split <;> omega
  have w1 : IntKind.i64.wrap (((ps.length + 1 : Nat) : Int) - r) = ((ps.length + 1 : Nat) : Int) - r := by rw [wrap_i64]; omega
  have sl := slc_grown (K3.next + 1) (ps.length + 1) k k0 k1
  have hlenk : (kept r ps t u).length = ps.length + 1 - k.toNat := by simp only [kept, List.length_drop, List.length_append, List.length_cons, List.length_nil, k2]
  have hcut : Sl K4 2 (.slice (K3.next + 1) (k.toNat * 2) (ps.length + 1 - k.toNat) (ps.length + 1 - k.toNat) (some 2)) (PS (kept r ps t u)) := by
    have e : PS (kept r ps t u) = (PS (ps ++ [(t, u)])).drop (k.toNat * 2) := by rw [PS_drop, k2]; rfl
    have hl1 : (PS (ps ++ [(t, u)])).length = (ps.length + 1) * 2 := by rw [PS_len]; simp
    refine .inr ⟨_, _, _, _, _, rfl, by rw [PS_len, hlenk], .inr ⟨_, true, oN, by rw [hl1]; omega, ?_⟩⟩
    rw [e, List.take_of_length_le (by rw [List.length_drop, hl1]; omega)]
  have e70b := U70b hcut (fun i hi => by simp [AVal.ids] at hi; omega) (by rw [hlenk]; omega) (by rw [hlenk]; omega)
  obtain ⟨n, en⟩ : ∃ n, (kept r ps t u).length = n := ⟨_, rfl⟩
  rw [en] at e70b
  rw [nK4] at e70b
  obtain ⟨K5, eK5⟩ : ∃ K5, K4.new (.cells (PS (kept r ps t u)) true) = K5 := ⟨_, rfl⟩
  rw [eK5] at e70b
  have oK25 : K5.obj H.next = some (.cells [.int .i64 r, s] true) := by rw [← eK5]; simp only [new_obj]; rw [if_neg (by omega)]; exact oK24
  have oK45 : K5.obj (H.next + 2) = some (.cells [.int .i64 0, .nils] true) := by rw [← eK5]; simp only [new_obj]; rw [if_neg (by omega)]; exact oK44
  have oKN : K5.obj (K3.next + 2) = some (.cells (PS (kept r ps t u)) true) := by rw [← eK5]; simp only [new_obj]; rw [if_pos (by omega)]
  have hlast' : decide (t ≤ x) = false ∨ has r ps = false := by
    rcases hlast with h | h
    · exact .inr h
    · by_cases hh : has r ps = true
      · have el : lastP ps = (x, y) := by rw [← elo]; simp [lastOf, hh]
        rw [el] at h
        exact .inl h
      · exact .inr (by simpa using hh)
  have cast1 : ((ps.length : Int) + 1) = ((ps.length + 1 : Nat) : Int) := by omega
  rcases hlast' with hx | hh
  · cases hh : has r ps <;> rw [hh] at u40
    all_goals
      simp only [c36, eK, nK, oK, hn, u40, eK2, nK2, oK2, oK3, oK4, oKp, u35, c0, U69, hp, hx, e70, oKp3, ap, oK24, oK44, w1, ek, sl, e70b, oK25, oK45, en, Bool.not_false, Bool.not_true, rwA, rwB, Nat.reduceAdd, Nat.reduceMul, Nat.reduceLeDiff, Int.reduceEq, Int.reduceLT, Int.reduceLE, Int.reduceAdd, Int.reduceSub, Int.reduceMul, ↓reduceIte, Nat.reduceEqDiff, reduceCtorEq, ↓cnd_true, ↓cnd_false]
      rw [rets_some]
      exact one_res (by omega) (by simp only [set_obj]; rw [if_neg (by omega)]; exact oKN) (PS_old _ _)
  · rw [hh] at u40
    simp only [c36, eK, nK, oK, hn, u40, eK2, nK2, oK2, oK3, oK4, oKp, u35, c0, U69, hp, e70, oKp3, ap, oK24, oK44, w1, ek, sl, e70b, oK25, oK45, en, Bool.not_false, Bool.not_true, rwA, rwB, Nat.reduceAdd, Nat.reduceMul, Nat.reduceLeDiff, Int.reduceEq, Int.reduceLT, Int.reduceLE, Int.reduceAdd, Int.reduceSub, Int.reduceMul, ↓reduceIte, Nat.reduceEqDiff, reduceCtorEq, ↓cnd_true, ↓cnd_false]
    rw [rets_some]
    exact one_res (by omega) (by simp only [set_obj]; rw [if_neg (by omega)]; exact oKN) (PS_old _ _)

theorem U57_is : (arun (acall A 200) A.fn 200 (some GaFns.c57) [] noH).map (·.1) = some (.bool true) := by kernel_rfl
theorem U57 (H : AHeap) : AC A 57 [] H = some (.bool true, H) := one_closed (x := GaFns.c57) rfl rfl rfl rfl rfl U57_is H

end Go.Proofs.Ytfpbmoiconopcaa.Gh
