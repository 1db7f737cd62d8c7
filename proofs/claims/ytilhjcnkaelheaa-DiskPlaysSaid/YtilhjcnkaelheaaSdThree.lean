/- The writers of the octets' chapter, and the law of them. -/
import Derived.Test.YtilhjcnkaelheaaSdTwo
set_option maxRecDepth 100000
set_option linter.unusedSimpArgs false
set_option linter.unusedVariables false
set_option maxHeartbeats 4000000
namespace Go.Proofs.Ytilhjcnkaelheaa.Sd
open Go Go.Proofs.Ytilhjcnkaelheaa.Am DnFns Go.RowKit

/-! ### The reference's number -/
theorem t_256 (m : Nat) : ((m : Nat) : Int).tmod 256 = ((m % 256 : Nat) : Int) := by rw [Int.tmod_eq_emod_of_nonneg (by omega)]; rfl
theorem q_256 (m : Nat) : ((m : Nat) : Int).tdiv 256 = ((m / 256 : Nat) : Int) := by rw [Int.tdiv_eq_ediv_of_nonneg (by omega)]; rfl
theorem by_256 (m : Nat) : by8 (UInt8.ofNat (m % 256)) = by8 (UInt8.ofNat m) := by
  simp only [by8, AVal.int.injEq, true_and]
  have a : (UInt8.ofNat (m % 256)).toNat = (UInt8.ofNat m).toNat := by simp
  rw [a]

theorem arep_one (v : AVal) : ∀ n, arep [v] n = List.replicate n v
  | 0 => rfl
  | n + 1 => by simp [arep, arep_one v n, List.replicate_succ]

theorem mk8 (n : Nat) (hn : n ≤ 281474976710656) (H : AHeap) : amkS H 1 1 [.int .u8 0] (.int .i64 (n : Int)) (.int .i64 (n : Int)) = some (.slice H.next 0 n n none, H.new (.cells (List.replicate n (by8 0)) true)) := by
  simp only [amkS]
  rw [if_pos ⟨by omega, by omega, by omega, by omega, rfl⟩, Int.toNat_natCast, arep_one]
  rfl

/-! ### A number read off eight bytes -/
def of (s : List UInt8) : Nat := if s.length = 8 then be s else 0
def ofe (s : List UInt8) : Int := if s.length = 8 then 0 else 19
def off (s : List UInt8) : Nat := if s.length = 8 then 18446744073709551615 - be s else 0

theorem raw8 (s : List UInt8) : (s.length = 8 ∧ raw s 0 8 = ([], 0, s)) ∨ (s.length ≠ 8 ∧ ending (raw s 0 8).1 (raw s 0 8).2.1 ≠ 0) := by
  unfold raw
  rw [if_neg (by simp), if_neg (by decide)]
  by_cases h : (s.length : Int) < 8
  · rw [if_pos h]
    exact .inr ⟨by omega, by unfold ending; simp⟩
  · rw [if_neg h]
    by_cases h8 : s.length = 8
    · exact .inl ⟨h8, by rw [show (8 : Int).toNat = 8 from rfl, List.drop_of_length_le (by omega), List.take_of_length_le (by omega)]⟩
    · refine .inr ⟨h8, ?_⟩
      unfold ending
      rw [if_neg (by simp), if_pos (by rw [show (8 : Int).toNat = 8 from rfl, List.length_drop]; omega)]
      decide

/-! ### A text -/
def txt (s : List UInt8) : List UInt8 := if 65535 < s.length then [] else num 2 s.length ++ s
def txe (s : List UInt8) : Int := if 65535 < s.length then 11 else 0
theorem num2_len (n : Nat) : (num 2 n).length = 2 := by
  unfold num; rw [if_pos (by decide), encl_len]; rfl

/-! ### Padded -/
def pad (s : List UInt8) (m : Int) : List UInt8 := if 65536 < m ∨ m ≤ s.length then s else s ++ List.replicate (m.toNat - s.length) 0
theorem rep_one (n : Nat) : Lib.repeatL [0] n = List.replicate n 0 := by
  induction n with
  | zero => rfl
  | succ n ih => rw [Lib.repeatL, ih]; rfl

theorem U60 (s : List UInt8) (m : Int) (H : AHeap) : AC A 60 [.str s, .int .i64 m] H = some (.str (pad s m), H) := by
  refine one_val (x := DnFns.c60) rfl rfl rfl rfl rfl ?_ H
  unfold pad
  cases c1 : decide ((65536 : Int) < m)
  · have h1 : ¬ 65536 < m := by simpa using c1
    cases c2 : decide (m ≤ (s.length : Int))
    · have h2 : ¬ m ≤ (s.length : Int) := by simpa using c2
      rw [if_neg (by omega)]
      have w1 : IntKind.i64.wrap (m - (s.length : Int)) = ((m.toNat - s.length : Nat) : Int) := by rw [wrap_i64]; omega
      have u82 : ∀ H, AC A 71 [.str [0], .int .i64 ((m.toNat - s.length : Nat) : Int)] H = some (.str (List.replicate (m.toNat - s.length) 0), H) := fun H => by
        refine AC_ext_of (g := gRep) rfl ?_ H
        simp only [gRep]
        rw [if_pos ⟨by omega, by omega, by simp; omega⟩, Int.toNat_natCast, rep_one]
      simp only [c60, c1, c2, w1, u82, b_cat _ _ (show s.length + (List.replicate (m.toNat - s.length) (0 : UInt8)).length ≤ _ by rw [List.length_replicate]; omega), rwA, rwB, Nat.reduceAdd, Nat.reduceMul, Nat.reduceLeDiff, Int.reduceEq, Int.reduceLT, Int.reduceLE, Int.reduceAdd, Int.reduceSub, Int.reduceMul, ↓reduceIte, Nat.reduceEqDiff, reduceCtorEq, ↓cnd_true, ↓cnd_false]
    · have h2 : m ≤ (s.length : Int) := by simpa using c2
      rw [if_pos (.inr h2)]
      simp only [c60, c1, c2, rwA, rwB, Nat.reduceAdd, Nat.reduceMul, Nat.reduceLeDiff, Int.reduceEq, Int.reduceLT, Int.reduceLE, Int.reduceAdd, Int.reduceSub, Int.reduceMul, ↓reduceIte, Nat.reduceEqDiff, reduceCtorEq, ↓cnd_true, ↓cnd_false]
  · have h1 : 65536 < m := by simpa using c1
    rw [if_pos (.inl h1)]
    simp only [c60, c1, rwA, rwB, Nat.reduceAdd, Nat.reduceMul, Nat.reduceLeDiff, Int.reduceEq, Int.reduceLT, Int.reduceLE, Int.reduceAdd, Int.reduceSub, Int.reduceMul, ↓reduceIte, Nat.reduceEqDiff, reduceCtorEq, ↓cnd_true, ↓cnd_false]

theorem lput_app : ∀ (l a b : List AVal), l.length = a.length → lput (a ++ b) 0 l = l ++ b := by
  have key : ∀ (l a pre b : List AVal), l.length = a.length → lput (pre ++ (a ++ b)) pre.length l = pre ++ (l ++ b) := by
    intro l
    induction l with
    | nil => intro a pre b h; cases a with
      | nil => exact put_nil _ _
      | cons x a => simp at h
    | cons x l ih => intro a pre b h; cases a with
      | nil => simp at h
      | cons y a =>
        rw [put_cons]
        have e : (pre ++ (y :: a ++ b)).set pre.length x = (pre ++ [x]) ++ (a ++ b) := by simp
        rw [e]
        have := ih a (pre ++ [x]) b (by simpa using h)
        simp only [List.length_append, List.length_singleton] at this
        rw [this]; simp
  intro l a b h
  simpa using key l a [] b h
theorem copy_str (H : AHeap) (s : List UInt8) (m q : Nat) (hm : s.length ≤ m) (ho : H.obj q = some (.cells (List.replicate m (by8 0)) true)) :
    ∃ K, acopy H 1 (.slice q 0 m m none) (.str s) = some (.int .i64 (s.length : Int), K) ∧ K.obj q = some (.cells ((s ++ List.replicate (m - s.length) 0).map by8) true) := by
  simp only [acopy, alen, Option.bind_some, Nat.min_eq_left hm]
  have hc : acells H 1 s.length (.str s) = some (s.map by8) := by
    simp only [acells]
    rw [if_pos ⟨Nat.le_refl _, trivial⟩, List.take_of_length_le (Nat.le_refl _)]
    rfl
  simp only [hc, Option.bind_some]
  by_cases h0 : s.length = 0
  · have : s = [] := List.eq_nil_of_length_eq_zero h0
    subst this
    refine ⟨H, by simp, ?_⟩
    rw [ho]; simp
  · rw [if_neg h0]
    simp only [ho]
    rw [if_pos (by simp; omega)]
    refine ⟨_, rfl, ?_⟩
    have e : List.replicate m (by8 0) = List.replicate s.length (by8 0) ++ List.replicate (m - s.length) (by8 0) := by
      rw [List.replicate_append_replicate]; congr 1; omega
    simp only [AHeap.set, if_true]
    congr 2
    rw [e, lput_app _ _ _ (by simp)]
    simp

theorem U67 (s : List UInt8) (m : Int) (H : AHeap) : AC A 67 [.str s, .int .i64 m] H = some (.str (pad s m), H) := by
  refine one_val (x := DnFns.c67) rfl rfl rfl rfl rfl ?_ H
  unfold pad
  cases c1 : decide ((65536 : Int) < m)
  · have h1 : ¬ 65536 < m := by simpa using c1
    cases c2 : decide (m ≤ (s.length : Int))
    · have h2 : ¬ m ≤ (s.length : Int) := by simpa using c2
      rw [if_neg (by omega)]
      obtain ⟨k, rfl⟩ : ∃ k : Nat, m = (k : Int) := ⟨m.toNat, by omega⟩
      rw [Int.toNat_natCast]
      obtain ⟨K, cp, oK⟩ := copy_str (noH.new (.cells (List.replicate k (by8 0)) true)) s k 0 (by omega) (by simp [AHeap.new, noH])
      have hb := bToS_sl (H := K) (v := .slice 0 0 k k none) (s := s ++ List.replicate (k - s.length) 0) (.inr ⟨0, 0, k, k, none, rfl, by simp; omega, .inr ⟨_, true, oK, by simp; omega, by simp only [Nat.mul_one, List.drop_zero]; rw [List.take_of_length_le (by simp; omega)]⟩⟩)
      simp only [c67, c1, c2, mk8 k (by omega), cp, hb, rwA, rwB, Nat.reduceAdd, Nat.reduceMul, Nat.reduceLeDiff, Int.reduceEq, Int.reduceLT, Int.reduceLE, Int.reduceAdd, Int.reduceSub, Int.reduceMul, ↓reduceIte, Nat.reduceEqDiff, reduceCtorEq, ↓cnd_true, ↓cnd_false]
    · have h2 : m ≤ (s.length : Int) := by simpa using c2
      rw [if_pos (.inr h2)]
      simp only [c67, c1, c2, rwA, rwB, Nat.reduceAdd, Nat.reduceMul, Nat.reduceLeDiff, Int.reduceEq, Int.reduceLT, Int.reduceLE, Int.reduceAdd, Int.reduceSub, Int.reduceMul, ↓reduceIte, Nat.reduceEqDiff, reduceCtorEq, ↓cnd_true, ↓cnd_false]
  · have h1 : 65536 < m := by simpa using c1
    rw [if_pos (.inl h1)]
    simp only [c67, c1, rwA, rwB, Nat.reduceAdd, Nat.reduceMul, Nat.reduceLeDiff, Int.reduceEq, Int.reduceLT, Int.reduceLE, Int.reduceAdd, Int.reduceSub, Int.reduceMul, ↓reduceIte, Nat.reduceEqDiff, reduceCtorEq, ↓cnd_true, ↓cnd_false]

/-! ### Nothing but noughts -/
theorem U62 (s : List UInt8) (H : AHeap) : AC A 62 [.str s] H = some (.bool (s.all (· == 0)), H) := by
  refine one_val (x := DnFns.c62) rfl rfl rfl rfl rfl ?_ H
  have u84 : ∀ H, AC A 73 [.str s, .str [0]] H = some (.int .i64 (Lib.countByte s 0 : Nat), H) := fun H => AC_ext_of (g := gCount) rfl rfl H
  have e : decide (((Lib.countByte s 0 : Nat) : Int) = (s.length : Int)) = s.all (· == 0) := by
    rw [Bool.eq_iff_iff]
    simp only [decide_eq_true_eq, List.all_eq_true, beq_iff_eq, Lib.countByte]
    constructor
    · intro h x hx
      have h' : s.count 0 = s.length := by have h0 := of_decide_eq_true h; exact_mod_cast h0
      exact ((List.count_eq_length.1 h') x hx).symm
    · intro h
      have h' : s.count 0 = s.length := List.count_eq_length.2 fun x hx => (h x hx).symm
      exact decide_eq_true (by exact_mod_cast h')
  simp only [c62, u84, e, rwA, rwB, Nat.reduceAdd, Nat.reduceMul, Nat.reduceLeDiff, Int.reduceEq, Int.reduceLT, Int.reduceLE, Int.reduceAdd, Int.reduceSub, Int.reduceMul, ↓reduceIte, Nat.reduceEqDiff, reduceCtorEq, ↓cnd_true, ↓cnd_false]

/-! ### Cut in pieces -/
def chop (n : Nat) : Nat → List UInt8 → List (List UInt8)
  | 0, _ => []
  | f + 1, s => if s = [] then [] else s.take n :: chop n f (s.drop n)
def pieces (n : Nat) (s : List UInt8) : List (List UInt8) := if n = 0 then [] else chop n s.length s
theorem chop_more {n : Nat} (hn : 0 < n) : ∀ (f : Nat) (s : List UInt8), s.length ≤ f → chop n f s = chop n s.length s
  | 0, s, h => by
    have : s.length = 0 := by omega
    rw [this]
  | f + 1, s, h => by
    cases hs : s with
    | nil => simp [chop]
    | cons x t =>
      rw [hs] at h
      simp only [List.length_cons] at h ⊢
      simp only [chop]
      rw [if_neg (by simp), if_neg (by simp)]
      congr 1
      have hl : ((x :: t).drop n).length ≤ t.length := by rw [List.length_drop]; simp; omega
      rw [chop_more hn f _ (by omega), chop_more hn t.length _ hl]
theorem pieces_nil (n : Nat) : pieces n [] = [] := by unfold pieces; split <;> rfl
theorem pieces_zero (s : List UInt8) : pieces 0 s = [] := rfl
theorem pieces_cons {n : Nat} (hn : 0 < n) {s : List UInt8} (hs : s ≠ []) : pieces n s = s.take n :: pieces n (s.drop n) := by
  unfold pieces
  rw [if_neg (by omega), if_neg (by omega)]
  cases s with
  | nil => exact absurd rfl hs
  | cons x t =>
    rw [List.length_cons]
    simp only [chop]
    rw [if_neg (by simp)]
    congr 1
    exact chop_more hn _ _ (by rw [List.length_drop]; simp; omega)

/-- A slice that append made, or one made empty. -/
def Bt (K : AHeap) (v : AVal) (cs : List AVal) : Prop := Ow K 1 v cs ∨ (cs = [] ∧ ∃ id, v = .slice id 0 0 0 none ∧ id < K.next ∧ K.obj id = some (.cells [] true))
theorem Bt.lt {K : AHeap} {v : AVal} {cs : List AVal} (h : Bt K v cs) : ∀ i, i ∈ v.ids → i < K.next := by
  rcases h with h | ⟨_, id, rfl, h, _⟩
  · exact h.lt
  · intro i hi
    simp [AVal.ids] at hi
    omega
theorem bt_push {K : AHeap} {v : AVal} {cs : List AVal} (h : Bt K v cs) (x : AVal) (hb : cs.length ≤ 4294967296) :
    ∃ v' K', aappend (K.new (.cells [x] true)) 1 16 v (.slice K.next 0 1 1 none) = some (v', K') ∧ Bt K' v' (cs ++ [x]) ∧ K.next ≤ K'.next ∧ (∀ i, i ∈ v'.ids → K.next ≤ i) ∧ ∀ i, i < K.next → i ∉ v.ids → K'.obj i = K.obj i := by
  rcases h with h | ⟨rfl, id, rfl, h1, h2⟩
  · refine ⟨_, _, h.push2 x (by omega), .inl (Ow_pushed _ _ _ _), by rw [pushH_next]; omega, ?_, fun i hi hv => pushH_obj hi hv⟩
    intro i hi
    simp [AVal.ids] at hi
    omega
  · have e : aappend (K.new (.cells [x] true)) 1 16 (.slice id 0 0 0 none) (.slice K.next 0 1 1 none) = some (.slice (K.next + 1) 0 1 1 (some 1), (K.new (.cells [x] true)).new (.cells [x] true)) :=
      app_known (H := K.new (.cells [x] true)) (es := 1) (by' := 16) (n := 1) (old := []) (new := [x]) (by decide) rfl (by simp [acells, AHeap.new]) rfl (by decide) (by decide)
    refine ⟨_, _, e, .inl (.inr ⟨_, 1, rfl, rfl, ?_, ?_, by decide⟩), ?_, ?_, ?_⟩
    · simp [AHeap.new]
    · simp [AHeap.new]
    · simp only [new_next]; omega
    · intro i hi
      simp [AVal.ids] at hi
      omega
    · intro i hi _
      simp only [new_obj, new_next]
      rw [if_neg (by omega), if_neg (by omega)]

theorem one_bt {f : FuncId} {x : AFn} {args cs : List AVal} {H : AHeap} (he : A.ext f = none) (hm : A.mode f = 1) (h : A.fn f = some x) (hp : plains args = true) (hc : oldl 0 cs = true)
    (hr : Rets (endX x.results (AX A x.body (ainit args) noH)) fun v K => Bt K v cs) : ∃ v K, AC A f args H = some (v, K) ∧ Sl K 1 v cs ∧ Keeps H K ∧ ∀ i, i ∈ v.ids → i < K.next := by
  obtain ⟨v, K, hr, hb⟩ := hr
  rcases hb with (⟨rfl, rfl⟩ | ⟨id, n, rfl, hl, _, ho, hn⟩) | ⟨rfl, id, rfl, _, ho⟩
  · refine ⟨.nils, H, ?_, .inl ⟨rfl, rfl⟩, Keeps.refl H, by simp [AVal.ids]⟩
    rw [AC_one he hm h args hp, s_body, hr]
    simp only [gcX, gc_old (show AVal.old 0 .nils = true from rfl)]
  · have e := one_new (u := .slice H.next 0 n n (some 1)) (cs := cs) (H := H) he hm h hp ⟨_, K, hr, one_slice (Nat.zero_le _) ho hc⟩
    refine ⟨_, _, e, .inr ⟨_, 0, n, n, some 1, rfl, hl, .inr ⟨cs, true, by simp [AHeap.new], by omega, by rw [List.drop_zero, List.take_of_length_le (by omega)]⟩⟩, Keeps.new _ _, ?_⟩
    intro i hi
    simp [AVal.ids] at hi
    simp only [new_next]; omega
  · have e := one_new (u := .slice H.next 0 0 0 none) (cs := []) (H := H) he hm h hp ⟨_, K, hr, one_slice (Nat.zero_le _) ho rfl⟩
    refine ⟨_, _, e, .inr ⟨_, 0, 0, 0, none, rfl, rfl, .inl rfl⟩, Keeps.new _ _, ?_⟩
    intro i hi
    simp [AVal.ids] at hi
    simp only [new_next]; omega

theorem strs_old (l : List (List UInt8)) : oldl 0 (l.map .str) = true := by
  induction l with
  | nil => rfl
  | cons x l ih => simp only [List.map_cons, oldl, AVal.old, ih, Bool.and_self]

theorem take_min (s : List UInt8) (n : Int) (h : 0 ≤ n) : s.take (if (s.length : Int) < n then (s.length : Int) else n).toNat = s.take n.toNat ∧ s.drop (if (s.length : Int) < n then (s.length : Int) else n).toNat = s.drop n.toNat := by
  split
  · rw [Int.toNat_natCast, List.take_of_length_le (Nat.le_refl _), List.take_of_length_le (by omega), List.drop_of_length_le (Nat.le_refl _), List.drop_of_length_le (by omega)]
    exact ⟨rfl, rfl⟩
  · exact ⟨rfl, rfl⟩

/-! ### The same, or not -/
theorem pieces_len (n : Nat) (s : List UInt8) : (pieces n s).length ≤ s.length := by
  have key : ∀ (f : Nat) (s : List UInt8), (chop n f s).length ≤ f := by
    intro f
    induction f with
    | zero => intro s; simp [chop]
    | succ f ih => intro s; simp only [chop]; split
                   · simp
                   · have := ih (s.drop n); simp; omega
  unfold pieces
  split
  · simp
  · exact key _ _

/-! ### The law of the writers -/
end Go.Proofs.Ytilhjcnkaelheaa.Sd
