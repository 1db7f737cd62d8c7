/- Texts put together by program: YtfmjdlahabgkpaaDoorNi, YtfmjdlahabgkpaaDoorNd, YtfmjdlahabgkpaaDoorNe, YtfmjdlahabgkpaaDoorNf, YtfmjdlahabgkpaaDoorNj. -/
import Derived.Test.YtfmjdlahabgkpaaDoorNameTellsP1
section
/- Names: lines of words: the plain law, and the walks. -/
set_option maxRecDepth 100000
set_option linter.unusedSimpArgs false
set_option linter.unusedVariables false
set_option maxHeartbeats 4000000
namespace Go.Proofs.YtfmjdlahabgkpaaDoor.Nm
open Go Go.Proofs.YtfmjdlahabgkpaaDoor.Am NaFns Go.RowKit

def consw (c : UInt8) : List (List UInt8) → List (List UInt8)
  | [] => [[c]]
  | w :: ws => (c :: w) :: ws
def wds : List UInt8 → List (List UInt8)
  | [] => [[]]
  | c :: s => if c = 32 then [] :: wds s else consw c (wds s)
theorem wds_cons (c : UInt8) (s : List UInt8) : wds (c :: s) = if c = 32 then [] :: wds s else consw c (wds s) := rfl
theorem wds_ne : ∀ s, wds s ≠ []
  | [] => by simp [wds]
  | c :: s => by
    unfold wds; split
    · simp
    · cases h : wds s <;> simp [consw]
theorem wds_len : ∀ s, (wds s).length = s.count 32 + 1
  | [] => rfl
  | c :: s => by
    have ih := wds_len s
    unfold wds; split
    · rename_i h; subst h
      simp [ih]
    · rename_i h
      rw [List.count_cons_of_ne h, ← ih]
      cases hw : wds s with
      | nil => exact absurd hw (wds_ne s)
      | cons w ws => rfl
theorem wds_none : ∀ s : List UInt8, s.count 32 = 0 → wds s = [s]
  | [], _ => rfl
  | c :: s, h => by
    have hc : c ≠ 32 := by rintro rfl; simp at h
    rw [List.count_cons_of_ne hc] at h
    unfold wds
    rw [if_neg hc, wds_none s h]; rfl
theorem wds_split : ∀ (p r : List UInt8), p.count 32 = 0 → wds (p ++ 32 :: r) = p :: wds r
  | [], r, _ => by simp [wds]
  | c :: p, r, h => by
    have hc : c ≠ 32 := by rintro rfl; simp at h
    rw [List.count_cons_of_ne hc] at h
    rw [List.cons_append, wds_cons, if_neg hc, wds_split p r h]; rfl
theorem count_split : ∀ s : List UInt8, s.count 32 ≠ 0 → ∃ p r, s = p ++ 32 :: r ∧ p.count 32 = 0 ∧ Lib.indexByte s 32 = (p.length : Int)
  | [], h => by simp at h
  | c :: s, h => by
    by_cases hc : c = 32
    · subst hc
      exact ⟨[], s, rfl, rfl, by simp [Lib.indexByte]⟩
    · rw [List.count_cons_of_ne hc] at h
      obtain ⟨p, r, e, h1, h2⟩ := count_split s h
      refine ⟨c :: p, r, by rw [e]; rfl, by rw [List.count_cons_of_ne hc]; exact h1, ?_⟩
      unfold Lib.indexByte
      have : (c == 32) = false := by simp [hc]
      rw [this, h2]
      have : ((p.length : Int) == -1) = false := by simp
      simp [this]
theorem join_cons2 (x y : List UInt8) (r : List (List UInt8)) : Lib.join (x :: y :: r) [32] = x ++ 32 :: Lib.join (y :: r) [32] := by
  rw [Lib.join_cons, Lib.join_cons]; simp [Lib.joinTail]
theorem join_snoc (l : List (List UInt8)) (y : List UInt8) (h : l ≠ []) : Lib.join (l ++ [y]) [32] = Lib.join l [32] ++ [32] ++ y := by
  match l, h with
  | x :: r, _ => rw [List.cons_append, Lib.join_cons, Lib.join_cons]; simp [Lib.joinTail]
def tot (l : List (List UInt8)) : Nat := (l.map fun x => x.length + 1).sum
theorem join_tot : ∀ l : List (List UInt8), (Lib.join l [32]).length ≤ tot l
  | [] => Nat.zero_le _
  | [x] => by rw [Lib.join_one]; simp [tot]
  | x :: y :: r => by
    have := join_tot (y :: r)
    rw [join_cons2]
    simp [tot] at this ⊢; omega
theorem tot_take (l : List (List UInt8)) (i : Nat) : tot (l.take i) ≤ tot l := by
  induction l generalizing i with
  | nil => simp [tot]
  | cons a l ih => cases i with
    | zero => simp [tot]
    | succ i => have := ih i; simp [tot] at this ⊢; omega

/-! ### Split -/
theorem U55 (s : List UInt8) (c : UInt8) (h : s ≠ [c]) (H : AHeap) : AC A 55 [.str s, .str [c]] H = some (.int .i64 (Lib.indexByte s c), H) := by
  have u63 : ∀ M, AC A 63 [.str s, .str [c]] M = some (.int .i64 (Lib.indexByte s c), M) := by
    intro M
    refine one_val (x := NaFns.c63) rfl rfl rfl rfl rfl ?_ M
    have u := fun M => U44 s c M
    have ix := idx_str (k := .i64) [c] (i := 0) (by simp)
    have e : ([c] : List UInt8)[0]'(by simp) = c := rfl
    rw [e] at ix
    have ix : ((aidx 1 (.int .i64 0)).bind fun i => (([c] : List UInt8)[i]?).map fun b => AVal.int .u8 (b.toNat : Int)) = some (by8 c) := ix
    have c0 : decide (((1 : Nat) : Int) = 0) = false := rfl
    have c1 : decide (((1 : Nat) : Int) = 1) = true := rfl
    have cs : decide ([c] = s) = false := decide_eq_false (fun e => h e.symm)
    unfold by8 at ix
    simp only [c63, List.length_singleton, c0, c1, cs, ix, u, rwA, rwB, Nat.reduceAdd, Nat.reduceMul, Nat.reduceLeDiff, Int.reduceEq, Int.reduceLT, Int.reduceLE, Int.reduceAdd, Int.reduceSub, Int.reduceMul, ↓reduceIte, Nat.reduceEqDiff, reduceCtorEq, ↓cnd_true, ↓cnd_false]
  refine one_val (x := NaFns.c55) rfl rfl rfl rfl rfl ?_ H
  simp only [c55, u63, rwA, rwB, Nat.reduceAdd, Nat.reduceMul, Nat.reduceLeDiff, Int.reduceEq, Int.reduceLT, Int.reduceLE, Int.reduceAdd, Int.reduceSub, Int.reduceMul, ↓reduceIte, Nat.reduceEqDiff, reduceCtorEq, ↓cnd_true, ↓cnd_false]
theorem U63e (c : UInt8) (H : AHeap) : AC A 55 [.str [c], .str [c]] H = some (.int .i64 0, H) := by
  have u63 : ∀ M, AC A 63 [.str [c], .str [c]] M = some (.int .i64 0, M) := by
    intro M
    refine one_val (x := NaFns.c63) rfl rfl rfl rfl rfl ?_ M
    have c0 : decide (((1 : Nat) : Int) = 0) = false := rfl
    simp only [c63, List.length_singleton, c0, decide_true, rwA, rwB, Nat.reduceAdd, Nat.reduceMul, Nat.reduceLeDiff, Int.reduceEq, Int.reduceLT, Int.reduceLE, Int.reduceAdd, Int.reduceSub, Int.reduceMul, ↓reduceIte, Nat.reduceEqDiff, reduceCtorEq, ↓cnd_true, ↓cnd_false]
  refine one_val (x := NaFns.c55) rfl rfl rfl rfl rfl ?_ H
  simp only [c55, u63, rwA, rwB, Nat.reduceAdd, Nat.reduceMul, Nat.reduceLeDiff, Int.reduceEq, Int.reduceLT, Int.reduceLE, Int.reduceAdd, Int.reduceSub, Int.reduceMul, ↓reduceIte, Nat.reduceEqDiff, reduceCtorEq, ↓cnd_true, ↓cnd_false]
theorem U55' (s : List UInt8) (H : AHeap) : AC A 55 [.str s, .str [32]] H = some (.int .i64 (Lib.indexByte s 32), H) := by
  by_cases h : s = [32]
  · subst h; exact U63e 32 H
  · exact U55 s 32 h H

def arow (l : List (List UInt8)) (n : Nat) : List AVal := l.map .str ++ List.replicate n (.str [])
theorem arow_len (l : List (List UInt8)) (n : Nat) : (arow l n).length = l.length + n := by simp [arow]
theorem arow_set (l : List (List UInt8)) (n : Nat) (x : List UInt8) : (arow l (n + 1)).set l.length (.str x) = arow (l ++ [x]) n := by
  simp only [arow, List.replicate_succ, List.map_append, List.append_assoc, List.map_cons, List.map_nil]
  rw [List.set_append, if_neg (by simp)]
  simp
def b45 : ACode := (.seq (.seq (.region [⟨(some 34), (.mv (.tmp 10)), none, none⟩, ⟨(some 35), (.mv (.tmp 3)), none, none⟩, ⟨(some 36), (.bin .lss (.tmp 34) (.tmp 35)), none, none⟩]) (.cond (.tmp 36) .skip (.exit 0))) (.block 1 (.seq (.region [⟨(some 37), (.mv (.tmp 0)), none, none⟩, ⟨(some 38), (.mv (.tmp 1)), none, none⟩, ⟨(some 39), (.call (.con (.func 55 [] [])) [(.tmp 37), (.tmp 38)]), none, none⟩, ⟨(some 11), (.mv (.tmp 39)), none, none⟩]) (.seq (.seq (.region [⟨(some 40), (.mv (.tmp 11)), none, none⟩, ⟨(some 41), (.bin .lss (.tmp 40) (.con (.int .i64 0))), none, none⟩]) (.cond (.tmp 41) (.exit 0) .skip)) (.seq (.region [⟨(some 42), (.mv (.tmp 9)), none, none⟩, ⟨(some 43), (.mv (.tmp 10)), none, none⟩, ⟨(some 44), (.mv (.tmp 0)), none, none⟩, ⟨(some 45), (.mv (.tmp 11)), none, none⟩, ⟨(some 46), (.mv (.tmp 2)), none, none⟩, ⟨(some 47), (.bin .add (.tmp 45) (.tmp 46)), none, none⟩, ⟨(some 48), (.slcStr (.tmp 44) none (some (.tmp 47))), none, none⟩, ⟨(some 49), (.idxASl 1 (.tmp 42) (.tmp 43)), none, none⟩, ⟨none, (.store 1 (.tmp 49) (.tmp 48)), none, none⟩]) (.seq (.region [⟨(some 50), (.mv (.tmp 0)), none, none⟩, ⟨(some 51), (.mv (.tmp 11)), none, none⟩, ⟨(some 52), (.mv (.tmp 1)), none, none⟩, ⟨(some 53), (.len true (.tmp 52)), none, none⟩, ⟨(some 54), (.bin .add (.tmp 51) (.tmp 53)), none, none⟩, ⟨(some 55), (.slcStr (.tmp 50) (some (.tmp 54)) none), none, none⟩, ⟨(some 0), (.mv (.tmp 55)), none, none⟩]) (.region [⟨(some 56), (.mv (.tmp 10)), none, none⟩, ⟨(some 57), (.bin .add (.tmp 56) (.con (.int .i64 1))), none, none⟩, ⟨(some 10), (.mv (.tmp 57)), none, none⟩])))))))
theorem loop45 {s0 : List UInt8} (hn : s0.length ≤ 10000000) {H : AHeap} {q : Nat} (hq : H.obj q = some (.cells (arow [] (s0.count 32 + 1)) true)) {env : Env} (h0 : env 0 = .str s0) (h1 : env 1 = .str [32]) (h2 : env 2 = .int .i64 0) (h3 : env 3 = .int .i64 ((s0.count 32 : Nat) : Int)) (h9 : env 9 = .slice q 0 (s0.count 32 + 1) (s0.count 32 + 1) none) (h10 : env 10 = .int .i64 0) :
    Outs (AX A (.loop b45) env H) fun e env' K => e = .exit 0 ∧ env' 9 = .slice q 0 (s0.count 32 + 1) (s0.count 32 + 1) none ∧ env' 10 = .int .i64 ((s0.count 32 : Nat) : Int) ∧ ∃ done s, env' 0 = .str s ∧ wds s0 = done ++ [s] ∧ done.length = s0.count 32 ∧ K.obj q = some (.cells (arow done 1) true) := by
  obtain ⟨N, eN⟩ : ∃ N, s0.count 32 = N := ⟨_, rfl⟩
  rw [eN] at hq h3 h9 ⊢
  refine loop_ends (I := fun (s : List UInt8) env' K => env' 0 = .str s ∧ env' 1 = .str [32] ∧ env' 2 = .int .i64 0 ∧ env' 3 = .int .i64 (N : Int) ∧ env' 9 = .slice q 0 (N + 1) (N + 1) none ∧ s.length ≤ 10000000 ∧
    ∃ done, wds s0 = done ++ wds s ∧ env' 10 = .int .i64 (done.length : Int) ∧ done.length + s.count 32 = N ∧ K.obj q = some (.cells (arow done (s.count 32 + 1)) true)) (fun s => s.length) ?_ s0 env H
    ⟨h0, h1, h2, h3, h9, hn, [], rfl, h10, by simpa using eN, by rw [eN]; exact hq⟩
  rintro s env1 K ⟨h0, h1, h2, h3, h9, hl, done, hd, h10, hc, ho⟩
  by_cases c : s.count 32 = 0
  · have c1 : decide ((done.length : Int) < (N : Int)) = false := by simp; omega
    simp only [b45, h3, h10, c1, rwA, rwB, Nat.reduceAdd, Nat.reduceMul, Nat.reduceLeDiff, Int.reduceEq, Int.reduceLT, Int.reduceLE, Int.reduceAdd, Int.reduceSub, Int.reduceMul, ↓reduceIte, Nat.reduceEqDiff, reduceCtorEq, ↓cnd_true, ↓cnd_false]
    rw [outs_some]
    rw [wds_none s c] at hd
    refine .inr ⟨by simp, rfl, by simp [Env.set, h9], by simp [Env.set, h10]; omega, done, s, by simp [Env.set, h0], hd, by omega, by rw [c] at ho; exact ho⟩
  · have c1 : decide ((done.length : Int) < (N : Int)) = true := by simp; omega
    obtain ⟨p, r, e, hp, hx⟩ := count_split s c
    have u55 := fun M => U55' s M
    rw [hx] at u55
    have c2 : decide ((p.length : Int) < 0) = false := by simp
    have sle : p.length + 1 ≤ s.length := by rw [e]; simp
    have w0 : IntKind.i64.wrap ((p.length : Int) + 0) = (p.length : Int) := by rw [wrap_i64]; omega
    have w1 : IntKind.i64.wrap ((p.length : Int) + 1) = ((p.length + 1 : Nat) : Int) := by rw [wrap_i64]; omega
    have w1' : IntKind.i64.wrap ((p.length : Int) + ((1 : Nat) : Int)) = ((p.length + 1 : Nat) : Int) := by rw [wrap_i64]; omega
    have dl : done.length ≤ N := by omega
    have nl : N ≤ 10000000 := by rw [← eN]; exact Nat.le_trans List.count_le_length hn
    have w2 : IntKind.i64.wrap ((done.length : Int) + 1) = ((done.length + 1 : Nat) : Int) := by rw [wrap_i64]; omega
    have s1 := slc_str_hi s (n := p.length) (by omega)
    have s2 := slc_str_lo s (n := p.length + 1) (by omega)
    have e1 : s.take p.length = p := by rw [e]; simp
    have e2 : s.drop (p.length + 1) = r := by rw [e, List.drop_append]; simp
    rw [e1] at s1
    rw [e2] at s2
    have ha : aidx (N + 1) (.int .i64 (done.length : Int)) = some done.length := by simp [aidx]; omega
    have rc : s.count 32 = r.count 32 + 1 := by rw [e, List.count_append, hp, List.count_cons_self]; omega
    rw [rc] at ho
    have st := store_one K q done.length (.str p) (arow done (r.count 32 + 1 + 1)) (by rw [arow_len]; omega)
    rw [arow_set] at st
    simp only [b45, h0, h1, h2, h3, h9, h10, c1, u55, c2, w0, w1, w1', w2, s1, s2, ha, ho, st, Nat.zero_add, Nat.mul_one, List.length_singleton, rwA, rwB, Nat.reduceAdd, Nat.reduceMul, Nat.reduceLeDiff, Int.reduceEq, Int.reduceLT, Int.reduceLE, Int.reduceAdd, Int.reduceSub, Int.reduceMul, ↓reduceIte, Nat.reduceEqDiff, reduceCtorEq, ↓cnd_true, ↓cnd_false]
    rw [outs_some]
    refine .inl ⟨rfl, r, by rw [e]; simp; omega, by simp [Env.set], by simp [Env.set, h1], by simp [Env.set, h2], by simp [Env.set, h3], by simp [Env.set, h9], by rw [← e2]; simp; omega, done ++ [p], by rw [hd, e, wds_split p r hp]; simp, by simp [Env.set], by simp; omega, by rw [set_obj, if_pos rfl]⟩
theorem oldl_str' (n : Nat) (l : List (List UInt8)) : oldl n (l.map AVal.str) = true := by
  induction l with
  | nil => rfl
  | cons a l ih => simp [oldl, AVal.old, ih]
theorem U13 {s : List UInt8} (hn : s.length ≤ 10000000) (H : AHeap) : AC A 13 [.str s] H = some (.slice H.next 0 (wds s).length (wds s).length none, H.new (.cells ((wds s).map .str) true)) := by
  have u45 : ∀ M, AC A 45 [.str s, .str [32], .int .i64 0, .int .i64 (-1)] M = some (.slice M.next 0 (wds s).length (wds s).length none, M.new (.cells ((wds s).map .str) true)) := by
    intro M
    refine look_new (x := NaFns.c45) rfl rfl rfl ?_
    have u54 := fun M => U54 s 32 M
    have cl : s.count 32 ≤ s.length := List.count_le_length
    have wl := wds_len s
    obtain ⟨N, eN⟩ : ∃ N, s.count 32 = N := ⟨_, rfl⟩
    have L := fun env => loop45 hn (env := env) (H := (frz M).new (.cells (arow [] (N + 1)) true)) (q := M.next) (by rw [eN, new_obj, if_pos (frz_next M).symm])
    rw [eN] at u54 L cl wl
    have w1 : IntKind.i64.wrap ((N : Int) + 1) = ((N + 1 : Nat) : Int) := by rw [wrap_i64]; omega
    have w2 : IntKind.i64.wrap ((s.length : Int) + 1) = ((s.length + 1 : Nat) : Int) := by rw [wrap_i64]; omega
    have w3 : IntKind.i64.wrap (((N + 1 : Nat) : Int) - 1) = (N : Int) := by rw [wrap_i64]; omega
    have mn : (if ((s.length + 1 : Nat) : Int) < ((N + 1 : Nat) : Int) then ((s.length + 1 : Nat) : Int) else ((N + 1 : Nat) : Int)) = ((N + 1 : Nat) : Int) := if_neg (by omega)
    have mk : ∀ M : AHeap, amkS M 1 16 [.str []] (.int .i64 ((N + 1 : Nat) : Int)) (.int .i64 ((N + 1 : Nat) : Int)) = some (.slice M.next 0 (N + 1) (N + 1) none, M.new (.cells (arow [] (N + 1)) true)) := by
      intro M
      simp only [amkS]
      rw [if_pos ⟨by omega, by omega, by omega, by omega, rfl⟩, Int.toNat_natCast]
      have : arep [AVal.str []] (N + 1) = arow [] (N + 1) := by
        unfold arow
        rw [List.map_nil, List.nil_append]
        generalize N + 1 = k
        induction k with
        | zero => rfl
        | succ k ih => rw [List.replicate_succ, ← ih]; rfl
      rw [this]
    have d0 : decide ((-1 : Int) = 0) = false := rfl
    have d1 : decide ((-1 : Int) < 0) = true := rfl
    have ne : decide (([32] : List UInt8) = []) = false := rfl
    have fn := frz_next M
    simp only [c45, d0, d1, ne, u54, w1, w2, w3, mn, mk, fn, rwA, rwB, Nat.reduceAdd, Nat.reduceMul, Nat.reduceLeDiff, Int.reduceEq, Int.reduceLT, Int.reduceLE, Int.reduceAdd, Int.reduceSub, Int.reduceMul, ↓reduceIte, Nat.reduceEqDiff, reduceCtorEq, ↓cnd_true, ↓cnd_false]
    repeat (first | refine outs_seq ?_ | refine outs_block ?_ | refine outs_step ?_ | refine outs_stepD ?_ | refine rets_end ?_ | refine ans_end ?_)
    refine (L _ ?_ ?_ ?_ ?_ ?_ ?_).mono ?_
    · simp [Env.set, ainit]
    · simp [Env.set, ainit]
    · simp [Env.set, ainit]
    · simp [Env.set]
    · simp [Env.set]
    · simp [Env.set]
    rintro e env K ⟨rfl, h9, h10, done, t, h0, hd, hdl, ho⟩
    have ha : aidx (N + 1) (.int .i64 (N : Int)) = some N := by simp [aidx]; omega
    have st := store_one K M.next N (.str t) (arow done 1) (by rw [arow_len]; omega)
    have hset : (arow done 1).set N (.str t) = (wds s).map .str := by
      have := arow_set done 0 t
      rw [hdl] at this
      rw [this, hd]; simp [arow]
    rw [hset] at st
    have sa : aslc 1 (.slice M.next 0 (N + 1) (N + 1) none) none (some (.int .i64 ((N + 1 : Nat) : Int))) none = some (.slice M.next 0 (N + 1) (N + 1) none) := by
      simp only [aslc, abounds, abound, Option.isSome_none, Bool.false_eq_true, if_false, Option.bind_some]
      rw [if_pos ⟨by omega, by omega⟩]
      simp
    simp only [outs_some, h0, h9, h10, ha, ho, st, w1, sa, Nat.zero_add, Nat.mul_one, rwA, rwB, Nat.reduceAdd, Nat.reduceMul, Nat.reduceLeDiff, Int.reduceEq, Int.reduceLT, Int.reduceLE, Int.reduceAdd, Int.reduceSub, Int.reduceMul, ↓reduceIte, Nat.reduceEqDiff, reduceCtorEq, ↓cnd_true, ↓cnd_false]
    rw [rets_some, wl]
    exact one_slice (Nat.le_refl _) (by rw [set_obj, if_pos rfl]) (oldl_str' _ _)
  have u35 : ∀ M, AC A 35 [.str s, .str [32]] M = some (.slice M.next 0 (wds s).length (wds s).length none, M.new (.cells ((wds s).map .str) true)) := by
    intro M
    refine look_new (x := NaFns.c35) rfl rfl rfl ?_
    have fn := frz_next M
    simp only [c35, u45, fn, rwA, rwB, Nat.reduceAdd, Nat.reduceMul, Nat.reduceLeDiff, Int.reduceEq, Int.reduceLT, Int.reduceLE, Int.reduceAdd, Int.reduceSub, Int.reduceMul, ↓reduceIte, Nat.reduceEqDiff, reduceCtorEq, ↓cnd_true, ↓cnd_false]
    rw [rets_some]
    exact one_slice (Nat.le_refl _) (by rw [new_obj, if_pos fn.symm]) (oldl_str' _ _)
  refine look_new (x := NaFns.c13) rfl rfl rfl ?_
  have fn := frz_next H
  simp only [c13, u35, fn, rwA, rwB, Nat.reduceAdd, Nat.reduceMul, Nat.reduceLeDiff, Int.reduceEq, Int.reduceLT, Int.reduceLE, Int.reduceAdd, Int.reduceSub, Int.reduceMul, ↓reduceIte, Nat.reduceEqDiff, reduceCtorEq, ↓cnd_true, ↓cnd_false]
  rw [rets_some]
  exact one_slice (Nat.le_refl _) (by rw [new_obj, if_pos fn.symm]) (oldl_str' _ _)

/-! ### The reference's Words -/
def b14 : ACode := (.seq (.seq (.region [⟨(some 7), (.mv (.tmp 5)), none, none⟩, ⟨(some 8), (.mv (.tmp 0)), none, none⟩, ⟨(some 9), (.len true (.tmp 8)), none, none⟩, ⟨(some 10), (.bin .leq (.tmp 7) (.tmp 9)), none, none⟩]) (.cond (.tmp 10) .skip (.exit 0))) (.seq (.block 1 (.seq (.region [⟨(some 13), (.mv (.tmp 5)), none, none⟩, ⟨(some 14), (.mv (.tmp 0)), none, none⟩, ⟨(some 15), (.len true (.tmp 14)), none, none⟩, ⟨(some 16), (.bin .eql (.tmp 13) (.tmp 15)), none, none⟩, ⟨(some 17), (.mv (.tmp 16)), none, none⟩, ⟨(some 18), (.mv (.tmp 0)), (some (17, false)), none⟩, ⟨(some 19), (.mv (.tmp 5)), (some (17, false)), none⟩, ⟨(some 20), (.idxStr (.tmp 18) (.tmp 19)), (some (17, false)), none⟩, ⟨(some 21), (.bin .eql (.tmp 20) (.con (.int .u8 32))), (some (17, false)), none⟩, ⟨(some 22), (.pick (.tmp 17) (.con (.bool true)) (.tmp 21)), none, none⟩]) (.cond (.tmp 22) (.seq (.region [⟨(some 23), (.mv (.tmp 3)), none, none⟩, ⟨(some 24), (.mv (.tmp 0)), none, none⟩, ⟨(some 25), (.mv (.tmp 4)), none, none⟩, ⟨(some 26), (.mv (.tmp 5)), none, none⟩, ⟨(some 27), (.slcStr (.tmp 24) (some (.tmp 25)) (some (.tmp 26))), none, none⟩, ⟨(some 28), (.buildS 1 [(.str [])] [(0, (1, (.tmp 27)))]), none, none⟩, ⟨(some 29), (.append 1 16 (.tmp 23) (.tmp 28)), none, none⟩, ⟨(some 3), (.mv (.tmp 29)), none, none⟩]) (.region [⟨(some 30), (.mv (.tmp 5)), none, none⟩, ⟨(some 31), (.bin .add (.tmp 30) (.con (.int .i64 1))), none, none⟩, ⟨(some 4), (.mv (.tmp 31)), none, none⟩])) .skip))) (.region [⟨(some 11), (.mv (.tmp 5)), none, none⟩, ⟨(some 12), (.bin .add (.tmp 11) (.con (.int .i64 1))), none, none⟩, ⟨(some 5), (.mv (.tmp 12)), none, none⟩])))
theorem loop14 {s : List UInt8} (hn : s.length ≤ 10000000) {H : AHeap} {v0 : AVal} (g0 : Gr H 1 v0 []) {B : Nat} (hB : B ≤ H.next) (hv0 : ∀ i, i ∈ v0.ids → B ≤ i) {env : Env} (h0 : env 0 = .str s) (h3 : env 3 = v0) (h4 : env 4 = .int .i64 0) (h5 : env 5 = .int .i64 0) :
    Outs (AX A (.loop b14) env H) fun e env' K => e = .exit 0 ∧ ∃ v, env' 3 = v ∧ Gr K 1 v ((wds s).map .str) ∧ ∀ i, i ∈ v.ids → B ≤ i := by
  refine loop_ends (I := fun (j : Nat) env' K => j ≤ s.length + 1 ∧ env' 0 = .str s ∧ env' 5 = .int .i64 (j : Int) ∧ ∃ (v : AVal) (done : List (List UInt8)) (f : Nat), env' 3 = v ∧ env' 4 = .int .i64 (f : Int) ∧ Gr K 1 v (done.map .str) ∧ (∀ i, i ∈ v.ids → B ≤ i) ∧ B ≤ K.next ∧ done.length ≤ j ∧
    ((j ≤ s.length ∧ f ≤ j ∧ ((s.take j).drop f).count 32 = 0 ∧ wds s = done ++ wds (s.drop f)) ∨ (j = s.length + 1 ∧ wds s = done))) (fun j => s.length + 1 - j) ?_ 0 env H
    ⟨Nat.zero_le _, h0, h5, v0, [], 0, h3, h4, g0, hv0, hB, Nat.le_refl _, .inl ⟨Nat.zero_le _, Nat.le_refl _, by simp, by simp⟩⟩
  rintro j env1 K ⟨hj, h0, h5, v, done, f, h3, h4, hg, hv, hK, hdl, hI⟩
  rcases hI with ⟨hj, hf, hc, hd⟩ | ⟨rfl, hd⟩
  · have c1 : decide ((j : Int) ≤ (s.length : Int)) = true := by simp; omega
    have w1 : IntKind.i64.wrap ((j : Int) + 1) = ((j + 1 : Nat) : Int) := by rw [wrap_i64]; omega
    have sl := slc_str s (k := .i64) (m := f) (n := j) hf hj
    have sle : slen v = done.length := by have := hg.sl.length; rw [List.length_map] at this; omega
    obtain ⟨v2, K2, ea, g2, i2, f2, s2, a2, ea2⟩ := hg.push (by' := 16) (by decide) (x := [.str ((s.take j).drop f)]) rfl (by rw [sle]; omega)
    rw [ea2] at ea
    have shv := hg.shape
    have vB : ∀ i, i ∈ v2.ids → B ≤ i := fun i hi => by have := i2 i hi; omega
    have kB : B ≤ K2.next := by have := f2.1; omega
    have g2' : Gr K2 1 v2 ((done ++ [(s.take j).drop f]).map .str) := by rw [List.map_append]; exact g2
    by_cases c : j < s.length
    · have c2 : decide ((j : Int) = (s.length : Int)) = false := by simp; omega
      have ix := idx_str (k := .i64) s c
      have hdj : s.drop j = s[j] :: s.drop (j + 1) := List.drop_eq_getElem_cons c
      have hdf : s.drop f = (s.take j).drop f ++ s.drop j := by
        have : s.drop f = (s.take j ++ s.drop j).drop f := by rw [List.take_append_drop]
        rw [this, List.drop_append_of_le_length (by simp; omega)]
      obtain ⟨x, ex⟩ : ∃ x, s[j] = x := ⟨_, rfl⟩
      have htj : (s.take (j + 1)).drop f = (s.take j).drop f ++ [s[j]] := by
        rw [List.take_add_one, List.getElem?_eq_getElem c, Option.toList_some, List.drop_append_of_le_length (by simp; omega)]
      rw [ex] at ix hdj htj
      have e32 : decide ((x.toNat : Int) = 32) = (x == 32) := (eqc_is x 32).symm
      unfold by8 at ix
      by_cases c32 : x = 32
      · have c32' : (x == 32) = true := by simp [c32]
        rw [c32'] at e32
        rcases shv with rfl | ⟨_, _, _, rfl⟩ <;>
          (simp only [b14, h0, h3, h4, h5, c1, c2, ix, e32, sl, ea, w1, rwA, rwB, Nat.reduceAdd, Nat.reduceMul, Nat.reduceLeDiff, Int.reduceEq, Int.reduceLT, Int.reduceLE, Int.reduceAdd, Int.reduceSub, Int.reduceMul, ↓reduceIte, Nat.reduceEqDiff, reduceCtorEq, ↓cnd_true, ↓cnd_false]
           rw [outs_some]
           refine .inl ⟨rfl, j + 1, by omega, by omega, by simp [Env.set, h0], by simp [Env.set], v2, done ++ [(s.take j).drop f], j + 1, by rw [ea2]; simp [Env.set], by simp [Env.set], g2', vB, kB, by simp; omega, .inl ⟨by omega, Nat.le_refl _, by simp, ?_⟩⟩
           rw [hd, hdf, hdj, c32, wds_split _ _ hc]; simp)
      · have c32' : (x == 32) = false := by simp [c32]
        rw [c32'] at e32
        simp only [b14, h0, h4, h5, c1, c2, ix, e32, w1, rwA, rwB, Nat.reduceAdd, Nat.reduceMul, Nat.reduceLeDiff, Int.reduceEq, Int.reduceLT, Int.reduceLE, Int.reduceAdd, Int.reduceSub, Int.reduceMul, ↓reduceIte, Nat.reduceEqDiff, reduceCtorEq, ↓cnd_true, ↓cnd_false]
        rw [outs_some]
        refine .inl ⟨rfl, j + 1, by omega, by omega, by simp [Env.set, h0], by simp [Env.set], v, done, f, by simp [Env.set, h3], by simp [Env.set, h4], hg, hv, hK, by omega, .inl ⟨by omega, by omega, ?_, hd⟩⟩
        rw [htj, List.count_append, hc, List.count_singleton]
        simp [c32]
    · have e : j = s.length := by omega
      subst e
      have c2 : decide ((s.length : Int) = (s.length : Int)) = true := by simp
      rcases shv with rfl | ⟨_, _, _, rfl⟩ <;>
        (simp only [b14, h0, h3, h4, h5, c1, c2, sl, ea, w1, rwA, rwB, Nat.reduceAdd, Nat.reduceMul, Nat.reduceLeDiff, Int.reduceEq, Int.reduceLT, Int.reduceLE, Int.reduceAdd, Int.reduceSub, Int.reduceMul, ↓reduceIte, Nat.reduceEqDiff, reduceCtorEq, ↓cnd_true, ↓cnd_false]
         rw [outs_some]
         refine .inl ⟨rfl, s.length + 1, by omega, by omega, by simp [Env.set, h0], by simp [Env.set], v2, done ++ [(s.take s.length).drop f], s.length + 1, by rw [ea2]; simp [Env.set], by simp [Env.set], g2', vB, kB, by simp; omega, .inr ⟨rfl, ?_⟩⟩
         rw [List.take_length] at hc
         rw [hd, List.take_length, wds_none _ hc])
  · have c1 : decide (((s.length + 1 : Nat) : Int) ≤ (s.length : Int)) = false := by simp; omega
    simp only [b14, h0, h5, c1, rwA, rwB, Nat.reduceAdd, Nat.reduceMul, Nat.reduceLeDiff, Int.reduceEq, Int.reduceLT, Int.reduceLE, Int.reduceAdd, Int.reduceSub, Int.reduceMul, ↓reduceIte, Nat.reduceEqDiff, reduceCtorEq, ↓cnd_true, ↓cnd_false]
    rw [outs_some]
    exact .inr ⟨by simp, rfl, v, by simp [Env.set, h3], by rw [hd]; exact hg, hv⟩
theorem U14 {s : List UInt8} (hn : s.length ≤ 10000000) (H : AHeap) : ∃ v K, AC A 14 [.str s] H = some (v, K) ∧ Gr K 1 v ((wds s).map .str) ∧ Keeps H K ∧ ∀ i, i ∈ v.ids → H.next ≤ i := by
  refine look_gr (x := NaFns.c14) rfl rfl rfl (oldl_str' _ _) ?_
  have fn := frz_next H
  have g0 := Gr.empty (frz H) 1
  rw [fn] at g0
  simp only [c14, fn, rwA, rwB, Nat.reduceAdd, Nat.reduceMul, Nat.reduceLeDiff, Int.reduceEq, Int.reduceLT, Int.reduceLE, Int.reduceAdd, Int.reduceSub, Int.reduceMul, ↓reduceIte, Nat.reduceEqDiff, reduceCtorEq, ↓cnd_true, ↓cnd_false]
  repeat (first | refine outs_seq ?_ | refine outs_block ?_ | refine outs_step ?_ | refine outs_stepD ?_ | refine rets_end ?_ | refine ans_end ?_)
  refine (loop14 (B := H.next) hn g0 (by rw [new_next, fn]; omega) (by simp [AVal.ids]) ?_ ?_ ?_ ?_).mono ?_
  · simp [Env.set, ainit]
  · simp [Env.set]
  · simp [Env.set]
  · simp [Env.set]
  rintro e env K ⟨rfl, v, h3, hg, hv⟩
  have shv := hg.shape
  rcases shv with rfl | ⟨_, _, _, rfl⟩ <;>
    (simp only [outs_some, h3, rwA, rwB, Nat.reduceAdd, Nat.reduceMul, Nat.reduceLeDiff, Int.reduceEq, Int.reduceLT, Int.reduceLE, Int.reduceAdd, Int.reduceSub, Int.reduceMul, ↓reduceIte, Nat.reduceEqDiff, reduceCtorEq, ↓cnd_true, ↓cnd_false]
     rw [rets_some]
     exact ⟨hg, hv⟩)

/-! ### Two lists that are one -/
def b12 : ACode := (.seq (.seq (.region [⟨(some 11), (.mv (.tmp 5)), none, none⟩, ⟨(some 12), (.mv (.tmp 0)), none, none⟩, ⟨(some 13), (.len false (.tmp 12)), none, none⟩, ⟨(some 14), (.bin .lss (.tmp 11) (.tmp 13)), none, none⟩]) (.cond (.tmp 14) .skip (.exit 0))) (.seq (.block 1 (.seq (.draw [⟨(some 17), (.mv (.tmp 0)), none, none⟩, ⟨(some 18), (.mv (.tmp 5)), none, none⟩, ⟨(some 19), (.idxASl 1 (.tmp 17) (.tmp 18)), none, none⟩, ⟨(some 20), (.load false 1 (.tmp 19)), none, none⟩, ⟨(some 21), (.mv (.tmp 1)), none, none⟩, ⟨(some 22), (.mv (.tmp 5)), none, none⟩, ⟨(some 23), (.idxASl 1 (.tmp 21) (.tmp 22)), none, none⟩, ⟨(some 24), (.load false 1 (.tmp 23)), none, none⟩, ⟨(some 25), (.bin .neq (.tmp 20) (.tmp 24)), none, none⟩]) (.cond (.tmp 25) (.seq (.region [⟨(some 4), (.mv (.con (.bool false))), none, none⟩]) .ret) .skip))) (.region [⟨(some 15), (.mv (.tmp 5)), none, none⟩, ⟨(some 16), (.bin .add (.tmp 15) (.con (.int .i64 1))), none, none⟩, ⟨(some 5), (.mv (.tmp 16)), none, none⟩])))
theorem loop12 {H : AHeap} {s t : AVal} {l k : List (List UInt8)} (hs : Sl H 1 s (l.map .str)) (ht : Sl H 1 t (k.map .str)) (hl : l.length = k.length) (hb : l.length < 4611686018427387904) {env : Env} (h0 : env 0 = s) (h1 : env 1 = t) (h5 : env 5 = .int .i64 0) :
    Outs (AX A (.loop b12) env H) fun e env' H' => H' = H ∧ ((e = .exit 0 ∧ l = k) ∨ (e = .ret ∧ env' 4 = .bool false ∧ l ≠ k)) := by
  refine loop_ends (I := fun (j : Nat) env' H' => j ≤ l.length ∧ H' = H ∧ env' 0 = s ∧ env' 1 = t ∧ env' 5 = .int .i64 (j : Int) ∧ l.take j = k.take j) (fun j => l.length - j) ?_ 0 env H ⟨Nat.zero_le _, rfl, h0, h1, h5, by simp⟩
  rintro j env' _ ⟨hj, rfl, h0, h1, h5, hp⟩
  have e0 := hs.len1
  rw [List.length_map] at e0
  by_cases hjm : j < l.length
  · have e1 : decide ((j : Int) < (l.length : Int)) = true := by simp; omega
    obtain ⟨id, off, cap, g, c, own, rfl, ho, _, a1⟩ := hs.elem1 hjm
    obtain ⟨id2, off2, cap2, g2, c2, own2, rfl, ho2, _, a2⟩ := ht.elem1 (i := j) (by omega)
    have ha : aidx l.length (.int .i64 (j : Int)) = some j := by simp [aidx]; omega
    have w1 : IntKind.i64.wrap ((j : Int) + 1) = ((j + 1 : Nat) : Int) := by rw [wrap_i64]; omega
    have ha2 : aidx k.length (.int .i64 (j : Int)) = some j := by simp [aidx]; omega
    have ge : ∀ (l : List (List UInt8)) (h : j < l.length), l.take (j + 1) = l.take j ++ [l[j]] := fun l h => by
      rw [List.take_add_one, List.getElem?_eq_getElem h]; rfl
    cases hd : decide (l[j] = k[j])
    · simp only [b12, h0, h1, h5, e0, e1, ha, ha2, ho, ho2, a1, a2, hd, rwA, rwB, Nat.reduceAdd, Nat.reduceMul, Nat.reduceLeDiff, Int.reduceEq, Int.reduceLT, Int.reduceLE, Int.reduceAdd, Int.reduceSub, Int.reduceMul, ↓reduceIte, Nat.reduceEqDiff, reduceCtorEq, ↓cnd_true, ↓cnd_false]
      rw [outs_some]
      refine .inr ⟨by simp, rfl, .inr ⟨rfl, by simp [Env.set], ?_⟩⟩
      intro h
      subst h
      simp at hd
    · simp only [b12, h0, h1, h5, e0, e1, ha, ha2, ho, ho2, a1, a2, hd, w1, rwA, rwB, Nat.reduceAdd, Nat.reduceMul, Nat.reduceLeDiff, Int.reduceEq, Int.reduceLT, Int.reduceLE, Int.reduceAdd, Int.reduceSub, Int.reduceMul, ↓reduceIte, Nat.reduceEqDiff, reduceCtorEq, ↓cnd_true, ↓cnd_false]
      rw [outs_some]
      refine .inl ⟨rfl, j + 1, by omega, by omega, rfl, by simp [Env.set, h0], by simp [Env.set, h1], by simp [Env.set], ?_⟩
      rw [ge l hjm, ge k (by omega), hp]
      simp only [decide_eq_true_eq] at hd
      rw [hd]
  · have : j = l.length := by omega
    subst this
    have e1 : decide ((l.length : Int) < (l.length : Int)) = false := by simp
    simp only [b12, h0, h5, e0, e1, rwA, rwB, Nat.reduceAdd, Nat.reduceMul, Nat.reduceLeDiff, Int.reduceEq, Int.reduceLT, Int.reduceLE, Int.reduceAdd, Int.reduceSub, Int.reduceMul, ↓reduceIte, Nat.reduceEqDiff, reduceCtorEq, ↓cnd_true, ↓cnd_false]
    rw [outs_some]
    refine .inr ⟨by simp, rfl, .inl ⟨rfl, ?_⟩⟩
    rw [List.take_length, hl, List.take_length] at hp
    exact hp
theorem U12 {H : AHeap} {s t : AVal} {l k : List (List UInt8)} (hs : Sl H 1 s (l.map .str)) (ht : Sl H 1 t (k.map .str)) (hb : l.length < 4611686018427387904) :
    AC A 12 [s, t] H = some (.bool (decide (l = k)), H) := by
  refine look_val (x := NaFns.c12) rfl rfl rfl rfl ?_
  have hsf := hs.frz
  have htf := ht.frz
  have e0 := hsf.len1
  have e1 := htf.len1
  rw [List.length_map] at e0 e1
  by_cases c : l.length = k.length
  · have c1 : decide ((l.length : Int) = (k.length : Int)) = true := by simp; omega
    simp only [c12, e0, e1, c1, rwA, rwB, Nat.reduceAdd, Nat.reduceMul, Nat.reduceLeDiff, Int.reduceEq, Int.reduceLT, Int.reduceLE, Int.reduceAdd, Int.reduceSub, Int.reduceMul, ↓reduceIte, Nat.reduceEqDiff, reduceCtorEq, ↓cnd_true, ↓cnd_false]
    repeat (first | refine outs_seq ?_ | refine outs_block ?_ | refine outs_step ?_ | refine outs_stepD ?_ | refine rets_end ?_ | refine ans_end ?_)
    refine (loop12 hsf htf c hb ?_ ?_ ?_).mono ?_
    · simp [Env.set, ainit]
    · simp [Env.set, ainit]
    · simp [Env.set]
    rintro e env K ⟨rfl, (⟨rfl, h⟩ | ⟨rfl, h4, h⟩)⟩
    · simp only [outs_some, h, decide_true, rwA, rwB, Nat.reduceAdd, Nat.reduceMul, Nat.reduceLeDiff, Int.reduceEq, Int.reduceLT, Int.reduceLE, Int.reduceAdd, Int.reduceSub, Int.reduceMul, ↓reduceIte, Nat.reduceEqDiff, reduceCtorEq, ↓cnd_true, ↓cnd_false]
    · simp only [outs_some, h4, decide_eq_false h, rwA, rwB, Nat.reduceAdd, Nat.reduceMul, Nat.reduceLeDiff, Int.reduceEq, Int.reduceLT, Int.reduceLE, Int.reduceAdd, Int.reduceSub, Int.reduceMul, ↓reduceIte, Nat.reduceEqDiff, reduceCtorEq, ↓cnd_true, ↓cnd_false]
  · have c1 : decide ((l.length : Int) = (k.length : Int)) = false := by simp; omega
    have c2 : decide (l = k) = false := decide_eq_false fun h => c (by rw [h])
    rw [c2]
    simp only [c12, e0, e1, c1, rwA, rwB, Nat.reduceAdd, Nat.reduceMul, Nat.reduceLeDiff, Int.reduceEq, Int.reduceLT, Int.reduceLE, Int.reduceAdd, Int.reduceSub, Int.reduceMul, ↓reduceIte, Nat.reduceEqDiff, reduceCtorEq, ↓cnd_true, ↓cnd_false]

/-! ### Lines -/
theorem tot_len (l : List (List UInt8)) : l.length ≤ tot l := by
  induction l with
  | nil => simp
  | cons a l ih => simp only [tot, List.map_cons, List.sum_cons, List.length_cons] at ih ⊢; omega
theorem U15 {H : AHeap} {s : AVal} {l : List (List UInt8)} (hs : Sl H 1 s (l.map .str)) (hb : tot l ≤ 100000000) : AC A 15 [s] H = some (.str (Lib.join l [32]), H) := by
  refine look_val (x := NaFns.c15) rfl rfl rfl rfl ?_
  have hj := join_tot l
  have hl := tot_len l
  have u36 := U36 hs.frz [32] (by omega) (by omega)
  simp only [c15, u36, rwA, rwB, Nat.reduceAdd, Nat.reduceMul, Nat.reduceLeDiff, Int.reduceEq, Int.reduceLT, Int.reduceLE, Int.reduceAdd, Int.reduceSub, Int.reduceMul, ↓reduceIte, Nat.reduceEqDiff, reduceCtorEq, ↓cnd_true, ↓cnd_false]
def b16 : ACode := (.seq (.seq (.region [⟨(some 5), (.mv (.tmp 4)), none, none⟩, ⟨(some 6), (.mv (.tmp 0)), none, none⟩, ⟨(some 7), (.len false (.tmp 6)), none, none⟩, ⟨(some 8), (.bin .lss (.tmp 5) (.tmp 7)), none, none⟩]) (.cond (.tmp 8) .skip (.exit 0))) (.seq (.block 1 (.seq (.seq (.region [⟨(some 11), (.mv (.tmp 4)), none, none⟩, ⟨(some 12), (.bin .gtr (.tmp 11) (.con (.int .i64 0))), none, none⟩]) (.cond (.tmp 12) (.region [⟨(some 13), (.mv (.tmp 3)), none, none⟩, ⟨(some 14), (.bin .add (.tmp 13) (.con (.str [32]))), none, none⟩, ⟨(some 3), (.mv (.tmp 14)), none, none⟩]) .skip)) (.region [⟨(some 15), (.mv (.tmp 3)), none, none⟩, ⟨(some 16), (.mv (.tmp 0)), none, none⟩, ⟨(some 17), (.mv (.tmp 4)), none, none⟩, ⟨(some 18), (.idxASl 1 (.tmp 16) (.tmp 17)), none, none⟩, ⟨(some 19), (.load false 1 (.tmp 18)), none, none⟩, ⟨(some 20), (.bin .add (.tmp 15) (.tmp 19)), none, none⟩, ⟨(some 3), (.mv (.tmp 20)), none, none⟩]))) (.region [⟨(some 9), (.mv (.tmp 4)), none, none⟩, ⟨(some 10), (.bin .add (.tmp 9) (.con (.int .i64 1))), none, none⟩, ⟨(some 4), (.mv (.tmp 10)), none, none⟩])))
theorem loop16 {H : AHeap} {s : AVal} {l : List (List UInt8)} (hs : Sl H 1 s (l.map .str)) (hb : tot l ≤ 100000000) (hl : l.length ≤ 100000000) {env : Env} (h0 : env 0 = s) (h3 : env 3 = .str []) (h4 : env 4 = .int .i64 0) :
    Outs (AX A (.loop b16) env H) fun e env' K => e = .exit 0 ∧ K = H ∧ env' 3 = .str (Lib.join l [32]) := by
  refine loop_ends (I := fun (j : Nat) env' K => j ≤ l.length ∧ K = H ∧ env' 0 = s ∧ env' 4 = .int .i64 (j : Int) ∧ env' 3 = .str (Lib.join (l.take j) [32])) (fun j => l.length - j) ?_ 0 env H ⟨Nat.zero_le _, rfl, h0, h4, by rw [List.take_zero, Lib.join_nil]; exact h3⟩
  rintro j env1 _ ⟨hj, rfl, h0, h4, h3⟩
  have e0 := hs.len1
  rw [List.length_map] at e0
  by_cases c : j < l.length
  · have c1 : decide ((j : Int) < (l.length : Int)) = true := by simp; omega
    obtain ⟨id, off, cap, g, k, own, rfl, ho, _, a1⟩ := hs.elem1 c
    have ha : aidx l.length (.int .i64 (j : Int)) = some j := by simp [aidx]; omega
    have w1 : IntKind.i64.wrap ((j : Int) + 1) = ((j + 1 : Nat) : Int) := by rw [wrap_i64]; omega
    have ht : l.take (j + 1) = l.take j ++ [l[j]] := by rw [List.take_add_one, List.getElem?_eq_getElem c]; rfl
    have hj1 := join_tot (l.take (j + 1))
    have hj2 := tot_take l (j + 1)
    have hj3 := join_tot (l.take j)
    have hj4 := tot_take l j
    rw [ht] at hj1
    obtain ⟨x, ex⟩ : ∃ x, l[j] = x := ⟨_, rfl⟩
    rw [ex] at a1 ht hj1
    by_cases c0 : j = 0
    · subst c0
      have c2 : decide ((0 : Int) < ((0 : Nat) : Int)) = false := rfl
      have e1 : Lib.join (l.take 1) [32] = x := by
        have : l.take (0 + 1) = [x] := by rw [ht]; rfl
        rw [show l.take 1 = [x] from this, Lib.join_one]
      have t1 : tot [x] = x.length + 1 := by simp [tot]
      rw [ht, show l.take 0 ++ [x] = [x] from rfl, t1] at hj2
      have cat := cat_str (a := []) (b := x) (by simp; omega)
      rw [Nat.add_zero] at a1
      rw [List.take_zero, Lib.join_nil] at h3
      simp only [b16, h0, h3, h4, e0, c1, c2, ha, ho, a1, cat, w1, rwA, rwB, Nat.reduceAdd, Nat.reduceMul, Nat.reduceLeDiff, Int.reduceEq, Int.reduceLT, Int.reduceLE, Int.reduceAdd, Int.reduceSub, Int.reduceMul, ↓reduceIte, Nat.reduceEqDiff, reduceCtorEq, ↓cnd_true, ↓cnd_false]
      rw [outs_some]
      exact .inl ⟨rfl, 1, by omega, by omega, rfl, by simp [Env.set, h0], by simp [Env.set], by simp [Env.set, e1]⟩
    · have c2 : decide ((0 : Int) < (j : Int)) = true := by simp; omega
      have hne : l.take j ≠ [] := by
        intro h
        have := congrArg List.length h
        rw [List.length_take, List.length_nil] at this; omega
      have e1 : Lib.join (l.take (j + 1)) [32] = Lib.join (l.take j) [32] ++ [32] ++ x := by rw [ht, join_snoc _ _ hne]
      rw [join_snoc _ _ hne, List.length_append, List.length_append] at hj1
      have k1 := cat_str (a := Lib.join (l.take j) [32]) (b := [32]) (by simp; omega)
      have k2 := cat_str (a := Lib.join (l.take j) [32] ++ [32]) (b := x) (by
        rw [ht] at hj2
        rw [List.length_append]; simp at hj1 ⊢; omega)
      simp only [b16, h0, h3, h4, e0, c1, c2, ha, ho, a1, k1, k2, w1, rwA, rwB, Nat.reduceAdd, Nat.reduceMul, Nat.reduceLeDiff, Int.reduceEq, Int.reduceLT, Int.reduceLE, Int.reduceAdd, Int.reduceSub, Int.reduceMul, ↓reduceIte, Nat.reduceEqDiff, reduceCtorEq, ↓cnd_true, ↓cnd_false]
      rw [outs_some]
      exact .inl ⟨rfl, j + 1, by omega, by omega, rfl, by simp [Env.set, h0], by simp [Env.set], by simp [Env.set, e1]⟩
  · have e : j = l.length := by omega
    subst e
    have c1 : decide ((l.length : Int) < (l.length : Int)) = false := by simp
    simp only [b16, h0, h4, e0, c1, rwA, rwB, Nat.reduceAdd, Nat.reduceMul, Nat.reduceLeDiff, Int.reduceEq, Int.reduceLT, Int.reduceLE, Int.reduceAdd, Int.reduceSub, Int.reduceMul, ↓reduceIte, Nat.reduceEqDiff, reduceCtorEq, ↓cnd_true, ↓cnd_false]
    rw [outs_some]
    rw [List.take_length] at h3
    exact .inr ⟨by simp, rfl, rfl, by simp [Env.set, h3]⟩
theorem U16 {H : AHeap} {s : AVal} {l : List (List UInt8)} (hs : Sl H 1 s (l.map .str)) (hb : tot l ≤ 100000000) : AC A 16 [s] H = some (.str (Lib.join l [32]), H) := by
  refine look_val (x := NaFns.c16) rfl rfl rfl rfl ?_
  have := tot_len l
  simp only [c16, rwA, rwB, Nat.reduceAdd, Nat.reduceMul, Nat.reduceLeDiff, Int.reduceEq, Int.reduceLT, Int.reduceLE, Int.reduceAdd, Int.reduceSub, Int.reduceMul, ↓reduceIte, Nat.reduceEqDiff, reduceCtorEq, ↓cnd_true, ↓cnd_false]
  repeat (first | refine outs_seq ?_ | refine outs_block ?_ | refine outs_step ?_ | refine outs_stepD ?_ | refine rets_end ?_ | refine ans_end ?_)
  refine (loop16 hs.frz hb (by omega) ?_ ?_ ?_).mono ?_
  · simp [Env.set, ainit]
  · simp [Env.set]
  · simp [Env.set]
  rintro e env K ⟨rfl, rfl, h3⟩
  simp only [outs_some, h3, rwA, rwB, Nat.reduceAdd, Nat.reduceMul, Nat.reduceLeDiff, Int.reduceEq, Int.reduceLT, Int.reduceLE, Int.reduceAdd, Int.reduceSub, Int.reduceMul, ↓reduceIte, Nat.reduceEqDiff, reduceCtorEq, ↓cnd_true, ↓cnd_false]

end Go.Proofs.YtfmjdlahabgkpaaDoor.Nm
end

section
/- Names: digits and numbers: the plain law. -/
set_option maxRecDepth 100000
set_option linter.unusedSimpArgs false
set_option linter.unusedVariables false
set_option maxHeartbeats 4000000
namespace Go.Proofs.YtfmjdlahabgkpaaDoor.Nm
open Go Go.Proofs.YtfmjdlahabgkpaaDoor.Am NaFns Go.RowKit

def dc (n : Nat) : UInt8 := UInt8.ofNat (48 + n)
def dg (n : Nat) : List UInt8 := if n < 10 then [dc n] else dg (n / 10) ++ [dc (n % 10)]
termination_by n
decreasing_by omega
/-! ### The number of digits -/
def rdS (n : Nat) (c : UInt8) : Nat := (n * 10 + (c - 48).toNat) % 18446744073709551616
def rd (s : List UInt8) : Nat := s.foldl rdS 0
/-! ### With a sign -/
def sg (x : Int) : List UInt8 := if x < 0 then 45 :: dg x.natAbs else dg x.natAbs
end Go.Proofs.YtfmjdlahabgkpaaDoor.Nm
end

section
/- Names: digits and numbers: the walks. -/
set_option maxRecDepth 100000
set_option linter.unusedSimpArgs false
set_option linter.unusedVariables false
set_option maxHeartbeats 4000000
namespace Go.Proofs.YtfmjdlahabgkpaaDoor.Nm
open Go Go.Proofs.YtfmjdlahabgkpaaDoor.Am NaFns Go.RowKit

end Go.Proofs.YtfmjdlahabgkpaaDoor.Nm
end

section
/- NameNumbers: the law. -/
set_option maxRecDepth 100000
set_option linter.unusedSimpArgs false
set_option linter.unusedVariables false
set_option maxHeartbeats 4000000
namespace Go.Proofs.YtfmjdlahabgkpaaDoor.Nm
open Go Go.Proofs.YtfmjdlahabgkpaaDoor.Am NaFns Go.RowKit

theorem U6_is : (arun (acall A 400) A.fn 400 (some NaFns.c6) [] noH).map (·.1) = some (.bool true) := by kernel_rfl
theorem U6 (H : AHeap) : AC A 6 [] H = some (.bool true, H) := one_closed (x := NaFns.c6) rfl rfl rfl rfl rfl U6_is H

end Go.Proofs.YtfmjdlahabgkpaaDoor.Nm
end

section
/- NameTells, NameBack: the laws (of small arguments). -/
set_option maxRecDepth 100000
set_option linter.unusedSimpArgs false
set_option linter.unusedVariables false
set_option maxHeartbeats 4000000
namespace Go.Proofs.YtfmjdlahabgkpaaDoor.Nm
open Go Go.Proofs.YtfmjdlahabgkpaaDoor.Am NaFns Go.RowKit

theorem bulks_strs (l : List (List UInt8)) : bulks (l.map Dat.str) = tot l := by
  induction l with
  | nil => rfl
  | cons a l ih =>
    have e : bulks ((a :: l).map Dat.str) = (a.length + 1) + bulks (l.map Dat.str) := rfl
    rw [e, ih]; simp [tot]
theorem arg_strsB {P : Program} {H : AHeap} {t e : TypeId} {v : AVal} {d : Dat} (hu : P.underlying t = some (.slice e)) (he : P.underlying e = some .string) (hc : P.cellsOf e = 1) (h : AArg P H t v d) :
    ∃ l : List (List UInt8), Sl H 1 v (l.map .str) ∧ (∀ i, i ∈ v.ids → i < H.next) ∧ tot l ≤ d.bulk := by
  obtain ⟨fuel, cs, hr, hcs⟩ := h
  rw [hu] at hcs
  simp only at hcs
  cases fuel with
  | zero => simp [AReads] at hr
  | succ f =>
    simp only [AReads, hu] at hr
    rcases hr with ⟨rfl, rfl⟩ | ⟨id, cap, l, ds, hid, rfl, rfl, h1, h2, h3, h4, h5, h6⟩
    · simp at hcs
      subst hcs
      exact ⟨[], .inl ⟨rfl, rfl⟩, by simp [AVal.ids], by simp [tot]⟩
    · simp at hcs
      subst hcs
      rw [hc] at h5 h6
      have each : ∀ i, i < ds.length → ∃ s : List UInt8, ds[i]? = some (.str s) ∧ l[i]? = some (.str s) := by
        intro i hi
        have hr := h6 i ds[i] (List.getElem?_eq_getElem hi)
        cases f with
        | zero => simp [AReads] at hr
        | succ f =>
          simp only [AReads, he] at hr
          obtain ⟨s, e1, e2, e3⟩ := hr
          refine ⟨s, by rw [List.getElem?_eq_getElem hi, e2], ?_⟩
          have := congrArg (fun x => x[0]?) e1
          simpa using this
      obtain ⟨k, hk, hks⟩ := list_of (R := fun i s => ds[i]? = some (.str s) ∧ l[i]? = some (.str s)) ds.length each
      have ed : ds = k.map Dat.str := by
        apply List.ext_getElem?
        intro i
        by_cases hi : i < k.length
        · obtain ⟨e1, _⟩ := hks i k[i] (List.getElem?_eq_getElem hi)
          rw [e1, List.getElem?_map, List.getElem?_eq_getElem hi]; rfl
        · rw [List.getElem?_eq_none (by omega), List.getElem?_eq_none (by simp; omega)]
      have el : (l.drop 0).take (ds.length * 1) = k.map .str := by
        rw [List.drop_zero, Nat.mul_one]
        apply List.ext_getElem?
        intro i
        by_cases hi : i < k.length
        · obtain ⟨_, e2⟩ := hks i k[i] (List.getElem?_eq_getElem hi)
          rw [List.getElem?_take, if_pos (by omega), e2, List.getElem?_map, List.getElem?_eq_getElem hi]; rfl
        · rw [List.getElem?_eq_none (by simp; omega), List.getElem?_eq_none (by simp; omega)]
      refine ⟨k, .inr ⟨id, 0, ds.length, cap, none, rfl, by simp [hk], ?_⟩, by simpa [AVal.ids] using hid, ?_⟩
      · rcases Nat.eq_zero_or_pos ds.length with h0 | h0
        · exact .inl h0
        · exact .inr ⟨l, false, h4 (by omega), by omega, el⟩
      · have : (Dat.slice ds).bulk = bulks ds + 1 := rfl
        rw [this, ed, bulks_strs]; omega

theorem run3 {s : List UInt8} {v : AVal} {l : List (List UInt8)} {H : AHeap} (hv : Sl H 1 v (l.map .str)) (hid : ∀ i, i ∈ v.ids → i < H.next) (hb : tot l ≤ 1048576) : Ans (AC A 3 [.str s, v] H) (.bool true) := by
  rw [s_fn (A := A) (f := 3) (x := NaFns.c3) rfl rfl rfl]
  have ll := hv.len1
  rw [List.length_map] at ll
  by_cases c : s.length ≤ 2048
  · have c1 : decide ((2048 : Int) < (s.length : Int)) = false := by simp; omega
    cases c2 : decide ((100 : Int) < (l.length : Int))
    · have u7 := fun M => U7 (w := s) (by omega) M
      have u8 := fun M => U8 (w := s) (by omega) M
      have u9 := fun M => U9 (s := s) (by omega) M
      have u10 := fun M => U10 (s := s) (by omega) M
      have u11 := fun M => U11 (s := s) (by omega) M
      have u13 := U13 (s := s) (by omega) H
      obtain ⟨K1, eK1⟩ : ∃ K, H.new (.cells ((wds s).map .str) true) = K := ⟨_, rfl⟩
      rw [eK1] at u13
      have k1 : Keeps H K1 := by rw [← eK1]; exact Keeps.new _ _
      have n1 : K1.next = H.next + 1 := by rw [← eK1, new_next]
      have o1 : K1.obj H.next = some (.cells ((wds s).map .str) true) := by rw [← eK1, new_obj, if_pos rfl]
      have s1 : Sl K1 1 (.slice H.next 0 (wds s).length (wds s).length none) ((wds s).map .str) := .inr ⟨H.next, 0, _, _, none, rfl, by simp, .inr ⟨_, _, o1, by simp, by simp [List.take_of_length_le]⟩⟩
      obtain ⟨w2, K2, u14, g2, k2, i2⟩ := U14 (s := s) (by omega) K1
      have s2 := s1.keep (fun i hi => by simp [AVal.ids] at hi; omega) k2
      have wl := wds_len s
      have cl : s.count 32 ≤ s.length := List.count_le_length
      have u12 := U12 s2 g2.sl (by omega)
      rw [decide_eq_true rfl] at u12
      have v2 := hv.keep hid (k1.trans k2)
      have u15 := U15 v2 (by omega)
      have u16 := U16 v2 (by omega)
      obtain ⟨a, ea⟩ : ∃ a, utx s = a := ⟨_, rfl⟩
      obtain ⟨b, eb⟩ : ∃ b : Int, (if uok s then 0 else 19) = b := ⟨_, rfl⟩
      rw [ea, eb] at u7 u8
      have shv := g2.shape
      have shv2 := sl_shape' hv
      rcases shv with rfl | ⟨_, _, _, rfl⟩ <;> rcases shv2 with rfl | ⟨_, _, _, _, _, rfl⟩ <;>
        simp only [c3, U6, c1, c2, ll, u7, u8, u9, u10, u11, u13, u14, u12, u15, u16, decide_true, rwA, rwB, Nat.reduceAdd, Nat.reduceMul, Nat.reduceLeDiff, Int.reduceEq, Int.reduceLT, Int.reduceLE, Int.reduceAdd, Int.reduceSub, Int.reduceMul, ↓reduceIte, Nat.reduceEqDiff, reduceCtorEq, ↓cnd_true, ↓cnd_false]
    · simp only [c3, U6, c1, c2, ll, rwA, rwB, Nat.reduceAdd, Nat.reduceMul, Nat.reduceLeDiff, Int.reduceEq, Int.reduceLT, Int.reduceLE, Int.reduceAdd, Int.reduceSub, Int.reduceMul, ↓reduceIte, Nat.reduceEqDiff, reduceCtorEq, ↓cnd_true, ↓cnd_false]
  · have c1 : decide ((2048 : Int) < (s.length : Int)) = true := by simp; omega
    simp only [c3, U6, c1, rwA, rwB, Nat.reduceAdd, Nat.reduceMul, Nat.reduceLeDiff, Int.reduceEq, Int.reduceLT, Int.reduceLE, Int.reduceAdd, Int.reduceSub, Int.reduceMul, ↓reduceIte, Nat.reduceEqDiff, reduceCtorEq, ↓cnd_true, ↓cnd_false]

theorem law3 (H : AHeap) (args : List AVal) (dats : List Dat) (h : AArgs Tryd.prog H [9, 22] args dats) (hb : bulks dats ≤ 1048576) : ∃ k H', acall A k 3 args H = some (.bool true, H') := by
  obtain ⟨v0, r, d0, ds, rfl, rfl, h0, hh⟩ := args_cons h
  obtain ⟨v1, r, d1, ds, rfl, rfl, h1, hh1⟩ := args_cons hh
  obtain ⟨s, rfl, _⟩ := arg_str Tryd.underlying9 h0
  obtain ⟨l, hl, hid, hbl⟩ := arg_strsB Tryd.underlying22 Tryd.underlying9 (by kernel_rfl) h1
  have e : bulks (d0 :: d1 :: ds) = d0.bulk + (d1.bulk + bulks ds) := rfl
  rw [e] at hb
  obtain rfl := args_nil hh1
  obtain ⟨H', hr⟩ := run3 (s := s) hl hid (by omega)
  obtain ⟨k, hk⟩ := AC_iff.1 hr
  exact ⟨k, H', hk⟩

end Go.Proofs.YtfmjdlahabgkpaaDoor.Nm
end
