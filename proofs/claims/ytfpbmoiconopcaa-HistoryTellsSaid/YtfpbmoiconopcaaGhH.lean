/- Histories: what Check, Last, Slope, Left, Alarm answer. -/
import Derived.Test.YtfpbmoiconopcaaGhE
set_option maxRecDepth 100000
set_option linter.unusedSimpArgs false
set_option linter.unusedVariables false
set_option maxHeartbeats 2000000
namespace Go.Proofs.Ytfpbmoiconopcaa.Gh
open Go Go.Proofs.Ytfpbmoiconopcaa.Am GaFns Go.RowKit

/-- Points, as a slice holds them. -/
def PS (ps : List (Int × Int)) : List AVal := ps.flatMap fun a => [.int .i64 a.1, .int .i64 a.2]
theorem PS_len (ps : List (Int × Int)) : (PS ps).length = ps.length * 2 := flat2_len _ _ ps
theorem PS_app (ps qs : List (Int × Int)) : PS (ps ++ qs) = PS ps ++ PS qs := by simp [PS]
theorem PS_slen {H : AHeap} {s : AVal} {ps : List (Int × Int)} (h : Sl H 2 s (PS ps)) : slen s = ps.length := by
  have := h.length
  rw [PS_len] at this
  omega
theorem PS_alen {H : AHeap} {s : AVal} {ps : List (Int × Int)} (h : Sl H 2 s (PS ps)) : alenT false s = some ps.length := by
  rw [h.alen, PS_slen h]
theorem pts_at {H : AHeap} {s : AVal} {ps : List (Int × Int)} (h : Sl H 2 s (PS ps)) (h0 : 0 < ps.length) :
    ∃ id off cap g l own, s = .slice id off ps.length cap g ∧ H.obj id = some (.cells l own) ∧ off + ps.length * 2 ≤ l.length ∧ ∀ i (hi : i < ps.length), apart true (off + i * 2) 2 l = some (.agg [.int .i64 ps[i].1, .int .i64 ps[i].2]) ∧
      l[off + i * 2]? = some (.int .i64 ps[i].1) ∧ l[off + i * 2 + 1]? = some (.int .i64 ps[i].2) := by
  have hsl := PS_slen h
  obtain ⟨id, off, cap, g, l, own, et, ho, hk, _, _⟩ := h.at (i := 0) (by omega)
  rw [hsl] at et hk
  refine ⟨id, off, cap, g, l, own, et, ho, hk, ?_⟩
  intro i hi
  obtain ⟨id', off', cap', g', l', own', et', ho', hk', hj, hc⟩ := h.at (i := i) (by omega)
  rw [hsl] at et' hk'
  rw [et] at et'
  injection et' with e1 e2 e3 e4 e5
  subst e1 e2 e4 e5
  rw [ho] at ho'
  injection ho' with ho'
  injection ho' with e6 e7
  subst e6 e7
  have hc' : (l.drop (off + i * 2)).take 2 = [.int .i64 ps[i].1, .int .i64 ps[i].2] := by
    rw [hc]; exact flat2_get _ _ ps i hi
  have a0 : l[off + i * 2]? = some (.int .i64 ps[i].1) := by
    have : ((l.drop (off + i * 2)).take 2)[0]? = some (.int .i64 ps[i].1) := by rw [hc']; rfl
    simpa [List.getElem?_take, List.getElem?_drop] using this
  have a1 : l[off + i * 2 + 1]? = some (.int .i64 ps[i].2) := by
    have : ((l.drop (off + i * 2)).take 2)[1]? = some (.int .i64 ps[i].2) := by rw [hc']; rfl
    simpa [List.getElem?_take, List.getElem?_drop] using this
  refine ⟨?_, a0, a1⟩
  rw [apart_agg _ _ _ (by omega), hc']

def okp (p : Int × Int) : Bool := cnt p.1 && cnt p.2
def at0 (ps : List (Int × Int)) (i : Nat) : Int × Int := ps.getD i (0, 0)
theorem at0_get {ps : List (Int × Int)} {i : Nat} (h : i < ps.length) : at0 ps i = ps[i] := by simp [at0, h]
def stp (ps : List (Int × Int)) (i : Nat) : Bool := okp (at0 ps i) && (decide (i = 0) || decide ((at0 ps (i - 1)).1 < (at0 ps i).1))
def goodN (ps : List (Int × Int)) (j : Nat) : Bool := (List.range j).all (stp ps)
theorem goodN_succ (ps : List (Int × Int)) (j : Nat) : goodN ps (j + 1) = (goodN ps j && stp ps j) := by simp [goodN, List.range_succ]
/-- A history may be. -/
def right (r : Int) (ps : List (Int × Int)) : Bool := decide (1 ≤ r) && decide (r ≤ 64) && decide ((ps.length : Int) ≤ r) && goodN ps ps.length
def chk (r : Int) (ps : List (Int × Int)) : Int := if right r ps then 0 else 18

theorem U69 (a b : Int) (H : AHeap) : AC A 69 [.agg [.int .i64 a, .int .i64 b]] H = some (.bool (okp (a, b)), H) := by
  refine one_val (x := GaFns.c69) rfl rfl rfl rfl rfl ?_ H
  have e : decide (check a b = 0) = okp (a, b) := by unfold check okp; cases cnt a <;> cases cnt b <;> rfl
  simp only [c69, U78, e, rwA, rwB, Nat.reduceAdd, Nat.reduceMul, Nat.reduceLeDiff, Int.reduceEq, Int.reduceLT, Int.reduceLE, Int.reduceAdd, Int.reduceSub, Int.reduceMul, ↓reduceIte, Nat.reduceEqDiff, reduceCtorEq, ↓cnd_true, ↓cnd_false]

def b35 : ACode := (.seq (.region [⟨(some 26), (.bin .lss (.tmp 25) (.tmp 24)), none, none⟩]) (.seq (.cond (.tmp 26) .skip (.exit 0)) (.seq (.block 1 (.seq (.region [⟨(some 27), (.mv (.tmp 25)), none, none⟩, ⟨(some 28), (.idxASl 2 (.tmp 23) (.tmp 25)), none, none⟩, ⟨(some 29), (.load true 2 (.tmp 28)), none, none⟩, ⟨(some 5), (.new [(.int .i64 0), (.int .i64 0)]), none, none⟩, ⟨(some 4), (.mv (.tmp 27)), none, none⟩, ⟨none, (.store 2 (.tmp 5) (.tmp 29)), none, none⟩]) (.draw [⟨(some 30), (.mv (.tmp 3)), none, none⟩, ⟨(some 31), (.mv (.tmp 30)), none, none⟩, ⟨(some 32), (.load true 2 (.tmp 5)), (some (31, true)), none⟩, ⟨(some 33), (.call (.con (.func 69 [] [])) [(.tmp 32)]), (some (31, true)), none⟩, ⟨(some 34), (.pick (.tmp 31) (.tmp 33) (.con (.bool false))), none, none⟩, ⟨(some 35), (.mv (.tmp 34)), none, none⟩, ⟨(some 36), (.mv (.tmp 4)), (some (35, true)), none⟩, ⟨(some 37), (.bin .eql (.tmp 36) (.con (.int .i64 0))), (some (35, true)), none⟩, ⟨(some 38), (.mv (.tmp 37)), (some (35, true)), none⟩, ⟨(some 39), (.fieldA 1 (.tmp 1)), (some (38, false)), none⟩, ⟨(some 40), (.load false 1 (.tmp 39)), (some (38, false)), none⟩, ⟨(some 41), (.mv (.tmp 4)), (some (38, false)), none⟩, ⟨(some 42), (.bin .sub (.tmp 41) (.con (.int .i64 1))), (some (38, false)), none⟩, ⟨(some 43), (.idxASl 2 (.tmp 40) (.tmp 42)), (some (38, false)), none⟩, ⟨(some 44), (.fieldA 0 (.tmp 43)), (some (38, false)), none⟩, ⟨(some 45), (.load false 1 (.tmp 44)), (some (38, false)), none⟩, ⟨(some 46), (.fieldA 0 (.tmp 5)), (some (38, false)), none⟩, ⟨(some 47), (.load false 1 (.tmp 46)), (some (38, false)), none⟩, ⟨(some 48), (.bin .lss (.tmp 45) (.tmp 47)), (some (38, false)), none⟩, ⟨(some 49), (.pick (.tmp 38) (.con (.bool true)) (.tmp 48)), (some (35, true)), none⟩, ⟨(some 50), (.pick (.tmp 35) (.tmp 49) (.con (.bool false))), none, none⟩, ⟨(some 3), (.mv (.tmp 50)), none, none⟩]))) (.region [⟨(some 51), (.bin .add (.tmp 25) (.con (.int .i64 1))), none, none⟩, ⟨(some 25), (.mv (.tmp 51)), none, none⟩]))))
theorem round35 {K : AHeap} {p : Nat} {r : Int} {s : AVal} {ps : List (Int × Int)} {j : Nat} {b : Bool} {env : Env} (h1 : env 1 = .ptr p 0) (hp : K.obj p = some (.cells [.int .i64 r, s] true)) (hpn : p < K.next) (hs : Sl K 2 s (PS ps)) (hid : ∀ i, i ∈ s.ids → i < K.next)
    (h3 : env 3 = .bool b) (h23 : env 23 = s) (h24 : env 24 = .int .i64 (ps.length : Int)) (h25 : env 25 = .int .i64 (j : Int)) (hlt : j < ps.length) (hl : ps.length < 9223372036854775807) :
    Outs (AX A b35 env K) fun e env' K' => e = .normal ∧ Keeps K K' ∧ env' 1 = .ptr p 0 ∧ env' 3 = .bool (b && stp ps j) ∧ env' 23 = s ∧ env' 24 = .int .i64 (ps.length : Int) ∧ env' 25 = .int .i64 ((j + 1 : Nat) : Int) := by
  obtain ⟨id, off, cap, g, l, own, et, ho, hk, hall⟩ := pts_at hs (by omega)
  have e1 : decide ((j : Int) < (ps.length : Int)) = true := by simp; omega
  have w1 : IntKind.i64.wrap ((j : Int) + 1) = ((j + 1 : Nat) : Int) := by rw [wrap_i64]; omega
  have ha : aidx ps.length (.int .i64 (j : Int)) = some j := by simp [aidx]; omega
  obtain ⟨g1, g2, g3⟩ := hall j hlt
  have ej := at0_get hlt
  have hidn : id < K.next := hid id (by rw [et]; simp [AVal.ids])
  subst et
  obtain ⟨K1, eK1⟩ : ∃ X, (K.new (.cells [.int .i64 0, .int .i64 0] true)).set K.next (.cells [.int .i64 ps[j].1, .int .i64 ps[j].2] true) = X := ⟨_, rfl⟩
  have nK1 : K1.next = K.next + 1 := by rw [← eK1]; rfl
  have oK1 : K1.obj K.next = some (.cells [.int .i64 ps[j].1, .int .i64 ps[j].2] true) := by rw [← eK1]; simp [AHeap.set]
  have kK1 : Keeps K K1 := ⟨by omega, fun i hi => by rw [← eK1]; simp only [set_obj, new_obj]; rw [if_neg (by omega), if_neg (by omega)]⟩
  have hp1 : K1.obj p = some (.cells [.int .i64 r, .slice id off ps.length cap g] true) := by rw [kK1.2 p hpn]; exact hp
  have ho1 : K1.obj id = some (.cells l own) := by rw [kK1.2 id hidn]; exact ho
  by_cases hj0 : j = 0
  · have d0 : decide ((j : Int) = 0) = true := by simp; omega
    have ez : stp ps j = okp (ps[j].1, ps[j].2) := by unfold stp; rw [ej, decide_eq_true hj0, Bool.true_or, Bool.and_true]
    rw [ez]
    cases b <;> cases hk2 : okp (ps[j].1, ps[j].2) <;> simp only [b35, h1, h3, h23, h24, h25, e1, w1, ha, d0, ho, g1, eK1, nK1, oK1, hp1, U69, hk2, decide_true, Bool.and_true, Bool.and_false, Bool.true_and, Bool.false_and, rwA, rwB, Nat.reduceAdd, Nat.reduceMul, Nat.reduceLeDiff, Int.reduceEq, Int.reduceLT, Int.reduceLE, Int.reduceAdd, Int.reduceSub, Int.reduceMul, ↓reduceIte, Nat.reduceEqDiff, reduceCtorEq, ↓cnd_true, ↓cnd_false]
    all_goals (first | rw [outs_some] | skip)
    all_goals exact ⟨rfl, kK1, by simp [Env.set, h1], by simp [Env.set], by simp [Env.set, h23], by simp [Env.set, h24], by simp [Env.set]⟩
  · have hj1 : j - 1 < ps.length := by omega
    obtain ⟨q1, q2, q3⟩ := hall (j - 1) hj1
    have ej1 := at0_get hj1
    have w2 : IntKind.i64.wrap ((j : Int) - 1) = ((j - 1 : Nat) : Int) := by rw [wrap_i64]; omega
    have ha2 : aidx ps.length (.int .i64 ((j - 1 : Nat) : Int)) = some (j - 1) := by simp [aidx]; omega
    have d0 : decide ((j : Int) = 0) = false := by simp; omega
    have ez : stp ps j = (okp (ps[j].1, ps[j].2) && decide (ps[j - 1].1 < ps[j].1)) := by
      simp [stp, ej, ej1, hj0]
    rw [ez]
    cases b <;> cases hk2 : okp (ps[j].1, ps[j].2) <;> simp only [b35, h1, h3, h23, h24, h25, e1, w1, w2, ha, ha2, d0, ho, g1, q2, eK1, nK1, oK1, hp1, ho1, U69, hk2, decide_true, Bool.and_true, Bool.and_false, Bool.true_and, Bool.false_and, rwA, rwB, Nat.reduceAdd, Nat.reduceMul, Nat.reduceLeDiff, Int.reduceEq, Int.reduceLT, Int.reduceLE, Int.reduceAdd, Int.reduceSub, Int.reduceMul, ↓reduceIte, Nat.reduceEqDiff, reduceCtorEq, ↓cnd_true, ↓cnd_false]
    all_goals (first | rw [outs_some] | skip)
    all_goals exact ⟨rfl, kK1, by simp [Env.set, h1], by simp [Env.set], by simp [Env.set, h23], by simp [Env.set, h24], by simp [Env.set]⟩

theorem loop35 {K : AHeap} {p : Nat} {r : Int} {s : AVal} {ps : List (Int × Int)} {b : Bool} {env : Env} (h1 : env 1 = .ptr p 0) (hp : K.obj p = some (.cells [.int .i64 r, s] true)) (hpn : p < K.next) (hs : Sl K 2 s (PS ps)) (hid : ∀ i, i ∈ s.ids → i < K.next)
    (h3 : env 3 = .bool b) (h23 : env 23 = s) (h24 : env 24 = .int .i64 (ps.length : Int)) (h25 : env 25 = .int .i64 0) (hl : ps.length < 9223372036854775807) :
    Outs (AX A (.loop b35) env K) fun e env' K' => e = .exit 0 ∧ env' 3 = .bool (b && goodN ps ps.length) := by
  refine loop_ends (I := fun (j : Nat) env' K' => j ≤ ps.length ∧ Keeps K K' ∧ env' 1 = .ptr p 0 ∧ env' 3 = .bool (b && goodN ps j) ∧ env' 23 = s ∧ env' 24 = .int .i64 (ps.length : Int) ∧ env' 25 = .int .i64 (j : Int)) (fun j => ps.length - j) ?_ 0 env K
    ⟨Nat.zero_le _, Keeps.refl _, h1, by simpa [goodN] using h3, h23, h24, h25⟩
  rintro j env' K' ⟨hj, hk, h1, h3, h23, h24, h25⟩
  by_cases hlt : j < ps.length
  · refine (round35 h1 (by rw [hk.2 p hpn]; exact hp) (by have := hk.1; omega) (hs.keep hid hk) (fun i hi => by have := hid i hi; have := hk.1; omega) h3 h23 h24 h25 hlt hl).mono ?_
    rintro e env2 K2 ⟨rfl, hk2, a1, a3, a23, a24, a25⟩
    exact .inl ⟨rfl, j + 1, by omega, by omega, hk.trans hk2, a1, by rw [a3, goodN_succ, Bool.and_assoc], a23, a24, a25⟩
  · have : j = ps.length := by omega
    subst this
    have e1 : decide ((ps.length : Int) < (ps.length : Int)) = false := by simp
    simp only [b35, h24, h25, e1, rwA, rwB, Nat.reduceAdd, Nat.reduceMul, Nat.reduceLeDiff, Int.reduceEq, Int.reduceLT, Int.reduceLE, Int.reduceAdd, Int.reduceSub, Int.reduceMul, ↓reduceIte, Nat.reduceEqDiff, reduceCtorEq, ↓cnd_true, ↓cnd_false]
    rw [outs_some]
    exact .inr ⟨by simp, rfl, by simpa [Env.set] using h3⟩

theorem U35 {H : AHeap} {r : Int} {s : AVal} {ps : List (Int × Int)} (hs : Sl H 2 s (PS ps)) (hid : ∀ i, i ∈ s.ids → i < H.next) (hl : ps.length < 9223372036854775807) : AC A 35 [.agg [.int .i64 r, s]] H = some (.int .i64 (chk r ps), H) := by
  refine look_val (x := GaFns.c35) rfl rfl rfl rfl ?_
  have hsf := hs.frz
  have hlen := PS_alen hsf
  have hn : (frz H).next = H.next := rfl
  cases t1 : decide (1 ≤ r) <;> cases t2 : decide (r ≤ 64) <;> cases t3 : decide ((ps.length : Int) ≤ r) <;> (have ec : chk r ps = if (decide (1 ≤ r) && decide (r ≤ 64) && decide ((ps.length : Int) ≤ r)) && goodN ps ps.length then 0 else 18 := rfl) <;> rw [t1, t2, t3] at ec <;> simp only [c35, t1, t2, t3, hlen, hn, rwA, rwB, Nat.reduceAdd, Nat.reduceMul, Nat.reduceLeDiff, Int.reduceEq, Int.reduceLT, Int.reduceLE, Int.reduceAdd, Int.reduceSub, Int.reduceMul, ↓reduceIte, Nat.reduceEqDiff, reduceCtorEq, ↓cnd_true, ↓cnd_false]
  case true.true.true =>
    repeat (first | refine outs_seq ?_ | refine outs_block ?_ | refine outs_step ?_ | refine outs_stepD ?_ | refine rets_end ?_ | refine ans_end ?_)
    refine (loop35 (p := H.next) (r := r) (s := s) (ps := ps) (b := true) ?_ ?_ ?_ (hsf.keep hid (Keeps.new _ _)) ?_ ?_ ?_ ?_ ?_ hl).mono ?_
    · simp [Env.set]
    · simp [AHeap.new, hn]
    · simp [AHeap.new, hn]
    · intro i hi; have := hid i hi; simp only [new_next, hn]; omega
    · simp [Env.set]
    · simp [Env.set]
    · simp [Env.set]
    · simp [Env.set]
    · rintro e env K ⟨rfl, h3⟩
      rw [ec]
      cases hg : goodN ps ps.length <;> rw [hg] at h3 <;> simp only [outs_some, h3, Bool.and_self, Bool.and_true, Bool.true_and, Bool.and_false, Bool.not_true, Bool.not_false, if_true, if_false, Bool.false_eq_true, rwA, rwB, Nat.reduceAdd, Nat.reduceMul, Nat.reduceLeDiff, Int.reduceEq, Int.reduceLT, Int.reduceLE, Int.reduceAdd, Int.reduceSub, Int.reduceMul, ↓reduceIte, Nat.reduceEqDiff, reduceCtorEq, ↓cnd_true, ↓cnd_false]
  all_goals
    repeat (first | refine outs_seq ?_ | refine outs_block ?_ | refine outs_step ?_ | refine outs_stepD ?_ | refine rets_end ?_ | refine ans_end ?_)
    refine (loop35 (p := H.next) (r := r) (s := s) (ps := ps) (b := false) ?_ ?_ ?_ (hsf.keep hid (Keeps.new _ _)) ?_ ?_ ?_ ?_ ?_ hl).mono ?_
    · simp [Env.set]
    · simp [AHeap.new, hn]
    · simp [AHeap.new, hn]
    · intro i hi; have := hid i hi; simp only [new_next, hn]; omega
    · simp [Env.set]
    · simp [Env.set]
    · simp [Env.set]
    · simp [Env.set]
    · rintro e env K ⟨rfl, h3⟩
      rw [ec]
      simp only [outs_some, h3, Bool.and_self, Bool.and_true, Bool.true_and, Bool.and_false, Bool.false_and, Bool.not_true, Bool.not_false, if_true, if_false, Bool.false_eq_true, rwA, rwB, Nat.reduceAdd, Nat.reduceMul, Nat.reduceLeDiff, Int.reduceEq, Int.reduceLT, Int.reduceLE, Int.reduceAdd, Int.reduceSub, Int.reduceMul, ↓reduceIte, Nat.reduceEqDiff, reduceCtorEq, ↓cnd_true, ↓cnd_false]

theorem app_clone {K : AHeap} {s : AVal} {ps : List (Int × Int)} (hs : Sl K 2 s (PS ps)) (h0 : 0 < ps.length) (hl : ps.length ≤ 8796093021952) (hid : ∀ i, i ∈ s.ids → i < K.next) :
    aappend (K.new (.cells [] true)) 2 16 (.slice K.next 0 0 0 none) s = some (.slice (K.next + 1) 0 ps.length ps.length (some 2), (K.new (.cells [] true)).new (.cells (PS ps) true)) := by
  have hk := hs.keep hid (Keeps.new K (.cells [] true))
  have hc := hk.cells
  rw [PS_slen hk] at hc
  have := app_known (H := K.new (.cells [] true)) (es := 2) (by' := 16) (id := K.next) (off := 0) (len := 0) (cap := 0) (n := ps.length) (old := []) (new := PS ps) (by decide) hc.1 hc.2 (by simp [acells]) (by omega) (by omega)
  simpa only [Nat.zero_add, List.nil_append, new_next] using this

/-- There is a last point; which. -/
def has (r : Int) (ps : List (Int × Int)) : Bool := right r ps && !decide (ps.length = 0)
def lastP (ps : List (Int × Int)) : Int × Int := at0 ps (ps.length - 1)
def lastOf (r : Int) (ps : List (Int × Int)) : Int × Int := if has r ps then lastP ps else (0, 0)
theorem chk0 (r : Int) (ps : List (Int × Int)) : decide (chk r ps = 0) = right r ps := by unfold chk; cases right r ps <;> rfl

theorem U40 {H : AHeap} {r : Int} {s : AVal} {ps : List (Int × Int)} (hs : Sl H 2 s (PS ps)) (hid : ∀ i, i ∈ s.ids → i < H.next) (hl : ps.length < 9223372036854775807) :
    AC A 40 [.agg [.int .i64 r, s]] H = some (.tuple [.agg [.int .i64 (lastOf r ps).1, .int .i64 (lastOf r ps).2], .bool (has r ps)], H) := by
  refine look_val (x := GaFns.c40) rfl rfl rfl rfl ?_
  have hsf := hs.frz
  have hn : (frz H).next = H.next := rfl
  obtain ⟨K, eK⟩ : ∃ K, ((frz H).new (.cells [.int .i64 r, s] true)).new (.cells [.int .i64 0, .int .i64 0] true) = K := ⟨_, rfl⟩
  have kK : Keeps (frz H) K := by rw [← eK]; exact (Keeps.new _ _).trans (Keeps.new _ _)
  have hsK := hsf.keep hid kK
  have nK : K.next = H.next + 2 := by rw [← eK]; simp [new_next, hn]
  have u35 := U35 (r := r) hsK (fun i hi => by have := hid i hi; omega) hl
  have hlen := PS_alen hsK
  have oK : K.obj H.next = some (.cells [.int .i64 r, s] true) := by rw [← eK]; simp [AHeap.new, hn]
  have oK2 : K.obj (H.next + 1) = some (.cells [.int .i64 0, .int .i64 0] true) := by rw [← eK]; simp [AHeap.new, hn]
  have c0 := chk0 r ps
  cases hr : right r ps <;> rw [hr] at c0
  · have e1 : has r ps = false := by simp [has, hr]
    have e2 : lastOf r ps = (0, 0) := by simp [lastOf, e1]
    rw [e1, e2]
    simp only [c40, eK, nK, oK, oK2, hn, u35, c0, hlen, Bool.not_false, Bool.not_true, rwA, rwB, Nat.reduceAdd, Nat.reduceMul, Nat.reduceLeDiff, Int.reduceEq, Int.reduceLT, Int.reduceLE, Int.reduceAdd, Int.reduceSub, Int.reduceMul, ↓reduceIte, Nat.reduceEqDiff, reduceCtorEq, ↓cnd_true, ↓cnd_false]
  · by_cases h0 : ps.length = 0
    · have e1 : has r ps = false := by simp [has, hr, h0]
      have e2 : lastOf r ps = (0, 0) := by simp [lastOf, e1]
      have d0 : decide ((ps.length : Int) = 0) = true := decide_eq_true (by omega)
      rw [e1, e2]
      simp only [c40, eK, nK, oK, oK2, hn, u35, c0, d0, hlen, Bool.not_false, Bool.not_true, rwA, rwB, Nat.reduceAdd, Nat.reduceMul, Nat.reduceLeDiff, Int.reduceEq, Int.reduceLT, Int.reduceLE, Int.reduceAdd, Int.reduceSub, Int.reduceMul, ↓reduceIte, Nat.reduceEqDiff, reduceCtorEq, ↓cnd_true, ↓cnd_false]
    · have e1 : has r ps = true := by simp [has, hr, h0]
      have hi : ps.length - 1 < ps.length := by omega
      have e2 : lastOf r ps = ps[ps.length - 1] := by simp only [lastOf, e1, if_true, lastP]; exact at0_get hi
      have d0 : decide ((ps.length : Int) = 0) = false := decide_eq_false (by omega)
      obtain ⟨id, off, cap, g, l, own, et, ho, hk, hall⟩ := pts_at hsK (by omega)
      obtain ⟨g1, g2, g3⟩ := hall (ps.length - 1) hi
      have w2 : IntKind.i64.wrap ((ps.length : Int) - 1) = ((ps.length - 1 : Nat) : Int) := by rw [wrap_i64]; omega
      have ha2 : aidx ps.length (.int .i64 ((ps.length - 1 : Nat) : Int)) = some (ps.length - 1) := by simp [aidx]; omega
      rw [e1, e2]
      subst et
      simp only [c40, eK, nK, oK, oK2, hn, u35, c0, d0, hlen, w2, ha2, ho, g1, Bool.not_false, Bool.not_true, rwA, rwB, Nat.reduceAdd, Nat.reduceMul, Nat.reduceLeDiff, Int.reduceEq, Int.reduceLT, Int.reduceLE, Int.reduceAdd, Int.reduceSub, Int.reduceMul, ↓reduceIte, Nat.reduceEqDiff, reduceCtorEq, ↓cnd_true, ↓cnd_false]

theorem U76_is : (arun (acall A 5) A.fn 5 (some GaFns.c76) [] noH).map (·.1) = some (.flt .f64 9221120237041090561) := by kernel_rfl
theorem U76 (H : AHeap) : AC A 76 [] H = some (.flt .f64 9221120237041090561, H) := one_closed (x := GaFns.c76) rfl rfl rfl rfl rfl U76_is H
theorem U77_is : (arun (acall A 6) A.fn 6 (some GaFns.c77) [.int .i64 1] noH).map (·.1) = some (.flt .f64 9218868437227405312) := by kernel_rfl
theorem U77 (H : AHeap) : AC A 77 [.int .i64 1] H = some (.flt .f64 9218868437227405312, H) := one_closed (x := GaFns.c77) rfl rfl rfl rfl rfl U77_is H

theorem goodN_at {ps : List (Int × Int)} {n i : Nat} (h : goodN ps n = true) (hi : i < n) : stp ps i = true := by
  simp only [goodN, List.all_eq_true, List.mem_range] at h
  exact h i hi
theorem good_cnt {ps : List (Int × Int)} {i : Nat} (h : goodN ps ps.length = true) (hi : i < ps.length) : (0 ≤ ps[i].1 ∧ ps[i].1 ≤ 1125899906842624) ∧ 0 ≤ ps[i].2 ∧ ps[i].2 ≤ 1125899906842624 := by
  have := goodN_at h hi
  simp only [stp, Bool.and_eq_true, okp, at0_get hi, cnt, decide_eq_true_eq] at this
  omega
theorem right_good {r : Int} {ps : List (Int × Int)} (h : right r ps = true) : (1 ≤ r ∧ r ≤ 64) ∧ (ps.length : Int) ≤ r ∧ goodN ps ps.length = true := by
  simp only [right, Bool.and_eq_true, decide_eq_true_eq] at h
  exact ⟨⟨h.1.1.1, h.1.1.2⟩, h.1.2, h.2⟩

/-- How much more is used a tick. -/
def slope (r : Int) (ps : List (Int × Int)) : Nat := if has r ps && !decide (ps.length < 2) then fdiv (fint ((lastP ps).2 - (at0 ps 0).2)) (fint ((lastP ps).1 - (at0 ps 0).1)) else 9221120237041090561

theorem U44 {H : AHeap} {r : Int} {s : AVal} {ps : List (Int × Int)} (hs : Sl H 2 s (PS ps)) (hid : ∀ i, i ∈ s.ids → i < H.next) (hl : ps.length < 9223372036854775807) :
    AC A 44 [.agg [.int .i64 r, s]] H = some (.flt .f64 (slope r ps), H) := by
  refine look_val (x := GaFns.c44) rfl rfl rfl rfl ?_
  have hsf := hs.frz
  have hn : (frz H).next = H.next := rfl
  obtain ⟨K, eK⟩ : ∃ K, (frz H).new (.cells [.int .i64 r, s] true) = K := ⟨_, rfl⟩
  have kK : Keeps (frz H) K := by rw [← eK]; exact Keeps.new _ _
  have hsK := hsf.keep hid kK
  have nK : K.next = H.next + 1 := by rw [← eK]; simp [new_next, hn]
  have u40 := U40 (r := r) hsK (fun i hi => by have := hid i hi; omega) hl
  have oK : K.obj H.next = some (.cells [.int .i64 r, s] true) := by rw [← eK]; simp [AHeap.new, hn]
  obtain ⟨⟨x, y⟩, elo⟩ : ∃ q, lastOf r ps = q := ⟨_, rfl⟩
  rw [elo] at u40
  obtain ⟨K2, eK2⟩ : ∃ K2, (K.new (.cells [.int .i64 0, .int .i64 0] true)).set (H.next + 1) (.cells [.int .i64 x, .int .i64 y] true) = K2 := ⟨_, rfl⟩
  have nK2 : K2.next = H.next + 2 := by rw [← eK2]; simp [set_next, new_next, nK]
  have kK2 : Keeps K K2 := ⟨by omega, fun i hi => by rw [← eK2]; simp only [set_obj, new_obj, nK]; rw [if_neg (by omega), if_neg (by omega)]⟩
  have hsK2 := hsK.keep (fun i hi => by have := hid i hi; omega) kK2
  have oK2 : K2.obj H.next = some (.cells [.int .i64 r, s] true) := by rw [kK2.2 _ (by omega)]; exact oK
  have oK3 : K2.obj (H.next + 1) = some (.cells [.int .i64 x, .int .i64 y] true) := by rw [← eK2]; simp [AHeap.set]
  have hlen := PS_alen hsK2
  cases hh : has r ps
  · have e1 : slope r ps = 9221120237041090561 := by simp [slope, hh]
    rw [hh] at u40
    rw [e1]
    simp only [c44, eK, nK, oK, hn, u40, eK2, nK2, oK2, hlen, U76, Bool.not_false, Bool.not_true, rwA, rwB, Nat.reduceAdd, Nat.reduceMul, Nat.reduceLeDiff, Int.reduceEq, Int.reduceLT, Int.reduceLE, Int.reduceAdd, Int.reduceSub, Int.reduceMul, ↓reduceIte, Nat.reduceEqDiff, reduceCtorEq, ↓cnd_true, ↓cnd_false]
  · rw [hh] at u40
    have hr : right r ps = true ∧ ps.length ≠ 0 := by simpa [has] using hh
    obtain ⟨_, _, hg⟩ := right_good hr.1
    by_cases h2 : ps.length < 2
    · have e1 : slope r ps = 9221120237041090561 := by simp [slope, hh, h2]
      have d2 : decide ((ps.length : Int) < 2) = true := by simp; omega
      rw [e1]
      simp only [c44, eK, nK, oK, hn, u40, eK2, nK2, oK2, hlen, d2, U76, Bool.not_false, Bool.not_true, rwA, rwB, Nat.reduceAdd, Nat.reduceMul, Nat.reduceLeDiff, Int.reduceEq, Int.reduceLT, Int.reduceLE, Int.reduceAdd, Int.reduceSub, Int.reduceMul, ↓reduceIte, Nat.reduceEqDiff, reduceCtorEq, ↓cnd_true, ↓cnd_false]
    · have hi : ps.length - 1 < ps.length := by omega
      have el : lastP ps = (x, y) := by rw [← elo]; simp [lastOf, hh]
      have el2 : ps[ps.length - 1] = (x, y) := by rw [← el]; exact (at0_get hi).symm
      have d2 : decide ((ps.length : Int) < 2) = false := by simp; omega
      obtain ⟨id, off, cap, g, l, own, et, ho, hk, hall⟩ := pts_at hsK2 (by omega)
      obtain ⟨g1, g2, g3⟩ := hall 0 (by omega)
      simp only [Nat.zero_mul, Nat.add_zero] at g1
      have ha2 : aidx ps.length (.int .i64 0) = some 0 := by simp only [aidx]; rw [if_pos ⟨by omega, by omega⟩]; rfl
      have b1 := good_cnt hg hi
      rw [el2] at b1
      have b0 := good_cnt hg (show 0 < ps.length by omega)
      have e0 := at0_get (show 0 < ps.length by omega)
      obtain ⟨⟨u, v⟩, e00⟩ : ∃ q, ps[0]'(by omega) = q := ⟨_, rfl⟩
      rw [e00] at b0 g1 e0
      have e1 : slope r ps = fdiv (fint (y - v)) (fint (x - u)) := by simp [slope, hh, h2, el, e0]
      have w1 : IntKind.i64.wrap (y - v) = y - v := by rw [wrap_i64]; omega
      have w2 : IntKind.i64.wrap (x - u) = x - u := by rw [wrap_i64]; omega
      rw [e1]
      subst et
      have hz : off + 0 = off := rfl
      simp only [c44, eK, nK, oK, hn, u40, eK2, nK2, oK2, oK3, hlen, d2, ha2, ho, g1, w1, w2, Nat.zero_mul, Bool.not_false, Bool.not_true, rwA, rwB, Nat.reduceAdd, Nat.reduceMul, Nat.reduceLeDiff, Int.reduceEq, Int.reduceLT, Int.reduceLE, Int.reduceAdd, Int.reduceSub, Int.reduceMul, ↓reduceIte, Nat.reduceEqDiff, reduceCtorEq, ↓cnd_true, ↓cnd_false]

/-- In how many ticks it is full. -/
def leftH (r : Int) (ps : List (Int × Int)) (lim : Int) : Nat :=
  if has r ps then (if lim < 0 then 9218868437227405312 else if lim ≤ (lastP ps).2 then 0 else if fgtr (slope r ps) 0 then fdiv (fint (lim - (lastP ps).2)) (slope r ps) else 9218868437227405312) else 9221120237041090561

theorem U48 {H : AHeap} {r : Int} {s : AVal} {ps : List (Int × Int)} (hs : Sl H 2 s (PS ps)) (hid : ∀ i, i ∈ s.ids → i < H.next) (hl : ps.length < 9223372036854775807) (lim : Int) (hm : lim ≤ 9223372036854775807) :
    AC A 48 [.agg [.int .i64 r, s], .int .i64 lim] H = some (.flt .f64 (leftH r ps lim), H) := by
  refine look_val (x := GaFns.c48) rfl rfl rfl rfl ?_
  have hsf := hs.frz
  have hn : (frz H).next = H.next := rfl
  obtain ⟨K, eK⟩ : ∃ K, (frz H).new (.cells [.int .i64 r, s] true) = K := ⟨_, rfl⟩
  have kK : Keeps (frz H) K := by rw [← eK]; exact Keeps.new _ _
  have hsK := hsf.keep hid kK
  have nK : K.next = H.next + 1 := by rw [← eK]; simp [new_next, hn]
  have u40 := U40 (r := r) hsK (fun i hi => by have := hid i hi; omega) hl
  have oK : K.obj H.next = some (.cells [.int .i64 r, s] true) := by rw [← eK]; simp [AHeap.new, hn]
  obtain ⟨⟨x, y⟩, elo⟩ : ∃ q, lastOf r ps = q := ⟨_, rfl⟩
  rw [elo] at u40
  obtain ⟨K2, eK2⟩ : ∃ K2, (K.new (.cells [.int .i64 0, .int .i64 0] true)).set (H.next + 1) (.cells [.int .i64 x, .int .i64 y] true) = K2 := ⟨_, rfl⟩
  have nK2 : K2.next = H.next + 2 := by rw [← eK2]; simp [set_next, new_next, nK]
  have kK2 : Keeps K K2 := ⟨by omega, fun i hi => by rw [← eK2]; simp only [set_obj, new_obj, nK]; rw [if_neg (by omega), if_neg (by omega)]⟩
  have hsK2 := hsK.keep (fun i hi => by have := hid i hi; omega) kK2
  have oK2 : K2.obj H.next = some (.cells [.int .i64 r, s] true) := by rw [kK2.2 _ (by omega)]; exact oK
  have oK3 : K2.obj (H.next + 1) = some (.cells [.int .i64 x, .int .i64 y] true) := by rw [← eK2]; simp [AHeap.set]
  have u44 := U44 (r := r) hsK2 (fun i hi => by have := hid i hi; omega) hl
  cases hh : has r ps
  · have e1 : leftH r ps lim = 9221120237041090561 := by simp [leftH, hh]
    rw [hh] at u40
    rw [e1]
    simp only [c48, eK, nK, oK, hn, u40, eK2, nK2, oK2, oK3, u44, U76, U77, Bool.not_false, Bool.not_true, rwA, rwB, Nat.reduceAdd, Nat.reduceMul, Nat.reduceLeDiff, Int.reduceEq, Int.reduceLT, Int.reduceLE, Int.reduceAdd, Int.reduceSub, Int.reduceMul, ↓reduceIte, Nat.reduceEqDiff, reduceCtorEq, ↓cnd_true, ↓cnd_false]
  · rw [hh] at u40
    have hr : right r ps = true ∧ ps.length ≠ 0 := by simpa [has] using hh
    obtain ⟨_, _, hg⟩ := right_good hr.1
    have hi : ps.length - 1 < ps.length := by omega
    have el : lastP ps = (x, y) := by rw [← elo]; simp [lastOf, hh]
    have el2 : ps[ps.length - 1] = (x, y) := by rw [← el]; exact (at0_get hi).symm
    have b1 := good_cnt hg hi
    rw [el2] at b1
    have e1 : leftH r ps lim = if lim < 0 then 9218868437227405312 else if lim ≤ y then 0 else if fgtr (slope r ps) 0 then fdiv (fint (lim - y)) (slope r ps) else 9218868437227405312 := by simp only [leftH, hh, if_true, el]
    rw [e1]
    by_cases q1 : lim < 0
    · simp only [c48, eK, nK, oK, hn, u40, eK2, nK2, oK2, oK3, u44, U76, U77, q1, decide_true, if_true, Bool.not_false, Bool.not_true, rwA, rwB, Nat.reduceAdd, Nat.reduceMul, Nat.reduceLeDiff, Int.reduceEq, Int.reduceLT, Int.reduceLE, Int.reduceAdd, Int.reduceSub, Int.reduceMul, ↓reduceIte, Nat.reduceEqDiff, reduceCtorEq, ↓cnd_true, ↓cnd_false]
    · by_cases q2 : lim ≤ y
      · simp only [c48, eK, nK, oK, hn, u40, eK2, nK2, oK2, oK3, u44, U76, U77, q1, q2, decide_true, decide_false, if_true, if_false, Bool.not_false, Bool.not_true, rwA, rwB, Nat.reduceAdd, Nat.reduceMul, Nat.reduceLeDiff, Int.reduceEq, Int.reduceLT, Int.reduceLE, Int.reduceAdd, Int.reduceSub, Int.reduceMul, ↓reduceIte, Nat.reduceEqDiff, reduceCtorEq, ↓cnd_true, ↓cnd_false]
      · have w1 : IntKind.i64.wrap (lim - y) = lim - y := by rw [wrap_i64]; omega
        cases q3 : fgtr (slope r ps) 0 <;> simp only [c48, eK, nK, oK, hn, u40, eK2, nK2, oK2, oK3, u44, U76, U77, q1, q2, q3, w1, decide_true, decide_false, if_true, if_false, Bool.false_eq_true, Bool.not_false, Bool.not_true, rwA, rwB, Nat.reduceAdd, Nat.reduceMul, Nat.reduceLeDiff, Int.reduceEq, Int.reduceLT, Int.reduceLE, Int.reduceAdd, Int.reduceSub, Int.reduceMul, ↓reduceIte, Nat.reduceEqDiff, reduceCtorEq, ↓cnd_true, ↓cnd_false]

theorem U49 {H : AHeap} {r : Int} {s : AVal} {ps : List (Int × Int)} (hs : Sl H 2 s (PS ps)) (hid : ∀ i, i ∈ s.ids → i < H.next) (hl : ps.length < 9223372036854775807) (lim tk : Int) (hm : lim ≤ 9223372036854775807) :
    AC A 49 [.agg [.int .i64 r, s], .int .i64 lim, .int .i64 tk] H = some (.bool (flss (leftH r ps lim) (fint tk) || feq (leftH r ps lim) (fint tk)), H) := by
  refine look_val (x := GaFns.c49) rfl rfl rfl rfl ?_
  have hsf := hs.frz
  have hn : (frz H).next = H.next := rfl
  obtain ⟨K, eK⟩ : ∃ K, (frz H).new (.cells [.int .i64 r, s] true) = K := ⟨_, rfl⟩
  have kK : Keeps (frz H) K := by rw [← eK]; exact Keeps.new _ _
  have hsK := hsf.keep hid kK
  have nK : K.next = H.next + 1 := by rw [← eK]; simp [new_next, hn]
  have oK : K.obj H.next = some (.cells [.int .i64 r, s] true) := by rw [← eK]; simp [AHeap.new, hn]
  have u48 := U48 (r := r) hsK (fun i hi => by have := hid i hi; omega) hl lim hm
  simp only [c49, eK, nK, oK, hn, u48, rwA, rwB, Nat.reduceAdd, Nat.reduceMul, Nat.reduceLeDiff, Int.reduceEq, Int.reduceLT, Int.reduceLE, Int.reduceAdd, Int.reduceSub, Int.reduceMul, ↓reduceIte, Nat.reduceEqDiff, reduceCtorEq, ↓cnd_true, ↓cnd_false]

/-- One without points. -/
theorem U52 (r : Int) (H : AHeap) : AC A 52 [.int .i64 r] H = some (.tuple [.agg [.int .i64 (if right r [] then r else 0), .nils], .int .i64 (chk r [])], H) := by
  refine one_val (x := GaFns.c52) rfl rfl rfl rfl rfl ?_ H
  have u35 := fun K => U35 (H := K) (r := r) (s := .nils) (ps := []) (.inl ⟨rfl, rfl⟩) (by simp [AVal.ids]) (by simp)
  have c0 := chk0 r []
  cases hr : right r [] <;> rw [hr] at c0
  · simp only [c52, u35, c0, Bool.not_false, if_false, Bool.false_eq_true, rwA, rwB, Nat.reduceAdd, Nat.reduceMul, Nat.reduceLeDiff, Int.reduceEq, Int.reduceLT, Int.reduceLE, Int.reduceAdd, Int.reduceSub, Int.reduceMul, ↓reduceIte, Nat.reduceEqDiff, reduceCtorEq, ↓cnd_true, ↓cnd_false]
  · have c1 : chk r [] = 0 := by simp [chk, hr]
    simp only [c52, u35, c1, if_true, decide_true, Bool.not_true, rwA, rwB, Nat.reduceAdd, Nat.reduceMul, Nat.reduceLeDiff, Int.reduceEq, Int.reduceLT, Int.reduceLE, Int.reduceAdd, Int.reduceSub, Int.reduceMul, ↓reduceIte, Nat.reduceEqDiff, reduceCtorEq, ↓cnd_true, ↓cnd_false]

end Go.Proofs.Ytfpbmoiconopcaa.Gh
