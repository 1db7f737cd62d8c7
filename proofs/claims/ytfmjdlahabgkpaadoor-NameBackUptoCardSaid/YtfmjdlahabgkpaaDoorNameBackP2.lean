/- Texts put together by program: YtfmjdlahabgkpaaDoorNj. -/
import Derived.Test.YtfmjdlahabgkpaaDoorNameBackP1
section
/- NameTells, NameBack: the laws (of small arguments). -/
set_option maxRecDepth 100000
set_option linter.unusedSimpArgs false
set_option linter.unusedVariables false
set_option maxHeartbeats 4000000
namespace Go.Proofs.YtfmjdlahabgkpaaDoor.Nm
open Go Go.Proofs.YtfmjdlahabgkpaaDoor.Am NaFns Go.RowKit

theorem bulks_strs (l : List (List UInt8)) : bulks (l.map Dat.str) = tot l := by
  induction l with
  | nil => rfl
  | cons a l ih =>
    have e : bulks ((a :: l).map Dat.str) = (a.length + 1) + bulks (l.map Dat.str) := rfl
    rw [e, ih]; simp [tot]
theorem arg_strsB {P : Program} {H : AHeap} {t e : TypeId} {v : AVal} {d : Dat} (hu : P.underlying t = some (.slice e)) (he : P.underlying e = some .string) (hc : P.cellsOf e = 1) (h : AArg P H t v d) :
    ∃ l : List (List UInt8), Sl H 1 v (l.map .str) ∧ (∀ i, i ∈ v.ids → i < H.next) ∧ tot l ≤ d.bulk := by
  obtain ⟨fuel, cs, hr, hcs⟩ := h
  rw [hu] at hcs
  simp only at hcs
  cases fuel with
  | zero => simp [AReads] at hr
  | succ f =>
    simp only [AReads, hu] at hr
    rcases hr with ⟨rfl, rfl⟩ | ⟨id, cap, l, ds, hid, rfl, rfl, h1, h2, h3, h4, h5, h6⟩
    · simp at hcs
      subst hcs
      exact ⟨[], .inl ⟨rfl, rfl⟩, by simp [AVal.ids], by simp [tot]⟩
    · simp at hcs
      subst hcs
      rw [hc] at h5 h6
      have each : ∀ i, i < ds.length → ∃ s : List UInt8, ds[i]? = some (.str s) ∧ l[i]? = some (.str s) := by
        intro i hi
        have hr := h6 i ds[i] (List.getElem?_eq_getElem hi)
        cases f with
        | zero => simp [AReads] at hr
        | succ f =>
          simp only [AReads, he] at hr
          obtain ⟨s, e1, e2, e3⟩ := hr
          refine ⟨s, by rw [List.getElem?_eq_getElem hi, e2], ?_⟩
          have := congrArg (fun x => x[0]?) e1
          simpa using this
      obtain ⟨k, hk, hks⟩ := list_of (R := fun i s => ds[i]? = some (.str s) ∧ l[i]? = some (.str s)) ds.length each
      have ed : ds = k.map Dat.str := by
        apply List.ext_getElem?
        intro i
        by_cases hi : i < k.length
        · obtain ⟨e1, _⟩ := hks i k[i] (List.getElem?_eq_getElem hi)
          rw [e1, List.getElem?_map, List.getElem?_eq_getElem hi]; rfl
        · rw [List.getElem?_eq_none (by omega), List.getElem?_eq_none (by simp; omega)]
      have el : (l.drop 0).take (ds.length * 1) = k.map .str := by
        rw [List.drop_zero, Nat.mul_one]
        apply List.ext_getElem?
        intro i
        by_cases hi : i < k.length
        · obtain ⟨_, e2⟩ := hks i k[i] (List.getElem?_eq_getElem hi)
          rw [List.getElem?_take, if_pos (by omega), e2, List.getElem?_map, List.getElem?_eq_getElem hi]; rfl
        · rw [List.getElem?_eq_none (by simp; omega), List.getElem?_eq_none (by simp; omega)]
      refine ⟨k, .inr ⟨id, 0, ds.length, cap, none, rfl, by simp [hk], ?_⟩, by simpa [AVal.ids] using hid, ?_⟩
      · rcases Nat.eq_zero_or_pos ds.length with h0 | h0
        · exact .inl h0
        · exact .inr ⟨l, false, h4 (by omega), by omega, el⟩
      · have : (Dat.slice ds).bulk = bulks ds + 1 := rfl
        rw [this, ed, bulks_strs]; omega

/-! ### NameBack -/
theorem hexc_ok : ∀ n : Fin 16, hexc n.val ≠ 32 ∧ hexc n.val ≠ 10 := by decide
theorem word_clean {s : List UInt8} {c : UInt8} (h : c ∈ word s) : c ≠ 32 ∧ c ≠ 10 := by
  have key : ∀ x : UInt8, c ∈ wordc x → c ≠ 32 ∧ c ≠ 10 := by
    intro x hx
    unfold wordc at hx
    cases hp : plainc x <;> rw [hp] at hx
    · have xl := x.toNat_lt
      have h1 := hexc_ok ⟨x.toNat / 16, by omega⟩
      have h2 := hexc_ok ⟨x.toNat % 16, by omega⟩
      simp at hx
      rcases hx with rfl | rfl | rfl
      · decide
      · exact h1
      · exact h2
    · simp at hx
      subst hx
      constructor
      · rintro rfl; revert hp; decide
      · rintro rfl; revert hp; decide
  unfold word at h
  split at h
  · simp at h; subst h; decide
  · obtain ⟨x, _, hx⟩ := List.mem_flatMap.1 h
    exact key x hx
def b5a : ACode := (.seq (.region [⟨(some 88), (.bin .lss (.tmp 87) (.tmp 86)), none, none⟩]) (.seq (.cond (.tmp 88) .skip (.exit 0)) (.seq (.block 1 (.seq (.region [⟨(some 89), (.idxASl 1 (.tmp 85) (.tmp 87)), none, none⟩, ⟨(some 90), (.load false 1 (.tmp 89)), none, none⟩, ⟨(some 16), (.mv (.tmp 90)), none, none⟩]) (.seq (.region [⟨(some 91), (.mv (.tmp 16)), none, none⟩, ⟨(some 92), (.bin .eql (.tmp 91) (.con (.int .u8 32))), none, none⟩, ⟨(some 93), (.mv (.tmp 92)), none, none⟩, ⟨(some 94), (.mv (.tmp 16)), (some (93, false)), none⟩, ⟨(some 95), (.bin .eql (.tmp 94) (.con (.int .u8 10))), (some (93, false)), none⟩, ⟨(some 96), (.pick (.tmp 93) (.con (.bool true)) (.tmp 95)), none, none⟩]) (.cond (.tmp 96) (.seq (.region [⟨(some 8), (.mv (.con (.bool false))), none, none⟩]) .ret) .skip)))) (.region [⟨(some 97), (.bin .add (.tmp 87) (.con (.int .i64 1))), none, none⟩, ⟨(some 87), (.mv (.tmp 97)), none, none⟩]))))
theorem loop5a {s : List UInt8} (hs : ∀ c, c ∈ s → c ≠ 32 ∧ c ≠ 10) (hn : s.length ≤ 10000000) {H : AHeap} {q : Nat} {o : Bool} {g : Option Nat} (hq : H.obj q = some (.cells (s.map by8) o)) {env : Env} (h85 : env 85 = .slice q 0 s.length s.length g) (h86 : env 86 = .int .i64 (s.length : Int)) (h87 : env 87 = .int .i64 0) :
    Outs (AX A (.loop b5a) env H) fun e env' K => e = .exit 0 ∧ K = H ∧ env' 1 = env 1 ∧ env' 3 = env 3 := by
  refine loop_ends (I := fun (i : Nat) env' K => i ≤ s.length ∧ K = H ∧ env' 1 = env 1 ∧ env' 3 = env 3 ∧ env' 85 = .slice q 0 s.length s.length g ∧ env' 86 = .int .i64 (s.length : Int) ∧ env' 87 = .int .i64 (i : Int)) (fun i => s.length - i) ?_ 0 env H ⟨Nat.zero_le _, rfl, rfl, rfl, h85, h86, h87⟩
  rintro i env1 _ ⟨hi, rfl, h1, h3, h85, h86, h87⟩
  by_cases c : i < s.length
  · have c1 : decide ((i : Int) < (s.length : Int)) = true := by simp; omega
    have w1 : IntKind.i64.wrap ((i : Int) + 1) = ((i + 1 : Nat) : Int) := by rw [wrap_i64]; omega
    have ha : aidx s.length (.int .i64 (i : Int)) = some i := by simp [aidx]; omega
    have hc : (s.map by8)[i]? = some (.int .u8 (s[i].toNat : Int)) := by simp [c, by8]
    have hx := hs s[i] (List.getElem_mem c)
    obtain ⟨x, ex⟩ : ∃ x, s[i] = x := ⟨_, rfl⟩
    rw [ex] at hc hx
    have e32 : decide ((x.toNat : Int) = 32) = false := by
      have := eqc_is x 32; rw [beq_eq_false_iff_ne.2 hx.1] at this; exact this.symm
    have e10 : decide ((x.toNat : Int) = 10) = false := by
      have := eqc_is x 10; rw [beq_eq_false_iff_ne.2 hx.2] at this; exact this.symm
    simp only [b5a, h85, h86, h87, c1, ha, hq, hc, e32, e10, w1, Nat.zero_add, Nat.mul_one, rwA, rwB, Nat.reduceAdd, Nat.reduceMul, Nat.reduceLeDiff, Int.reduceEq, Int.reduceLT, Int.reduceLE, Int.reduceAdd, Int.reduceSub, Int.reduceMul, ↓reduceIte, Nat.reduceEqDiff, reduceCtorEq, ↓cnd_true, ↓cnd_false]
    rw [outs_some]
    exact .inl ⟨rfl, i + 1, by omega, by omega, rfl, by simp [Env.set, h1], by simp [Env.set, h3], by simp [Env.set, h85], by simp [Env.set, h86], by simp [Env.set]⟩
  · have e : i = s.length := by omega
    subst e
    have c1 : decide ((s.length : Int) < (s.length : Int)) = false := by simp
    simp only [b5a, h86, h87, c1, rwA, rwB, Nat.reduceAdd, Nat.reduceMul, Nat.reduceLeDiff, Int.reduceEq, Int.reduceLT, Int.reduceLE, Int.reduceAdd, Int.reduceSub, Int.reduceMul, ↓reduceIte, Nat.reduceEqDiff, reduceCtorEq, ↓cnd_true, ↓cnd_false]
    rw [outs_some]
    exact .inr ⟨by simp, rfl, rfl, by simp [Env.set, h1], by simp [Env.set, h3]⟩
def b5c : ACode := (.seq (.region [⟨(some 121), (.bin .lss (.tmp 120) (.tmp 119)), none, none⟩]) (.seq (.cond (.tmp 121) .skip (.exit 4)) (.seq (.block 5 (.seq (.region [⟨(some 122), (.idxASl 1 (.tmp 118) (.tmp 120)), none, none⟩, ⟨(some 123), (.load false 1 (.tmp 122)), none, none⟩, ⟨(some 22), (.mv (.tmp 123)), none, none⟩]) (.seq (.region [⟨(some 124), (.mv (.tmp 22)), none, none⟩, ⟨(some 125), (.bin .eql (.tmp 124) (.con (.int .u8 32))), none, none⟩]) (.cond (.tmp 125) (.seq (.region [⟨(some 8), (.mv (.con (.bool true))), none, none⟩]) .ret) .skip)))) (.region [⟨(some 126), (.bin .add (.tmp 120) (.con (.int .i64 1))), none, none⟩, ⟨(some 120), (.mv (.tmp 126)), none, none⟩]))))
theorem loop5c {s : List UInt8} (hn : s.length ≤ 10000000) {H : AHeap} {q : Nat} {o : Bool} {g : Option Nat} (hq : H.obj q = some (.cells (s.map by8) o)) {env : Env} (h118 : env 118 = .slice q 0 s.length s.length g) (h119 : env 119 = .int .i64 (s.length : Int)) (h120 : env 120 = .int .i64 0) :
    Outs (AX A (.loop b5c) env H) fun e env' K => K = H ∧ ((e = .exit 4 ∧ s.count 32 = 0 ∧ env' 3 = env 3 ∧ env' 111 = env 111 ∧ env' 112 = env 112 ∧ env' 113 = env 113) ∨ (e = .ret ∧ env' 8 = .bool true)) := by
  refine loop_ends (I := fun (i : Nat) env' K => i ≤ s.length ∧ K = H ∧ (env' 3 = env 3 ∧ env' 111 = env 111 ∧ env' 112 = env 112 ∧ env' 113 = env 113) ∧ env' 118 = .slice q 0 s.length s.length g ∧ env' 119 = .int .i64 (s.length : Int) ∧ env' 120 = .int .i64 (i : Int) ∧ (s.take i).count 32 = 0) (fun i => s.length - i) ?_ 0 env H ⟨Nat.zero_le _, rfl, ⟨rfl, rfl, rfl, rfl⟩, h118, h119, h120, by simp⟩
  rintro i env1 _ ⟨hi, rfl, ⟨h3, h111, h112, h113⟩, h118, h119, h120, hc0⟩
  by_cases c : i < s.length
  · have c1 : decide ((i : Int) < (s.length : Int)) = true := by simp; omega
    have w1 : IntKind.i64.wrap ((i : Int) + 1) = ((i + 1 : Nat) : Int) := by rw [wrap_i64]; omega
    have ha : aidx s.length (.int .i64 (i : Int)) = some i := by simp [aidx]; omega
    have hc : (s.map by8)[i]? = some (.int .u8 (s[i].toNat : Int)) := by simp [c, by8]
    have ht : (s.take (i + 1)).count 32 = if s[i] = 32 then 1 else 0 := by
      rw [List.take_add_one, List.getElem?_eq_getElem c, Option.toList_some, List.count_append, hc0, List.count_singleton]
      simp
    obtain ⟨x, ex⟩ : ∃ x, s[i] = x := ⟨_, rfl⟩
    rw [ex] at hc ht
    have e32 : decide ((x.toNat : Int) = 32) = (x == 32) := (eqc_is x 32).symm
    by_cases cx : x = 32
    · rw [beq_iff_eq.2 cx] at e32
      simp only [b5c, h118, h119, h120, c1, ha, hq, hc, e32, w1, Nat.zero_add, Nat.mul_one, rwA, rwB, Nat.reduceAdd, Nat.reduceMul, Nat.reduceLeDiff, Int.reduceEq, Int.reduceLT, Int.reduceLE, Int.reduceAdd, Int.reduceSub, Int.reduceMul, ↓reduceIte, Nat.reduceEqDiff, reduceCtorEq, ↓cnd_true, ↓cnd_false]
      rw [outs_some]
      exact .inr ⟨by simp, rfl, .inr ⟨rfl, by simp [Env.set]⟩⟩
    · rw [beq_eq_false_iff_ne.2 cx] at e32
      rw [if_neg cx] at ht
      simp only [b5c, h118, h119, h120, c1, ha, hq, hc, e32, w1, Nat.zero_add, Nat.mul_one, rwA, rwB, Nat.reduceAdd, Nat.reduceMul, Nat.reduceLeDiff, Int.reduceEq, Int.reduceLT, Int.reduceLE, Int.reduceAdd, Int.reduceSub, Int.reduceMul, ↓reduceIte, Nat.reduceEqDiff, reduceCtorEq, ↓cnd_true, ↓cnd_false]
      rw [outs_some]
      exact .inl ⟨rfl, i + 1, by omega, by omega, rfl, ⟨by simp [Env.set, h3], by simp [Env.set, h111], by simp [Env.set, h112], by simp [Env.set, h113]⟩, by simp [Env.set, h118], by simp [Env.set, h119], by simp [Env.set], ht⟩
  · have e : i = s.length := by omega
    subst e
    have c1 : decide ((s.length : Int) < (s.length : Int)) = false := by simp
    simp only [b5c, h119, h120, c1, rwA, rwB, Nat.reduceAdd, Nat.reduceMul, Nat.reduceLeDiff, Int.reduceEq, Int.reduceLT, Int.reduceLE, Int.reduceAdd, Int.reduceSub, Int.reduceMul, ↓reduceIte, Nat.reduceEqDiff, reduceCtorEq, ↓cnd_true, ↓cnd_false]
    rw [outs_some]
    rw [List.take_length] at hc0
    exact .inr ⟨by simp, rfl, .inl ⟨rfl, hc0, by simp [Env.set, h3], by simp [Env.set, h111], by simp [Env.set, h112], by simp [Env.set, h113]⟩⟩
def b5b : ACode := (.seq (.region [⟨(some 114), (.bin .lss (.tmp 113) (.tmp 112)), none, none⟩]) (.seq (.cond (.tmp 114) .skip (.exit 2)) (.seq (.block 3 (.seq (.region [⟨(some 115), (.idxASl 1 (.tmp 111) (.tmp 113)), none, none⟩, ⟨(some 116), (.load false 1 (.tmp 115)), none, none⟩, ⟨(some 20), (.mv (.tmp 116)), none, none⟩]) (.seq (.region [⟨(some 117), (.mv (.tmp 20)), none, none⟩, ⟨(some 118), (.sToB (.tmp 117)), none, none⟩, ⟨(some 119), (.len false (.tmp 118)), none, none⟩, ⟨(some 120), (.mv (.con (.int .i64 0))), none, none⟩]) (.block 4 (.loop (.seq (.region [⟨(some 121), (.bin .lss (.tmp 120) (.tmp 119)), none, none⟩]) (.seq (.cond (.tmp 121) .skip (.exit 4)) (.seq (.block 5 (.seq (.region [⟨(some 122), (.idxASl 1 (.tmp 118) (.tmp 120)), none, none⟩, ⟨(some 123), (.load false 1 (.tmp 122)), none, none⟩, ⟨(some 22), (.mv (.tmp 123)), none, none⟩]) (.seq (.region [⟨(some 124), (.mv (.tmp 22)), none, none⟩, ⟨(some 125), (.bin .eql (.tmp 124) (.con (.int .u8 32))), none, none⟩]) (.cond (.tmp 125) (.seq (.region [⟨(some 8), (.mv (.con (.bool true))), none, none⟩]) .ret) .skip)))) (.region [⟨(some 126), (.bin .add (.tmp 120) (.con (.int .i64 1))), none, none⟩, ⟨(some 120), (.mv (.tmp 126)), none, none⟩]))))))))) (.region [⟨(some 127), (.bin .add (.tmp 113) (.con (.int .i64 1))), none, none⟩, ⟨(some 113), (.mv (.tmp 127)), none, none⟩]))))
theorem tot_mem {l : List (List UInt8)} {x : List UInt8} (h : x ∈ l) : x.length + 1 ≤ tot l := by
  induction l with
  | nil => cases h
  | cons a l ih =>
    rcases List.mem_cons.1 h with rfl | h
    · simp [tot]
    · have := ih h; simp [tot] at this ⊢; omega
theorem loop5b {v : AVal} {l : List (List UInt8)} {H : AHeap} (hv : Sl H 1 v (l.map .str)) (hid : ∀ i, i ∈ v.ids → i < H.next) (hb : tot l ≤ 1048576) {env : Env} (h3 : env 3 = v) (h111 : env 111 = v) (h112 : env 112 = .int .i64 (l.length : Int)) (h113 : env 113 = .int .i64 0) :
    Outs (AX A (.loop b5b) env H) fun e env' K => (e = .exit 2 ∧ Keeps H K ∧ env' 3 = v ∧ ∀ x, x ∈ l → x.count 32 = 0) ∨ (e = .ret ∧ env' 8 = .bool true) := by
  refine loop_ends (I := fun (j : Nat) env' K => j ≤ l.length ∧ Keeps H K ∧ env' 3 = v ∧ env' 111 = v ∧ env' 112 = .int .i64 (l.length : Int) ∧ env' 113 = .int .i64 (j : Int) ∧ ∀ x, x ∈ l.take j → x.count 32 = 0) (fun j => l.length - j) ?_ 0 env H ⟨Nat.zero_le _, Keeps.refl _, h3, h111, h112, h113, by simp⟩
  rintro j env1 K ⟨hj, hK, h3, h111, h112, h113, hc0⟩
  have hl := tot_len l
  by_cases c : j < l.length
  · have c1 : decide ((j : Int) < (l.length : Int)) = true := by simp; omega
    have w1 : IntKind.i64.wrap ((j : Int) + 1) = ((j + 1 : Nat) : Int) := by rw [wrap_i64]; omega
    obtain ⟨id, off, cap, g, k, own, ev, ho, _, a1⟩ := (hv.keep hid hK).elem1 c
    have ha : aidx l.length (.int .i64 (j : Int)) = some j := by simp [aidx]; omega
    have hxt := tot_mem (List.getElem_mem c)
    have ht : l.take (j + 1) = l.take j ++ [l[j]] := by rw [List.take_add_one, List.getElem?_eq_getElem c]; rfl
    obtain ⟨x, ex⟩ : ∃ x, l[j] = x := ⟨_, rfl⟩
    rw [ex] at a1 hxt ht
    obtain ⟨K1, eK⟩ : ∃ K1, K.new (.cells (x.map by8) true) = K1 := ⟨_, rfl⟩
    have k1 : Keeps K K1 := by rw [← eK]; exact Keeps.new _ _
    have o1 : K1.obj K.next = some (.cells (x.map by8) true) := by rw [← eK, new_obj, if_pos rfl]
    have eK' : K.new (.cells (x.map fun b => .int .u8 (b.toNat : Int)) true) = K1 := eK
    rw [ev] at h111
    have h111' := h111
    simp only [b5b, h111, h112, h113, c1, ha, ho, a1, eK', rwA, rwB, Nat.reduceAdd, Nat.reduceMul, Nat.reduceLeDiff, Int.reduceEq, Int.reduceLT, Int.reduceLE, Int.reduceAdd, Int.reduceSub, Int.reduceMul, ↓reduceIte, Nat.reduceEqDiff, reduceCtorEq, ↓cnd_true, ↓cnd_false]
    repeat (first | refine outs_seq ?_ | refine outs_block ?_ | refine outs_step ?_ | refine outs_stepD ?_ | refine rets_end ?_ | refine ans_end ?_)
    refine (loop5c (s := x) (q := K.next) (g := some 1) (by omega) o1 ?_ ?_ ?_).mono ?_
    · simp [Env.set]
    · simp [Env.set]
    · simp [Env.set]
    rintro e env' K2 ⟨rfl, (⟨rfl, hx, g3, g111, g112, g113⟩ | ⟨rfl, h8⟩)⟩
    · have g3 : env' 3 = v := by rw [g3]; simp [Env.set, h3]
      have g111 := g111.trans (show _ = AVal.slice id off l.length cap g by simp [Env.set, h111])
      have g112 : env' 112 = .int .i64 (l.length : Int) := by rw [g112]; simp [Env.set, h112]
      have g113 : env' 113 = .int .i64 (j : Int) := by rw [g113]; simp [Env.set, h113]
      simp only [outs_some, g113, w1, rwA, rwB, Nat.reduceAdd, Nat.reduceMul, Nat.reduceLeDiff, Int.reduceEq, Int.reduceLT, Int.reduceLE, Int.reduceAdd, Int.reduceSub, Int.reduceMul, ↓reduceIte, Nat.reduceEqDiff, reduceCtorEq, ↓cnd_true, ↓cnd_false]
      refine .inl ⟨trivial, j + 1, by omega, by omega, hK.trans k1, by simp [Env.set, g3], by rw [ev]; simp [Env.set, g111], by simp [Env.set, g112], by simp [Env.set], ?_⟩
      intro y hy
      rw [ht] at hy
      rcases List.mem_append.1 hy with hy | hy
      · exact hc0 y hy
      · simp at hy; subst hy; exact hx
    · simp only [outs_some, rwA, rwB, Nat.reduceAdd, Nat.reduceMul, Nat.reduceLeDiff, Int.reduceEq, Int.reduceLT, Int.reduceLE, Int.reduceAdd, Int.reduceSub, Int.reduceMul, ↓reduceIte, Nat.reduceEqDiff, reduceCtorEq, ↓cnd_true, ↓cnd_false]
      exact .inr ⟨by simp, .inr ⟨trivial, h8⟩⟩
  · have e : j = l.length := by omega
    subst e
    have c1 : decide ((l.length : Int) < (l.length : Int)) = false := by simp
    simp only [b5b, h112, h113, c1, rwA, rwB, Nat.reduceAdd, Nat.reduceMul, Nat.reduceLeDiff, Int.reduceEq, Int.reduceLT, Int.reduceLE, Int.reduceAdd, Int.reduceSub, Int.reduceMul, ↓reduceIte, Nat.reduceEqDiff, reduceCtorEq, ↓cnd_true, ↓cnd_false]
    rw [outs_some]
    rw [List.take_length] at hc0
    exact .inr ⟨by simp, .inl ⟨rfl, hK, by simp [Env.set, h3], hc0⟩⟩

theorem utx_len (w : List UInt8) : (utx w).length ≤ w.length := by
  unfold utx
  split
  · exact Nat.zero_le _
  · split
    · exact dec_len d1 _ w (Nat.le_refl _)
    · exact Nat.zero_le _
theorem run5 {s w : List UInt8} {n : Nat} (hn : n < 18446744073709551616) {v : AVal} {l : List (List UInt8)} {H : AHeap} (hv : Sl H 1 v (l.map .str)) (hid : ∀ i, i ∈ v.ids → i < H.next) (hb : tot l ≤ 1048576) : Ans (AC A 5 [.str s, .str w, .int .u64 (n : Int), v] H) (.bool true) := by
  rw [s_fn (A := A) (f := 5) (x := NaFns.c5) rfl rfl rfl]
  have ll := hv.len1
  rw [List.length_map] at ll
  cases c1 : decide ((2048 : Int) < (s.length : Int))
  rotate_left
  · simp only [c5, U6, c1, rwA, rwB, Nat.reduceAdd, Nat.reduceMul, Nat.reduceLeDiff, Int.reduceEq, Int.reduceLT, Int.reduceLE, Int.reduceAdd, Int.reduceSub, Int.reduceMul, ↓reduceIte, Nat.reduceEqDiff, reduceCtorEq, ↓cnd_true, ↓cnd_false]
  cases c2 : decide ((2048 : Int) < (w.length : Int))
  rotate_left
  · simp only [c5, U6, c1, c2, rwA, rwB, Nat.reduceAdd, Nat.reduceMul, Nat.reduceLeDiff, Int.reduceEq, Int.reduceLT, Int.reduceLE, Int.reduceAdd, Int.reduceSub, Int.reduceMul, ↓reduceIte, Nat.reduceEqDiff, reduceCtorEq, ↓cnd_true, ↓cnd_false]
  cases c3 : decide ((100 : Int) < (l.length : Int))
  rotate_left
  · simp only [c5, U6, c1, c2, c3, ll, rwA, rwB, Nat.reduceAdd, Nat.reduceMul, Nat.reduceLeDiff, Int.reduceEq, Int.reduceLT, Int.reduceLE, Int.reduceAdd, Int.reduceSub, Int.reduceMul, ↓reduceIte, Nat.reduceEqDiff, reduceCtorEq, ↓cnd_true, ↓cnd_false]
  have hs : s.length ≤ 2048 := by simp at c1; omega
  have hw : w.length ≤ 2048 := by simp at c2; omega
  have wl := word_len s
  have u10 := fun M => U10 (s := s) (by omega) M
  have u7 := fun M => U7 (w := word s) (by omega) M
  rw [(uok_word s).1, (uok_word s).2] at u7
  have u21 := fun M => U21 hn M
  have dl := dg_20 hn
  have u17 := fun M => U17 (s := dg n) (by omega) M
  rw [nm_dg hn, rd_dg n hn] at u17
  have hx := wrap_rng (n : Int)
  have u23 := fun M => U23 hx.1 hx.2 M
  have hk := wok_sg hx.1 hx.2
  have sl : (sg (IntKind.i64.wrap (n : Int))).length ≤ 21 := by
    unfold sg; split
    · have := dg_20 (n := (IntKind.i64.wrap (n : Int)).natAbs) (by omega)
      simp; omega
    · have := dg_20 (n := (IntKind.i64.wrap (n : Int)).natAbs) (by omega)
      omega
  have u19 := fun M => U19 (s := sg (IntKind.i64.wrap (n : Int))) (by omega) M
  rw [hk.1, hk.2] at u19
  simp only [if_true] at u7 u17 u19
  obtain ⟨x, ex⟩ : ∃ x, IntKind.i64.wrap (n : Int) = x := ⟨_, rfl⟩
  rw [ex] at u23 u19
  obtain ⟨t, et⟩ : ∃ t, word s = t := ⟨_, rfl⟩
  have tc : ∀ c, c ∈ t → c ≠ 32 ∧ c ≠ 10 := fun c hc => word_clean (s := s) (by rw [et]; exact hc)
  rw [et] at u10 u7 wl
  obtain ⟨K1, eK⟩ : ∃ K1, H.new (.cells (t.map by8) true) = K1 := ⟨_, rfl⟩
  have k1 : Keeps H K1 := by rw [← eK]; exact Keeps.new _ _
  have o1 : K1.obj H.next = some (.cells (t.map by8) true) := by rw [← eK, new_obj, if_pos rfl]
  have eK' : H.new (.cells (t.map fun b => .int .u8 (b.toNat : Int)) true) = K1 := eK
  simp only [c5, U6, c1, c2, c3, ll, u10, u7, u21, u17, u23, u19, ex, eK', decide_true, rwA, rwB, Nat.reduceAdd, Nat.reduceMul, Nat.reduceLeDiff, Int.reduceEq, Int.reduceLT, Int.reduceLE, Int.reduceAdd, Int.reduceSub, Int.reduceMul, ↓reduceIte, Nat.reduceEqDiff, reduceCtorEq, ↓cnd_true, ↓cnd_false]
  repeat (first | refine outs_seq ?_ | refine outs_block ?_ | refine outs_step ?_ | refine outs_stepD ?_ | refine rets_end ?_ | refine ans_end ?_)
  refine (loop5a (s := t) (q := H.next) (g := some 1) tc (by omega) o1 ?_ ?_ ?_).mono ?_
  · simp [Env.set]
  · simp [Env.set]
  · simp [Env.set]
  rintro e env K2 ⟨rfl, rfl, g1, g3⟩
  have g1 : env 1 = .str w := by rw [g1]; simp [Env.set, ainit]
  have g3 : env 3 = v := by rw [g3]; simp [Env.set, ainit]
  have v7 := fun M => U7 (w := w) (by omega) M
  have ul := utx_len w
  have v10 := fun M => U10 (s := utx w) (by omega) M
  have hv1 := hv.keep hid k1
  have ll1 := hv1.len1
  rw [List.length_map] at ll1
  have L := fun env => loop5b (env := env) hv1 (fun i hi => by have := hid i hi; have := k1.1; omega) hb
  have fin : ∀ (env : Env) (K : AHeap), Keeps K2 K → env 3 = v → (∀ x, x ∈ l → x.count 32 = 0) → l ≠ [] → AC A 15 [v] K = some (.str (Lib.join l [32]), K) ∧ ∃ u M, AC A 13 [.str (Lib.join l [32])] K = some (u, M) ∧ (∃ a n, u = .slice a 0 n n none) ∧ AC A 12 [u, v] M = some (.bool true, M) := by
    intro env K hK h3 hx hne
    have hvK := hv1.keep (fun i hi => by have := hid i hi; have := k1.1; omega) hK
    have jl := join_tot l
    have u13 := U13 (s := Lib.join l [32]) (by omega) K
    rw [wds_join l hne hx] at u13
    obtain ⟨M, eM⟩ : ∃ M, K.new (.cells (l.map .str) true) = M := ⟨_, rfl⟩
    rw [eM] at u13
    have kM : Keeps K M := by rw [← eM]; exact Keeps.new _ _
    have oM : M.obj K.next = some (.cells (l.map .str) true) := by rw [← eM, new_obj, if_pos rfl]
    have sM : Sl M 1 (.slice K.next 0 l.length l.length none) (l.map .str) := .inr ⟨K.next, 0, _, _, none, rfl, by simp, .inr ⟨_, _, oM, by simp, by simp [List.take_of_length_le]⟩⟩
    have hvM := hvK.keep (fun i hi => by have := hid i hi; have := k1.1; have := hK.1; omega) kM
    have tl := tot_len l
    have u12 := U12 sM hvM (by omega)
    rw [decide_eq_true rfl] at u12
    exact ⟨U15 hvK (by omega), _, M, u13, ⟨_, _, rfl⟩, u12⟩
  have shv2 := sl_shape' hv
  have last : ∀ (env : Env), Outs (AX A (.loop b5b) env K2) (fun e env' K => (e = .exit 2 ∧ Keeps K2 K ∧ env' 3 = v ∧ ∀ x, x ∈ l → x.count 32 = 0) ∨ (e = .ret ∧ env' 8 = .bool true)) → True := fun _ _ => trivial
  cases cu : uok w <;> rw [cu] at v7
  · simp only [Bool.false_eq_true, if_false] at v7
    rcases shv2 with ev | ⟨_, _, _, _, _, ev⟩ <;>
      (rw [ev] at g3 ll1
       simp only [outs_some, g1, g3, v7, ll1, rwA, rwB, Nat.reduceAdd, Nat.reduceMul, Nat.reduceLeDiff, Int.reduceEq, Int.reduceLT, Int.reduceLE, Int.reduceAdd, Int.reduceSub, Int.reduceMul, ↓reduceIte, Nat.reduceEqDiff, reduceCtorEq, ↓cnd_true, ↓cnd_false]
       repeat (first | refine outs_seq ?_ | refine outs_block ?_ | refine outs_step ?_ | refine outs_stepD ?_ | refine rets_end ?_ | refine ans_end ?_)
       refine (L _ ?_ ?_ ?_ ?_).mono ?_
       · simp [Env.set, g3, ev]
       · simp [Env.set, ev]
       · simp [Env.set]
       · simp [Env.set]
       rintro e env' K3 (⟨rfl, hK, f3, hx⟩ | ⟨rfl, h8⟩)
       · by_cases hl0 : l = []
         · have z : decide ((l.length : Int) = 0) = true := by rw [hl0]; rfl
           rw [ev] at f3
           simp only [outs_some, f3, ll1, z, rwA, rwB, Nat.reduceAdd, Nat.reduceMul, Nat.reduceLeDiff, Int.reduceEq, Int.reduceLT, Int.reduceLE, Int.reduceAdd, Int.reduceSub, Int.reduceMul, ↓reduceIte, Nat.reduceEqDiff, reduceCtorEq, ↓cnd_true, ↓cnd_false]
         · have z : decide ((l.length : Int) = 0) = false := by simp [hl0]
           obtain ⟨e15, u, M, e13, ⟨a, n, eu⟩, e12⟩ := fin env' K3 hK f3 hx hl0
           rw [ev] at f3 e15 e12
           rw [eu] at e13 e12
           simp only [outs_some, f3, ll1, z, e15, e13, e12, rwA, rwB, Nat.reduceAdd, Nat.reduceMul, Nat.reduceLeDiff, Int.reduceEq, Int.reduceLT, Int.reduceLE, Int.reduceAdd, Int.reduceSub, Int.reduceMul, ↓reduceIte, Nat.reduceEqDiff, reduceCtorEq, ↓cnd_true, ↓cnd_false]
       · simp only [outs_some, h8, rwA, rwB, Nat.reduceAdd, Nat.reduceMul, Nat.reduceLeDiff, Int.reduceEq, Int.reduceLT, Int.reduceLE, Int.reduceAdd, Int.reduceSub, Int.reduceMul, ↓reduceIte, Nat.reduceEqDiff, reduceCtorEq, ↓cnd_true, ↓cnd_false])
  · have hm := uok_is cu
    rw [hm] at v10
    obtain ⟨y, ey⟩ : ∃ y, utx w = y := ⟨_, rfl⟩
    rw [ey] at v7 v10
    simp only [if_true] at v7
    rcases shv2 with ev | ⟨_, _, _, _, _, ev⟩ <;>
      (rw [ev] at g3 ll1
       simp only [outs_some, g1, g3, v7, v10, ll1, decide_true, Bool.not_true, rwA, rwB, Nat.reduceAdd, Nat.reduceMul, Nat.reduceLeDiff, Int.reduceEq, Int.reduceLT, Int.reduceLE, Int.reduceAdd, Int.reduceSub, Int.reduceMul, ↓reduceIte, Nat.reduceEqDiff, reduceCtorEq, ↓cnd_true, ↓cnd_false]
       repeat (first | refine outs_seq ?_ | refine outs_block ?_ | refine outs_step ?_ | refine outs_stepD ?_ | refine rets_end ?_ | refine ans_end ?_)
       refine (L _ ?_ ?_ ?_ ?_).mono ?_
       · simp [Env.set, g3, ev]
       · simp [Env.set, ev]
       · simp [Env.set]
       · simp [Env.set]
       rintro e env' K3 (⟨rfl, hK, f3, hx⟩ | ⟨rfl, h8⟩)
       · by_cases hl0 : l = []
         · have z : decide ((l.length : Int) = 0) = true := by rw [hl0]; rfl
           rw [ev] at f3
           simp only [outs_some, f3, ll1, z, rwA, rwB, Nat.reduceAdd, Nat.reduceMul, Nat.reduceLeDiff, Int.reduceEq, Int.reduceLT, Int.reduceLE, Int.reduceAdd, Int.reduceSub, Int.reduceMul, ↓reduceIte, Nat.reduceEqDiff, reduceCtorEq, ↓cnd_true, ↓cnd_false]
         · have z : decide ((l.length : Int) = 0) = false := by simp [hl0]
           obtain ⟨e15, u, M, e13, ⟨a, n, eu⟩, e12⟩ := fin env' K3 hK f3 hx hl0
           rw [ev] at f3 e15 e12
           rw [eu] at e13 e12
           simp only [outs_some, f3, ll1, z, e15, e13, e12, rwA, rwB, Nat.reduceAdd, Nat.reduceMul, Nat.reduceLeDiff, Int.reduceEq, Int.reduceLT, Int.reduceLE, Int.reduceAdd, Int.reduceSub, Int.reduceMul, ↓reduceIte, Nat.reduceEqDiff, reduceCtorEq, ↓cnd_true, ↓cnd_false]
       · simp only [outs_some, h8, rwA, rwB, Nat.reduceAdd, Nat.reduceMul, Nat.reduceLeDiff, Int.reduceEq, Int.reduceLT, Int.reduceLE, Int.reduceAdd, Int.reduceSub, Int.reduceMul, ↓reduceIte, Nat.reduceEqDiff, reduceCtorEq, ↓cnd_true, ↓cnd_false])

theorem law5 (H : AHeap) (args : List AVal) (dats : List Dat) (h : AArgs Tryd.prog H [9, 9, 34, 22] args dats) (hb : bulks dats ≤ 1048576) : ∃ k H', acall A k 5 args H = some (.bool true, H') := by
  obtain ⟨v0, r, d0, ds0, rfl, rfl, h0, hh0⟩ := args_cons h
  obtain ⟨v1, r, d1, ds1, rfl, rfl, h1, hh1⟩ := args_cons hh0
  obtain ⟨v2, r, d2, ds2, rfl, rfl, h2, hh2⟩ := args_cons hh1
  obtain ⟨v3, r, d3, ds3, rfl, rfl, h3, hh3⟩ := args_cons hh2
  obtain ⟨s, rfl, _⟩ := arg_str Tryd.underlying9 h0
  obtain ⟨w, rfl, _⟩ := arg_str Tryd.underlying9 h1
  obtain ⟨n, rfl, hn⟩ := arg_int Tryd.underlying34 h2
  have hn : (0 : Int) ≤ n ∧ n ≤ 18446744073709551615 := hn.2
  obtain ⟨m, rfl⟩ : ∃ m : Nat, n = (m : Int) := ⟨n.toNat, by omega⟩
  obtain ⟨l, hl, hid, hbl⟩ := arg_strsB Tryd.underlying22 Tryd.underlying9 (by kernel_rfl) h3
  have e : bulks (d0 :: d1 :: d2 :: d3 :: ds3) = d0.bulk + (d1.bulk + (d2.bulk + (d3.bulk + bulks ds3))) := rfl
  rw [e] at hb
  obtain rfl := args_nil hh3
  obtain ⟨H', hr⟩ := run5 (s := s) (w := w) (n := m) (by omega) hl hid (by omega)
  obtain ⟨k, hk⟩ := AC_iff.1 hr
  exact ⟨k, H', hk⟩

end Go.Proofs.YtfmjdlahabgkpaaDoor.Nm
end
