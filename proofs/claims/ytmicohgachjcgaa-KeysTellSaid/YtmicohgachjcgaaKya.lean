/- The keys' chapter: names, and whether a key may be. -/
import Derived.Test.YtmicohgachjcgaaRed
import Derived.Test.YtmicohgachjcgaaAmCut
set_option maxRecDepth 100000
set_option linter.unusedSimpArgs false
set_option linter.unusedVariables false
set_option maxHeartbeats 4000000
namespace Go.Proofs.Ytmicohgachjcgaa.Re
open Go Go.Proofs.Ytmicohgachjcgaa.Am ReFns Go.RowKit

/-! ### Whether all bytes are so -/
section
variable {g : FuncId} {p : UInt8 → Bool}
theorem G154 (hg : ∀ (c : UInt8) (H : AHeap), AC A g [.int .u8 (c.toNat : Int)] H = some (.bool (p c), H)) {H : AHeap} {b : Nat} (hb : H.obj b = some (.cells [.func g [] []] true)) (c : UInt8) : AC A 154 [.int .u8 (c.toNat : Int), .ptr b 0] H = some (.bool (!p c), H) := by
  rw [s_fn (A := A) (f := 154) (x := ReFns.c154) rfl rfl rfl]
  cases c1 : p c <;> simp only [c154, hb, c1, hg, rwA, rwB, Nat.reduceAdd, Nat.reduceMul, Nat.reduceLeDiff, Int.reduceEq, Int.reduceLT, Int.reduceLE, Int.reduceAdd, Int.reduceSub, Int.reduceMul, ↓reduceIte, Nat.reduceEqDiff, reduceCtorEq, ↓cnd_true, ↓cnd_false] <;> rfl

theorem gloop161 (hg : ∀ (c : UInt8) (H : AHeap), AC A g [.int .u8 (c.toNat : Int)] H = some (.bool (p c), H)) {s : List UInt8} (hs : s.length ≤ 4611686018427387904) {v : AVal} {b : Nat} {env : Env} {H : AHeap} (h0 : env 0 = v) (h1 : env 1 = .func 154 [] [.ptr b 0]) (h7 : env 7 = .int .i64 (s.length : Int)) (h8 : env 8 = .int .i64 0) (hv : Sl H 1 v (s.map by8)) (hb : H.obj b = some (.cells [.func g [] []] true)) :
    Outs (AX A (.loop b161) env H) fun e env' K => K = H ∧ ((e = .exit 0 ∧ s.all p = true) ∨ (e = .ret ∧ (∃ i : Nat, env' 4 = .int .i64 (i : Int)) ∧ s.all p = false)) := by
  refine loop_ends (I := fun (j : Nat) env' K => j ≤ s.length ∧ K = H ∧ env' 0 = v ∧ env' 1 = .func 154 [] [.ptr b 0] ∧ env' 7 = .int .i64 (s.length : Int) ∧ env' 8 = .int .i64 (j : Int) ∧ ∀ i (hi : i < s.length), i < j → p s[i] = true) (fun j => s.length - j) ?_ 0 env H ⟨Nat.zero_le _, rfl, h0, h1, h7, h8, fun i _ h => by omega⟩
  rintro j env' K ⟨hj, rfl, h0, h1, h7, h8, hz⟩
  by_cases hlt : j < s.length
  · have e1 : decide ((j : Int) < (s.length : Int)) = true := by simp; omega
    have w1 : IntKind.i64.wrap ((j : Int) + 1) = ((j + 1 : Nat) : Int) := by rw [wrap_i64]; omega
    have ha : aidx s.length (.int .i64 (j : Int)) = some j := by simp [aidx]; omega
    have sv : slen v = s.length := by have := hv.length; simp at this; omega
    obtain ⟨id, off, cap, g', l, own, et, ho, _, hc, _⟩ := hv.at (i := j) (by omega)
    have hc0 := hc 0 (by decide)
    simp only [Nat.mul_one, Nat.add_zero] at hc0
    rw [List.getElem?_map, List.getElem?_eq_getElem hlt, Option.map_some] at hc0
    rw [sv] at et
    subst et
    have u154 := G154 hg hb s[j]
    cases c1 : p s[j]
    · rw [c1] at u154
      simp only [b161, h0, h1, h7, h8, e1, w1, ha, ho, hc0, by8, u154, rwA, rwB, Nat.reduceAdd, Nat.reduceMul, Nat.reduceLeDiff, Int.reduceEq, Int.reduceLT, Int.reduceLE, Int.reduceAdd, Int.reduceSub, Int.reduceMul, ↓reduceIte, Nat.reduceEqDiff, reduceCtorEq, ↓cnd_true, ↓cnd_false]
      rw [outs_some]
      refine .inr ⟨by simp, rfl, .inr ⟨rfl, ⟨j, by simp only [rwA, rwB, Nat.reduceAdd, Nat.reduceMul, Nat.reduceLeDiff, Int.reduceEq, Int.reduceLT, Int.reduceLE, Int.reduceAdd, Int.reduceSub, Int.reduceMul, ↓reduceIte, Nat.reduceEqDiff, reduceCtorEq, ↓cnd_true, ↓cnd_false]⟩, ?_⟩⟩
      rw [List.all_eq_false]
      exact ⟨s[j], List.getElem_mem hlt, by simp [c1]⟩
    · rw [c1] at u154
      simp only [b161, h0, h1, h7, h8, e1, w1, ha, ho, hc0, by8, u154, rwA, rwB, Nat.reduceAdd, Nat.reduceMul, Nat.reduceLeDiff, Int.reduceEq, Int.reduceLT, Int.reduceLE, Int.reduceAdd, Int.reduceSub, Int.reduceMul, ↓reduceIte, Nat.reduceEqDiff, reduceCtorEq, ↓cnd_true, ↓cnd_false]
      rw [outs_some]
      refine .inl ⟨rfl, j + 1, by omega, by omega, rfl, by simp only [h0, rwA, rwB, Nat.reduceAdd, Nat.reduceMul, Nat.reduceLeDiff, Int.reduceEq, Int.reduceLT, Int.reduceLE, Int.reduceAdd, Int.reduceSub, Int.reduceMul, ↓reduceIte, Nat.reduceEqDiff, reduceCtorEq, ↓cnd_true, ↓cnd_false], by simp only [h1, rwA, rwB, Nat.reduceAdd, Nat.reduceMul, Nat.reduceLeDiff, Int.reduceEq, Int.reduceLT, Int.reduceLE, Int.reduceAdd, Int.reduceSub, Int.reduceMul, ↓reduceIte, Nat.reduceEqDiff, reduceCtorEq, ↓cnd_true, ↓cnd_false], by simp only [h7, rwA, rwB, Nat.reduceAdd, Nat.reduceMul, Nat.reduceLeDiff, Int.reduceEq, Int.reduceLT, Int.reduceLE, Int.reduceAdd, Int.reduceSub, Int.reduceMul, ↓reduceIte, Nat.reduceEqDiff, reduceCtorEq, ↓cnd_true, ↓cnd_false], by simp only [rwA, rwB, Nat.reduceAdd, Nat.reduceMul, Nat.reduceLeDiff, Int.reduceEq, Int.reduceLT, Int.reduceLE, Int.reduceAdd, Int.reduceSub, Int.reduceMul, ↓reduceIte, Nat.reduceEqDiff, reduceCtorEq, ↓cnd_true, ↓cnd_false], ?_⟩
      intro i hi hij
      by_cases h : i = j
      · subst h; exact c1
      · exact hz i hi (by omega)
  · have e1 : decide ((j : Int) < (s.length : Int)) = false := by simp; omega
    simp only [b161, h7, h8, e1, rwA, rwB, Nat.reduceAdd, Nat.reduceMul, Nat.reduceLeDiff, Int.reduceEq, Int.reduceLT, Int.reduceLE, Int.reduceAdd, Int.reduceSub, Int.reduceMul, ↓reduceIte, Nat.reduceEqDiff, reduceCtorEq, ↓cnd_true, ↓cnd_false]
    rw [outs_some]
    refine .inr ⟨by simp, rfl, .inl ⟨rfl, ?_⟩⟩
    rw [List.all_eq_true]
    intro x hx
    obtain ⟨i, hi, rfl⟩ := List.mem_iff_getElem.1 hx
    exact hz i hi (by omega)

theorem G161 (hg : ∀ (c : UInt8) (H : AHeap), AC A g [.int .u8 (c.toNat : Int)] H = some (.bool (p c), H)) {s : List UInt8} (hs : s.length ≤ 4611686018427387904) {v : AVal} {b : Nat} {H : AHeap} (hv : Sl H 1 v (s.map by8)) (hb : H.obj b = some (.cells [.func g [] []] true)) :
    ∃ i : Int, AC A 161 [v, .func 154 [] [.ptr b 0]] H = some (.int .i64 i, H) ∧ decide (0 ≤ i) = !s.all p := by
  have key : Rets (AC A 161 [v, .func 154 [] [.ptr b 0]] H) fun u K => K = H ∧ ∃ i : Int, u = .int .i64 i ∧ decide (0 ≤ i) = !s.all p := by
    have lv := hv.len1
    rw [List.length_map] at lv
    rw [s_fn (A := A) (f := 161) (x := ReFns.c161) rfl rfl rfl]
    simp only [c161, lv, rwA, rwB, Nat.reduceAdd, Nat.reduceMul, Nat.reduceLeDiff, Int.reduceEq, Int.reduceLT, Int.reduceLE, Int.reduceAdd, Int.reduceSub, Int.reduceMul, ↓reduceIte, Nat.reduceEqDiff, reduceCtorEq, ↓cnd_true, ↓cnd_false]
    repeat (first | refine outs_seq ?_ | refine outs_block ?_ | refine outs_step ?_ | refine outs_stepD ?_ | refine rets_end ?_ | refine ans_end ?_)
    refine (gloop161 hg hs (v := v) (b := b) ?_ ?_ ?_ ?_ hv hb).mono ?_
    · simp only [rwA, rwB, Nat.reduceAdd, Nat.reduceMul, Nat.reduceLeDiff, Int.reduceEq, Int.reduceLT, Int.reduceLE, Int.reduceAdd, Int.reduceSub, Int.reduceMul, ↓reduceIte, Nat.reduceEqDiff, reduceCtorEq, ↓cnd_true, ↓cnd_false]
    · simp only [rwA, rwB, Nat.reduceAdd, Nat.reduceMul, Nat.reduceLeDiff, Int.reduceEq, Int.reduceLT, Int.reduceLE, Int.reduceAdd, Int.reduceSub, Int.reduceMul, ↓reduceIte, Nat.reduceEqDiff, reduceCtorEq, ↓cnd_true, ↓cnd_false]
    · simp only [rwA, rwB, Nat.reduceAdd, Nat.reduceMul, Nat.reduceLeDiff, Int.reduceEq, Int.reduceLT, Int.reduceLE, Int.reduceAdd, Int.reduceSub, Int.reduceMul, ↓reduceIte, Nat.reduceEqDiff, reduceCtorEq, ↓cnd_true, ↓cnd_false]
    · simp only [rwA, rwB, Nat.reduceAdd, Nat.reduceMul, Nat.reduceLeDiff, Int.reduceEq, Int.reduceLT, Int.reduceLE, Int.reduceAdd, Int.reduceSub, Int.reduceMul, ↓reduceIte, Nat.reduceEqDiff, reduceCtorEq, ↓cnd_true, ↓cnd_false]
    · rintro e env K ⟨rfl, ⟨rfl, e0⟩ | ⟨rfl, ⟨i, h4⟩, e0⟩⟩
      · simp only [outs_some, e0, rwA, rwB, Nat.reduceAdd, Nat.reduceMul, Nat.reduceLeDiff, Int.reduceEq, Int.reduceLT, Int.reduceLE, Int.reduceAdd, Int.reduceSub, Int.reduceMul, ↓reduceIte, Nat.reduceEqDiff, reduceCtorEq, ↓cnd_true, ↓cnd_false]
        rw [rets_some]
        exact ⟨rfl, -1, rfl, rfl⟩
      · simp only [outs_some, h4, e0, rwA, rwB, Nat.reduceAdd, Nat.reduceMul, Nat.reduceLeDiff, Int.reduceEq, Int.reduceLT, Int.reduceLE, Int.reduceAdd, Int.reduceSub, Int.reduceMul, ↓reduceIte, Nat.reduceEqDiff, reduceCtorEq, ↓cnd_true, ↓cnd_false]
        rw [rets_some]
        exact ⟨rfl, i, rfl, by simp⟩
  obtain ⟨u, K, h1, rfl, i, rfl, h2⟩ := key
  exact ⟨i, h1, h2⟩

theorem cg_fn (g : FuncId) : AVal.cells (.func g [] []) = [.func g [] []] := hid rfl
theorem tg_fn (g : FuncId) : AVal.tup (.func g [] []) = false := hid rfl
theorem G138 (hg : ∀ (c : UInt8) (H : AHeap), AC A g [.int .u8 (c.toNat : Int)] H = some (.bool (p c), H)) (s : List UInt8) (hs : s.length ≤ 4611686018427387904) (H : AHeap) : ∃ K, AC A 138 [.str s, .func g [] []] H = some (.bool (s.all p), K) := by
  obtain ⟨K, eK⟩ : ∃ K, (H.new (.cells [.func g [] []] true)).new (.cells (s.map by8) true) = K := ⟨_, rfl⟩
  have hb : K.obj H.next = some (.cells [.func g [] []] true) := by rw [← eK]; simp [AHeap.new]
  have hv : Sl K 1 (.slice (H.next + 1) 0 s.length s.length (some 1)) (s.map by8) := .inr ⟨_, 0, s.length, s.length, some 1, rfl, by simp, .inr ⟨s.map by8, true, by rw [← eK]; simp [AHeap.new], by simp, by simp [List.take_of_length_le]⟩⟩
  obtain ⟨i, u161, hi⟩ := G161 hg hs hv hb
  have u153 : AC A 153 [.slice (H.next + 1) 0 s.length s.length (some 1), .func 154 [] [.ptr H.next 0]] K = some (.bool (!s.all p), K) := by
    rw [s_fn (A := A) (f := 153) (x := ReFns.c153) rfl rfl rfl]
    simp only [c153, u161, hi, rwA, rwB, Nat.reduceAdd, Nat.reduceMul, Nat.reduceLeDiff, Int.reduceEq, Int.reduceLT, Int.reduceLE, Int.reduceAdd, Int.reduceSub, Int.reduceMul, ↓reduceIte, Nat.reduceEqDiff, reduceCtorEq, ↓cnd_true, ↓cnd_false]
  refine ⟨K, ?_⟩
  rw [s_fn (A := A) (f := 138) (x := ReFns.c138) rfl rfl rfl]
  simp only [c138, cg_fn, tg_fn, by8_fun, eK, u153, Bool.not_not, rwA, rwB, Nat.reduceAdd, Nat.reduceMul, Nat.reduceLeDiff, Int.reduceEq, Int.reduceLT, Int.reduceLE, Int.reduceAdd, Int.reduceSub, Int.reduceMul, ↓reduceIte, Nat.reduceEqDiff, reduceCtorEq, ↓cnd_true, ↓cnd_false]
end

/-! ### A bucket's name -/
def dg (x : Int) : Bool := decide (48 ≤ x) && decide (x ≤ 57)
def lw (x : Int) : Bool := decide (97 ≤ x) && decide (x ≤ 122)
def chI (x : Int) : Bool := (dg x || lw x) || decide (x = 45)
def chr (c : UInt8) : Bool := chI (c.toNat : Int)
theorem U140 (x : Int) (H : AHeap) : AC A 140 [.int .u8 x] H = some (.bool (dg x), H) := by
  refine one_val (x := ReFns.c140) rfl rfl rfl rfl rfl ?_ H
  unfold dg
  cases c1 : decide (48 ≤ x) <;> simp only [c140, c1, rwA, rwB, Nat.reduceAdd, Nat.reduceMul, Nat.reduceLeDiff, Int.reduceEq, Int.reduceLT, Int.reduceLE, Int.reduceAdd, Int.reduceSub, Int.reduceMul, ↓reduceIte, Nat.reduceEqDiff, reduceCtorEq, ↓cnd_true, ↓cnd_false] <;> simp

theorem U141 (x : Int) (H : AHeap) : AC A 141 [.int .u8 x] H = some (.bool (lw x), H) := by
  refine one_val (x := ReFns.c141) rfl rfl rfl rfl rfl ?_ H
  unfold lw
  cases c1 : decide (97 ≤ x) <;> simp only [c141, c1, rwA, rwB, Nat.reduceAdd, Nat.reduceMul, Nat.reduceLeDiff, Int.reduceEq, Int.reduceLT, Int.reduceLE, Int.reduceAdd, Int.reduceSub, Int.reduceMul, ↓reduceIte, Nat.reduceEqDiff, reduceCtorEq, ↓cnd_true, ↓cnd_false] <;> simp

theorem U139 (x : Int) (H : AHeap) : AC A 139 [.int .u8 x] H = some (.bool (chI x), H) := by
  refine one_val (x := ReFns.c139) rfl rfl rfl rfl rfl ?_ H
  unfold chI
  cases c1 : dg x <;> cases c2 : lw x <;> simp only [c139, c1, c2, U140, U141, rwA, rwB, Nat.reduceAdd, Nat.reduceMul, Nat.reduceLeDiff, Int.reduceEq, Int.reduceLT, Int.reduceLE, Int.reduceAdd, Int.reduceSub, Int.reduceMul, ↓reduceIte, Nat.reduceEqDiff, reduceCtorEq, ↓cnd_true, ↓cnd_false] <;> rfl

theorem U137 (x : Int) (lo : Int) (hi : Int) (H : AHeap) : AC A 137 [.int .u8 x, .int .u8 lo, .int .u8 hi] H = some (.bool (decide (lo ≤ x) && decide (x ≤ hi)), H) := by
  refine one_val (x := ReFns.c137) rfl rfl rfl rfl rfl ?_ H
  cases c1 : decide (lo ≤ x) <;> simp only [c137, c1, rwA, rwB, Nat.reduceAdd, Nat.reduceMul, Nat.reduceLeDiff, Int.reduceEq, Int.reduceLT, Int.reduceLE, Int.reduceAdd, Int.reduceSub, Int.reduceMul, ↓reduceIte, Nat.reduceEqDiff, reduceCtorEq, ↓cnd_true, ↓cnd_false] <;> simp

theorem U115 (n : Int) (H : AHeap) : AC A 115 [.int .i64 n] H = some (.bool (decide (0 ≤ n) && decide (n < 8)), H) := by
  refine one_val (x := ReFns.c115) rfl rfl rfl rfl rfl ?_ H
  cases c1 : decide (0 ≤ n) <;> simp only [c115, c1, rwA, rwB, Nat.reduceAdd, Nat.reduceMul, Nat.reduceLeDiff, Int.reduceEq, Int.reduceLT, Int.reduceLE, Int.reduceAdd, Int.reduceSub, Int.reduceMul, ↓reduceIte, Nat.reduceEqDiff, reduceCtorEq, ↓cnd_true, ↓cnd_false] <;> simp

/-- What stands at both ends. -/
def edge (s : List UInt8) : Bool := !decide (s.headD 0 = 45) && !decide (s.getLastD 0 = 45)
def bnok (s : List UInt8) : Bool := ((decide (1 ≤ s.length) && decide (s.length ≤ 12)) && edge s) && s.all chr
theorem head_get {s : List UInt8} (h : 1 ≤ s.length) : s[0]? = some (s.headD 0) := by
  match s, h with
  | c :: l, _ => rfl
theorem last_get {s : List UInt8} (h : 1 ≤ s.length) : s[s.length - 1]? = some (s.getLastD 0) := by
  rw [← List.getLast?_eq_getElem?]
  match s, h with
  | c :: l, _ => simp [List.getLastD, List.getLast?]
theorem u45 (c : UInt8) : decide ((c.toNat : Int) = 45) = decide (c = 45) := by
  rw [decide_eq_decide]
  constructor
  · intro h
    have h2 : c.toNat = 45 := by omega
    exact UInt8.toNat_inj.1 h2
  · rintro rfl; rfl
theorem hg139 (c : UInt8) (H : AHeap) : AC A 139 [.int .u8 (c.toNat : Int)] H = some (.bool (chr c), H) := U139 _ H
theorem ne_len (s : List UInt8) : decide (s = []) = !decide (1 ≤ s.length) := by
  cases s with
  | nil => rfl
  | cons c l => simp

theorem U117 (s : List UInt8) (H : AHeap) : AC A 117 [.str s] H = some (.int .i64 (chk (bnok s)), H) := by
  refine one_val (x := ReFns.c117) rfl rfl rfl rfl rfl ?_ H
  unfold bnok edge
  have hne := ne_len s
  cases c1 : decide (1 ≤ s.length)
  · rw [c1] at hne
    have hne : decide (s = []) = true := hne
    simp only [c117, hne, U131, rwA, rwB, Nat.reduceAdd, Nat.reduceMul, Nat.reduceLeDiff, Int.reduceEq, Int.reduceLT, Int.reduceLE, Int.reduceAdd, Int.reduceSub, Int.reduceMul, ↓reduceIte, Nat.reduceEqDiff, reduceCtorEq, ↓cnd_true, ↓cnd_false]
    try rfl
  · have h1 := of_decide_eq_true c1
    rw [c1] at hne
    have hne : decide (s = []) = false := hne
    cases c2 : decide (s.length ≤ 12)
    · have c2' : decide ((s.length : Int) ≤ 12) = false := by have := of_decide_eq_false c2; simp; omega
      simp only [c117, hne, c2', U131, rwA, rwB, Nat.reduceAdd, Nat.reduceMul, Nat.reduceLeDiff, Int.reduceEq, Int.reduceLT, Int.reduceLE, Int.reduceAdd, Int.reduceSub, Int.reduceMul, ↓reduceIte, Nat.reduceEqDiff, reduceCtorEq, ↓cnd_true, ↓cnd_false]
      try rfl
    · have h2 := of_decide_eq_true c2
      have c2' : decide ((s.length : Int) ≤ 12) = true := by simp; omega
      have w1 : IntKind.i64.wrap ((s.length : Int) - 1) = ((s.length - 1 : Nat) : Int) := by rw [wrap_i64]; omega
      have a0 : aidx s.length (.int .i64 0) = some 0 := by simp only [aidx]; rw [if_pos ⟨by omega, by omega⟩]; rfl
      have a1 : aidx s.length (.int .i64 ((s.length - 1 : Nat) : Int)) = some (s.length - 1) := by simp only [aidx]; rw [if_pos ⟨by omega, by omega⟩]; rfl
      have g0 := head_get h1
      have g1 := last_get h1
      obtain ⟨K, u138⟩ := G138 hg139 s (by omega) noH
      have e0 := u45 (s.headD 0)
      have e1 := u45 (s.getLastD 0)
      cases c3 : decide (s.headD 0 = 45) <;> cases c4 : decide (s.getLastD 0 = 45) <;> rw [c3] at e0 <;> rw [c4] at e1 <;> simp only [c117, hne, c2', w1, a0, a1, g0, g1, e0, e1, u138, U131, rwA, rwB, Nat.reduceAdd, Nat.reduceMul, Nat.reduceLeDiff, Int.reduceEq, Int.reduceLT, Int.reduceLE, Int.reduceAdd, Int.reduceSub, Int.reduceMul, ↓reduceIte, Nat.reduceEqDiff, reduceCtorEq, ↓cnd_true, ↓cnd_false] <;> rfl

def b114 : ACode := (.seq (.seq (.region [⟨(some 25), (.mv (.tmp 3)), none, none⟩, ⟨(some 26), (.mv (.tmp 0)), none, none⟩, ⟨(some 27), (.len true (.tmp 26)), none, none⟩, ⟨(some 28), (.bin .lss (.tmp 25) (.tmp 27)), none, none⟩]) (.cond (.tmp 28) .skip (.exit 0))) (.seq (.block 1 (.seq (.region [⟨(some 31), (.mv (.tmp 0)), none, none⟩, ⟨(some 32), (.mv (.tmp 3)), none, none⟩, ⟨(some 33), (.idxStr (.tmp 31) (.tmp 32)), none, none⟩, ⟨(some 34), (.call (.con (.func 137 [] [])) [(.tmp 33), (.con (.int .u8 97)), (.con (.int .u8 122))]), none, none⟩, ⟨(some 35), (.un .not (.tmp 34)), none, none⟩, ⟨(some 36), (.mv (.tmp 35)), none, none⟩, ⟨(some 37), (.mv (.tmp 0)), (some (36, true)), none⟩, ⟨(some 38), (.mv (.tmp 3)), (some (36, true)), none⟩, ⟨(some 39), (.idxStr (.tmp 37) (.tmp 38)), (some (36, true)), none⟩, ⟨(some 40), (.call (.con (.func 137 [] [])) [(.tmp 39), (.con (.int .u8 48)), (.con (.int .u8 57))]), (some (36, true)), none⟩, ⟨(some 41), (.un .not (.tmp 40)), (some (36, true)), none⟩, ⟨(some 42), (.pick (.tmp 36) (.tmp 41) (.con (.bool false))), none, none⟩, ⟨(some 43), (.mv (.tmp 42)), none, none⟩, ⟨(some 44), (.mv (.tmp 0)), (some (43, true)), none⟩, ⟨(some 45), (.mv (.tmp 3)), (some (43, true)), none⟩, ⟨(some 46), (.idxStr (.tmp 44) (.tmp 45)), (some (43, true)), none⟩, ⟨(some 47), (.bin .neq (.tmp 46) (.con (.int .u8 45))), (some (43, true)), none⟩, ⟨(some 48), (.pick (.tmp 43) (.tmp 47) (.con (.bool false))), none, none⟩]) (.cond (.tmp 48) (.seq (.region [⟨(some 2), (.mv (.con (.bool false))), none, none⟩]) .ret) .skip))) (.region [⟨(some 29), (.mv (.tmp 3)), none, none⟩, ⟨(some 30), (.bin .add (.tmp 29) (.con (.int .i64 1))), none, none⟩, ⟨(some 3), (.mv (.tmp 30)), none, none⟩])))
theorem loop114 {s : List UInt8} (hs : s.length ≤ 12) {env : Env} {H : AHeap} (h0 : env 0 = .str s) (h3 : env 3 = .int .i64 0) :
    Outs (AX A (.loop b114) env H) fun e env' H' => (e = .exit 0 ∧ s.all chr = true) ∨ (e = .ret ∧ env' 2 = .bool false ∧ s.all chr = false) := by
  refine loop_ends (I := fun (j : Nat) env' H' => j ≤ s.length ∧ env' 0 = .str s ∧ env' 3 = .int .i64 (j : Int) ∧ ∀ i (hi : i < s.length), i < j → chr s[i] = true) (fun j => s.length - j) ?_ 0 env H ⟨Nat.zero_le _, h0, h3, fun i _ h => by omega⟩
  rintro j env' H' ⟨hj, h0, h3, hz⟩
  by_cases hlt : j < s.length
  · have e1 : decide ((j : Int) < (s.length : Int)) = true := by simp; omega
    have w1 : IntKind.i64.wrap ((j : Int) + 1) = ((j + 1 : Nat) : Int) := by rw [wrap_i64]; omega
    have ha : aidx s.length (.int .i64 (j : Int)) = some j := by simp [aidx]; omega
    have hg : s[j]? = some s[j] := List.getElem?_eq_getElem hlt
    have hc : chr s[j] = ((dg (s[j].toNat : Int) || lw (s[j].toNat : Int)) || decide ((s[j].toNat : Int) = 45)) := rfl
    have hd : dg (s[j].toNat : Int) = (decide (48 ≤ (s[j].toNat : Int)) && decide ((s[j].toNat : Int) ≤ 57)) := rfl
    have hl : lw (s[j].toNat : Int) = (decide (97 ≤ (s[j].toNat : Int)) && decide ((s[j].toNat : Int) ≤ 122)) := rfl
    cases c1 : dg (s[j].toNat : Int) <;> cases c2 : lw (s[j].toNat : Int) <;> cases c3 : decide ((s[j].toNat : Int) = 45) <;> rw [c1, c2, c3] at hc <;> rw [c1] at hd <;> rw [c2] at hl <;>
      simp only [b114, h0, h3, e1, w1, ha, hg, U137, ← hd, ← hl, c3, rwA, rwB, Nat.reduceAdd, Nat.reduceMul, Nat.reduceLeDiff, Int.reduceEq, Int.reduceLT, Int.reduceLE, Int.reduceAdd, Int.reduceSub, Int.reduceMul, ↓reduceIte, Nat.reduceEqDiff, reduceCtorEq, ↓cnd_true, ↓cnd_false] <;> rw [outs_some] <;>
      first
      | (refine .inl ⟨rfl, j + 1, by omega, by omega, by simp only [h0, rwA, rwB, Nat.reduceAdd, Nat.reduceMul, Nat.reduceLeDiff, Int.reduceEq, Int.reduceLT, Int.reduceLE, Int.reduceAdd, Int.reduceSub, Int.reduceMul, ↓reduceIte, Nat.reduceEqDiff, reduceCtorEq, ↓cnd_true, ↓cnd_false], by simp only [rwA, rwB, Nat.reduceAdd, Nat.reduceMul, Nat.reduceLeDiff, Int.reduceEq, Int.reduceLT, Int.reduceLE, Int.reduceAdd, Int.reduceSub, Int.reduceMul, ↓reduceIte, Nat.reduceEqDiff, reduceCtorEq, ↓cnd_true, ↓cnd_false], ?_⟩
         intro i hi hij
         by_cases h : i = j
         · subst h; exact hc
         · exact hz i hi (by omega))
      | (refine .inr ⟨by simp, .inr ⟨rfl, by simp only [rwA, rwB, Nat.reduceAdd, Nat.reduceMul, Nat.reduceLeDiff, Int.reduceEq, Int.reduceLT, Int.reduceLE, Int.reduceAdd, Int.reduceSub, Int.reduceMul, ↓reduceIte, Nat.reduceEqDiff, reduceCtorEq, ↓cnd_true, ↓cnd_false], ?_⟩⟩
         rw [List.all_eq_false]
         exact ⟨s[j], List.getElem_mem hlt, by rw [hc]; simp⟩)
  · have e1 : decide ((j : Int) < (s.length : Int)) = false := by simp; omega
    simp only [b114, h0, h3, e1, rwA, rwB, Nat.reduceAdd, Nat.reduceMul, Nat.reduceLeDiff, Int.reduceEq, Int.reduceLT, Int.reduceLE, Int.reduceAdd, Int.reduceSub, Int.reduceMul, ↓reduceIte, Nat.reduceEqDiff, reduceCtorEq, ↓cnd_true, ↓cnd_false]
    rw [outs_some]
    refine .inr ⟨by simp, .inl ⟨rfl, ?_⟩⟩
    rw [List.all_eq_true]
    intro x hx
    obtain ⟨i, hi, rfl⟩ := List.mem_iff_getElem.1 hx
    exact hz i hi (by omega)

theorem U114 (s : List UInt8) (H : AHeap) : AC A 114 [.str s] H = some (.bool (bnok s), H) := by
  refine one_val (x := ReFns.c114) rfl rfl rfl rfl rfl ?_ H
  unfold bnok edge
  cases c1 : decide (1 ≤ s.length)
  · have c1' : decide ((s.length : Int) < 1) = true := by have := of_decide_eq_false c1; simp; omega
    simp only [c114, c1', rwA, rwB, Nat.reduceAdd, Nat.reduceMul, Nat.reduceLeDiff, Int.reduceEq, Int.reduceLT, Int.reduceLE, Int.reduceAdd, Int.reduceSub, Int.reduceMul, ↓reduceIte, Nat.reduceEqDiff, reduceCtorEq, ↓cnd_true, ↓cnd_false]
    try rfl
  · have h1 := of_decide_eq_true c1
    have c1' : decide ((s.length : Int) < 1) = false := by simp; omega
    cases c2 : decide (s.length ≤ 12)
    · have c2' : decide ((12 : Int) < (s.length : Int)) = true := by have := of_decide_eq_false c2; simp; omega
      simp only [c114, c1', c2', rwA, rwB, Nat.reduceAdd, Nat.reduceMul, Nat.reduceLeDiff, Int.reduceEq, Int.reduceLT, Int.reduceLE, Int.reduceAdd, Int.reduceSub, Int.reduceMul, ↓reduceIte, Nat.reduceEqDiff, reduceCtorEq, ↓cnd_true, ↓cnd_false]
      try rfl
    · have h2 := of_decide_eq_true c2
      have c2' : decide ((12 : Int) < (s.length : Int)) = false := by simp; omega
      have w1 : IntKind.i64.wrap ((s.length : Int) - 1) = ((s.length - 1 : Nat) : Int) := by rw [wrap_i64]; omega
      have a0 : aidx s.length (.int .i64 0) = some 0 := by simp only [aidx]; rw [if_pos ⟨by omega, by omega⟩]; rfl
      have a1 : aidx s.length (.int .i64 ((s.length - 1 : Nat) : Int)) = some (s.length - 1) := by simp only [aidx]; rw [if_pos ⟨by omega, by omega⟩]; rfl
      have g0 := head_get h1
      have g1 := last_get h1
      have e0 := u45 (s.headD 0)
      have e1 := u45 (s.getLastD 0)
      cases c3 : decide (s.headD 0 = 45) <;> cases c4 : decide (s.getLastD 0 = 45) <;> rw [c3] at e0 <;> rw [c4] at e1
      · simp only [c114, c1', c2', w1, a0, a1, g0, g1, e0, e1, rwA, rwB, Nat.reduceAdd, Nat.reduceMul, Nat.reduceLeDiff, Int.reduceEq, Int.reduceLT, Int.reduceLE, Int.reduceAdd, Int.reduceSub, Int.reduceMul, ↓reduceIte, Nat.reduceEqDiff, reduceCtorEq, ↓cnd_true, ↓cnd_false]
        repeat (first | refine outs_seq ?_ | refine outs_block ?_ | refine outs_step ?_ | refine outs_stepD ?_ | refine rets_end ?_ | refine ans_end ?_)
        refine (loop114 h2 ?_ ?_).mono ?_
        · simp only [rwA, rwB, Nat.reduceAdd, Nat.reduceMul, Nat.reduceLeDiff, Int.reduceEq, Int.reduceLT, Int.reduceLE, Int.reduceAdd, Int.reduceSub, Int.reduceMul, ↓reduceIte, Nat.reduceEqDiff, reduceCtorEq, ↓cnd_true, ↓cnd_false]
        · simp only [rwA, rwB, Nat.reduceAdd, Nat.reduceMul, Nat.reduceLeDiff, Int.reduceEq, Int.reduceLT, Int.reduceLE, Int.reduceAdd, Int.reduceSub, Int.reduceMul, ↓reduceIte, Nat.reduceEqDiff, reduceCtorEq, ↓cnd_true, ↓cnd_false]
        · rintro e env H (⟨rfl, e0⟩ | ⟨rfl, h2, e0⟩)
          · simp only [outs_some, e0, rwA, rwB, Nat.reduceAdd, Nat.reduceMul, Nat.reduceLeDiff, Int.reduceEq, Int.reduceLT, Int.reduceLE, Int.reduceAdd, Int.reduceSub, Int.reduceMul, ↓reduceIte, Nat.reduceEqDiff, reduceCtorEq, ↓cnd_true, ↓cnd_false]
            try rfl
          · simp only [outs_some, h2, e0, rwA, rwB, Nat.reduceAdd, Nat.reduceMul, Nat.reduceLeDiff, Int.reduceEq, Int.reduceLT, Int.reduceLE, Int.reduceAdd, Int.reduceSub, Int.reduceMul, ↓reduceIte, Nat.reduceEqDiff, reduceCtorEq, ↓cnd_true, ↓cnd_false]
            try rfl
      · simp only [c114, c1', c2', w1, a0, a1, g0, g1, e0, e1, rwA, rwB, Nat.reduceAdd, Nat.reduceMul, Nat.reduceLeDiff, Int.reduceEq, Int.reduceLT, Int.reduceLE, Int.reduceAdd, Int.reduceSub, Int.reduceMul, ↓reduceIte, Nat.reduceEqDiff, reduceCtorEq, ↓cnd_true, ↓cnd_false]
        try rfl
      · simp only [c114, c1', c2', w1, a0, a1, g0, g1, e0, e1, rwA, rwB, Nat.reduceAdd, Nat.reduceMul, Nat.reduceLeDiff, Int.reduceEq, Int.reduceLT, Int.reduceLE, Int.reduceAdd, Int.reduceSub, Int.reduceMul, ↓reduceIte, Nat.reduceEqDiff, reduceCtorEq, ↓cnd_true, ↓cnd_false]
        try rfl
      · simp only [c114, c1', c2', w1, a0, a1, g0, g1, e0, e1, rwA, rwB, Nat.reduceAdd, Nat.reduceMul, Nat.reduceLeDiff, Int.reduceEq, Int.reduceLT, Int.reduceLE, Int.reduceAdd, Int.reduceSub, Int.reduceMul, ↓reduceIte, Nat.reduceEqDiff, reduceCtorEq, ↓cnd_true, ↓cnd_false]
        try rfl

end Go.Proofs.Ytmicohgachjcgaa.Re
