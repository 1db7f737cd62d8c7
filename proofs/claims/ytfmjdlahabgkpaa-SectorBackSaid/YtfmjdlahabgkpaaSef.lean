/- The sectors: the reference's opening; homes; what lives() asks. -/
import Derived.Test.YtfmjdlahabgkpaaSed
set_option maxRecDepth 100000
set_option linter.unusedSimpArgs false
set_option linter.unusedVariables false
set_option maxHeartbeats 4000000
namespace Go.Proofs.Ytfmjdlahabgkpaa.Sd
open Go Go.Proofs.Ytfmjdlahabgkpaa.Am SdFns Go.RowKit

theorem wid2 : wid 2 = 2 := rfl
theorem wid8 : wid 8 = 8 := rfl
theorem be_at {b : List UInt8} {k w : Nat} (h : k + w ≤ b.length) : be (raw (b.drop k) 0 (w : Int)).2.2 = wd b k w := va_at h
theorem wd1 {b : List UInt8} (h : 1 ≤ b.length) : wd b 0 1 = (b[0]).toNat := by
  unfold wd
  rw [if_neg (by omega)]
  match b, h with
  | c :: l, _ => simp [be]

theorem U15 (b : List UInt8) (H : AHeap) : AC A 15 [.str b] H = some (.tuple [.agg (opened b).cells, .int .i64 (unfit b)], H) := by
  refine one_val (x := SdFns.c15) rfl rfl rfl rfl rfl ?_ H
  by_cases hl : b.length = 512
  · have c1 : decide ((b.length : Int) = 512) = true := by simp; omega
    have s2 := slc_lo b 2 (by omega) (by omega)
    have s4 := slc_lo b 4 (by omega) (by omega)
    have s8 := slc_lo b 8 (by omega) (by omega)
    have s16 := slc_lo b 16 (by omega) (by omega)
    have s32 := slc_lo b 32 (by omega) (by omega)
    have t2 : (2 : Int).toNat = 2 := rfl
    have t4 : (4 : Int).toNat = 4 := rfl
    have t8 : (8 : Int).toNat = 8 := rfl
    have t16 : (16 : Int).toNat = 16 := rfl
    have t32 : (32 : Int).toNat = 32 := rfl
    have v2 := U53 (b.drop 2) 0 2
    have v4 := U53 (b.drop 4) 0 2
    have v8 := U53 (b.drop 8) 0 8
    have v16 := U53 (b.drop 16) 0 8
    have b2 : be (raw (b.drop 2) 0 2).2.2 = wd b 2 2 := be_at (w := 2) (by omega)
    have b4 : be (raw (b.drop 4) 0 2).2.2 = wd b 4 2 := be_at (w := 2) (by omega)
    have b8 : be (raw (b.drop 8) 0 8).2.2 = wd b 8 8 := be_at (w := 8) (by omega)
    have b16 : be (raw (b.drop 16) 0 8).2.2 = wd b 16 8 := be_at (w := 8) (by omega)
    rw [wid2, b2] at v2
    rw [wid2, b4] at v4
    rw [wid8, b8] at v8
    rw [wid8, b16] at v16
    have ha : aidx b.length (.int .i64 0) = some 0 := by simp only [aidx]; rw [if_pos ⟨by omega, by omega⟩]; rfl
    have hg : b[0]? = some (b[0]'(by omega)) := List.getElem?_eq_getElem (by omega)
    have hk : IntKind.i64.wrap ((b[0]'(by omega)).toNat : Int) = wi (wd b 0 1) := by rw [wd1 (by omega)]; rfl
    have fa : IntKind.i64.wrap (wd b 2 2 : Int) = wi (wd b 2 2) := rfl
    have fm : IntKind.i64.wrap (wd b 4 2 : Int) = wi (wd b 4 2) := rfl
    obtain ⟨c, ec⟩ : ∃ c, b[0]'(by omega) = c := ⟨_, rfl⟩
    rw [ec] at hg hk
    have hd : had b = ⟨wi (wd b 0 1), wd b 8 8, wd b 16 8, wi (wd b 2 2), wi (wd b 4 2), b.drop 32⟩ := rfl
    have u13 := U13 (wi (wd b 0 1)) (wd b 8 8) (wd b 16 8) (wi (wd b 2 2)) (wi (wd b 4 2)) (b.drop 32) (wd_lt b 8 8 (by omega)) (wd_lt b 16 8 (by omega))
    rw [← hd] at u13
    have hz : ((had b).ok = false ∧ (had b).sealb = [] ∧ (had b).no = 18) ∨ ((had b).ok = true ∧ (had b).sealb = (had b).bytes ∧ (had b).no = 0) := by
      cases h : (had b).ok
      · exact .inl ⟨rfl, by unfold Sec.sealb; rw [h]; rfl, by unfold Sec.no; rw [h]; rfl⟩
      · exact .inr ⟨rfl, by unfold Sec.sealb; rw [h]; rfl, by unfold Sec.no; rw [h]; rfl⟩
    have no : fits b = false → unfit b = 19 ∧ (opened b).cells = [.int .i64 0, .int .u64 0, .int .u64 0, .int .i64 0, .int .i64 0, .str []] := fun h => ⟨by unfold unfit; rw [h]; rfl, by unfold opened; rw [h]; rfl⟩
    have yes : fits b = true → unfit b = 0 ∧ (opened b).cells = (had b).cells := fun h => ⟨by unfold unfit; rw [h]; rfl, by unfold opened; rw [h]; rfl⟩
    have hc : (had b).cells = [.int .i64 (wi (wd b 0 1)), .int .u64 (wd b 8 8 : Int), .int .u64 (wd b 16 8 : Int), .int .i64 (wi (wd b 2 2)), .int .i64 (wi (wd b 4 2)), .str (b.drop 32)] := rfl
    have hfit : fits b = ((had b).ok && decide ((had b).bytes = b)) := by unfold fits; rw [hl]; rfl
    rw [hc] at yes
    rw [hfit] at no yes
    generalize (had b).ok = O at *
    generalize (had b).bytes = B at *
    generalize (had b).sealb = S at *
    generalize (had b).no = N at *
    generalize wi (wd b 0 1) = k at *
    generalize (wd b 8 8 : Int) = e at *
    generalize (wd b 16 8 : Int) = n at *
    generalize wi (wd b 2 2) = a at *
    generalize wi (wd b 4 2) = m at *
    rcases hz with ⟨rfl, rfl, rfl⟩ | ⟨rfl, rfl, rfl⟩
    · obtain ⟨z1, z2⟩ := no rfl
      rw [z1, z2]
      simp only [c15, c1, s2, s4, s8, s16, s32, t2, t4, t8, t16, t32, List.take_length, v2, v4, v8, v16, ha, hg, hk, fa, fm, u13, rwA, rwB, Nat.reduceAdd, Nat.reduceMul, Nat.reduceLeDiff, Int.reduceEq, Int.reduceLT, Int.reduceLE, Int.reduceAdd, Int.reduceSub, Int.reduceMul, ↓reduceIte, Nat.reduceEqDiff, reduceCtorEq, ↓cnd_true, ↓cnd_false]
    · cases hB : decide (S = b)
      · obtain ⟨z1, z2⟩ := no (by rw [hB]; rfl)
        rw [z1, z2]
        simp only [c15, c1, s2, s4, s8, s16, s32, t2, t4, t8, t16, t32, List.take_length, v2, v4, v8, v16, ha, hg, hk, fa, fm, u13, hB, rwA, rwB, Nat.reduceAdd, Nat.reduceMul, Nat.reduceLeDiff, Int.reduceEq, Int.reduceLT, Int.reduceLE, Int.reduceAdd, Int.reduceSub, Int.reduceMul, ↓reduceIte, Nat.reduceEqDiff, reduceCtorEq, ↓cnd_true, ↓cnd_false]
      · obtain ⟨z1, z2⟩ := yes (by rw [hB]; rfl)
        rw [z1, z2]
        simp only [c15, c1, s2, s4, s8, s16, s32, t2, t4, t8, t16, t32, List.take_length, v2, v4, v8, v16, ha, hg, hk, fa, fm, u13, hB, rwA, rwB, Nat.reduceAdd, Nat.reduceMul, Nat.reduceLeDiff, Int.reduceEq, Int.reduceLT, Int.reduceLE, Int.reduceAdd, Int.reduceSub, Int.reduceMul, ↓reduceIte, Nat.reduceEqDiff, reduceCtorEq, ↓cnd_true, ↓cnd_false]
  · have c1 : decide ((b.length : Int) = 512) = false := by simp; omega
    have hf : fits b = false := by unfold fits; rw [decide_eq_false hl]; rfl
    have z1 : unfit b = 19 := by unfold unfit; rw [hf]; rfl
    have z2 : (opened b).cells = [.int .i64 0, .int .u64 0, .int .u64 0, .int .i64 0, .int .i64 0, .str []] := by unfold opened; rw [hf]; rfl
    rw [z1, z2]
    simp only [c15, c1, rwA, rwB, Nat.reduceAdd, Nat.reduceMul, Nat.reduceLeDiff, Int.reduceEq, Int.reduceLT, Int.reduceLE, Int.reduceAdd, Int.reduceSub, Int.reduceMul, ↓reduceIte, Nat.reduceEqDiff, reduceCtorEq, ↓cnd_true, ↓cnd_false]

/-! ### Where a page belongs -/
def noughts (n : Nat) : List UInt8 := List.replicate n 0
theorem pad512 : pad [] 512 = noughts 512 := by unfold pad; rw [if_neg (by simp)]; rfl
theorem pad480 : pad [] 480 = noughts 480 := by unfold pad; rw [if_neg (by simp)]; rfl
theorem U44 (H : AHeap) : AC A 44 [] H = some (.str (noughts 512), H) := by
  refine one_val (x := SdFns.c44) rfl rfl rfl rfl rfl ?_ H
  simp only [c44, U57, pad512, rwA, rwB, Nat.reduceAdd, Nat.reduceMul, Nat.reduceLeDiff, Int.reduceEq, Int.reduceLT, Int.reduceLE, Int.reduceAdd, Int.reduceSub, Int.reduceMul, ↓reduceIte, Nat.reduceEqDiff, reduceCtorEq, ↓cnd_true, ↓cnd_false]
theorem U56a (H : AHeap) : AC A 56 [.int .i64 512] H = some (.str (noughts 512), H) := by
  refine one_val (x := SdFns.c56) rfl rfl rfl rfl rfl ?_ H
  simp only [c56, U82, pad512, rwA, rwB, Nat.reduceAdd, Nat.reduceMul, Nat.reduceLeDiff, Int.reduceEq, Int.reduceLT, Int.reduceLE, Int.reduceAdd, Int.reduceSub, Int.reduceMul, ↓reduceIte, Nat.reduceEqDiff, reduceCtorEq, ↓cnd_true, ↓cnd_false]
theorem U56b (H : AHeap) : AC A 56 [.int .i64 480] H = some (.str (noughts 480), H) := by
  refine one_val (x := SdFns.c56) rfl rfl rfl rfl rfl ?_ H
  simp only [c56, U82, pad480, rwA, rwB, Nat.reduceAdd, Nat.reduceMul, Nat.reduceLeDiff, Int.reduceEq, Int.reduceLT, Int.reduceLE, Int.reduceAdd, Int.reduceSub, Int.reduceMul, ↓reduceIte, Nat.reduceEqDiff, reduceCtorEq, ↓cnd_true, ↓cnd_false]
theorem all_noughts (t : List UInt8) : t.all (· == 0) = true ↔ t = noughts t.length := by
  unfold noughts
  rw [List.eq_replicate_iff, List.all_eq_true]
  simp

def homes (a : Int) (t : List UInt8) : Bool := short a && decide (t = noughts 480)
def home (a : Int) (t : List UInt8) : List UInt8 := if homes a t then noughts 512 else Sec.sealb ⟨4, 0, 0, a, 0, t⟩
def homeno (a : Int) (t : List UInt8) : Int := if homes a t then 0 else Sec.no ⟨4, 0, 0, a, 0, t⟩
theorem homes_is (a : Int) (t : List UInt8) : (Sec.ok ⟨4, 0, 0, a, 0, t⟩ && t.all (· == 0)) = homes a t := by
  have h4 : decide ((0 : Int) < 4) = true := rfl
  have h5 : decide ((4 : Int) < 5) = true := rfl
  have h0 : short 0 = true := rfl
  unfold homes Sec.ok
  simp only [h4, h5, h0, Bool.true_and, Bool.and_true]
  rw [Bool.and_assoc]
  congr 1
  rw [Bool.eq_iff_iff]
  simp only [Bool.and_eq_true, decide_eq_true_eq, all_noughts]
  constructor
  · rintro ⟨h1, h2⟩
    rw [h1] at h2
    exact h2
  · intro h
    have hl : t.length = 480 := by rw [h]; simp [noughts]
    exact ⟨hl, by rw [hl]; exact h⟩

theorem U18 (a : Int) (t : List UInt8) (H : AHeap) : AC A 18 [.int .i64 a, .str t] H = some (.tuple [.str (home a t), .int .i64 (homeno a t)], H) := by
  refine one_val (x := SdFns.c18) rfl rfl rfl rfl rfl ?_ H
  have hh := homes_is a t
  have u16 := U16 4 0 0 a 0 t
  have u11 := U11 4 0 0 a 0 t
  have z : (((0 : Nat)) : Int) = 0 := rfl
  rw [z] at u16 u11
  unfold home homeno
  rw [← hh]
  have hn : Sec.no ⟨4, 0, 0, a, 0, t⟩ = if Sec.ok ⟨4, 0, 0, a, 0, t⟩ then 0 else 18 := rfl
  cases c1 : Sec.ok ⟨4, 0, 0, a, 0, t⟩
  · rw [c1] at hn
    have hn : Sec.no ⟨4, 0, 0, a, 0, t⟩ = 18 := hn
    simp only [c18, u16, u11, hn, rwA, rwB, Nat.reduceAdd, Nat.reduceMul, Nat.reduceLeDiff, Int.reduceEq, Int.reduceLT, Int.reduceLE, Int.reduceAdd, Int.reduceSub, Int.reduceMul, ↓reduceIte, Nat.reduceEqDiff, reduceCtorEq, ↓cnd_true, ↓cnd_false]
    try rfl
  · rw [c1] at hn
    have hn : Sec.no ⟨4, 0, 0, a, 0, t⟩ = 0 := hn
    cases c2 : t.all (· == 0)
    · simp only [c18, u16, u11, hn, U55, c2, rwA, rwB, Nat.reduceAdd, Nat.reduceMul, Nat.reduceLeDiff, Int.reduceEq, Int.reduceLT, Int.reduceLE, Int.reduceAdd, Int.reduceSub, Int.reduceMul, ↓reduceIte, Nat.reduceEqDiff, reduceCtorEq, ↓cnd_true, ↓cnd_false]
      try rfl
    · simp only [c18, u16, hn, U55, c2, U44, rwA, rwB, Nat.reduceAdd, Nat.reduceMul, Nat.reduceLeDiff, Int.reduceEq, Int.reduceLT, Int.reduceLE, Int.reduceAdd, Int.reduceSub, Int.reduceMul, ↓reduceIte, Nat.reduceEqDiff, reduceCtorEq, ↓cnd_true, ↓cnd_false]
      try rfl

theorem U19 (a : Int) (t : List UInt8) (H : AHeap) : AC A 19 [.int .i64 a, .str t] H = some (.tuple [.str (home a t), .int .i64 (homeno a t)], H) := by
  refine one_val (x := SdFns.c19) rfl rfl rfl rfl rfl ?_ H
  have u13 := U13 4 0 0 a 0 t (by decide) (by decide)
  have z : (((0 : Nat)) : Int) = 0 := rfl
  rw [z] at u13
  unfold home homeno homes short
  cases c1 : decide (0 ≤ a) <;> cases c2 : decide (a ≤ 65535) <;> cases c3 : decide (t = noughts 480) <;> simp only [c19, c1, c2, c3, u13, U56a, U56b, rwA, rwB, Nat.reduceAdd, Nat.reduceMul, Nat.reduceLeDiff, Int.reduceEq, Int.reduceLT, Int.reduceLE, Int.reduceAdd, Int.reduceSub, Int.reduceMul, ↓reduceIte, Nat.reduceEqDiff, reduceCtorEq, ↓cnd_true, ↓cnd_false] <;> rfl

def isHome (s : Sec) (g : Int) : Bool := (((decide (s.kind = 4) && decide ((s.epoch : Int) = 0)) && decide ((s.number : Int) = 0)) && decide (s.at' = g)) && decide (s.many = 0)
def ofHome (b : List UInt8) (g : Int) : List UInt8 := if decide (b = noughts 512) then noughts 480 else if (decide (unfit b = 0) && isHome (opened b) g) then (opened b).page else []
def ofNo (b : List UInt8) (g : Int) : Int := if decide (b = noughts 512) then 0 else if (decide (unfit b = 0) && isHome (opened b) g) then 0 else 19

theorem U20 (b : List UInt8) (g : Int) (H : AHeap) : AC A 20 [.str b, .int .i64 g] H = some (.tuple [.str (ofHome b g), .int .i64 (ofNo b g)], H) := by
  refine one_val (x := SdFns.c20) rfl rfl rfl rfl rfl ?_ H
  unfold ofHome ofNo
  have v14 := U14 b
  have dp : ∀ p : List UInt8, decide (p = p) = true := fun p => by simp
  cases c1 : decide (b = noughts 512)
  · cases ho : opened b with
    | mk k e n a m p =>
      rw [ho] at v14
      simp only [Sec.cells] at v14
      unfold isHome
      generalize (e : Int) = e at *
      generalize (n : Int) = n at *
      generalize unfit b = w at *
      cases c2 : decide (w = 0)
      · simp only [c20, c1, v14, c2, U44, rwA, rwB, Nat.reduceAdd, Nat.reduceMul, Nat.reduceLeDiff, Int.reduceEq, Int.reduceLT, Int.reduceLE, Int.reduceAdd, Int.reduceSub, Int.reduceMul, ↓reduceIte, Nat.reduceEqDiff, reduceCtorEq, ↓cnd_true, ↓cnd_false]
        try rfl
      · cases d1 : decide (k = 4) <;> cases d2 : decide (e = 0) <;> cases d3 : decide (n = 0) <;> cases d4 : decide (a = g) <;> cases d5 : decide (m = 0) <;> simp only [c20, c1, v14, c2, U44, d1, d2, d3, d4, d5, dp, Bool.false_and, Bool.true_and, Bool.and_false, rwA, rwB, Nat.reduceAdd, Nat.reduceMul, Nat.reduceLeDiff, Int.reduceEq, Int.reduceLT, Int.reduceLE, Int.reduceAdd, Int.reduceSub, Int.reduceMul, ↓reduceIte, Nat.reduceEqDiff, reduceCtorEq, ↓cnd_true, ↓cnd_false] <;> rfl
  · simp only [c20, c1, U44, U57, pad480, rwA, rwB, Nat.reduceAdd, Nat.reduceMul, Nat.reduceLeDiff, Int.reduceEq, Int.reduceLT, Int.reduceLE, Int.reduceAdd, Int.reduceSub, Int.reduceMul, ↓reduceIte, Nat.reduceEqDiff, reduceCtorEq, ↓cnd_true, ↓cnd_false]
    try rfl

theorem U21 (b : List UInt8) (g : Int) (H : AHeap) : AC A 21 [.str b, .int .i64 g] H = some (.tuple [.str (ofHome b g), .int .i64 (ofNo b g)], H) := by
  refine one_val (x := SdFns.c21) rfl rfl rfl rfl rfl ?_ H
  unfold ofHome ofNo
  have v15 := U15 b
  cases c1 : decide (b = noughts 512)
  · cases ho : opened b with
    | mk k e n a m p =>
      rw [ho] at v15
      simp only [Sec.cells] at v15
      unfold isHome
      generalize (e : Int) = e at *
      generalize (n : Int) = n at *
      generalize unfit b = w at *
      cases c2 : decide (w = 0)
      · simp only [c21, c1, v15, c2, U56a, rwA, rwB, Nat.reduceAdd, Nat.reduceMul, Nat.reduceLeDiff, Int.reduceEq, Int.reduceLT, Int.reduceLE, Int.reduceAdd, Int.reduceSub, Int.reduceMul, ↓reduceIte, Nat.reduceEqDiff, reduceCtorEq, ↓cnd_true, ↓cnd_false]
        try rfl
      · cases d1 : decide (k = 4) <;> cases d2 : decide (e = 0) <;> cases d3 : decide (n = 0) <;> cases d4 : decide (a = g) <;> cases d5 : decide (m = 0) <;> simp only [c21, c1, v15, c2, U56a, d1, d2, d3, d4, d5, rwA, rwB, Nat.reduceAdd, Nat.reduceMul, Nat.reduceLeDiff, Int.reduceEq, Int.reduceLT, Int.reduceLE, Int.reduceAdd, Int.reduceSub, Int.reduceMul, ↓reduceIte, Nat.reduceEqDiff, reduceCtorEq, ↓cnd_true, ↓cnd_false] <;> rfl
  · simp only [c21, c1, U56a, U56b, rwA, rwB, Nat.reduceAdd, Nat.reduceMul, Nat.reduceLeDiff, Int.reduceEq, Int.reduceLT, Int.reduceLE, Int.reduceAdd, Int.reduceSub, Int.reduceMul, ↓reduceIte, Nat.reduceEqDiff, reduceCtorEq, ↓cnd_true, ↓cnd_false]
    try rfl

/-! ### A page of one byte -/
def b43 : ACode := (.seq (.region [⟨(some 9), (.bin .lss (.tmp 8) (.tmp 7)), none, none⟩]) (.seq (.cond (.tmp 9) .skip (.exit 0)) (.seq (.block 1 (.seq (.region [⟨(some 10), (.mv (.tmp 8)), none, none⟩, ⟨(some 4), (.mv (.tmp 10)), none, none⟩]) (.region [⟨(some 11), (.mv (.tmp 3)), none, none⟩, ⟨(some 12), (.mv (.tmp 4)), none, none⟩, ⟨(some 13), (.mv (.tmp 0)), none, none⟩, ⟨(some 14), (.idxASl 1 (.tmp 11) (.tmp 12)), none, none⟩, ⟨none, (.store 1 (.tmp 14) (.tmp 13)), none, none⟩]))) (.region [⟨(some 15), (.bin .add (.tmp 8) (.con (.int .i64 1))), none, none⟩, ⟨(some 8), (.mv (.tmp 15)), none, none⟩]))))
theorem loop43 {c : UInt8} {env : Env} {H : AHeap} {l : List AVal} (h0 : env 0 = by8 c) (h3 : env 3 = .slice 0 0 480 480 none) (h7 : env 7 = .int .i64 480) (h8 : env 8 = .int .i64 0) (ho : H.obj 0 = some (.cells l true)) (hl : l.length = 480) :
    Outs (AX A (.loop b43) env H) fun e env' H' => e = .exit 0 ∧ env' 3 = .slice 0 0 480 480 none ∧ H'.obj 0 = some (.cells ((List.replicate 480 c).map by8) true) := by
  refine loop_ends (I := fun (j : Nat) env' H' => j ≤ 480 ∧ env' 0 = by8 c ∧ env' 3 = .slice 0 0 480 480 none ∧ env' 7 = .int .i64 480 ∧ env' 8 = .int .i64 (j : Int) ∧ ∃ l, H'.obj 0 = some (.cells l true) ∧ l.length = 480 ∧ ∀ i, i < j → l[i]? = some (by8 c)) (fun j => 480 - j) ?_ 0 env H ⟨by decide, h0, h3, h7, h8, l, ho, hl, fun i h => by omega⟩
  rintro j env' H' ⟨hj, h0, h3, h7, h8, l, ho, hl, hk⟩
  by_cases hlt : j < 480
  · have e1 : decide ((j : Int) < 480) = true := by simp; omega
    have w1 : IntKind.i64.wrap ((j : Int) + 1) = ((j + 1 : Nat) : Int) := by rw [wrap_i64]; omega
    have ha : aidx 480 (.int .i64 (j : Int)) = some j := by simp only [aidx]; rw [if_pos ⟨by omega, by omega⟩]; rfl
    have st := store_one H' 0 j (by8 c) l (by omega)
    simp only [b43, h0, h3, h7, h8, e1, w1, ha, ho, c_8, t_8, st, rwA, rwB, Nat.reduceAdd, Nat.reduceMul, Nat.reduceLeDiff, Int.reduceEq, Int.reduceLT, Int.reduceLE, Int.reduceAdd, Int.reduceSub, Int.reduceMul, ↓reduceIte, Nat.reduceEqDiff, reduceCtorEq, ↓cnd_true, ↓cnd_false]
    rw [outs_some]
    refine .inl ⟨rfl, j + 1, by omega, by omega, by simp only [h0, rwA, rwB, Nat.reduceAdd, Nat.reduceMul, Nat.reduceLeDiff, Int.reduceEq, Int.reduceLT, Int.reduceLE, Int.reduceAdd, Int.reduceSub, Int.reduceMul, ↓reduceIte, Nat.reduceEqDiff, reduceCtorEq, ↓cnd_true, ↓cnd_false], by simp only [h3, rwA, rwB, Nat.reduceAdd, Nat.reduceMul, Nat.reduceLeDiff, Int.reduceEq, Int.reduceLT, Int.reduceLE, Int.reduceAdd, Int.reduceSub, Int.reduceMul, ↓reduceIte, Nat.reduceEqDiff, reduceCtorEq, ↓cnd_true, ↓cnd_false], by simp only [h7, rwA, rwB, Nat.reduceAdd, Nat.reduceMul, Nat.reduceLeDiff, Int.reduceEq, Int.reduceLT, Int.reduceLE, Int.reduceAdd, Int.reduceSub, Int.reduceMul, ↓reduceIte, Nat.reduceEqDiff, reduceCtorEq, ↓cnd_true, ↓cnd_false], by simp only [rwA, rwB, Nat.reduceAdd, Nat.reduceMul, Nat.reduceLeDiff, Int.reduceEq, Int.reduceLT, Int.reduceLE, Int.reduceAdd, Int.reduceSub, Int.reduceMul, ↓reduceIte, Nat.reduceEqDiff, reduceCtorEq, ↓cnd_true, ↓cnd_false], l.set j (by8 c), by simp only [rwA, rwB, Nat.reduceAdd, Nat.reduceMul, Nat.reduceLeDiff, Int.reduceEq, Int.reduceLT, Int.reduceLE, Int.reduceAdd, Int.reduceSub, Int.reduceMul, ↓reduceIte, Nat.reduceEqDiff, reduceCtorEq, ↓cnd_true, ↓cnd_false], by rw [List.length_set]; exact hl, fun i hi => ?_⟩
    by_cases h : i = j
    · subst h; rw [List.getElem?_set_self (by omega)]
    · rw [List.getElem?_set_ne (by omega)]; exact hk i (by omega)
  · have e1 : decide ((j : Int) < 480) = false := by simp; omega
    have : j = 480 := by omega
    subst this
    simp only [b43, h7, h8, e1, rwA, rwB, Nat.reduceAdd, Nat.reduceMul, Nat.reduceLeDiff, Int.reduceEq, Int.reduceLT, Int.reduceLE, Int.reduceAdd, Int.reduceSub, Int.reduceMul, ↓reduceIte, Nat.reduceEqDiff, reduceCtorEq, ↓cnd_true, ↓cnd_false]
    rw [outs_some]
    refine .inr ⟨by simp, rfl, by simp only [h3, rwA, rwB, Nat.reduceAdd, Nat.reduceMul, Nat.reduceLeDiff, Int.reduceEq, Int.reduceLT, Int.reduceLE, Int.reduceAdd, Int.reduceSub, Int.reduceMul, ↓reduceIte, Nat.reduceEqDiff, reduceCtorEq, ↓cnd_true, ↓cnd_false], ?_⟩
    rw [ho]
    congr 2
    rw [List.map_replicate, List.eq_replicate_iff]
    refine ⟨hl, fun x hx => ?_⟩
    obtain ⟨i, hi, rfl⟩ := List.mem_iff_getElem.1 hx
    have := hk i (by omega)
    rw [List.getElem?_eq_getElem hi] at this
    exact Option.some.inj this

theorem U43 (c : UInt8) (H : AHeap) : AC A 43 [by8 c] H = some (.str (List.replicate 480 c), H) := by
  refine one_val (x := SdFns.c43) rfl rfl rfl rfl rfl ?_ H
  have m := mk8 480 (by decide) noH
  have z : ((480 : Nat) : Int) = 480 := rfl
  rw [z] at m
  simp only [c43, m, rwA, rwB, Nat.reduceAdd, Nat.reduceMul, Nat.reduceLeDiff, Int.reduceEq, Int.reduceLT, Int.reduceLE, Int.reduceAdd, Int.reduceSub, Int.reduceMul, ↓reduceIte, Nat.reduceEqDiff, reduceCtorEq, ↓cnd_true, ↓cnd_false]
  repeat (first | refine outs_seq ?_ | refine outs_block ?_ | refine outs_step ?_ | refine outs_stepD ?_ | refine rets_end ?_ | refine ans_end ?_)
  refine (loop43 (c := c) (l := List.replicate 480 (by8 0)) ?_ ?_ ?_ ?_ ?_ ?_).mono ?_
  · simp only [rwA, rwB, Nat.reduceAdd, Nat.reduceMul, Nat.reduceLeDiff, Int.reduceEq, Int.reduceLT, Int.reduceLE, Int.reduceAdd, Int.reduceSub, Int.reduceMul, ↓reduceIte, Nat.reduceEqDiff, reduceCtorEq, ↓cnd_true, ↓cnd_false]
  · simp only [rwA, rwB, Nat.reduceAdd, Nat.reduceMul, Nat.reduceLeDiff, Int.reduceEq, Int.reduceLT, Int.reduceLE, Int.reduceAdd, Int.reduceSub, Int.reduceMul, ↓reduceIte, Nat.reduceEqDiff, reduceCtorEq, ↓cnd_true, ↓cnd_false]
  · simp only [rwA, rwB, Nat.reduceAdd, Nat.reduceMul, Nat.reduceLeDiff, Int.reduceEq, Int.reduceLT, Int.reduceLE, Int.reduceAdd, Int.reduceSub, Int.reduceMul, ↓reduceIte, Nat.reduceEqDiff, reduceCtorEq, ↓cnd_true, ↓cnd_false]
    rfl
  · simp only [rwA, rwB, Nat.reduceAdd, Nat.reduceMul, Nat.reduceLeDiff, Int.reduceEq, Int.reduceLT, Int.reduceLE, Int.reduceAdd, Int.reduceSub, Int.reduceMul, ↓reduceIte, Nat.reduceEqDiff, reduceCtorEq, ↓cnd_true, ↓cnd_false]
  · simp only [rwA, rwB, Nat.reduceAdd, Nat.reduceMul, Nat.reduceLeDiff, Int.reduceEq, Int.reduceLT, Int.reduceLE, Int.reduceAdd, Int.reduceSub, Int.reduceMul, ↓reduceIte, Nat.reduceEqDiff, reduceCtorEq, ↓cnd_true, ↓cnd_false]
  · rw [List.length_replicate]
  · rintro e env H ⟨rfl, h3, ho⟩
    have hs : Sl H 1 (.slice 0 0 480 480 none) ((List.replicate 480 c).map by8) := .inr ⟨0, 0, 480, 480, none, rfl, by simp, .inr ⟨_, true, ho, by simp, by simp⟩⟩
    simp only [outs_some, h3, bToS_sl hs, rwA, rwB, Nat.reduceAdd, Nat.reduceMul, Nat.reduceLeDiff, Int.reduceEq, Int.reduceLT, Int.reduceLE, Int.reduceAdd, Int.reduceSub, Int.reduceMul, ↓reduceIte, Nat.reduceEqDiff, reduceCtorEq, ↓cnd_true, ↓cnd_false]

end Go.Proofs.Ytfmjdlahabgkpaa.Sd
