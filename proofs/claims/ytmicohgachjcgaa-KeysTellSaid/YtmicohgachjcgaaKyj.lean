/- The keys' chapter: what is opened is what was made. -/
import Derived.Test.YtmicohgachjcgaaKyi
import Derived.Test.YtmicohgachjcgaaReg
set_option maxRecDepth 100000
set_option linter.unusedSimpArgs false
set_option linter.unusedVariables false
set_option maxHeartbeats 4000000
namespace Go.Proofs.Ytmicohgachjcgaa.Re
open Go Go.Proofs.Ytmicohgachjcgaa.Am ReFns Go.RowKit

theorem kbe_from : ∀ (s : List UInt8) (n : Nat), s.foldl (fun n c => n * 256 + c.toNat) n = n * 256 ^ s.length + be s
  | [], n => by simp [be]
  | c :: s, n => by
    simp only [List.foldl_cons, List.length_cons, be]
    rw [kbe_from s, kbe_from s (0 * 256 + c.toNat), Nat.pow_succ]
    simp only [Nat.zero_mul, Nat.zero_add, Nat.add_mul]
    rw [Nat.mul_assoc n 256, Nat.mul_comm 256, Nat.add_assoc]
theorem kbe_encl : ∀ (w n : Nat), be (encl w n) = n % 256 ^ w
  | 0, n => by simp [encl, be, Nat.mod_one]
  | w + 1, n => by
    rw [encl_succ]
    have := kbe_from (encl w n) (UInt8.ofNat (n / 256 ^ w)).toNat
    have e : be (UInt8.ofNat (n / 256 ^ w) :: encl w n) = (UInt8.ofNat (n / 256 ^ w)).toNat * 256 ^ w + n % 256 ^ w := by
      unfold be
      simp only [List.foldl_cons, Nat.zero_mul, Nat.zero_add]
      rw [this, encl_len, kbe_encl w n]
    rw [e, Nat.mod_pow_succ]
    have : (UInt8.ofNat (n / 256 ^ w)).toNat = n / 256 ^ w % 256 := by simp
    rw [this, Nat.mul_comm, Nat.add_comm]
theorem be_num8 (n : Nat) (h : n < 18446744073709551616) : be (num 8 n) = n := by
  have e : num 8 n = encl 8 n := num_w' 8 (by omega) n
  rw [e, kbe_encl]; exact Nat.mod_eq_of_lt (by exact h)

/-! ### What a key's own kind reads -/
def rdName (k : Int) (r : List UInt8) : List UInt8 := if k = 3 then offZ (r.take (r.length - 8)) else []
def rdNr (k : Int) (r : List UInt8) : Nat := if k = 3 then off (r.drop (r.length - 8)) else if k = 4 then of r else if k = 5 then va (r, 0) 8 else 0
def rdPart (k : Int) (r : List UInt8) : Int := if k = 5 then IntKind.i64.wrap (va (st (r, 0) 8) 1 : Int) else 0

theorem max_len8 (n : Nat) (h : n ≤ 4611686018427387904) : max (IntKind.i64.wrap ((n : Int) - 8)) 0 = ((n - 8 : Nat) : Int) := by
  rw [wrap_i64]; omega
theorem min_len8 (n : Nat) (h : n ≤ 4611686018427387904) : IntKind.i64.wrap ((n : Int) - 8) = (n : Int) - 8 := by
  rw [wrap_i64]; omega

theorem U111 (k t : Int) (b r : List UInt8) (hr : r.length ≤ 4611686018427387904) (H : AHeap) : AC A 111 [.agg [.int .i64 k, .int .i64 t, .str b, .str [], .int .u64 0, .int .i64 0], .str r] H = some (.agg [.int .i64 k, .int .i64 t, .str b, .str (rdName k r), .int .u64 (rdNr k r : Int), .int .i64 (rdPart k r)], H) := by
  refine one_val (x := ReFns.c111) rfl rfl rfl rfl rfl ?_ H
  unfold rdName rdNr rdPart
  by_cases k3 : k = 3
  · subst k3
    have m := min_len8 r.length hr
    have mm : (if 0 > ((r.length : Int) - 8) then (0 : Int) else ((r.length : Int) - 8)) = ((r.length - 8 : Nat) : Int) := by split <;> omega
    have s1 := slc_hi r ((r.length - 8 : Nat) : Int) (by omega) (by omega)
    have s2 := slc_lo r ((r.length - 8 : Nat) : Int) (by omega) (by omega)
    rw [Int.toNat_natCast] at s1 s2
    have u136 := U136 (r.take (r.length - 8)) (by rw [List.length_take]; omega)
    have u20 := U20 (r.drop (r.length - 8))
    simp only [c111, m, mm, s1, s2, List.drop_zero, List.take_length, u136, u20, rwA, rwB, Nat.reduceAdd, Nat.reduceMul, Nat.reduceLeDiff, Int.reduceEq, Int.reduceLT, Int.reduceLE, Int.reduceAdd, Int.reduceSub, Int.reduceMul, ↓reduceIte, Nat.reduceEqDiff, reduceCtorEq, ↓cnd_true, ↓cnd_false]
  · have e3 : decide (k = 3) = false := decide_eq_false k3
    rw [if_neg k3, if_neg k3]
    by_cases k4 : k = 4
    · subst k4
      have u18 := U18 r
      simp only [c111, u18, rwA, rwB, Nat.reduceAdd, Nat.reduceMul, Nat.reduceLeDiff, Int.reduceEq, Int.reduceLT, Int.reduceLE, Int.reduceAdd, Int.reduceSub, Int.reduceMul, ↓reduceIte, Nat.reduceEqDiff, reduceCtorEq, ↓cnd_true, ↓cnd_false]
    · have e4 : decide (k = 4) = false := decide_eq_false k4
      rw [if_neg k4]
      by_cases k5 : k = 5
      · subst k5
        obtain ⟨H0, eH0⟩ : ∃ K, ((noH.new (.cells [.int .i64 5, .int .i64 t, .str b, .str [], .int .u64 0, .int .i64 0] true)).new (.cells [.int .i64 0, .int .i64 0, .str [], .str [], .int .u64 0, .int .i64 0] true)).new (rd r 0) = K := ⟨_, rfl⟩
        have o0 : H0.obj 0 = some (.cells [.int .i64 5, .int .i64 t, .str b, .str [], .int .u64 0, .int .i64 0] true) := by rw [← eH0]; simp [AHeap.new, noH]
        have o1 : H0.obj 1 = some (.cells [.int .i64 0, .int .i64 0, .str [], .str [], .int .u64 0, .int .i64 0] true) := by rw [← eH0]; simp [AHeap.new, noH]
        have r0 : Rs H0 2 (r, 0) := ⟨by unfold Rd; rw [← eH0]; simp [AHeap.new, noH, rd], by rw [← eH0]; simp [AHeap.new, noH]⟩
        obtain ⟨H1, q1, r1, k1⟩ := readS r0 8 (by omega)
        obtain ⟨H2, q2, r2, k2⟩ := readS r1 1 (by omega)
        have nH0 : H0.next = 3 := by rw [← eH0]; simp [AHeap.new, noH]
        have kk := k1.trans k2
        have p0 : H2.obj 0 = some (.cells [.int .i64 5, .int .i64 t, .str b, .str [], .int .u64 0, .int .i64 0] true) := by rw [kk.2 0 (by omega) (by omega)]; exact o0
        have p1 : H2.obj 1 = some (.cells [.int .i64 0, .int .i64 0, .str [], .str [], .int .u64 0, .int .i64 0] true) := by rw [kk.2 1 (by omega) (by omega)]; exact o1
        have q1' : AC A 34 [.ptr 2 0, .int .i64 8] H0 = some (.int .u64 (va (r, 0) 8 : Int), H1) := q1
        have q2' : AC A 34 [.ptr 2 0, .int .i64 1] H1 = some (.int .u64 (va (st (r, 0) 8) 1 : Int), H2) := q2
        simp only [c111, U32, eH0, q1', q2', p0, p1, rwA, rwB, Nat.reduceAdd, Nat.reduceMul, Nat.reduceLeDiff, Int.reduceEq, Int.reduceLT, Int.reduceLE, Int.reduceAdd, Int.reduceSub, Int.reduceMul, ↓reduceIte, Nat.reduceEqDiff, reduceCtorEq, ↓cnd_true, ↓cnd_false]
      · have e5 : decide (k = 5) = false := decide_eq_false k5
        rw [if_neg k5, if_neg k5]
        simp only [c111, e3, e4, e5, rwA, rwB, Nat.reduceAdd, Nat.reduceMul, Nat.reduceLeDiff, Int.reduceEq, Int.reduceLT, Int.reduceLE, Int.reduceAdd, Int.reduceSub, Int.reduceMul, ↓reduceIte, Nat.reduceEqDiff, reduceCtorEq, ↓cnd_true, ↓cnd_false]
        rfl

/-- The key that some bytes would be of. -/
def cand : List UInt8 → Key
  | c :: d :: r => ⟨kindOf c, d.toNat, ncutA r, rdName (kindOf c) (ncutB r), rdNr (kindOf c) (ncutB r), rdPart (kindOf c) (ncutB r)⟩
  | _ => ⟨0, 0, [], [], 0, 0⟩
def opnOk (s : List UInt8) : Bool := (cand s).right && decide ((cand s).bytes = s)
def opn (s : List UInt8) : Key := if opnOk s then cand s else ⟨0, 0, [], [], 0, 0⟩

theorem st8 (r : List UInt8) : (st (r, 0) 8).1.length ≤ r.length := by
  by_cases h : 8 ≤ r.length
  · rw [st_ok r 8 h]; simp
  · rw [st_short r 8 (by omega)]; simp
theorem va_lt (x : List UInt8 × Int) (w : Nat) (hw : 1 ≤ w ∧ w ≤ 8) : va x w < 18446744073709551616 := by
  unfold va
  have := raw_len x.1 x.2 (w : Int)
  rw [show wid (w : Int) = (w : Int) by unfold wid; rw [if_pos (by omega)]] at this
  exact be_lt8 _ this
theorem of_lt (r : List UInt8) : of r < 18446744073709551616 := by
  unfold of; split
  · exact be_lt8 r (by omega)
  · omega
theorem rdNr_lt (k : Int) (r : List UInt8) : rdNr k r < 18446744073709551616 := by
  unfold rdNr
  split
  · unfold off; split <;> omega
  · split
    · exact of_lt r
    · split
      · exact va_lt _ _ (by omega)
      · omega
theorem cand_nr (s : List UInt8) : (cand s).nr < 18446744073709551616 := by
  match s with
  | [] => exact (by decide : (0:Nat) < 18446744073709551616)
  | [_] => exact (by decide : (0:Nat) < 18446744073709551616)
  | c :: d :: r => exact rdNr_lt _ _

theorem cand_front {k t : Int} (hk : 1 ≤ k ∧ k ≤ 5) (ht : tenok t = true) (r : List UInt8) : cand (front k t ++ r) = ⟨k, t, ncutA r, rdName k (ncutB r), rdNr k (ncutB r), rdPart k (ncutB r)⟩ := by
  unfold front
  rw [num1]
  simp only [List.cons_append, List.nil_append, cand, kind_letter hk]
  have h1 := un_ten ht
  unfold tenok at ht
  simp only [Bool.and_eq_true, decide_eq_true_eq] at ht
  have e : ((UInt8.ofNat (un t)).toNat : Int) = t := by simp; omega
  rw [e]

theorem cand_bytes {k : Key} (h : k.right = true) (hn : k.nr < 18446744073709551616) : cand k.bytes = k := by
  have ht := right_ten h
  obtain ⟨hk, hb, hs, _, hp⟩ := right_is' h
  have hrb := fun h3 => right_bok h h3
  unfold Key.bytes
  rw [cand_front hk ht]
  have h0 := h
  obtain ⟨kk, t, b, s, n, p⟩ := k
  simp only at hk hb hs hn hp ht hrb ⊢
  have hk5 : kk = 1 ∨ kk = 2 ∨ kk = 3 ∨ kk = 4 ∨ kk = 5 := by omega
  unfold Key.right nilS at h
  simp only at h
  rcases hk5 with rfl | rfl | rfl | rfl | rfl
  · simp only [Int.reduceEq, ↓reduceIte, Bool.and_eq_true, decide_eq_true_eq] at h
    obtain ⟨_, ⟨⟨rfl, rfl⟩, rfl⟩, rfl⟩ := h
    rfl
  · simp only [Int.reduceEq, ↓reduceIte, Bool.and_eq_true, decide_eq_true_eq] at h
    obtain ⟨_, hb2, ⟨rfl, rfl⟩, rfl⟩ := h
    obtain ⟨e1, e2⟩ := cut_none b (bn_all hb2)
    simp only [Key.tail, Int.reduceEq, ↓reduceIte, List.append_nil, e1, e2, rdName, rdNr, rdPart]
  · simp only [Int.reduceEq, ↓reduceIte, Bool.and_eq_true, decide_eq_true_eq] at h
    obtain ⟨_, hb2, hs2, rfl⟩ := h
    have e := cut_zero b (s ++ 0 :: num 8 (18446744073709551615 - n)) (bn_all hb2)
    have lX : (num 8 (18446744073709551615 - n)).length = 8 := len8 _
    have bX := be_num8 (18446744073709551615 - n) (by omega)
    simp only [Key.tail, Int.reduceEq, ↓reduceIte, e.1, e.2, rdName, rdNr, rdPart]
    generalize num 8 (18446744073709551615 - n) = X at *
    have lt : (s ++ 0 :: X).length - 8 = (s ++ [0]).length := by simp only [List.length_append, List.length_cons, List.length_nil, lX]; omega
    have ec : s ++ 0 :: X = (s ++ [0]) ++ X := by simp
    rw [lt, ec, List.take_left, List.drop_left, offZ_cat]
    unfold off
    rw [if_pos lX, bX]
    congr 1
    omega
  · simp only [Int.reduceEq, ↓reduceIte, Bool.and_eq_true, decide_eq_true_eq] at h
    obtain ⟨_, hb2, rfl, rfl⟩ := h
    have e := cut_zero b (num 8 n) (bn_all hb2)
    simp only [Key.tail, Int.reduceEq, ↓reduceIte, e.1, e.2, rdName, rdNr, rdPart]
    unfold of
    rw [if_pos (len8 n), be_num8 n hn]
  · simp only [Int.reduceEq, ↓reduceIte, Bool.and_eq_true, decide_eq_true_eq] at h
    obtain ⟨_, hb2, ⟨hp1, hp2⟩, rfl⟩ := h
    have e := cut_zero b (num 8 n ++ num 1 (un p)) (bn_all hb2)
    simp only [Key.tail, Int.reduceEq, ↓reduceIte, e.1, e.2, rdName, rdNr, rdPart]
    have l8 : (num 8 n).length = 8 := len8 n
    have up := un_part (p := p) ⟨hp1, hp2⟩
    have hl : 8 ≤ (num 8 n ++ num 1 (un p)).length := by rw [List.length_append, l8]; omega
    have b8 := be_num8 n hn
    rw [st_ok _ 8 hl, va_ok _ 8 hl, num1]
    generalize num 8 n = X at *
    have t8 : (X ++ [UInt8.ofNat (un p)]).take 8 = X := by rw [← l8, List.take_left]
    have d8 : (X ++ [UInt8.ofNat (un p)]).drop 8 = [UInt8.ofNat (un p)] := by rw [← l8, List.drop_left]
    rw [t8, d8, b8, va_ok _ 1 (by simp)]
    have : be ([UInt8.ofNat (un p)].take 1) = un p := by
      simp [be]; omega
    rw [this, up]
    congr 1
    rw [wrap_i64] <;> omega

end Go.Proofs.Ytmicohgachjcgaa.Re
