/- The laws of the sectors: what they tell, and homes. -/
import Derived.Test.YtfmjdlahabgkpaaSef
import Derived.Test.YtfmjdlahabgkpaaAmCut
set_option maxRecDepth 100000
set_option linter.unusedSimpArgs false
set_option linter.unusedVariables false
set_option maxHeartbeats 4000000
namespace Go.Proofs.Ytfmjdlahabgkpaa.Sd
open Go Go.Proofs.Ytfmjdlahabgkpaa.Am SdFns Go.RowKit

theorem opened_bytes {s : Sec} (h : s.ok = true) (hw : s.wf) : opened s.bytes = s ∧ unfit s.bytes = 0 := by
  unfold opened unfit
  rw [fits_bytes h hw, if_pos rfl, if_pos rfl]
  exact ⟨had_bytes h hw, rfl⟩
theorem seal_ok {s : Sec} (h : s.ok = true) : s.sealb = s.bytes ∧ s.no = 0 := by unfold Sec.sealb Sec.no; rw [h]; exact ⟨rfl, rfl⟩
theorem seal_no {s : Sec} (h : s.ok = false) : s.sealb = [] ∧ s.no = 18 := by unfold Sec.sealb Sec.no; rw [h]; exact ⟨rfl, rfl⟩
theorem num1_u (n : Nat) : num 1 n = [UInt8.ofNat n] := by
  have : num 1 n = encl 1 n := by unfold num; rw [if_pos (by omega)]; rfl
  rw [this]
  simp [encl, List.range_succ]
theorem bytes_head (s : Sec) : ∃ l, s.bytes = UInt8.ofNat (un s.kind) :: l := by
  unfold Sec.bytes Sec.top
  rw [num1_u (un s.kind)]
  exact ⟨_, rfl⟩
theorem bytes_not {s : Sec} (h : s.ok = true) : decide (s.bytes = noughts 512) = false := by
  refine decide_eq_false fun he => ?_
  obtain ⟨l, hl⟩ := bytes_head s
  obtain ⟨⟨k0, k1⟩, _⟩ := ok_is h
  rw [hl] at he
  have hu : un s.kind = s.kind.toNat := un_nn (by omega) (by omega)
  have : UInt8.ofNat (un s.kind) = 0 := by
    have e2 : noughts 512 = 0 :: List.replicate 511 0 := rfl
    rw [e2] at he
    exact (List.cons.inj he).1
  have h2 := congrArg UInt8.toNat this
  rw [hu] at h2
  simp at h2
  omega
theorem fits_noughts : fits (noughts 512) = false := by
  unfold fits
  have : (had (noughts 512)).ok = false := by
    unfold had Sec.ok
    have : wi (wd (noughts 512) 0 1) = 0 := by decide +kernel
    rw [this]
    rfl
  rw [this]
  simp

/-- What belongs somewhere is had from there. -/
theorem home_back (a : Int) (t : List UInt8) (h : homeno a t = 0) : ofHome (home a t) a = t ∧ ofNo (home a t) a = 0 := by
  unfold homeno at h
  unfold home
  cases hh : homes a t
  · rw [hh] at h
    rw [if_neg (by simp)]
    rw [if_neg (by simp)] at h
    have ok : Sec.ok ⟨4, 0, 0, a, 0, t⟩ = true := by
      cases ok : Sec.ok ⟨4, 0, 0, a, 0, t⟩
      · rw [(seal_no ok).2] at h; cases h
      · rfl
    have z : (0 : Nat) < 18446744073709551616 := by decide
    have wf : Sec.wf ⟨4, 0, 0, a, 0, t⟩ := ⟨z, z⟩
    rw [(seal_ok ok).1]
    obtain ⟨e1, e2⟩ := opened_bytes ok wf
    unfold ofHome ofNo
    rw [bytes_not ok, e1, e2]
    have : isHome ⟨4, 0, 0, a, 0, t⟩ a = true := by unfold isHome; simp
    rw [this]
    exact ⟨rfl, rfl⟩
  · rw [if_pos rfl]
    unfold ofHome ofNo
    have : decide (noughts 512 = noughts 512) = true := by simp
    rw [this]
    refine ⟨?_, rfl⟩
    unfold homes at hh
    rw [Bool.and_eq_true] at hh
    exact (of_decide_eq_true hh.2).symm
theorem home_no (a : Int) (t : List UInt8) (h : decide (homeno a t = 0) = false) : home a t = [] := by
  unfold homeno at h
  unfold home
  cases hh : homes a t
  · rw [hh] at h
    rw [if_neg (by simp)] at h ⊢
    cases ok : Sec.ok ⟨4, 0, 0, a, 0, t⟩
    · exact (seal_no ok).1
    · rw [(seal_ok ok).2] at h; cases h
  · rw [hh, if_pos rfl] at h; cases h

/-! ### What lives() asks -/
def page9 : List UInt8 := List.replicate 480 9
def sec1 : Sec := ⟨2, 3, 258, 7, 1, page9⟩
theorem sec1_ok : sec1.ok = true := by decide +kernel
theorem page9_not : decide (page9 = noughts 480) = false := by decide +kernel
theorem U10 (H : AHeap) : AC A 10 [] H = some (.bool true, H) := by
  refine one_val (x := SdFns.c10) rfl rfl rfl rfl rfl ?_ H
  have p9 : ∀ H, AC A 43 [.int .u8 9] H = some (.str page9, H) := fun H => U43 9 H
  have p0 : ∀ H, AC A 43 [.int .u8 0] H = some (.str (noughts 480), H) := fun H => U43 0 H
  obtain ⟨s1, s2⟩ := seal_ok sec1_ok
  have a1 : ∀ H, AC A 11 [.agg [.int .i64 2, .int .u64 3, .int .u64 258, .int .i64 7, .int .i64 1, .str page9]] H = some (.tuple [.str sec1.bytes, .int .i64 0], H) := fun H => by
    have := U11 2 3 258 7 1 page9 H
    rw [show (⟨2, 3, 258, 7, 1, page9⟩ : Sec) = sec1 from rfl, s1, s2] at this
    exact this
  have a2 : ∀ H, AC A 14 [.str sec1.bytes] H = some (.tuple [.agg [.int .i64 2, .int .u64 3, .int .u64 258, .int .i64 7, .int .i64 1, .str page9], .int .i64 0], H) := fun H => by
    have := U14 sec1.bytes H
    obtain ⟨e1, e2⟩ := opened_bytes sec1_ok ⟨by decide, by decide⟩
    rw [e1, e2] at this
    exact this
  have a3 : ∀ H, AC A 11 [.agg [.int .i64 5, .int .u64 0, .int .u64 0, .int .i64 0, .int .i64 0, .str page9]] H = some (.tuple [.str [], .int .i64 18], H) := fun H => by
    have := U11 5 0 0 0 0 page9 H
    obtain ⟨e1, e2⟩ := seal_no (s := ⟨5, 0, 0, 0, 0, page9⟩) (by decide +kernel)
    rw [e1, e2] at this
    exact this
  have hn5 : homeno 5 page9 = 0 := by
    unfold homeno homes
    rw [page9_not, if_neg (by simp)]
    exact (seal_ok (s := ⟨4, 0, 0, 5, 0, page9⟩) (by decide +kernel)).2
  have he5 : home 5 page9 = Sec.bytes ⟨4, 0, 0, 5, 0, page9⟩ := by
    unfold home homes
    rw [page9_not, if_neg (by simp)]
    exact (seal_ok (s := ⟨4, 0, 0, 5, 0, page9⟩) (by decide +kernel)).1
  obtain ⟨b1, b2⟩ := home_back 5 page9 hn5
  have a4 : ∀ H, AC A 18 [.int .i64 5, .str page9] H = some (.tuple [.str (home 5 page9), .int .i64 0], H) := fun H => by rw [U18, hn5]
  have a5 : ∀ H, AC A 20 [.str (home 5 page9), .int .i64 5] H = some (.tuple [.str page9, .int .i64 0], H) := fun H => by rw [U20, b1, b2]
  have n6 : ofNo (home 5 page9) 6 = 19 := by
    rw [he5]
    unfold ofNo
    obtain ⟨e1, e2⟩ := opened_bytes (s := ⟨4, 0, 0, 5, 0, page9⟩) (by decide +kernel) ⟨by decide, by decide⟩
    rw [bytes_not (by decide +kernel), e1, e2]
    rfl
  have a6 : ∀ H, AC A 20 [.str (home 5 page9), .int .i64 6] H = some (.tuple [.str (ofHome (home 5 page9) 6), .int .i64 19], H) := fun H => by rw [U20, n6]
  have hz : homes 5 (noughts 480) = true := by decide +kernel
  have a7 : ∀ H, AC A 18 [.int .i64 5, .str (noughts 480)] H = some (.tuple [.str (noughts 512), .int .i64 0], H) := fun H => by
    rw [U18]; unfold home homeno; rw [hz]; rfl
  have l1 : sec1.bytes.length = 512 := by rw [bytes_len]; rfl
  have ht : sec1.top = [2, 0, 0, 7, 0, 1, 0, 0, 0, 0, 0, 0, 0, 0, 0, 3, 0, 0, 0, 0, 0, 0, 1, 2, 0, 0, 0, 0] := by decide +kernel
  have tops : ∀ i, i < 28 → sec1.bytes[i]? = sec1.top[i]? := fun i hi => by
    unfold Sec.bytes
    rw [List.getElem?_append_left (by rw [top_len]; exact hi)]
  have g0 : sec1.bytes[0]? = some 2 := by rw [tops 0 (by omega), ht]; rfl
  have g3 : sec1.bytes[3]? = some 7 := by rw [tops 3 (by omega), ht]; rfl
  have g5 : sec1.bytes[5]? = some 1 := by rw [tops 5 (by omega), ht]; rfl
  have g15 : sec1.bytes[15]? = some 3 := by rw [tops 15 (by omega), ht]; rfl
  have g22 : sec1.bytes[22]? = some 1 := by rw [tops 22 (by omega), ht]; rfl
  have g23 : sec1.bytes[23]? = some 2 := by rw [tops 23 (by omega), ht]; rfl
  have g32 : sec1.bytes[32]? = some 9 := by
    unfold Sec.bytes
    rw [← List.append_assoc, List.getElem?_append_right (by simp only [List.length_append, top_len, len4]; omega)]
    simp only [List.length_append, top_len, len4]
    rfl
  have i0 : aidx 512 (.int .i64 0) = some 0 := rfl
  have i3 : aidx 512 (.int .i64 3) = some 3 := rfl
  have i5 : aidx 512 (.int .i64 5) = some 5 := rfl
  have i15 : aidx 512 (.int .i64 15) = some 15 := rfl
  have i22 : aidx 512 (.int .i64 22) = some 22 := rfl
  have i23 : aidx 512 (.int .i64 23) = some 23 := rfl
  have i32 : aidx 512 (.int .i64 32) = some 32 := rfl
  have d9 : decide (page9 = page9) = true := by simp
  have dz : decide (noughts 512 = noughts 512) = true := by simp
  have lz : (noughts 512).length = 512 := by simp [noughts]
  have v : ∀ x : UInt8, AVal.int .u8 (x.toNat : Int) = .int .u8 (x.toNat : Int) := fun _ => rfl
  have c512 : decide (((512 : Nat) : Int) = 512) = true := by decide
  have t2 : decide (((2 : UInt8).toNat : Int) = 2) = true := by decide
  have t7 : decide (((7 : UInt8).toNat : Int) = 7) = true := by decide
  have t1 : decide (((1 : UInt8).toNat : Int) = 1) = true := by decide
  have t3 : decide (((3 : UInt8).toNat : Int) = 3) = true := by decide
  have t9 : decide (((9 : UInt8).toNat : Int) = 9) = true := by decide
  clear s1 s2 b1 b2
  have u44 := U44
  generalize sec1.bytes = B at *
  generalize home 5 page9 = B2 at *
  generalize ofHome B2 6 = B3 at *
  generalize page9 = P at *
  generalize noughts 512 = Z at *
  generalize noughts 480 = Y at *
  simp only [c10, p9, p0, a1, a2, a3, a4, a5, a6, a7, u44, l1, lz, c512, i0, i3, i5, i15, i22, i23, i32, g0, g3, g5, g15, g22, g23, g32, d9, dz, t2, t7, t1, t3, t9, Bool.and_self, rwA, rwB, Nat.reduceAdd, Nat.reduceMul, Nat.reduceLeDiff, Int.reduceEq, Int.reduceLT, Int.reduceLE, Int.reduceAdd, Int.reduceSub, Int.reduceMul, ↓reduceIte, Nat.reduceEqDiff, reduceCtorEq, ↓cnd_true, ↓cnd_false]

/-! ### The laws -/
theorem no_ok (s : Sec) : decide (s.no = 0) = s.ok := by unfold Sec.no; cases s.ok <;> rfl
theorem no_or (s : Sec) : s.ok = false → decide (s.no = 18) = true := by unfold Sec.no; intro h; rw [h]; rfl

theorem run3 (k : Int) (e n : Nat) (a m : Int) (p b : List UInt8) (he : e < 18446744073709551616) (hn : n < 18446744073709551616) (H : AHeap) :
    Ans (AC A 3 [.agg [.int .i64 k, .int .u64 (e : Int), .int .u64 (n : Int), .int .i64 a, .int .i64 m, .str p], .str b] H) (.bool true) := by
  rw [s_fn (A := A) (f := 3) (x := SdFns.c3) rfl rfl rfl]
  cases c1 : decide ((4096 : Int) < (p.length : Int))
  · cases c2 : decide ((4096 : Int) < (b.length : Int))
    · have u12 := U12 k e n a m p
      have u11 := U11 k e n a m p
      have u13 := U13 k e n a m p he hn
      have u16 := U16 k e n a m p
      have u17 := U17 k e n a m p
      have u14 := U14 b
      have u15 := U15 b
      have ho := no_ok ⟨k, e, n, a, m, p⟩
      have hn := no_or ⟨k, e, n, a, m, p⟩
      have dl : ∀ x : List UInt8, decide (x = x) = true := fun x => by simp
      have di : ∀ x : Int, decide (x = x) = true := fun x => by simp
      have db : ∀ x : Bool, (x == x) = true := fun x => by simp
      cases ho2 : opened b with
      | mk k2 e2 n2 a2 m2 p2 =>
        rw [ho2] at u14 u15
        simp only [Sec.cells] at u14 u15
        have v12 := U12 k2 e2 n2 a2 m2 p2
        generalize (e2 : Int) = e2 at *
        generalize (n2 : Int) = n2 at *
        generalize unfit b = w2 at *
        generalize Sec.sealb ⟨k, e, n, a, m, p⟩ = S at *
        generalize Sec.no ⟨k, e, n, a, m, p⟩ = W at *
        generalize Sec.ok ⟨k, e, n, a, m, p⟩ = O at *
        generalize (e : Int) = e at *
        generalize (n : Int) = n at *
        cases O
        · simp only [c3, c1, c2, u11, u12, u13, u16, u17, u14, u15, v12, U10, dl, di, db, ho, hn, Bool.and_self, rwA, rwB, Nat.reduceAdd, Nat.reduceMul, Nat.reduceLeDiff, Int.reduceEq, Int.reduceLT, Int.reduceLE, Int.reduceAdd, Int.reduceSub, Int.reduceMul, ↓reduceIte, Nat.reduceEqDiff, reduceCtorEq, ↓cnd_true, ↓cnd_false]
        · simp only [c3, c1, c2, u11, u12, u13, u16, u17, u14, u15, v12, U10, dl, di, db, ho, Bool.and_self, rwA, rwB, Nat.reduceAdd, Nat.reduceMul, Nat.reduceLeDiff, Int.reduceEq, Int.reduceLT, Int.reduceLE, Int.reduceAdd, Int.reduceSub, Int.reduceMul, ↓reduceIte, Nat.reduceEqDiff, reduceCtorEq, ↓cnd_true, ↓cnd_false]
    · simp only [c3, c1, c2, U10, rwA, rwB, Nat.reduceAdd, Nat.reduceMul, Nat.reduceLeDiff, Int.reduceEq, Int.reduceLT, Int.reduceLE, Int.reduceAdd, Int.reduceSub, Int.reduceMul, ↓reduceIte, Nat.reduceEqDiff, reduceCtorEq, ↓cnd_true, ↓cnd_false]
  · simp only [c3, c1, U10, rwA, rwB, Nat.reduceAdd, Nat.reduceMul, Nat.reduceLeDiff, Int.reduceEq, Int.reduceLT, Int.reduceLE, Int.reduceAdd, Int.reduceSub, Int.reduceMul, ↓reduceIte, Nat.reduceEqDiff, reduceCtorEq, ↓cnd_true, ↓cnd_false]

theorem run4 (a : Int) (t b : List UInt8) (g : Int) (H : AHeap) : Ans (AC A 4 [.int .i64 a, .str t, .str b, .int .i64 g] H) (.bool true) := by
  rw [s_fn (A := A) (f := 4) (x := SdFns.c4) rfl rfl rfl]
  have dl : ∀ x : List UInt8, decide (x = x) = true := fun x => by simp
  have di : ∀ x : Int, decide (x = x) = true := fun x => by simp
  cases c1 : decide ((4096 : Int) < (t.length : Int))
  · cases c2 : decide ((4096 : Int) < (b.length : Int))
    · have u18 := U18 a t
      have u19 := U19 a t
      have u20 := U20 b g
      have u21 := U21 b g
      cases c3' : decide (homeno a t = 0)
      · have hx := home_no a t c3'
        have nl : decide (([] : List UInt8) = []) = true := rfl
        rw [hx] at u18 u19
        generalize homeno a t = W at *
        generalize ofHome b g = Y at *
        generalize ofNo b g = Z at *
        simp only [c4, c1, c2, u18, u19, u20, u21, dl, di, c3', U10, nl, rwA, rwB, Nat.reduceAdd, Nat.reduceMul, Nat.reduceLeDiff, Int.reduceEq, Int.reduceLT, Int.reduceLE, Int.reduceAdd, Int.reduceSub, Int.reduceMul, ↓reduceIte, Nat.reduceEqDiff, reduceCtorEq, ↓cnd_true, ↓cnd_false]
      · obtain ⟨e1, e2⟩ := home_back a t (of_decide_eq_true c3')
        have v20 : ∀ H, AC A 20 [.str (home a t), .int .i64 a] H = some (.tuple [.str t, .int .i64 0], H) := fun H => by rw [U20, e1, e2]
        clear e1 e2
        generalize homeno a t = W at *
        generalize home a t = X at *
        generalize ofHome b g = Y at *
        generalize ofNo b g = Z at *
        simp only [c4, c1, c2, u18, u19, u20, u21, v20, dl, di, c3', U10, rwA, rwB, Nat.reduceAdd, Nat.reduceMul, Nat.reduceLeDiff, Int.reduceEq, Int.reduceLT, Int.reduceLE, Int.reduceAdd, Int.reduceSub, Int.reduceMul, ↓reduceIte, Nat.reduceEqDiff, reduceCtorEq, ↓cnd_true, ↓cnd_false]
    · simp only [c4, c1, c2, U10, rwA, rwB, Nat.reduceAdd, Nat.reduceMul, Nat.reduceLeDiff, Int.reduceEq, Int.reduceLT, Int.reduceLE, Int.reduceAdd, Int.reduceSub, Int.reduceMul, ↓reduceIte, Nat.reduceEqDiff, reduceCtorEq, ↓cnd_true, ↓cnd_false]
  · simp only [c4, c1, U10, rwA, rwB, Nat.reduceAdd, Nat.reduceMul, Nat.reduceLeDiff, Int.reduceEq, Int.reduceLT, Int.reduceLE, Int.reduceAdd, Int.reduceSub, Int.reduceMul, ↓reduceIte, Nat.reduceEqDiff, reduceCtorEq, ↓cnd_true, ↓cnd_false]

end Go.Proofs.Ytfmjdlahabgkpaa.Sd
