/- The keys' chapter: the reference's Open, and the law. -/
import Derived.Test.YtmicohgachjcgaaKyn
set_option maxRecDepth 100000
set_option linter.unusedSimpArgs false
set_option linter.unusedVariables false
set_option maxHeartbeats 4000000
namespace Go.Proofs.Ytmicohgachjcgaa.Re
open Go Go.Proofs.Ytmicohgachjcgaa.Am ReFns Go.RowKit

/-! ### What the reference reads -/
def rrNr (k : Int) (r : List UInt8) : Nat := if k = 3 then 18446744073709551615 - va (ncutB r, 0) 8 else if 3 < k then va (r, 0) 8 else 0
def rrName (k : Int) (r : List UInt8) : List UInt8 := if k = 3 then ncutA r else []
def rcand : List UInt8 → Key
  | c :: d :: r => ⟨kindOf c, d.toNat, ncutA r, rrName (kindOf c) (ncutB r), rrNr (kindOf c) (ncutB r), rdPart (kindOf c) (ncutB r)⟩
  | _ => ⟨0, 0, [], [], 0, 0⟩
theorem rcand_front {k t : Int} (hk : 1 ≤ k ∧ k ≤ 5) (ht : tenok t = true) (r : List UInt8) : rcand (front k t ++ r) = ⟨k, t, ncutA r, rrName k (ncutB r), rrNr k (ncutB r), rdPart k (ncutB r)⟩ := by
  unfold front
  rw [num1]
  simp only [List.cons_append, List.nil_append, rcand, kind_letter hk]
  have h1 := un_ten ht
  unfold tenok at ht
  simp only [Bool.and_eq_true, decide_eq_true_eq] at ht
  have e : ((UInt8.ofNat (un t)).toNat : Int) = t := by simp; omega
  rw [e]
theorem rrNr_lt (k : Int) (r : List UInt8) : rrNr k r < 18446744073709551616 := by
  unfold rrNr
  split
  · omega
  · split
    · exact va_lt _ _ (by omega)
    · omega
theorem rcand_bytes {k : Key} (h : k.right = true) (hn : k.nr < 18446744073709551616) : rcand k.bytes = k := by
  have hc := cand_bytes h hn
  have ht := right_ten h
  obtain ⟨hk, hb, hs, _, hp⟩ := right_is' h
  unfold Key.bytes at hc ⊢
  rw [cand_front hk ht] at hc
  rw [rcand_front hk ht]
  obtain ⟨kk, t, b, s, n, p⟩ := k
  simp only at hk hb hs hn hp ht hc ⊢
  injection hc with _ _ h3 h4 h5 h6
  have hbk := fun (h3 : (3 : Int) ≤ kk) => right_bok h h3
  simp only at hbk
  have goal : rrName kk (ncutB (b ++ Key.tail ⟨kk, t, b, s, n, p⟩)) = s ∧ rrNr kk (ncutB (b ++ Key.tail ⟨kk, t, b, s, n, p⟩)) = n := by
    by_cases k3 : kk = 3
    · subst k3
      have hs2 := (right3 h).1
      have e := cut_zero b (s ++ 0 :: num 8 (18446744073709551615 - n)) (bn_all (hbk (by omega)))
      have e2 := cut_zero s (num 8 (18446744073709551615 - n)) (keyok_all hs2)
      have ht3 : Key.tail ⟨3, t, b, s, n, p⟩ = 0 :: (s ++ 0 :: num 8 (18446744073709551615 - n)) := by unfold Key.tail; rw [if_pos rfl]
      rw [ht3, e.2]
      unfold rrName rrNr
      rw [if_pos rfl, if_pos rfl, e2.1, e2.2, va_ok _ 8 (by rw [len8]; omega), List.take_of_length_le (by rw [len8]; omega), be_num8 _ (by omega)]
      exact ⟨rfl, by omega⟩
    · unfold rdName at h4
      unfold rdNr at h5
      rw [if_neg k3] at h4 h5
      unfold rrName rrNr
      rw [if_neg k3, if_neg k3]
      refine ⟨h4, ?_⟩
      by_cases k4 : kk = 4
      · subst k4
        rw [if_pos rfl] at h5
        rw [if_pos (by omega)]
        have ht4 : Key.tail ⟨4, t, b, s, n, p⟩ = 0 :: num 8 n := by unfold Key.tail; rw [if_neg (by simp), if_pos rfl]
        rw [ht4, (cut_zero b (num 8 n) (bn_all (hbk (by omega)))).2, va_ok _ 8 (by rw [len8]; omega), List.take_of_length_le (by rw [len8]; omega), be_num8 _ hn]
      · rw [if_neg k4] at h5
        by_cases k5 : kk = 5
        · rw [if_pos k5] at h5
          rw [if_pos (by omega)]
          exact h5
        · rw [if_neg k5] at h5
          rw [if_neg (by omega)]
          exact h5
  rw [h3, goal.1, goal.2, h6]

theorem ropn (s : List UInt8) : opn s = (if (rcand s).right && decide ((rcand s).bytes = s) then rcand s else ⟨0, 0, [], [], 0, 0⟩) ∧ opnOk s = ((rcand s).right && decide ((rcand s).bytes = s)) := by
  have hnr : (rcand s).nr < 18446744073709551616 := by
    match s with
    | [] => exact (by decide : (0:Nat) < 18446744073709551616)
    | [_] => exact (by decide : (0:Nat) < 18446744073709551616)
    | c :: d :: r => exact rrNr_lt _ _
  cases hR : (rcand s).right && decide ((rcand s).bytes = s)
  · have hO : opnOk s = false := by
      cases hO : opnOk s
      · rfl
      · obtain ⟨h1, h2⟩ := opn_ok hO
        have := rcand_bytes h1 (opn_nr s)
        rw [h2] at this
        rw [this, h1, h2] at hR
        simp at hR
    refine ⟨?_, hO⟩
    unfold opn; rw [hO, if_neg (by simp), if_neg (by simp)]
  · simp only [Bool.and_eq_true, decide_eq_true_eq] at hR
    obtain ⟨h1, h2⟩ := opn_bytes hR.1 hnr
    rw [hR.2] at h1 h2
    exact ⟨by rw [h1]; rfl, h2⟩

theorem lx0 : aidx 5 (.int .i64 0) = some 0 := by kernel_rfl
theorem lx1 : aidx 5 (.int .i64 1) = some 1 := by kernel_rfl
theorem lx2 : aidx 5 (.int .i64 2) = some 2 := by kernel_rfl
theorem lx3 : aidx 5 (.int .i64 3) = some 3 := by kernel_rfl
theorem lx4 : aidx 5 (.int .i64 4) = some 4 := by kernel_rfl
theorem lg0 : ([84, 66, 86, 85, 80] : List UInt8)[0]? = some 84 := rfl
theorem lg1 : ([84, 66, 86, 85, 80] : List UInt8)[1]? = some 66 := rfl
theorem lg2 : ([84, 66, 86, 85, 80] : List UInt8)[2]? = some 86 := rfl
theorem lg3 : ([84, 66, 86, 85, 80] : List UInt8)[3]? = some 85 := rfl
theorem lg4 : ([84, 66, 86, 85, 80] : List UInt8)[4]? = some 80 := rfl
theorem ll5 : ([84, 66, 86, 85, 80] : List UInt8).length = 5 := rfl
theorem deq (a c : UInt8) : decide ((a.toNat : Int) = (c.toNat : Int)) = decide (a = c) := by
  rw [decide_eq_decide]
  constructor
  · intro h; exact UInt8.toNat_inj.1 (by omega)
  · rintro rfl; rfl
/-- Which letter. -/
theorem letters (c : UInt8) : (c = 84 ∧ kindOf c = 1) ∨ (c = 66 ∧ kindOf c = 2) ∨ (c = 86 ∧ kindOf c = 3) ∨ (c = 85 ∧ kindOf c = 4) ∨ (c = 80 ∧ kindOf c = 5) ∨ ((¬ 84 = c ∧ ¬ 66 = c ∧ ¬ 86 = c ∧ ¬ 85 = c ∧ ¬ 80 = c) ∧ kindOf c = 0) := by
  by_cases h1 : c = 84
  · exact .inl ⟨h1, by rw [h1]; rfl⟩
  by_cases h2 : c = 66
  · exact .inr (.inl ⟨h2, by rw [h2]; rfl⟩)
  by_cases h3 : c = 86
  · exact .inr (.inr (.inl ⟨h3, by rw [h3]; rfl⟩))
  by_cases h4 : c = 85
  · exact .inr (.inr (.inr (.inl ⟨h4, by rw [h4]; rfl⟩)))
  by_cases h5 : c = 80
  · exact .inr (.inr (.inr (.inr (.inl ⟨h5, by rw [h5]; rfl⟩))))
  refine .inr (.inr (.inr (.inr (.inr ⟨⟨fun e => h1 e.symm, fun e => h2 e.symm, fun e => h3 e.symm, fun e => h4 e.symm, fun e => h5 e.symm⟩, ?_⟩))))
  unfold kindOf
  by_cases h0 : c = 32
  · rw [h0]; rfl
  have b0 : ((32 : UInt8) == c) = false := by rw [beq_eq_false_iff_ne]; exact fun e => h0 e.symm
  have b1 : ((84 : UInt8) == c) = false := by rw [beq_eq_false_iff_ne]; exact fun e => h1 e.symm
  have b2 : ((66 : UInt8) == c) = false := by rw [beq_eq_false_iff_ne]; exact fun e => h2 e.symm
  have b3 : ((86 : UInt8) == c) = false := by rw [beq_eq_false_iff_ne]; exact fun e => h3 e.symm
  have b4 : ((85 : UInt8) == c) = false := by rw [beq_eq_false_iff_ne]; exact fun e => h4 e.symm
  have b5 : ((80 : UInt8) == c) = false := by rw [beq_eq_false_iff_ne]; exact fun e => h5 e.symm
  simp only [Lib.indexByte, b0, b1, b2, b3, b4, b5]
  rfl

end Go.Proofs.Ytmicohgachjcgaa.Re
