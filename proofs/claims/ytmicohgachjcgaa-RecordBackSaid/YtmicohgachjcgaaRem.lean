/- Both getters answer alike. -/
import Derived.Test.YtmicohgachjcgaaRel
set_option maxRecDepth 100000
set_option linter.unusedSimpArgs false
set_option linter.unusedVariables false
set_option maxHeartbeats 4000000
namespace Go.Proofs.Ytmicohgachjcgaa.Re
open Go Go.Proofs.Ytmicohgachjcgaa.Am ReFns Go.RowKit

theorem st_at {s : List UInt8} {k w : Nat} (h : k + w ≤ s.length) : st (s.drop k, 0) w = (s.drop (k + w), 0) := by
  rw [st_ok _ _ (by rw [List.length_drop]; omega), List.drop_drop]
theorem va_at {s : List UInt8} {k w : Nat} (h : k + w ≤ s.length) : va (s.drop k, 0) w = wd s k w := by
  rw [va_ok _ _ (by rw [List.length_drop]; omega)]
  unfold wd
  rw [if_neg (by omega)]
theorem va_at0 {s : List UInt8} {w : Nat} (h : w ≤ s.length) : va (s, 0) w = wd s 0 w := va_at (s := s) (k := 0) (by omega)
theorem st_at0 {s : List UInt8} {w : Nat} (h : w ≤ s.length) : st (s, 0) w = (s.drop w, 0) := st_ok s w h

/-- The two checks, when the total is not the length. -/
theorem fit_no {l : List Nat} {s v v' : List UInt8} {ok ok' : Bool} (h : s.length ≠ l.sum) (hv : v'.length = l.sum) : fit (steps l (s, 0)) ok v s = false ∧ fit' ok' v' s = false := by
  constructor
  · unfold fit
    rw [show decide (ending (steps l (s, 0)).1 (steps l (s, 0)).2 = 0) = false from decide_eq_false (fun h0 => h ((steps_end l s).1 h0))]
    rfl
  · unfold fit'
    rw [show decide (v' = s) = false from decide_eq_false (fun h0 => h (by rw [← h0]; exact hv))]
    simp
theorem fit_yes {l : List Nat} {s v : List UInt8} {ok : Bool} (h : s.length = l.sum) : fit (steps l (s, 0)) ok v s = fit' ok v s := by
  unfold fit fit'
  rw [show decide (ending (steps l (s, 0)).1 (steps l (s, 0)).2 = 0) = true from decide_eq_true ((steps_end l s).2 h)]
  rfl

theorem t_same (s : List UInt8) : (tFit s = false ∧ TFit s = false) ∨ (tFit s = TFit s ∧ tA s = TA s ∧ tB s = TB s ∧ tC s = TC s ∧ tD s = TD s) := by
  by_cases h : s.length = 32
  · refine .inr ?_
    have a : tA s = TA s := by unfold tA TA; rw [va_at0 (by omega)]
    have b : tB s = TB s := by unfold tB TB; rw [st_at0 (by omega), va_at (by omega)]
    have c : tC s = TC s := by unfold tC TC; rw [st_at0 (by omega), st_at (by omega), va_at (by omega)]
    have d : tD s = TD s := by unfold tD TD; rw [st_at0 (by omega), st_at (by omega), st_at (by omega), va_at (by omega)]
    refine ⟨?_, a, b, c, d⟩
    unfold tFit TFit
    rw [fit_yes h, a, b, c, d]
  · exact .inl (fit_no (l := [8, 8, 8, 8]) h (by rw [pc_len]; rfl))

theorem b_same (s : List UInt8) : (bFit s = false ∧ BFit s = false) ∨ (bFit s = BFit s ∧ bK s = BK s ∧ bA s = BA s ∧ bB s = BB s ∧ bC s = BC s ∧ bD s = BD s ∧ bN s = BN s) := by
  by_cases h : s.length = 41
  · refine .inr ?_
    have hS : bS s = (s.drop 1, 0) := by unfold bS; rw [st_at0 (by omega)]
    have k : bK s = BK s := by unfold bK BK; rw [va_at0 (by omega)]
    have a : bA s = BA s := by unfold bA BA; rw [hS, va_at (by omega)]
    have b : bB s = BB s := by unfold bB BB; rw [hS, st_at (by omega), va_at (by omega)]
    have c : bC s = BC s := by unfold bC BC; rw [hS, st_at (by omega), st_at (by omega), va_at (by omega)]
    have d : bD s = BD s := by unfold bD BD; rw [hS, st_at (by omega), st_at (by omega), st_at (by omega), va_at (by omega)]
    have n : bN s = BN s := by unfold bN BN; rw [hS, st_at (by omega), st_at (by omega), st_at (by omega), st_at (by omega), va_at (by omega)]
    refine ⟨?_, k, a, b, c, d, n⟩
    unfold bFit BFit
    rw [fit_yes h, k, a, b, c, d, n]
  · exact .inl (fit_no (l := [1, 8, 8, 8, 8, 8]) h (by unfold bval; simp only [List.length_append, len1, pc_len, len8]; rfl))

theorem v_same (s : List UInt8) : (vFit s = false ∧ VFit s = false) ∨ (vFit s = VFit s ∧ vN s = VN s ∧ vM s = VM s ∧ vC s = VC s ∧ vA s = VA s ∧ vB s = VB s) := by
  by_cases h : s.length = 17
  · refine .inr ?_
    have hS : vS s = (s.drop 9, 0) := by unfold vS; rw [st_at0 (by omega), st_at (by omega)]
    have n : vN s = VN s := by unfold vN VN; rw [va_at0 (by omega)]
    have m : vM s = VM s := by unfold vM VM; rw [st_at0 (by omega), va_at (by omega)]
    have c : vC s = VC s := by unfold vC VC; rw [hS, va_at (by omega)]
    have a : vA s = VA s := by unfold vA VA; rw [hS, st_at (by omega), va_at (by omega)]
    have b : vB s = VB s := by unfold vB VB; rw [hS, st_at (by omega), st_at (by omega), va_at (by omega)]
    refine ⟨?_, n, m, c, a, b⟩
    unfold vFit VFit
    rw [fit_yes h, n, m, c, a, b]
  · exact .inl (fit_no (l := [8, 1, 4, 2, 2]) h (by unfold vval; simp only [List.length_append, len1, body_len, len8]; rfl))

theorem p_same (s : List UInt8) : (pFit s = false ∧ PFit s = false) ∨ (pFit s = PFit s ∧ pC s = PC s ∧ pA s = PA s ∧ pB s = PB s) := by
  by_cases h : s.length = 8
  · refine .inr ?_
    have c : pC s = PC s := by unfold pC PC; rw [va_at0 (by omega)]
    have a : pA s = PA s := by unfold pA PA; rw [st_at0 (by omega), va_at (by omega)]
    have b : pB s = PB s := by unfold pB PB; rw [st_at0 (by omega), st_at (by omega), va_at (by omega)]
    refine ⟨?_, c, a, b⟩
    unfold pFit PFit
    rw [fit_yes h, c, a, b]
  · exact .inl (fit_no (l := [4, 2, 2]) h (by rw [body_len]; rfl))

theorem keep_f (x : Int) : keep false x = 0 := hid rfl
theorem keepb_f (x : Bool) : keepb false x = false := hid rfl
theorem U54' (s : List UInt8) (H : AHeap) : AC A 54 [.str s] H = some (.tuple [.agg [.int .i64 (keep (TFit s) (TA s)), .int .i64 (keep (TFit s) (TB s)), .int .i64 (keep (TFit s) (TC s)), .int .i64 (keep (TFit s) (TD s))], .int .i64 (bad (TFit s))], H) := by
  rw [U54]
  rcases t_same s with ⟨a, b⟩ | ⟨a, b, c, d, e⟩
  · simp only [a, b, keep_f, keepb_f]
  · rw [a, b, c, d, e]
theorem U56' (s : List UInt8) (H : AHeap) : AC A 56 [.str s] H = some (.tuple [.agg [.int .i64 (keep (BFit s) (BK s)), .int .i64 (keep (BFit s) (BA s)), .int .i64 (keep (BFit s) (BB s)), .int .i64 (keep (BFit s) (BC s)), .int .i64 (keep (BFit s) (BD s)), .int .u64 (keep (BFit s) (BN s : Int))], .int .i64 (bad (BFit s))], H) := by
  rw [U56]
  rcases b_same s with ⟨a, b⟩ | ⟨a, b, c, d, e, f, g⟩
  · simp only [a, b, keep_f, keepb_f]
  · rw [a, b, c, d, e, f, g]
theorem U58' (s : List UInt8) (H : AHeap) : AC A 58 [.str s] H = some (.tuple [.agg [.int .u64 (keep (VFit s) (VN s : Int)), .bool (keepb (VFit s) (VM s)), .int .u32 (keep (VFit s) (VC s)), .int .i64 (keep (VFit s) (VA s)), .int .i64 (keep (VFit s) (VB s))], .int .i64 (bad (VFit s))], H) := by
  rw [U58]
  rcases v_same s with ⟨a, b⟩ | ⟨a, b, c, d, e, f⟩
  · simp only [a, b, keep_f, keepb_f]
  · rw [a, b, c, d, e, f]
theorem U62' (s : List UInt8) (H : AHeap) : AC A 62 [.str s] H = some (.tuple [.agg [.int .u32 (keep (PFit s) (PC s)), .int .i64 (keep (PFit s) (PA s)), .int .i64 (keep (PFit s) (PB s))], .int .i64 (bad (PFit s))], H) := by
  rw [U62]
  rcases p_same s with ⟨a, b⟩ | ⟨a, b, c, d⟩
  · simp only [a, b, keep_f, keepb_f]
  · rw [a, b, c, d]

end Go.Proofs.Ytmicohgachjcgaa.Re
