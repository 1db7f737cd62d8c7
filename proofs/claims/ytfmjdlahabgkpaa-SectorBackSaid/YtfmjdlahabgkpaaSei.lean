/- A sector of which four bytes that follow one another were changed is no sector's: the plain law. -/
import Derived.Test.YtfmjdlahabgkpaaSeh
set_option maxRecDepth 100000
set_option linter.unusedSimpArgs false
set_option linter.unusedVariables false
set_option maxHeartbeats 4000000
namespace Go.Proofs.Ytfmjdlahabgkpaa.Sd
open Go Go.Proofs.Ytfmjdlahabgkpaa.Am SdFns Go.RowKit

theorem num4_inj {a b : Nat} (ha : a < 4294967296) (hb : b < 4294967296) (h : num 4 a = num 4 b) : a = b := by
  have e : ∀ n : Nat, n < 4294967296 → be (num 4 n) = n := fun n hn => by
    have : num 4 n = encl 4 n := num_w 4 (by omega) n
    rw [this, be_encl, Nat.mod_eq_of_lt (by omega)]
  rw [← e a ha, ← e b hb, h]
theorem crc_lt (s : List UInt8) : crc s < 4294967296 := by unfold crc; have := (more 0#32 s).isLt; omega
theorem crc_inj {a b : List UInt8} (h : num 4 (crc a) = num 4 (crc b)) : more 0#32 a = more 0#32 b := BitVec.eq_of_toNat_eq (num4_inj (crc_lt a) (crc_lt b) h)

/-- What a sector's bytes are, by parts. -/
theorem fits_parts {c : List UInt8} (h : fits c = true) : (c.drop 28).take 4 = num 4 (crc (c.take 28 ++ c.drop 32)) := by
  obtain ⟨_, hb⟩ := fits_is h
  have e : c = (had c).top ++ (num 4 (crc ((had c).top ++ (had c).page)) ++ (had c).page) := by
    conv => lhs; rw [← hb]
    rfl
  obtain ⟨T, hT⟩ : ∃ T, (had c).top = T := ⟨_, rfl⟩
  obtain ⟨P, hP⟩ : ∃ P, (had c).page = P := ⟨_, rfl⟩
  have lT : T.length = 28 := by rw [← hT, top_len]
  rw [hT, hP] at e
  have e1 : c.take 28 = T := by rw [e, List.take_left' lT]
  have e2 : c.drop 28 = num 4 (crc (T ++ P)) ++ P := by rw [e, List.drop_left' lT]
  have e3 : c.drop 32 = P := by
    rw [show (32 : Nat) = 28 + 4 from rfl, ← List.drop_drop, e2, List.drop_left' (len4 _)]
  rw [e1, e2, e3, List.take_left' (len4 _)]

theorem split4 (s : List UInt8) (at' : Nat) (h : at' + 4 ≤ s.length) : ∃ p a b c d q, s = p ++ a :: b :: c :: d :: q ∧ p.length = at' := by
  refine ⟨s.take at', s[at'], s[at' + 1], s[at' + 2], s[at' + 3], s.drop (at' + 4), ?_, by rw [List.length_take]; omega⟩
  rw [← List.drop_eq_getElem_cons, ← List.drop_eq_getElem_cons, ← List.drop_eq_getElem_cons, ← List.drop_eq_getElem_cons, List.take_append_drop]

theorem part_zero {x : BitVec 32} (h : ∀ i, i < 4 → part x i = 0) : x = 0#32 := by
  rw [word_is x, h 0 (by omega), h 1 (by omega), h 2 (by omega), h 3 (by omega)]
  rfl
theorem part_0 (i : Nat) : part 0#32 i = 0 := by simp [part]
theorem xor_self_eq {a b : UInt8} (h : a ^^^ b = a) : b = 0 := by
  have h1 := congrArg (fun y => a ^^^ y) h
  simp only [← UInt8.xor_assoc, UInt8.xor_self, UInt8.zero_xor] at h1
  exact h1
theorem chg_none (s : List UInt8) (at' : Nat) (h : at' + 4 ≤ s.length) : chg s at' 0#32 4 = s := by
  obtain ⟨p, a, b, c, d, q, rfl, rfl⟩ := split4 s at' h
  rw [chg_four, part_0, part_0, part_0, part_0]
  simp

/-- The bytes but the sum. -/
def strip (l : List UInt8) : List UInt8 := l.take 28 ++ l.drop 32
def mid (l : List UInt8) : List UInt8 := (l.drop 28).take 4

theorem found_sec {b : List UInt8} (hb : fits b = true) (at' : Nat) (h4 : at' + 4 ≤ 512) (hat : at' ≤ 24 ∨ at' = 28 ∨ 32 ≤ at') (x : BitVec 32) : fits (chg b at' x 4) = decide (x = 0#32) := by
  have lb := fits_len hb
  have mb : mid b = num 4 (crc (strip b)) := fits_parts hb
  by_cases hx : x = 0#32
  · subst hx
    rw [chg_none b at' (by omega), hb]
    rfl
  · rw [decide_eq_false hx]
    cases hc : fits (chg b at' x 4)
    · rfl
    · exfalso
      apply hx
      have mc : mid (chg b at' x 4) = num 4 (crc (strip (chg b at' x 4))) := fits_parts hc
      rcases hat with hat | hat | hat
      · obtain ⟨p, a, b', c, d, q, rfl, rfl⟩ := split4 b at' (by omega)
        rw [chg_four] at mc
        have lq : (a :: b' :: c :: d :: q).length = 4 + q.length := by simp; omega
        simp only [List.length_append, lq] at lb
        have key : ∀ a b' c d : UInt8, mid (p ++ a :: b' :: c :: d :: q) = (q.drop (24 - p.length)).take 4 ∧ strip (p ++ a :: b' :: c :: d :: q) = p ++ a :: b' :: c :: d :: (q.take (24 - p.length) ++ q.drop (28 - p.length)) := by
          intro a b' c d
          have e1 : (p ++ a :: b' :: c :: d :: q).drop 28 = q.drop (24 - p.length) := by
            rw [List.drop_append, List.drop_eq_nil_of_le (by omega), List.nil_append, show 28 - p.length = (24 - p.length) + 4 by omega]
            rfl
          have e2 : (p ++ a :: b' :: c :: d :: q).drop 32 = q.drop (28 - p.length) := by
            rw [List.drop_append, List.drop_eq_nil_of_le (by omega), List.nil_append, show 32 - p.length = (28 - p.length) + 4 by omega]
            rfl
          have e3 : (p ++ a :: b' :: c :: d :: q).take 28 = p ++ a :: b' :: c :: d :: q.take (24 - p.length) := by
            rw [List.take_append, List.take_of_length_le (by omega), show 28 - p.length = (24 - p.length) + 4 by omega]
            rfl
          unfold mid strip
          rw [e1, e2, e3]
          exact ⟨rfl, by simp⟩
        rw [(key _ _ _ _).1, (key _ _ _ _).2] at mc
        rw [(key _ _ _ _).1, (key _ _ _ _).2] at mb
        rw [mb] at mc
        have := crc_inj mc
        rw [← chg_four] at this
        exact (found _ _ _ _ _ _ _).1 this.symm
      · subst hat
        obtain ⟨p, a, b', c, d, q, rfl, hp⟩ := split4 b 28 (by omega)
        rw [← hp, chg_four] at mc
        have key : ∀ a b' c d : UInt8, mid (p ++ a :: b' :: c :: d :: q) = [a, b', c, d] ∧ strip (p ++ a :: b' :: c :: d :: q) = p ++ q := by
          intro a b' c d
          have e1 : (p ++ a :: b' :: c :: d :: q).drop 28 = a :: b' :: c :: d :: q := by rw [List.drop_left' hp]
          have e2 : (p ++ a :: b' :: c :: d :: q).drop 32 = q := by
            rw [show (32 : Nat) = 28 + 4 from rfl, ← List.drop_drop, e1]
            rfl
          unfold mid strip
          rw [e1, e2, List.take_left' hp]
          exact ⟨rfl, rfl⟩
        rw [(key _ _ _ _).1, (key _ _ _ _).2] at mc
        rw [(key _ _ _ _).1, (key _ _ _ _).2, ← mc] at mb
        simp only [List.cons.injEq, and_true] at mb
        obtain ⟨h0, h1, h2, h3⟩ := mb
        refine part_zero fun i hi => ?_
        match i, hi with
        | 0, _ => exact xor_self_eq h0.symm
        | 1, _ => exact xor_self_eq h1.symm
        | 2, _ => exact xor_self_eq h2.symm
        | 3, _ => exact xor_self_eq h3.symm
      · obtain ⟨p, a, b', c, d, q, rfl, rfl⟩ := split4 b at' (by omega)
        rw [chg_four] at mc
        have key : ∀ a b' c d : UInt8, mid (p ++ a :: b' :: c :: d :: q) = (p.drop 28).take 4 ∧ strip (p ++ a :: b' :: c :: d :: q) = (p.take 28 ++ p.drop 32) ++ a :: b' :: c :: d :: q := by
          intro a b' c d
          unfold mid strip
          rw [List.drop_append_of_le_length (by omega), List.take_append_of_le_length (by rw [List.length_drop]; omega), List.take_append_of_le_length (by omega), List.drop_append_of_le_length (by omega)]
          exact ⟨rfl, by simp⟩
        rw [(key _ _ _ _).1, (key _ _ _ _).2] at mc
        rw [(key _ _ _ _).1, (key _ _ _ _).2] at mb
        rw [mb] at mc
        have := crc_inj mc
        rw [← chg_four] at this
        exact (found _ _ _ _ _ _ _).1 this.symm

end Go.Proofs.Ytfmjdlahabgkpaa.Sd
