/- What was put is had again, and the other way about: the plain law. -/
import Derived.Test.YtmicohgachjcgaaRem
set_option maxRecDepth 100000
set_option linter.unusedSimpArgs false
set_option linter.unusedVariables false
set_option maxHeartbeats 4000000
namespace Go.Proofs.Ytmicohgachjcgaa.Re
open Go Go.Proofs.Ytmicohgachjcgaa.Am ReFns Go.RowKit

theorem encl_succ (w n : Nat) : encl (w + 1) n = UInt8.ofNat (n / 256 ^ w) :: encl w n := by
  simp only [encl, List.range_succ_eq_map, List.map_cons, List.map_map, Nat.add_sub_cancel, Nat.sub_zero]
  congr 1
  apply List.map_congr_left
  intro j hj
  simp only [Function.comp]
  rw [show w - (j + 1) = w - 1 - j by omega]
theorem be_from : ∀ (s : List UInt8) (n : Nat), s.foldl (fun n c => n * 256 + c.toNat) n = n * 256 ^ s.length + be s
  | [], n => by simp [be]
  | c :: s, n => by
    simp only [List.foldl_cons, List.length_cons, be]
    rw [be_from s, be_from s (0 * 256 + c.toNat), Nat.pow_succ]
    simp only [Nat.zero_mul, Nat.zero_add, Nat.add_mul]
    rw [Nat.mul_assoc n 256, Nat.mul_comm 256, Nat.add_assoc]
theorem be_encl : ∀ (w n : Nat), be (encl w n) = n % 256 ^ w
  | 0, n => by simp [encl, be, Nat.mod_one]
  | w + 1, n => by
    rw [encl_succ]
    have := be_from (encl w n) (UInt8.ofNat (n / 256 ^ w)).toNat
    have e : be (UInt8.ofNat (n / 256 ^ w) :: encl w n) = (UInt8.ofNat (n / 256 ^ w)).toNat * 256 ^ w + n % 256 ^ w := by
      unfold be
      simp only [List.foldl_cons, Nat.zero_mul, Nat.zero_add]
      rw [this, encl_len, be_encl w n]
    rw [e, Nat.mod_pow_succ]
    have : (UInt8.ofNat (n / 256 ^ w)).toNat = n / 256 ^ w % 256 := by simp
    rw [this, Nat.mul_comm, Nat.add_comm]
theorem num_w (w : Nat) (h : 1 ≤ w ∧ w ≤ 8) (n : Nat) : num (w : Int) n = encl w n := by
  unfold num; rw [if_pos (by omega), Int.toNat_natCast]

/-- The number that stands behind so many bytes. -/
theorem wd_of (s a b : List UInt8) (k w n : Nat) (h : 1 ≤ w ∧ w ≤ 8) (hs : s = a ++ (num (w : Int) n ++ b)) (ha : a.length = k) : wd s k w = n % 256 ^ w := by
  subst hs ha
  rw [num_w w h]
  unfold wd
  have e := encl_len w n
  rw [if_neg (by simp only [List.length_append, e]; omega), List.drop_left, List.take_append_of_le_length (by omega), List.take_of_length_le (by omega), be_encl]

theorem un_nn {x : Int} (h0 : 0 ≤ x) (h1 : x < 18446744073709551616) : un x = x.toNat := by
  unfold un
  simp [IntKind.wrap, IntKind.signed, IntKind.bits]
  omega

theorem cnt_is {a : Int} (h : cnt a = true) : 0 ≤ a ∧ a ≤ 1125899906842624 := by
  unfold cnt at h
  simpa using h
theorem lim_is {a : Int} (h : lim a = true) : -1 ≤ a ∧ a ≤ 1125899906842624 := by
  unfold lim at h
  rw [Bool.or_eq_true] at h
  rcases h with h | h
  · have : a = -1 := by simpa using h
    omega
  · have := cnt_is h
    omega
theorem right_is {a b c d : Int} (h : rightc a b c d = true) : lim a = true ∧ lim b = true ∧ cnt c = true ∧ cnt d = true := by
  unfold rightc at h
  simp only [Bool.and_eq_true] at h
  exact ⟨h.1.1, h.1.2, h.2.1, h.2.2⟩
theorem blob_is {a b : Int} (h : blobok a b = true) : 0 ≤ a ∧ a < 65536 ∧ 0 ≤ b ∧ b < 65536 := by
  unfold blobok at h
  simp only [Bool.or_eq_true, Bool.and_eq_true, decide_eq_true_eq] at h
  omega

theorem m8 (n : Nat) (h : n < 18446744073709551616) : n % 256 ^ 8 = n := Nat.mod_eq_of_lt (by exact h)
theorem i8_lim {a : Int} (h : lim a = true) : i8 (un (IntKind.i64.wrap (a + 1)) % 256 ^ 8) 1 = a := by
  have := lim_is h
  have e : IntKind.i64.wrap (a + 1) = a + 1 := by rw [wrap_i64]; omega
  rw [e, un_nn (by omega) (by omega), m8 _ (by omega)]
  unfold i8
  rw [Int.toNat_of_nonneg (by omega), wrap_i64, wrap_i64]
  omega
theorem i8_cnt {a : Int} (h : cnt a = true) : i8 (un a % 256 ^ 8) 0 = a := by
  have := cnt_is h
  rw [un_nn (by omega) (by omega), m8 _ (by omega)]
  unfold i8
  rw [Int.toNat_of_nonneg (by omega), wrap_i64, wrap_i64]
  omega
theorem wi_un {a : Int} (w : Nat) (p : Nat) (hp : 256 ^ w = p) (hw : p ≤ 4294967296) (h0 : 0 ≤ a) (h1 : a < (p : Int)) : wi (un a % 256 ^ w) = a := by
  rw [un_nn h0 (by omega), hp, Nat.mod_eq_of_lt (by omega)]
  show IntKind.i64.wrap _ = a
  rw [Int.toNat_of_nonneg h0, wrap_i64]
  omega
theorem w4_un {c : Int} (h0 : 0 ≤ c) (h1 : c < 4294967296) : w4 (un c % 256 ^ 4) = c := by
  rw [un_nn h0 (by omega), Nat.mod_eq_of_lt (by omega)]
  show IntKind.u32.wrap _ = c
  rw [Int.toNat_of_nonneg h0]
  simp [IntKind.wrap, IntKind.signed, IntKind.bits]
  omega

theorem T_back {a b c d : Int} (h : rightc a b c d = true) : TFit (pc a b c d) = true ∧ TA (pc a b c d) = a ∧ TB (pc a b c d) = b ∧ TC (pc a b c d) = c ∧ TD (pc a b c d) = d := by
  obtain ⟨ha, hb, hc, hd⟩ := right_is h
  have ea : TA (pc a b c d) = a := by
    unfold TA
    rw [wd_of (pc a b c d) [] (num 8 (un (IntKind.i64.wrap (b + 1))) ++ (num 8 (un c) ++ num 8 (un d))) 0 8 (un (IntKind.i64.wrap (a + 1))) (by omega) (by unfold pc; simp only [List.append_assoc, List.nil_append]; rfl) rfl, i8_lim ha]
  have eb : TB (pc a b c d) = b := by
    unfold TB
    rw [wd_of (pc a b c d) (num 8 (un (IntKind.i64.wrap (a + 1)))) (num 8 (un c) ++ num 8 (un d)) 8 8 (un (IntKind.i64.wrap (b + 1))) (by omega) (by unfold pc; simp only [List.append_assoc]; rfl) (len8 _), i8_lim hb]
  have ec : TC (pc a b c d) = c := by
    unfold TC
    rw [wd_of (pc a b c d) (num 8 (un (IntKind.i64.wrap (a + 1))) ++ num 8 (un (IntKind.i64.wrap (b + 1)))) (num 8 (un d)) 16 8 (un c) (by omega) (by unfold pc; simp only [List.append_assoc]; rfl) (by simp only [List.length_append, len8]), i8_cnt hc]
  have ed : TD (pc a b c d) = d := by
    unfold TD
    rw [wd_of (pc a b c d) (num 8 (un (IntKind.i64.wrap (a + 1))) ++ num 8 (un (IntKind.i64.wrap (b + 1))) ++ num 8 (un c)) [] 24 8 (un d) (by omega) (by unfold pc; simp only [List.append_assoc, List.append_nil]; rfl) (by simp only [List.length_append, len8]), i8_cnt hd]
  refine ⟨?_, ea, eb, ec, ed⟩
  unfold TFit fit'
  rw [ea, eb, ec, ed, h]
  simp

theorem pc_eq (a b c d : Int) : pc a b c d = num 8 (un (IntKind.i64.wrap (a + 1))) ++ (num 8 (un (IntKind.i64.wrap (b + 1))) ++ (num 8 (un c) ++ num 8 (un d))) := by
  unfold pc; simp only [List.append_assoc]
theorem B_back {k a b c d : Int} {n : Nat} (h : bok k a b c d = true) (hn : n < 18446744073709551616) :
    BFit (bval k a b c d n) = true ∧ BK (bval k a b c d n) = k ∧ BA (bval k a b c d n) = a ∧ BB (bval k a b c d n) = b ∧ BC (bval k a b c d n) = c ∧ BD (bval k a b c d n) = d ∧ BN (bval k a b c d n) = n := by
  have h' := h
  unfold bok at h'
  simp only [Bool.and_eq_true, decide_eq_true_eq] at h'
  obtain ⟨ha, hb, hc, hd⟩ := right_is h'.2
  obtain ⟨x1, e1⟩ : ∃ x, num 8 (un (IntKind.i64.wrap (a + 1))) = x := ⟨_, rfl⟩
  obtain ⟨s, es⟩ : ∃ s, bval k a b c d n = s := ⟨_, rfl⟩
  have e : s = num 1 (un k) ++ (num 8 (un (IntKind.i64.wrap (a + 1))) ++ (num 8 (un (IntKind.i64.wrap (b + 1))) ++ (num 8 (un c) ++ (num 8 (un d) ++ num 8 n)))) := by
    rw [← es]; unfold bval; rw [pc_eq]; simp only [List.append_assoc]
  have ek : BK s = k := by
    unfold BK
    rw [wd_of s [] _ 0 1 (un k) (by omega) e rfl]
    exact wi_un 1 256 rfl (by omega) (by omega) (by omega)
  have ea : BA s = a := by
    unfold BA
    rw [wd_of s (num 1 (un k)) _ 1 8 (un (IntKind.i64.wrap (a + 1))) (by omega) e (len1 _), i8_lim ha]
  have eb : BB s = b := by
    unfold BB
    rw [wd_of s (num 1 (un k) ++ num 8 (un (IntKind.i64.wrap (a + 1)))) (num 8 (un c) ++ (num 8 (un d) ++ num 8 n)) 9 8 (un (IntKind.i64.wrap (b + 1))) (by omega) (by rw [e]; simp only [List.append_assoc]; rfl) (by simp only [List.length_append, len1, len8]), i8_lim hb]
  have ec : BC s = c := by
    unfold BC
    rw [wd_of s (num 1 (un k) ++ num 8 (un (IntKind.i64.wrap (a + 1))) ++ num 8 (un (IntKind.i64.wrap (b + 1)))) (num 8 (un d) ++ num 8 n) 17 8 (un c) (by omega) (by rw [e]; simp only [List.append_assoc]; rfl) (by simp only [List.length_append, len1, len8]), i8_cnt hc]
  have ed : BD s = d := by
    unfold BD
    rw [wd_of s (num 1 (un k) ++ num 8 (un (IntKind.i64.wrap (a + 1))) ++ num 8 (un (IntKind.i64.wrap (b + 1))) ++ num 8 (un c)) (num 8 n) 25 8 (un d) (by omega) (by rw [e]; simp only [List.append_assoc]; rfl) (by simp only [List.length_append, len1, len8]), i8_cnt hd]
  have en : BN s = n := by
    unfold BN
    rw [wd_of s (num 1 (un k) ++ num 8 (un (IntKind.i64.wrap (a + 1))) ++ num 8 (un (IntKind.i64.wrap (b + 1))) ++ num 8 (un c) ++ num 8 (un d)) [] 33 8 n (by omega) (by rw [e]; simp only [List.append_assoc, List.append_nil]; rfl) (by simp only [List.length_append, len1, len8]), m8 n hn]
  rw [es]
  refine ⟨?_, ek, ea, eb, ec, ed, en⟩
  unfold BFit fit'
  rw [ek, ea, eb, ec, ed, en, h, es]
  simp

theorem V_back {n : Nat} {m : Bool} {c a b : Int} (h : vok m c a b = true) (hn : n < 18446744073709551616) (hc : 0 ≤ c ∧ c < 4294967296) :
    VFit (vval n m c a b) = true ∧ VN (vval n m c a b) = n ∧ VM (vval n m c a b) = m ∧ VC (vval n m c a b) = c ∧ VA (vval n m c a b) = a ∧ VB (vval n m c a b) = b := by
  have h' := h
  unfold vok at h'
  rw [Bool.and_eq_true] at h'
  obtain ⟨a0, a1, b0, b1⟩ := blob_is h'.1
  obtain ⟨s, es⟩ : ∃ s, vval n m c a b = s := ⟨_, rfl⟩
  have e : s = num 8 n ++ (num 1 (bit m) ++ (num 4 (un c) ++ (num 2 (un a) ++ num 2 (un b)))) := by
    rw [← es]; unfold vval body; simp only [List.append_assoc]
  have en : VN s = n := by
    unfold VN
    rw [wd_of s [] _ 0 8 n (by omega) e rfl, m8 n hn]
  have em : VM s = m := by
    unfold VM
    rw [wd_of s (num 8 n) _ 8 1 (bit m) (by omega) e (len8 _)]
    cases m <;> rfl
  have ec : VC s = c := by
    unfold VC
    rw [wd_of s (num 8 n ++ num 1 (bit m)) (num 2 (un a) ++ num 2 (un b)) 9 4 (un c) (by omega) (by rw [e]; simp only [List.append_assoc]; rfl) (by simp only [List.length_append, len1, len8]), w4_un hc.1 hc.2]
  have ea : VA s = a := by
    unfold VA
    rw [wd_of s (num 8 n ++ num 1 (bit m) ++ num 4 (un c)) (num 2 (un b)) 13 2 (un a) (by omega) (by rw [e]; simp only [List.append_assoc]; rfl) (by simp only [List.length_append, len1, len8, len4])]
    exact wi_un 2 65536 rfl (by omega) a0 (by omega)
  have eb : VB s = b := by
    unfold VB
    rw [wd_of s (num 8 n ++ num 1 (bit m) ++ num 4 (un c) ++ num 2 (un a)) [] 15 2 (un b) (by omega) (by rw [e]; simp only [List.append_assoc, List.append_nil]; rfl) (by simp only [List.length_append, len1, len8, len4, len2])]
    exact wi_un 2 65536 rfl (by omega) b0 (by omega)
  rw [es]
  refine ⟨?_, en, em, ec, ea, eb⟩
  unfold VFit fit'
  rw [en, em, ec, ea, eb, h, es]
  simp

/-- What is had of bytes has these. -/
theorem P_put {s : List UInt8} (h : PFit s = true) : blobok (PA s) (PB s) = true ∧ body (PC s) (PA s) (PB s) = s := by
  unfold PFit fit' at h
  simpa using h
theorem V_put {s : List UInt8} (h : VFit s = true) : vok (VM s) (VC s) (VA s) (VB s) = true ∧ vval (VN s) (VM s) (VC s) (VA s) (VB s) = s := by
  unfold VFit fit' at h
  simpa using h
theorem B_put {s : List UInt8} (h : BFit s = true) : bok (BK s) (BA s) (BB s) (BC s) (BD s) = true ∧ bval (BK s) (BA s) (BB s) (BC s) (BD s) (BN s) = s := by
  unfold BFit fit' at h
  simpa using h

end Go.Proofs.Ytmicohgachjcgaa.Re
