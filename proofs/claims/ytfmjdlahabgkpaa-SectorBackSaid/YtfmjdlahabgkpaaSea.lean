/- The sector's plain law: what a sector's bytes are, and that the sector is had of them. No program in sight. -/
import Derived.Test.YtfmjdlahabgkpaaSdCrc
set_option maxRecDepth 100000
set_option linter.unusedSimpArgs false
set_option linter.unusedVariables false
set_option maxHeartbeats 4000000
namespace Go.Proofs.Ytfmjdlahabgkpaa.Sd
open Go Go.Proofs.Ytfmjdlahabgkpaa.Am SdFns Go.RowKit

/-! ### Small words -/
def un (x : Int) : Nat := (IntKind.u64.wrap x).toNat
theorem wu (x : Int) : IntKind.u64.wrap x = ((un x : Nat) : Int) := by
  unfold un
  rw [Int.toNat_of_nonneg]
  simp [IntKind.wrap, IntKind.signed, IntKind.bits]
  omega
theorem un_lt (x : Int) : un x < 18446744073709551616 := by
  unfold un
  simp [IntKind.wrap, IntKind.signed, IntKind.bits]
  omega
theorem un_nn {x : Int} (h0 : 0 ≤ x) (h1 : x < 18446744073709551616) : un x = x.toNat := by
  unfold un
  simp [IntKind.wrap, IntKind.signed, IntKind.bits]
  omega
theorem num_n (w : Nat) (h : 1 ≤ w ∧ w ≤ 8) (n : Nat) : (num (w : Int) n).length = w := by
  unfold num; rw [if_pos (by omega), Int.toNat_natCast, encl_len]
theorem len8 (n : Nat) : (num 8 n).length = 8 := num_n 8 (by omega) n
theorem len4 (n : Nat) : (num 4 n).length = 4 := num_n 4 (by omega) n
theorem len2 (n : Nat) : (num 2 n).length = 2 := num_n 2 (by omega) n
theorem len1 (n : Nat) : (num 1 n).length = 1 := num_n 1 (by omega) n

/-! ### Numbers at a place -/
theorem encl_succ (w n : Nat) : encl (w + 1) n = UInt8.ofNat (n / 256 ^ w) :: encl w n := by
  simp only [encl, List.range_succ_eq_map, List.map_cons, List.map_map, Nat.add_sub_cancel, Nat.sub_zero]
  congr 1
  apply List.map_congr_left
  intro j hj
  simp only [Function.comp]
  rw [show w - (j + 1) = w - 1 - j by omega]
theorem be_from : ∀ (s : List UInt8) (n : Nat), s.foldl (fun n c => n * 256 + c.toNat) n = n * 256 ^ s.length + be s
  | [], n => by simp [be]
  | c :: s, n => by
    simp only [List.foldl_cons, List.length_cons, be]
    rw [be_from s, be_from s (0 * 256 + c.toNat), Nat.pow_succ]
    simp only [Nat.zero_mul, Nat.zero_add, Nat.add_mul]
    rw [Nat.mul_assoc n 256, Nat.mul_comm 256, Nat.add_assoc]
theorem be_encl : ∀ (w n : Nat), be (encl w n) = n % 256 ^ w
  | 0, n => by simp [encl, be, Nat.mod_one]
  | w + 1, n => by
    rw [encl_succ]
    have := be_from (encl w n) (UInt8.ofNat (n / 256 ^ w)).toNat
    have e : be (UInt8.ofNat (n / 256 ^ w) :: encl w n) = (UInt8.ofNat (n / 256 ^ w)).toNat * 256 ^ w + n % 256 ^ w := by
      unfold be
      simp only [List.foldl_cons, Nat.zero_mul, Nat.zero_add]
      rw [this, encl_len, be_encl w n]
    rw [e, Nat.mod_pow_succ]
    have : (UInt8.ofNat (n / 256 ^ w)).toNat = n / 256 ^ w % 256 := by simp
    rw [this, Nat.mul_comm, Nat.add_comm]
theorem num_w (w : Nat) (h : 1 ≤ w ∧ w ≤ 8) (n : Nat) : num (w : Int) n = encl w n := by
  unfold num; rw [if_pos (by omega), Int.toNat_natCast]
/-- The number that stands at a place. -/
def wd (s : List UInt8) (k w : Nat) : Nat := if s.length < k + w then 0 else be ((s.drop k).take w)
theorem wd_of (s a b : List UInt8) (k w n : Nat) (h : 1 ≤ w ∧ w ≤ 8) (hs : s = a ++ (num (w : Int) n ++ b)) (ha : a.length = k) : wd s k w = n % 256 ^ w := by
  subst hs ha
  rw [num_w w h]
  unfold wd
  have e := encl_len w n
  rw [if_neg (by simp only [List.length_append, e]; omega), List.drop_left, List.take_append_of_le_length (by omega), List.take_of_length_le (by omega), be_encl]
theorem wd_lt (s : List UInt8) (k w : Nat) (hw : w ≤ 8) : wd s k w < 18446744073709551616 := by
  unfold wd
  split
  · decide
  · exact be_lt8 _ (by rw [List.length_take]; omega)

/-! ### A sector -/
/-- A sector: kind, epoch, number, place, how many, page. -/
structure Sec where
  kind : Int
  epoch : Nat
  number : Nat
  at' : Int
  many : Int
  page : List UInt8
def Sec.cells (s : Sec) : List AVal := [.int .i64 s.kind, .int .u64 (s.epoch : Int), .int .u64 (s.number : Int), .int .i64 s.at', .int .i64 s.many, .str s.page]
def Sec.wf (s : Sec) : Prop := s.epoch < 18446744073709551616 ∧ s.number < 18446744073709551616
def short (n : Int) : Bool := decide (0 ≤ n) && decide (n ≤ 65535)
def Sec.ok (s : Sec) : Bool := ((((decide (0 < s.kind) && decide (s.kind < 5)) && short s.at') && short s.many) && decide (s.page.length = 480))
def Sec.top (s : Sec) : List UInt8 := num 1 (un s.kind) ++ (num 1 0 ++ (num 2 (un s.at') ++ (num 2 (un s.many) ++ (num 2 0 ++ (num 8 s.epoch ++ (num 8 s.number ++ num 4 0))))))
theorem top_len (s : Sec) : s.top.length = 28 := by unfold Sec.top; simp only [List.length_append, len1, len2, len4, len8]
def crc (s : List UInt8) : Nat := (more 0#32 s).toNat
def Sec.bytes (s : Sec) : List UInt8 := s.top ++ (num 4 (crc (s.top ++ s.page)) ++ s.page)
def Sec.sealb (s : Sec) : List UInt8 := if s.ok then s.bytes else []
def Sec.no (s : Sec) : Int := if s.ok then 0 else 18
theorem bytes_len (s : Sec) : s.bytes.length = 32 + s.page.length := by unfold Sec.bytes; simp only [List.length_append, len4, top_len]; omega
theorem ok_is {s : Sec} (h : s.ok = true) : (0 < s.kind ∧ s.kind < 5) ∧ (0 ≤ s.at' ∧ s.at' ≤ 65535) ∧ (0 ≤ s.many ∧ s.many ≤ 65535) ∧ s.page.length = 480 := by
  unfold Sec.ok short at h
  simp only [Bool.and_eq_true, decide_eq_true_eq] at h
  obtain ⟨⟨⟨⟨h1, h2⟩, h3, h4⟩, h5, h6⟩, h7⟩ := h
  exact ⟨⟨h1, h2⟩, ⟨h3, h4⟩, ⟨h5, h6⟩, h7⟩

/-- The sector that stands in bytes. -/
def wi (n : Nat) : Int := IntKind.i64.wrap (n : Int)
def had (b : List UInt8) : Sec := ⟨wi (wd b 0 1), wd b 8 8, wd b 16 8, wi (wd b 2 2), wi (wd b 4 2), b.drop 32⟩
theorem had_wf (b : List UInt8) : (had b).wf := ⟨wd_lt b 8 8 (by omega), wd_lt b 16 8 (by omega)⟩
def fits (b : List UInt8) : Bool := decide (b.length = 512) && ((had b).ok && decide ((had b).bytes = b))
def none6 : Sec := ⟨0, 0, 0, 0, 0, []⟩
def opened (b : List UInt8) : Sec := if fits b then had b else none6
def unfit (b : List UInt8) : Int := if fits b then 0 else 19

theorem m8 (n : Nat) (h : n < 18446744073709551616) : n % 256 ^ 8 = n := Nat.mod_eq_of_lt (by exact h)
theorem wi_un {a : Int} (w : Nat) (p : Nat) (hp : 256 ^ w = p) (hw : p ≤ 4294967296) (h0 : 0 ≤ a) (h1 : a < (p : Int)) : wi (un a % 256 ^ w) = a := by
  rw [un_nn h0 (by omega), hp, Nat.mod_eq_of_lt (by omega)]
  show IntKind.i64.wrap _ = a
  rw [Int.toNat_of_nonneg h0, wrap_i64]
  omega

/-- A sector is had of its bytes. -/
theorem had_bytes {s : Sec} (h : s.ok = true) (hw : s.wf) : had s.bytes = s := by
  obtain ⟨⟨k0, k1⟩, ⟨a0, a1⟩, ⟨m0, m1⟩, hp⟩ := ok_is h
  obtain ⟨b, eb⟩ : ∃ b, s.bytes = b := ⟨_, rfl⟩
  have e : b = num 1 (un s.kind) ++ (num 1 0 ++ (num 2 (un s.at') ++ (num 2 (un s.many) ++ (num 2 0 ++ (num 8 s.epoch ++ (num 8 s.number ++ (num 4 0 ++ (num 4 (crc (s.top ++ s.page)) ++ s.page)))))))) := by
    rw [← eb]; unfold Sec.bytes Sec.top; simp only [List.append_assoc]
  have e1 : wi (wd b 0 1) = s.kind := by
    rw [wd_of b [] _ 0 1 (un s.kind) (by omega) e rfl]
    exact wi_un 1 256 rfl (by omega) (by omega) (by omega)
  have e2 : wi (wd b 2 2) = s.at' := by
    rw [wd_of b (num 1 (un s.kind) ++ num 1 0) (num 2 (un s.many) ++ (num 2 0 ++ (num 8 s.epoch ++ (num 8 s.number ++ (num 4 0 ++ (num 4 (crc (s.top ++ s.page)) ++ s.page)))))) 2 2 (un s.at') (by omega) (by rw [e]; simp only [List.append_assoc]; rfl) (by simp only [List.length_append, len1])]
    exact wi_un 2 65536 rfl (by omega) a0 (by omega)
  have e3 : wi (wd b 4 2) = s.many := by
    rw [wd_of b (num 1 (un s.kind) ++ num 1 0 ++ num 2 (un s.at')) (num 2 0 ++ (num 8 s.epoch ++ (num 8 s.number ++ (num 4 0 ++ (num 4 (crc (s.top ++ s.page)) ++ s.page))))) 4 2 (un s.many) (by omega) (by rw [e]; simp only [List.append_assoc]; rfl) (by simp only [List.length_append, len1, len2])]
    exact wi_un 2 65536 rfl (by omega) m0 (by omega)
  have e4 : wd b 8 8 = s.epoch := by
    rw [wd_of b (num 1 (un s.kind) ++ num 1 0 ++ num 2 (un s.at') ++ num 2 (un s.many) ++ num 2 0) (num 8 s.number ++ (num 4 0 ++ (num 4 (crc (s.top ++ s.page)) ++ s.page))) 8 8 s.epoch (by omega) (by rw [e]; simp only [List.append_assoc]; rfl) (by simp only [List.length_append, len1, len2])]
    exact m8 _ hw.1
  have e5 : wd b 16 8 = s.number := by
    rw [wd_of b (num 1 (un s.kind) ++ num 1 0 ++ num 2 (un s.at') ++ num 2 (un s.many) ++ num 2 0 ++ num 8 s.epoch) (num 4 0 ++ (num 4 (crc (s.top ++ s.page)) ++ s.page)) 16 8 s.number (by omega) (by rw [e]; simp only [List.append_assoc]; rfl) (by simp only [List.length_append, len1, len2, len8])]
    exact m8 _ hw.2
  have e6 : b.drop 32 = s.page := by
    rw [← eb]; unfold Sec.bytes
    rw [← List.append_assoc, List.drop_left']
    simp only [List.length_append, top_len, len4]
  rw [eb]
  unfold had
  rw [e1, e2, e3, e4, e5, e6]

theorem fits_bytes {s : Sec} (h : s.ok = true) (hw : s.wf) : fits s.bytes = true := by
  unfold fits
  rw [had_bytes h hw, h, bytes_len, (ok_is h).2.2.2]
  simp
theorem fits_len {b : List UInt8} (h : fits b = true) : b.length = 512 := by
  unfold fits at h
  simp only [Bool.and_eq_true, decide_eq_true_eq] at h
  exact h.1
theorem fits_is {b : List UInt8} (h : fits b = true) : (had b).ok = true ∧ (had b).bytes = b := by
  unfold fits at h
  simp only [Bool.and_eq_true, decide_eq_true_eq] at h
  exact h.2

end Go.Proofs.Ytfmjdlahabgkpaa.Sd
