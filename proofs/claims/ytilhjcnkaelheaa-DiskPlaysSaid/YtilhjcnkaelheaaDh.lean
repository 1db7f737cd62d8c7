/- DiskWhole: behind a failure each sector is as it was, or as one of the writes left it. -/
import Derived.Test.YtilhjcnkaelheaaDg
set_option maxRecDepth 100000
set_option linter.unusedSimpArgs false
set_option linter.unusedVariables false
set_option maxHeartbeats 4000000
namespace Go.Proofs.Ytilhjcnkaelheaa.Dk
open Go Go.Proofs.Ytilhjcnkaelheaa.Am DnFns Go.RowKit
open Sd (Sec noughts home homeno ofHome ofNo opened unfit pad)

structure Act where
  kind : Int
  n : Int
  byte : UInt8
  short : Bool
  kv : AVal
  keep : List Bool
def ac (a : Act) : List AVal := [.int .i64 a.kind, .int .i64 a.n, by8 a.byte, .bool a.short, a.kv]
theorem ac_len (a : Act) : (ac a).length = 5 := rfl
def tx (b : UInt8) : List UInt8 := List.replicate 512 b
theorem tx_len (b : UInt8) : (tx b).length = 512 := by simp [tx]
/-- What an act is in memory. -/
def Act.mem (H : AHeap) (a : Act) : Prop := Sl H 1 a.kv (a.keep.map .bool) ∧ (∀ i, i ∈ a.kv.ids → i < H.next) ∧ -9223372036854775808 ≤ a.n ∧ a.n ≤ 9223372036854775807

theorem u8_of {n : Int} (h0 : 0 ≤ n) (h1 : n ≤ 255) : ∃ b : UInt8, AVal.int .u8 n = by8 b := ⟨_, by8_of ⟨h0, by omega⟩⟩

theorem arg_acts {H : AHeap} {v : AVal} {d : Dat} (h : AArg Try.prog H 22 v d) :
    ∃ l : List Act, Sl H 5 v (l.flatMap ac) ∧ (∀ i, i ∈ v.ids → i < H.next) ∧ slen v = l.length ∧ l.length ≤ maxLen ∧ ∀ a, a ∈ l → a.mem H := by
  obtain ⟨cs, hs, hv⟩ := arg_sh (f := 9) (sh := .slice 5 48 (.st 5 (.fld 0 1 (.int .i64) (.fld 1 1 (.int .i64) (.fld 2 1 (.int .u8) (.fld 3 1 .bool (.fld 4 1 (.slice 1 1 .bool) .fend))))))) (by kernel_rfl) h
  obtain ⟨v', l, h1, h2, h3, h4, h5, h6, h7, h8⟩ := shp_listP (enc := ac) (Pr := fun a => a.mem H) hs (fun c hc => by
    simp only [Shp] at hc
    obtain ⟨hl, ⟨k, e0, _⟩, ⟨n, e1, b1⟩, ⟨b, e2, b2⟩, ⟨s, e3⟩, ⟨kv, xs, e4, s1, s2, s3, s4, s5, s6, s7⟩, _⟩ := hc
    match c, hl with
    | [c0, c1, c2, c3, c4], _ =>
      simp at e0 e1 e2 e3 e4
      subst e0 e1 e2 e3 e4
      obtain ⟨l, hl, rfl⟩ := cells_of (enc := fun b => [AVal.bool b]) (slen c4) xs s4 (fun i hi => by obtain ⟨b, hb⟩ := s7 i hi; exact ⟨b, hb⟩)
      have b2' : (0 : Int) ≤ b ∧ b ≤ 255 := b2
      obtain ⟨b', eb⟩ := u8_of b2'.1 b2'.2
      refine ⟨⟨k, n, b', s, c4, l⟩, ⟨?_, s3, b1⟩, ?_⟩
      · rw [flatMap_one] at s1; exact s1
      · rw [eb]; rfl)
  have hv := hv.1 rfl
  rw [h1] at hv
  simp at hv
  subst hv
  exact ⟨l, h2, h4, h5, h6, h8⟩

theorem arg_keep {H : AHeap} {v : AVal} {d : Dat} (h : AArg Try.prog H 23 v d) : ∃ l : List Bool, Sl H 1 v (l.map .bool) ∧ (∀ i, i ∈ v.ids → i < H.next) ∧ l.length ≤ maxLen :=
  arg_bools (e := 4) (by kernel_rfl) (by kernel_rfl) (by kernel_rfl) h

/-! ### The law -/
def wr (d : DS) (a : Act) : DS := (d.write a.n (tx a.byte)).1
def wrs (d : DS) (l : List Act) : DS := l.foldl wr d
theorem wr_s (d : DS) (a : Act) : (wr d a).s = d.s := by
  unfold wr DS.write; split
  · split
    · exact step_s d
    · exact step_s d
  · rfl
theorem wrs_s (l : List Act) : ∀ d, (wrs d l).s = d.s := by
  induction l with
  | nil => intro d; rfl
  | cons a l ih => intro d; show (wrs (wr d a) l).s = _; rw [ih, wr_s]
/-- A write that is right is one more; another is none. -/
theorem wr_len (d : DS) (a : Act) : (wr d a).w.length = d.w.length + (if decide ((d.write a.n (tx a.byte)).2 = 0) then 1 else 0) := by
  unfold wr DS.write; split
  · split
    · simp
    · simp [step_w]
  · simp
theorem wr_mem (d : DS) (a : Act) {x : Nat × List UInt8} (h : x ∈ (wr d a).w) : x ∈ d.w ∨ (a.n = x.1 ∧ x.2 = tx a.byte) := by
  unfold wr DS.write at h
  split at h
  · rename_i c
    split at h
    · rcases List.mem_append.1 h with h | h
      · exact .inl h
      · simp at h; subst h; exact .inr ⟨by show a.n = ((a.n.toNat : Nat) : Int); omega, rfl⟩
    · rw [step_w] at h; exact .inl h
  · exact .inl h
theorem wrs_mem (l : List Act) : ∀ (d : DS) {x : Nat × List UInt8}, x ∈ (wrs d l).w → x ∈ d.w ∨ ∃ a, a ∈ l ∧ a.n = x.1 ∧ x.2 = tx a.byte := by
  induction l with
  | nil => intro d x h; exact .inl h
  | cons a l ih =>
    intro d x h
    rcases ih (wr d a) h with h | ⟨b, hb, h⟩
    · rcases wr_mem d a h with h | h
      · exact .inl h
      · exact .inr ⟨a, by simp, h⟩
    · exact .inr ⟨b, by simp [hb], h⟩
theorem wr_still {d : DS} (h : d.dead = false ∧ d.arm = 0) (a : Act) : (wr d a).dead = false ∧ (wr d a).arm = 0 := by
  have g : d.goes = true := by simp [DS.goes, h.1, h.2]
  have hs : d.step.dead = false ∧ d.step.arm = 0 := by rw [step_t g]; exact ⟨h.1, by show low (d.arm - 1) = 0; rw [h.2]; rfl⟩
  unfold wr DS.write; split
  · simp only [g, if_true]; exact hs
  · exact h
theorem wrs_still (l : List Act) : ∀ {d : DS}, d.dead = false ∧ d.arm = 0 → (wrs d l).dead = false ∧ (wrs d l).arm = 0 := by
  induction l with
  | nil => intro d h; exact h
  | cons a l ih => intro d h; exact ih (wr_still h a)
theorem wrs_len (l : List Act) : ∀ (d : DS), (wrs d l).w.length ≤ d.w.length + l.length := by
  induction l with
  | nil => intro d; exact Nat.le_refl _
  | cons a l ih =>
    intro d
    have h1 := ih (wr d a)
    have h2 := wr_len d a
    show (wrs (wr d a) l).w.length ≤ _
    rw [h2] at h1
    simp only [List.length_cons]
    split at h1 <;> omega
theorem wrs_take (d : DS) (l : List Act) {j : Nat} (h : j < l.length) : wrs d (l.take (j + 1)) = wr (wrs d (l.take j)) l[j] := by
  rw [List.take_add_one, List.getElem?_eq_getElem h, Option.toList_some]
  unfold wrs; rw [List.foldl_append]; rfl
theorem puts_get (l : List (Nat × List UInt8)) : ∀ (s : List (List UInt8)) (i : Nat), (puts s l).getD i [] = s.getD i [] ∨ ∃ x, x ∈ l ∧ x.1 = i ∧ (puts s l).getD i [] = x.2 := by
  induction l with
  | nil => intro s i; exact .inl rfl
  | cons x l ih =>
    intro s i
    show (puts (s.set x.1 x.2) l).getD i [] = _ ∨ _
    rcases ih (s.set x.1 x.2) i with h | ⟨y, hy, h1, h2⟩
    · by_cases c : x.1 = i
      · by_cases d : i < s.length
        · refine .inr ⟨x, by simp, c, ?_⟩
          show (puts (s.set x.1 x.2) l).getD i [] = _
          rw [h, c]; simp [d]
        · refine .inl ?_
          rw [h, List.getD_eq_getElem?_getD, List.getD_eq_getElem?_getD, List.getElem?_eq_none (by simp; omega), List.getElem?_eq_none (by omega)]
      · refine .inl ?_
        rw [h]
        simp [List.getD_eq_getElem?_getD, List.getElem?_set, c]
    · exact .inr ⟨y, by simp [hy], h1, h2⟩

/-- What the inner loop reckons. -/
def found (i : Nat) (s : List UInt8) (l : List Act) : Bool := l.any fun a => decide (a.n = (i : Int)) && decide (s = tx a.byte)

theorem any_take {α : Type} (f : α → Bool) (l : List α) {j : Nat} (h : j < l.length) : (l.take (j + 1)).any f = ((l.take j).any f || f l[j]) := by
  rw [List.take_add_one, List.getElem?_eq_getElem h, Option.toList_some, List.any_append]
  simp only [List.any_cons, List.any_nil, Bool.or_false]

theorem pk_none (w : List (Nat × List UInt8)) {P : Nat → Bool} (h : ∀ j, P j = false) : ∀ j, pk w P j = []
  | 0 => rfl
  | j + 1 => by
    rw [pk, pk_none w h j]
    split
    · simp [h]
    · rfl

/-- Each sector behind it. -/
theorem whole {n : Nat} {before behind : List Act} {step : Int} {keep : List Bool} {d1 d2 d3 d4 : DS} (h1 : d1 = wrs (fresh n) before) (h2 : d2 = d1.step.settle (fun _ => true)) (h3 : d3 = wrs { d2 with arm := low step } behind) (h4 : d4 = (d3.up keep).1) {i : Nat} (hi : i < n) :
    (decide (d4.s.getD i [] = d2.s.getD i []) || found i (d4.s.getD i []) behind) = true ∧ d4.read i = (d4.s.getD i [], 0) ∧ (keep = [] → d4.s = d2.s) := by
  have e4 : d4.s = puts d3.s (pk d3.w (fun i => keep.getD i false) d3.w.length) := by rw [h4]; rfl
  have e3 : d3.s = d2.s := by rw [h3, wrs_s]
  have w2 : d2.w = [] := by rw [h2]; rfl
  have hl : d4.s.length = n := by
    rw [e4, puts_len, e3, h2]
    show (puts d1.step.s _).length = n
    rw [puts_len, step_s, h1, wrs_s]
    simp [fresh]
  refine ⟨?_, ?_, ?_⟩
  · rw [Bool.or_eq_true]
    rcases puts_get (pk d3.w (fun i => keep.getD i false) d3.w.length) d3.s i with h | ⟨x, hx, hxi, hx2⟩
    · left
      rw [e4, h, e3]; simp
    · right
      rw [← e4] at hx2
      have hm := pk_mem hx
      rw [h3] at hm
      rcases wrs_mem behind _ hm with hm | ⟨a, ha, ha1, ha2⟩
      · have hm : x ∈ d2.w := hm
        rw [w2] at hm; simp at hm
      · unfold found
        rw [List.any_eq_true]
        refine ⟨a, ha, ?_⟩
        rw [hx2, ha2, ha1, hxi]; simp
  · have hd : d4.dead = false := by rw [h4]; rfl
    have hw : d4.w = [] := by rw [h4]; rfl
    have hi' : (0 : Int) ≤ (i : Int) ∧ (i : Int) < (d4.s.length : Int) := by omega
    unfold DS.read
    rw [hd, hw, if_pos hi']
    simp [lw]
  · intro hk
    rw [e4, pk_none _ (by intro j; rw [hk]; rfl), e3]
    rfl

end Go.Proofs.Ytilhjcnkaelheaa.Dk
