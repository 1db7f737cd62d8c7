/- What the abstract machine answers, the model's machine does: regions that draw their order, whatever is drawn. -/
import Derived.Test.YtilhjcnkaelheaaAmDraw
set_option linter.unusedSimpArgs false
set_option linter.unusedVariables false
namespace Go.Proofs.Ytilhjcnkaelheaa.Am
open Go Go.RowKit

variable {P : Program} {w0 w : World} {B : Nat → Bool} {m : Inj} {H H' : AHeap} {nt : Nat} {env : Env} {a : Act}

theorem copers_get {ops : Array Oper} : ∀ {l : List Oper} {al : List AOper}, copers P ops nt l = some al → al.length = l.length ∧ ∀ (i : Nat) x, al[i]? = some x → ∃ o, l[i]? = some o ∧ coper P ops nt o = some x
  | [], al, h => by simp [copers] at h; subst h; simp
  | o :: l, al, h => by
    simp only [copers, Option.bind_eq_some_iff, Option.map_eq_some_iff] at h
    obtain ⟨x, hx, r, hr, rfl⟩ := h
    obtain ⟨h1, h2⟩ := copers_get hr
    refine ⟨by simp [h1], fun i y hy => ?_⟩
    cases i with
    | zero => simp at hy; subst hy; exact ⟨o, rfl, hx⟩
    | succ i => simpa using h2 i y (by simpa using hy)

/-- What is known of a region that draws its order. -/
structure Region1 (P : Program) (nt : Nat) (ops : Array Oper) (al : List AOper) (b : Nat → Nat) : Prop where
  len : al.length = ops.size
  get : ∀ (i : Nat) (x : AOper), al[i]? = some x → ∃ o : Oper, ops[i]? = some o ∧ cdst nt o.dst = true ∧ copc P nt o.op = some x.op ∧ cguard ops nt o.guard = some x.guard ∧ x.dst = o.dst
  edge : ∀ (i : Nat) (o : Oper), ops[i]? = some o → ∀ e, e ∈ o.after → Region.binds .any e = true → e.on < i
  bit : ∀ (i : Nat) (o : Oper) (j : Nat), ops[i]? = some o → (b i).testBit j = true → ∃ e, e ∈ o.after ∧ Region.binds .any e = true ∧ e.on < i ∧ (e.on = j ∨ (b e.on).testBit j = true)
  chain : ∀ i j, i < j → effb al i = true → hardb al j = true → (b j).testBit i = true
  temps : ∀ (i j : Nat) (x y : AOper) (d : Nat), al[i]? = some x → al[j]? = some y → i ≠ j → x.dst = some d → (d ∈ y.looks ∨ y.dst = some d) → (b (max i j)).testBit (min i j) = true
  rd : ∀ (i : Nat) (x : AOper), al[i]? = some x → x.rd = rdOf al b x i

theorem withRds_get {al : List AOper} {b : Nat → Nat} {i : Nat} {x : AOper} (h : (withRds al b)[i]? = some x) : ∃ y, al[i]? = some y ∧ x = { y with rd := rdOf al b y i } := by
  simp only [withRds, List.getElem?_map, Option.map_eq_some_iff] at h
  obtain ⟨⟨y, j⟩, hy, rfl⟩ := h
  rw [List.getElem?_zipIdx] at hy
  simp only [Option.map_eq_some_iff, Prod.mk.injEq, Nat.zero_add] at hy
  obtain ⟨z, hz, rfl, rfl⟩ := hy
  exact ⟨_, hz, rfl⟩

theorem withRds_length (al : List AOper) (b : Nat → Nat) : (withRds al b).length = al.length := by simp [withRds]

theorem withRds_effb (al : List AOper) (b : Nat → Nat) (j : Nat) : effb (withRds al b) j = effb al j := by
  unfold effb
  cases h : (withRds al b)[j]? with
  | none =>
    have : al[j]? = none := by
      rw [List.getElem?_eq_none_iff] at h ⊢; rwa [withRds_length] at h
    rw [this]
  | some x =>
    obtain ⟨y, hy, rfl⟩ := withRds_get h
    rw [hy]; rfl

theorem withRds_hardb (al : List AOper) (b : Nat → Nat) (j : Nat) : hardb (withRds al b) j = hardb al j := by
  unfold hardb
  cases h : (withRds al b)[j]? with
  | none =>
    have : al[j]? = none := by
      rw [List.getElem?_eq_none_iff] at h ⊢; rwa [withRds_length] at h
    rw [this]
  | some x =>
    obtain ⟨y, hy, rfl⟩ := withRds_get h
    rw [hy]; rfl

theorem withRds_rdOf (al : List AOper) (b : Nat → Nat) (x : AOper) (r : Option (Nat × Nat)) (j : Nat) : rdOf (withRds al b) b { x with rd := r } j = rdOf al b x j := by
  have : stagesOf (withRds al b) b j = stagesOf al b j := by
    simp only [stagesOf, withRds_length, withRds_effb]
  simp only [rdOf, this]

theorem region1_of {ops : Array Oper} {al : List AOper} {c : ACode} (hc : copers P ops nt ops.toList = some al) (h : drawOf ops al (CheckFast.beforeF ops).toList = some c) :
    ∃ al' b, c = .draw al' ∧ Region1 P nt ops al' b := by
  unfold drawOf at h
  split at h
  · rename_i hk
    simp only [Bool.and_eq_true] at hk
    obtain ⟨⟨he, hch⟩, ht⟩ := hk
    simp only [Option.some.injEq] at h; subst h
    obtain ⟨h1, h2⟩ := copers_get hc
    generalize hb : (CheckFast.beforeF ops).toList = bl at *
    refine ⟨withRds al (fun i => bl.getD i 0), fun i => bl.getD i 0, rfl, ?_⟩
    refine ⟨by rw [withRds_length, h1]; simp, ?_, ?_, ?_, ?_, ?_, ?_⟩
    · intro i x hx
      obtain ⟨y, hy, rfl⟩ := withRds_get hx
      obtain ⟨o, ho, hco⟩ := h2 i y hy
      obtain ⟨q1, q2, q3, q4⟩ := coper_spec hco
      exact ⟨o, by simpa using ho, q1, q2, q3, q4⟩
    · intro i o ho e hm hbd
      unfold edgesOk at he
      rw [List.all_eq_true] at he
      have := he (o, i) (by rw [List.mem_zipIdx_iff_getElem?]; simpa using ho)
      simp only [Array.all_eq_true_iff_forall_mem] at this
      simpa [hbd] using this e hm
    · intro i o j ho hbit
      exact before_bit hb.symm he ho hbit
    · intro i j hij hi hj
      unfold chained at hch
      rw [List.all_eq_true] at hch
      have hjl : j < (withRds al fun i => bl.getD i 0).length := by
        rcases Nat.lt_or_ge j (withRds al fun i => bl.getD i 0).length with h | h
        · exact h
        · unfold hardb at hj
          rw [List.getElem?_eq_none h] at hj
          cases hj
      have := hch j (List.mem_range.2 hjl)
      simp only [hj, Bool.not_true, Bool.false_or, List.all_eq_true] at this
      have := this i (List.mem_range.2 hij)
      rw [hi] at this
      exact this
    · intro i j x y d hx hy hij hxd hor
      unfold tempsOk at ht
      rw [List.all_eq_true] at ht
      have := ht (x, i) (by rw [List.mem_zipIdx_iff_getElem?]; exact hx)
      simp only [hxd, List.all_eq_true] at this
      have := this (y, j) (by rw [List.mem_zipIdx_iff_getElem?]; exact hy)
      simp only [Bool.or_eq_true, beq_iff_eq, Bool.not_eq_true', Bool.or_eq_false_iff] at this
      rcases this with (h | h) | h
      · exact absurd h hij
      · exfalso
        rcases hor with hor | hor
        · have := h.1; simp at this; exact this hor
        · have := h.2; simp [hor] at this
      · exact h
    · intro i x hx
      obtain ⟨y, hy, rfl⟩ := withRds_get hx
      exact (withRds_rdOf al _ y _ i).symm
  · simp at h

section
variable {ops : Array Oper} {al : List AOper} {b : Nat → Nat}

/-- A set of operations that holds with each all that it waits for. -/
def Closed (ops : Array Oper) (S : Nat → Bool) : Prop := ∀ (i : Nat) (o : Oper), ops[i]? = some o → S i = true → ∀ e, e ∈ o.after → Region.binds .any e = true → S e.on = true

theorem closed_bit (R : Region1 P nt ops al b) {S : Nat → Bool} (hS : Closed ops S) : ∀ (i : Nat) (o : Oper) (j : Nat), ops[i]? = some o → (∀ e, e ∈ o.after → Region.binds .any e = true → S e.on = true) → (b i).testBit j = true → S j = true ∧ j < i
  | i, o, j, ho, hw, hb => by
    obtain ⟨e, hm, hbd, hlt, hor⟩ := R.bit i o j ho hb
    rcases hor with rfl | hb'
    · exact ⟨hw e hm hbd, hlt⟩
    · have hlt' : e.on < ops.size := by
        have := (Array.getElem?_eq_some_iff.1 ho).1; omega
      have ho' := Array.getElem?_eq_getElem hlt'
      obtain ⟨h1, h2⟩ := closed_bit R hS e.on _ j ho' (fun e' hm' hbd' => hS e.on _ ho' (hw e hm hbd) e' hm' hbd') hb'
      exact ⟨h1, by omega⟩
termination_by i => i

theorem closed_bit' (R : Region1 P nt ops al b) {S : Nat → Bool} (hS : Closed ops S) {i j : Nat} (hi : i < ops.size) (hs : S i = true) (hb : (b i).testBit j = true) : S j = true ∧ j < i :=
  closed_bit R hS i _ j (Array.getElem?_eq_getElem hi) (fun e hm hbd => hS i _ (Array.getElem?_eq_getElem hi) hs e hm hbd) hb

theorem stage_at {call : ACall} {E : Nat → Env} {G : Nat → AHeap} {V : Nat → AVal} {st : List AHeap} (htr : Trace call al E G V) (h0 : st[0]? = some (G 0)) (heff : ∀ i x, al[i]? = some x → x.op.eff = true → st[1 + effc al i]? = some (G (i + 1))) : ∀ i, i ≤ al.length → st[effn al i]? = some (G i) := by
  intro i
  induction i with
  | zero => intro _; simpa [effn] using h0
  | succ i ih =>
    intro hi
    have hlt : i < al.length := by omega
    have hx := List.getElem?_eq_getElem hlt
    have ih' := ih (by omega)
    rw [effn_succ hlt]
    by_cases he : (al[i]).op.eff = true
    · have := heff i _ hx he
      rw [effc_eq (by omega)] at this
      rw [if_pos (by simp [effb, hx, he]), Nat.add_comm]
      exact this
    · rw [if_neg (by simp [effb, hx, he]), Nat.add_zero, ih']
      congr 1
      obtain ⟨_, h1, h2⟩ := htr.step i _ hx
      cases hg : agd (E i) (al[i]).guard with
      | true => exact ((aop_still (by simpa using he) (h1 hg)).1).symm
      | false => exact (h2 hg).2.symm

theorem getD_any {l : Array Bool} {i : Nat} (h : i < l.size) {d d' : Bool} : l.getD i d = l.getD i d' := by
  simp [Array.getD_eq_getD_getElem?, h]

/-! ### The run in the order of the text -/
variable {call : ACall} {E : Nat → Env} {G : Nat → AHeap} {V : Nat → AVal} {loc : Nat → Loc} {S : Nat → Bool}

theorem trace_up (hup : CallUp call) (htr : Trace call al E G V) {i : Nat} (hi : i < al.length) : Up (G i) (G (i + 1)) := by
  obtain ⟨_, h1, h2⟩ := htr.step i _ (List.getElem?_eq_getElem hi)
  cases hg : agd (E i) (al[i]).guard with
  | true => exact ado_up hup (h1 hg)
  | false => rw [(h2 hg).2]; exact Up.refl _

theorem trace_mono (hup : CallUp call) (htr : Trace call al E G V) {i j : Nat} (hij : i ≤ j) (hj : j ≤ al.length) : (G i).next ≤ (G j).next := by
  induction j with
  | zero => have : i = 0 := by omega
            subst this; exact Nat.le_refl _
  | succ j ih =>
    by_cases h : i = j + 1
    · subst h; exact Nat.le_refl _
    · exact Nat.le_trans (ih (by omega) (by omega)) (trace_up hup htr (by omega)).1

theorem trace_still (htr : Trace call al E G V) {i : Nat} (hi : i < al.length) (he : effb al i = false) : G (i + 1) = G i := by
  have hx := List.getElem?_eq_getElem hi
  obtain ⟨_, h1, h2⟩ := htr.step i _ hx
  cases hg : agd (E i) (al[i]).guard with
  | true => exact (aop_still (by simpa [effb, hx] using he) (h1 hg)).1
  | false => exact (h2 hg).2

/-- Behind which operation the temporary was written last, of those in S. -/
def lastW (al : List AOper) (S : Nat → Bool) (t : Nat) : Nat → Nat
  | 0 => 0
  | n + 1 => if S n && ((al[n]?).bind (·.dst) == some t) then n + 1 else lastW al S t n

theorem lastW_le {t : Nat} : ∀ n, lastW al S t n ≤ n
  | 0 => Nat.le_refl _
  | n + 1 => by
    simp only [lastW]
    split
    · exact Nat.le_refl _
    · exact Nat.le_succ_of_le (lastW_le n)

theorem lastW_lt {t i : Nat} (h : ∀ j x, al[j]? = some x → x.dst = some t → i ≤ j → S j = false) : ∀ n, lastW al S t n ≤ i
  | 0 => Nat.zero_le _
  | n + 1 => by
    simp only [lastW]
    split
    · rename_i hc
      simp only [Bool.and_eq_true, beq_iff_eq, Option.bind_eq_some_iff] at hc
      obtain ⟨hs, x, hx, hd⟩ := hc
      rcases Nat.lt_or_ge n i with hlt | hge
      · exact hlt
      · rw [h n x hx hd hge] at hs; cases hs
    · exact lastW_lt h n

theorem lastW_other {S' : Nat → Bool} {i t : Nat} {x : AOper} (hx : al[i]? = some x) (hS' : ∀ j, S' j = (S j || j == i)) (hd : x.dst ≠ some t) : ∀ n, lastW al S' t n = lastW al S t n
  | 0 => rfl
  | n + 1 => by
    simp only [lastW, lastW_other hx hS' hd n]
    by_cases hn : n = i
    · subst hn
      have : ((al[n]?).bind (·.dst) == some t) = false := by simp [hx, hd]
      rw [this]; simp
    · rw [hS' n, show (n == i) = false by simpa using hn, Bool.or_false]

theorem lastW_self {S' : Nat → Bool} {i t : Nat} {x : AOper} (hx : al[i]? = some x) (hS' : ∀ j, S' j = (S j || j == i)) (hd : x.dst = some t) : ∀ n, i < n → i + 1 ≤ lastW al S' t n
  | 0, h => by omega
  | n + 1, h => by
    simp only [lastW]
    split
    · omega
    · rename_i hc
      by_cases hn : n = i
      · subst hn
        exfalso; apply hc
        rw [hS' n, hx]; simp [hd]
      · exact lastW_self hx hS' hd n (by omega)

/-- The numbers of the objects that are still to be made. -/
def holeS (al : List AOper) (G : Nat → AHeap) (S : Nat → Bool) (id : Nat) : Bool :=
  (List.range al.length).any fun j => effb al j && !S j && (decide ((G j).next ≤ id) && decide (id < (G (j + 1)).next))

def MM (al : List AOper) (G : Nat → AHeap) (loc : Nat → Loc) (S : Nat → Bool) (q : Nat) : Inj := { n := (G q).next, loc := loc, hole := holeS al G S }

theorem MM_le (hup : CallUp call) (htr : Trace call al E G V) {q q' : Nat} (h : q ≤ q') (h' : q' ≤ al.length) : (MM al G loc S q).le (MM al G loc S q') :=
  ⟨trace_mono hup htr h h', fun id hid => ⟨⟨Nat.lt_of_lt_of_le hid.1 (trace_mono hup htr h h'), hid.2⟩, rfl⟩⟩

theorem no_hole (hup : CallUp call) (htr : Trace call al E G V) {k : Nat} (hS : ∀ j, j < k → effb al j = true → S j = true) {id : Nat} (hid : id < (G k).next) : holeS al G S id = false := by
  unfold holeS
  rw [List.any_eq_false]
  intro j hj
  have hjl := List.mem_range.1 hj
  by_cases hjk : j < k
  · cases he : effb al j with
    | false => simp
    | true => simp [hS j hjk he]
  · have := trace_mono hup htr (i := k) (j := j) (by omega) (by omega)
    simp only [Bool.and_eq_true, decide_eq_true_eq, not_and]
    intro _ h; omega

theorem is_hole {i : Nat} (hi : i < al.length) (he : effb al i = true) (hs : S i = false) {id : Nat} (h1 : (G i).next ≤ id) (h2 : id < (G (i + 1)).next) : holeS al G S id = true := by
  unfold holeS
  rw [List.any_eq_true]
  exact ⟨i, List.mem_range.2 hi, by simp [he, hs, h1, h2]⟩

theorem hole_less {S' : Nat → Bool} (h : ∀ j, S j = true → S' j = true) {id : Nat} (hh : holeS al G S id = false) : holeS al G S' id = false := by
  unfold holeS at *
  rw [List.any_eq_false] at *
  intro j hj
  have := hh j hj
  cases hs : S' j with
  | true => simp
  | false =>
    have : S j = false := by
      cases h' : S j with
      | false => rfl
      | true => rw [h j h'] at hs; cases hs
    simpa [this, hs] using hh j hj

/-- Made ahead of its turn. -/
def pend (al : List AOper) (E : Nat → Env) (S : Nat → Bool) (k j : Nat) : Bool := decide (k ≤ j) && (S j && match al[j]? with
  | some x => x.op.eff && agd (E j) x.guard
  | none => false)

theorem pend_lt {k j : Nat} (h : pend al E S k j = true) : k ≤ j ∧ j < al.length ∧ S j = true ∧ effb al j = true := by
  unfold pend at h
  simp only [Bool.and_eq_true, decide_eq_true_eq] at h
  obtain ⟨h1, h2, h3⟩ := h
  split at h3
  · rename_i x hx
    simp only [Bool.and_eq_true] at h3
    refine ⟨h1, (List.getElem?_eq_some_iff.1 hx).1, h2, by simp [effb, hx, h3.1]⟩
  · cases h3

theorem pend_later {k k' j : Nat} (hk : k ≤ k') (h : pend al E S k' j = true) : pend al E S k j = true := by
  unfold pend at h ⊢
  simp only [Bool.and_eq_true, decide_eq_true_eq] at h ⊢
  exact ⟨by omega, h.2⟩

/-- What is so of the memory: up to the k-th operation as in the order of the text, and objects made ahead. -/
structure Data (w0 : World) (B : Nat → Bool) (al : List AOper) (E : Nat → Env) (G : Nat → AHeap) (loc : Nat → Loc) (S : Nat → Bool) (k : Nat) (w : World) : Prop where
  rel : SRel w0 B (MM al G loc S k) (G k) w
  obj : ∀ j, pend al E S k j = true → ∃ l, G (j + 1) = (G j).new (.cells l true) ∧ ORel B (MM al G loc S (j + 1)) (.cells l true) (loc (G j).next) w
  far : ∀ j, pend al E S k j = true → ∀ id o, (G k).obj id = some o → (loc id).block ≠ (loc (G j).next).block
  two : ∀ j j', pend al E S k j = true → pend al E S k j' = true → j ≠ j' → (loc (G j).next).block ≠ (loc (G j').next).block

theorem Data.same {k : Nat} {w : World} (h : Data w0 B al E G loc S k w) (hG : G (k + 1) = G k) : Data w0 B al E G loc S (k + 1) w := by
  have hM : MM al G loc S (k + 1) = MM al G loc S k := by unfold MM; rw [hG]
  refine ⟨by rw [hM, hG]; exact h.rel, fun j hj => h.obj j (pend_later (Nat.le_succ k) hj), fun j hj => ?_, fun j j' hj hj' => h.two j j' (pend_later (Nat.le_succ k) hj) (pend_later (Nat.le_succ k) hj')⟩
  rw [hG]; exact h.far j (pend_later (Nat.le_succ k) hj)

theorem absorb (hup : CallUp call) (htr : Trace call al E G V) {w : World} : ∀ (d k : Nat), al.length - k = d → k ≤ al.length → (∀ j, j < k → effb al j = true → S j = true) → Data w0 B al E G loc S k w →
    ∃ k', k ≤ k' ∧ k' ≤ al.length ∧ (∀ j, j < k' → effb al j = true → S j = true) ∧ (k' < al.length → effb al k' = true ∧ S k' = false) ∧ Data w0 B al E G loc S k' w
  | 0, k, hd, hk, hS, h => ⟨k, Nat.le_refl _, hk, hS, fun hlt => by omega, h⟩
  | d + 1, k, hd, hk, hS, h => by
    have hlt : k < al.length := by omega
    have go : effb al k = false ∨ S k = true → Data w0 B al E G loc S (k + 1) w → ∃ k', k ≤ k' ∧ k' ≤ al.length ∧ (∀ j, j < k' → effb al j = true → S j = true) ∧ (k' < al.length → effb al k' = true ∧ S k' = false) ∧ Data w0 B al E G loc S k' w := by
      intro hor hD
      obtain ⟨k', h1, h2, h3, h4, h5⟩ := absorb hup htr d (k + 1) (by omega) (by omega) (fun j hj he => by
        by_cases hjk : j < k
        · exact hS j hjk he
        · have : j = k := by omega
          subst this
          rcases hor with hor | hor
          · rw [hor] at he; cases he
          · exact hor) hD
      exact ⟨k', by omega, h2, h3, h4, h5⟩
    cases he : effb al k with
    | false => exact go (.inl he) (h.same (trace_still htr hlt he))
    | true =>
      cases hs : S k with
      | false => exact ⟨k, Nat.le_refl _, hk, hS, fun _ => ⟨he, hs⟩, h⟩
      | true =>
        have hx := List.getElem?_eq_getElem hlt
        obtain ⟨_, _, h2⟩ := htr.step k _ hx
        cases hg : agd (E k) (al[k]).guard with
        | false => exact go (.inr hs) (h.same (h2 hg).2)
        | true =>
          have hpk : pend al E S k k = true := by
            unfold pend
            rw [hx]
            simp only [hs, hg, Bool.and_true, Nat.le_refl, decide_true, Bool.true_and]
            simpa [effb, hx] using he
          obtain ⟨l, hG, hO⟩ := h.obj k hpk
          have hS1 : ∀ j, j < k + 1 → effb al j = true → S j = true := fun j hj hej => by
            by_cases hjk : j < k
            · exact hS j hjk hej
            · have : j = k := by omega
              subst this; exact hs
          have hn : (G (k + 1)).next = (G k).next + 1 := by rw [hG]; rfl
          have hle : (MM al G loc S k).le (MM al G loc S (k + 1)) := MM_le hup htr (Nat.le_succ k) (by omega)
          refine go (.inr hs) ⟨⟨h.rel.below, h.rel.size, rfl, ?_, ?_⟩, fun j hj => h.obj j (pend_later (Nat.le_succ k) hj), ?_, fun j j' hj hj' => h.two j j' (pend_later (Nat.le_succ k) hj) (pend_later (Nat.le_succ k) hj')⟩
          · intro id o ho
            rw [hG] at ho
            simp only [AHeap.new] at ho
            split at ho
            · rename_i hid
              simp only [Option.some.injEq] at ho
              subst ho hid
              exact ⟨⟨by show (G k).next < (G (k + 1)).next; omega, no_hole hup htr hS1 (by omega)⟩, hO⟩
            · obtain ⟨h3, h4⟩ := h.rel.obj id o ho
              exact ⟨(hle.2 id h3).1, h4.mono hle⟩
          · intro a b o o' ha hb hown hab
            rw [hG] at ha hb
            simp only [AHeap.new] at ha hb
            show (loc a).block ≠ (loc b).block
            split at ha
            · rename_i hia
              rw [if_neg (by omega)] at hb
              rw [hia]
              exact Ne.symm (h.far k hpk b o' hb)
            · split at hb
              · rename_i hib
                rw [hib]
                exact h.far k hpk a o ha
              · exact h.rel.apart a b o o' ha hb hown hab
          · intro j hj id o ho
            have hj' := pend_later (Nat.le_succ k) hj
            have hjk : k ≠ j := by have := (pend_lt hj).1; omega
            rw [hG] at ho
            simp only [AHeap.new] at ho
            split at ho
            · rename_i hid
              rw [hid]
              exact h.two k j hpk hj' hjk
            · exact h.far j hj' id o ho

/-! ### One operation -/
theorem fresh_new {o : AOp} (hf : o.fresh = true) {ρ : AOpd → AVal} {H H' : AHeap} {v : AVal} (h : ado call o ρ H = some (v, H')) :
    ∃ l, H' = H.new (.cells l true) ∧ ∀ H2 : AHeap, H2.next = H.next → ado call o ρ H2 = some (v, H2.new (.cells l true)) := by
  cases o <;> simp [AOp.fresh] at hf <;> simp only [ado, aop] at h ⊢
  case new =>
    simp at h; obtain ⟨rfl, rfl⟩ := h
    exact ⟨_, rfl, fun H2 h2 => by rw [h2]⟩
  case box =>
    split at h
    · cases h
    · rename_i ht
      simp at h; obtain ⟨rfl, rfl⟩ := h
      exact ⟨_, rfl, fun H2 h2 => by rw [if_neg ht, h2]⟩
  case buildS =>
    simp only [Option.map_eq_some_iff, Prod.mk.injEq] at h
    obtain ⟨l, hl, rfl, rfl⟩ := h
    exact ⟨l, rfl, fun H2 h2 => by rw [hl, h2]; rfl⟩

/-- What an operation without effect answers hangs on the cells it reads alone. -/
theorem still_obj {o : AOp} (he : o.eff = false) {ρ : AOpd → AVal} {H H' : AHeap} {v : AVal} (h : ado call o ρ H = some (v, H')) {H2 : AHeap} (hh : ∀ id l own, H.obj id = some (.cells l own) → ∃ own', H2.obj id = some (.cells l own')) : ado call o ρ H2 = some (v, H2) := by
  obtain ⟨_, hp⟩ := aop_still he h
  cases hr : o.reads with
  | false => exact hp hr H2
  | true =>
    cases o <;> simp [AOp.reads] at hr <;> simp only [ado, aop] at h ⊢
    case load g n x =>
      simp only [Option.map_eq_some_iff, Prod.mk.injEq] at h ⊢
      obtain ⟨u, hu, rfl, _⟩ := h
      refine ⟨u, ?_, rfl, trivial⟩
      unfold aload at hu ⊢
      split at hu
      · rename_i id off
        split at hu
        · rename_i l own ho
          obtain ⟨own', ho'⟩ := hh _ _ _ ho
          rw [ho']; exact hu
        · cases hu
      · cases hu
    case bToS x =>
      split at h
      · cases h
      · simp only [Option.bind_eq_some_iff, Option.map_eq_some_iff, Prod.mk.injEq] at h ⊢
        rename_i hns
        obtain ⟨n, hn, l, hl, u, ⟨k, hk, rfl⟩, rfl, _⟩ := h
        refine ⟨n, hn, l, ?_, _, ⟨k, hk, rfl⟩, rfl, trivial⟩
        generalize ρ x = y at *
        unfold acells at hl ⊢
        split at hl
        · exact hl
        · split at hl
          · rename_i hz; rw [if_pos hz]; exact hl
          · rename_i hz
            rw [if_neg hz]
            split at hl
            · rename_i c own ho
              obtain ⟨own', ho'⟩ := hh _ _ _ ho
              rw [ho']; exact hl
            · cases hl
        · exact hl
        · cases hl

theorem put_eval {dst : Option Nat} {v' : Value} {t : Nat} (ht : t < a.tmps.size) : (a.put dst v').eval (.tmp t) = if dst = some t then v' else a.eval (.tmp t) := by
  cases dst with
  | none => rfl
  | some d =>
    simp only [Act.put, Act.eval]
    by_cases htd : t = d
    · subst htd
      simp [ht]
    · rw [if_neg (by simp; omega)]
      rw [Array.getD_eq_getD_getElem?, Array.getElem?_setIfInBounds_ne (Ne.symm htd), ← Array.getD_eq_getD_getElem?]

theorem SRel.rebase {K : Nat → Bool} {w1 w2 : World} {m : Inj} {H : AHeap} (hS : SRel w1 K m H w2) (hb : Keep B w0 w1) (hB : ∀ k, B k = true → K k = true) (hs : ∀ k, B k = true → k < w0.heap.size) : SRel w0 B m H w2 := by
  refine ⟨hb.trans (hS.below.mono hB), hs, hS.next, fun id o ho => ?_, hS.apart⟩
  obtain ⟨h1, h2⟩ := hS.obj id o ho
  refine ⟨h1, ?_⟩
  cases o with
  | cells l own =>
    obtain ⟨c, e, fz, h3, h4, h5⟩ := h2
    refine ⟨c, e, fz, h3, h4, fun h => ?_⟩
    obtain ⟨h6, h7⟩ := h5 h
    refine ⟨?_, h7⟩
    cases hb' : B (m.loc id).block with
    | false => rfl
    | true => rw [hB _ hb'] at h6; cases h6

theorem ORel.keep {m m' : Inj} {o : AObj} {L : Loc} {w w' : World} (h : ORel B m o L w) (hm : m.le m') (hk : w'.heap[L.block]? = w.heap[L.block]?) : ORel B m' o L w' := by
  cases o with
  | cells l own =>
    obtain ⟨c, e, fz, h3, h4, h5⟩ := h
    exact ⟨c, e, fz, by rw [hk]; exact h3, fun i x hx => let ⟨v, q1, q2, q3⟩ := h4 i x hx; ⟨v, q1, q2.mono hm, q3⟩, h5⟩

structure Inv (w0 : World) (B : Nat → Bool) (m0 : Inj) (nt : Nat) (al : List AOper) (env : Env) (E : Nat → Env) (G : Nat → AHeap) (V : Nat → AVal) (df : List Deferred) (S : Nat → Bool) (a : Act) (w : World) : Prop where
  defers : a.defers = df
  size : nt ≤ a.tmps.size
  ex : ∃ (loc : Nat → Loc) (k : Nat), k ≤ al.length ∧ (∀ j, j < k → effb al j = true → S j = true) ∧ (k < al.length → effb al k = true ∧ S k = false) ∧ (∀ id, m0.has id → loc id = m0.loc id) ∧ Data w0 B al E G loc S k w ∧
    ∀ t, t < nt → VRel (MM al G loc S (max (lastW al S t al.length) k)) (curE al env V S al.length t) (a.eval (.tmp t))

/-- One operation more: what is left to show of the memory. -/
theorem inv_step (hup : CallUp call) (htr : Trace call al E G V) {m0 : Inj} {df : List Deferred} {a : Act} {w' : World} {S' : Nat → Bool} {loc' : Nat → Loc} {i k k0 : Nat} {x : AOper} {dst : Option Nat} {v' : Value}
    (hx : al[i]? = some x) (hSi : S i = false) (hS' : ∀ j, S' j = (S j || j == i)) (hdx : x.dst = dst) (hd : cdst nt dst = true)
    (hlate : ∀ t, ∀ j y, al[j]? = some y → x.dst = some t → y.dst = some t → i < j → S j = false)
    (hdf : a.defers = df) (hsz : nt ≤ a.tmps.size) (hloc0 : ∀ id, m0.has id → loc' id = m0.loc id)
    (hv : ∀ t, t < nt → VRel (MM al G loc S (max (lastW al S t al.length) k)) (curE al env V S al.length t) (a.eval (.tmp t)))
    (hkk : k ≤ k0) (hk0 : k0 ≤ al.length) (hSk : ∀ j, j < k0 → effb al j = true → S' j = true) (hD : Data w0 B al E G loc' S' k0 w')
    (hle : ∀ q, q ≤ al.length → (MM al G loc S q).le (MM al G loc' S' q)) (hv' : VRel (MM al G loc' S' (max (i + 1) k0)) (V i) v') :
    Inv w0 B m0 nt al env E G V df S' (a.put dst v') w' := by
  have hil : i < al.length := (List.getElem?_eq_some_iff.1 hx).1
  obtain ⟨k', h1, h2, h3, h4, h5⟩ := absorb hup htr _ k0 rfl hk0 hSk hD
  refine ⟨(put_defers _ _).trans hdf, by cases dst <;> simp [Act.put] <;> exact hsz, loc', k', h2, h3, h4, hloc0, h5, fun t ht => ?_⟩
  rw [put_eval (Nat.lt_of_lt_of_le ht hsz)]
  rw [curE_insert hx hSi hS' (fun j y hy hxd hyd hij => hlate t j y hy hxd hyd hij)]
  by_cases hdt : x.dst = some t
  · rw [if_pos hdt, if_pos (by rw [← hdx]; exact hdt)]
    have := lastW_self hx hS' hdt al.length hil
    have hl := lastW_le (al := al) (S := S') (t := t) al.length
    exact hv'.mono (MM_le hup htr (by omega) (by omega))
  · rw [if_neg hdt, if_neg (by rw [← hdx]; exact hdt), lastW_other hx hS' hdt]
    have hl := lastW_le (al := al) (S := S) (t := t) al.length
    refine ((hv t ht).mono (hle _ (by omega))).mono (MM_le hup htr (by omega) (by omega))

theorem pend_hole (hup : CallUp call) (htr : Trace call al E G V) {k : Nat} {w : World} (hD : Data w0 B al E G loc S k w) {j : Nat} (hj : pend al E S k j = true) : holeS al G S (G j).next = false := by
  obtain ⟨hp1, hp2, hp3, hp4⟩ := pend_lt hj
  cases hc : holeS al G S (G j).next with
  | false => rfl
  | true =>
    exfalso
    obtain ⟨l, h1, _⟩ := hD.obj j hj
    unfold holeS at hc
    rw [List.any_eq_true] at hc
    obtain ⟨q, hq, hc⟩ := hc
    simp only [Bool.and_eq_true, decide_eq_true_eq, Bool.not_eq_true'] at hc
    obtain ⟨⟨hc1, hc2⟩, hc3, hc4⟩ := hc
    have hql := List.mem_range.1 hq
    rcases Nat.lt_trichotomy q j with hlt | heq | hgt
    · have := trace_mono hup htr (i := q + 1) (j := j) (by omega) (by omega); omega
    · subst heq; rw [hp3] at hc2; cases hc2
    · have := trace_mono hup htr (i := j + 1) (j := q) (by omega) (by omega)
      have hn : (G (j + 1)).next = (G j).next + 1 := by rw [h1]; rfl
      omega

/-- The memory behind an operation that touched none of it. -/
theorem data_next (hup : CallUp call) (htr : Trace call al E G V) {k i : Nat} {w w2 : World} {S' : Nat → Bool} {loc' : Nat → Loc} (hk : k ≤ al.length) (hk1 : ∀ j, j < k → effb al j = true → S j = true) (hD : Data w0 B al E G loc S k w) (hS' : ∀ j, S' j = (S j || j == i)) (hbl : Below w.heap.size w w2)
    (hle : ∀ q, q ≤ al.length → (MM al G loc S q).le (MM al G loc' S' q)) (hloc : ∀ id, holeS al G S id = false → loc' id = loc id)
    (hnew : S i = false → pend al E S' k i = true → ∃ l, G (i + 1) = (G i).new (.cells l true) ∧ ORel B (MM al G loc' S' (i + 1)) (.cells l true) (loc' (G i).next) w2 ∧ w.heap.size ≤ (loc' (G i).next).block) : Data w0 B al E G loc' S' k w2 := by
  have hpe : ∀ j, pend al E S' k j = true → pend al E S k j = true ∨ (j = i ∧ S i = false) := by
    intro j hj
    cases hs : S j with
    | true =>
      left
      unfold pend at hj ⊢
      simp only [Bool.and_eq_true, decide_eq_true_eq] at hj ⊢
      exact ⟨hj.1, hs, hj.2.2⟩
    | false =>
      right
      have := (pend_lt hj).2.2.1
      rw [hS' j, hs] at this
      simp only [Bool.false_or, beq_iff_eq] at this
      subst this
      exact ⟨rfl, hs⟩
  have hh : ∀ {id}, id < (G k).next → holeS al G S id = false := fun hid => no_hole hup htr hk1 hid
  have hlow : ∀ id o, (G k).obj id = some o → (loc' id).block < w.heap.size ∧ loc' id = loc id := by
    intro id o ho
    have h1 := hloc id (hh (hD.rel.obj id o ho).1.1)
    exact ⟨by rw [h1]; exact (hD.rel.obj id o ho).2.lt, h1⟩
  have hplow : ∀ j, pend al E S k j = true → loc' (G j).next = loc (G j).next ∧ (loc (G j).next).block < w.heap.size := by
    intro j hj
    obtain ⟨l, _, h2⟩ := hD.obj j hj
    exact ⟨hloc _ (pend_hole hup htr hD hj), h2.lt⟩
  refine ⟨(hD.rel.stays hbl).inj (hle k hk) rfl, ?_, ?_, ?_⟩
  · intro j hj
    rcases hpe j hj with hp | ⟨rfl, hs⟩
    · obtain ⟨l, h1, h2⟩ := hD.obj j hp
      refine ⟨l, h1, ?_⟩
      rw [(hplow j hp).1]
      exact h2.keep (hle (j + 1) (by have := (pend_lt hp).2.1; omega)) (hbl.block _ h2.lt)
    · obtain ⟨l, h1, h2, _⟩ := hnew hs hj
      exact ⟨l, h1, h2⟩
  · intro j hj id o ho
    rcases hpe j hj with hp | ⟨rfl, hs⟩
    · rw [(hlow id o ho).2, (hplow j hp).1]
      exact hD.far j hp id o ho
    · obtain ⟨_, _, _, h3⟩ := hnew hs hj
      have := (hlow id o ho).1
      omega
  · intro j j' hj hj' hne
    rcases hpe j hj with hp | ⟨rfl, hs⟩ <;> rcases hpe j' hj' with hp' | ⟨rfl, hs'⟩
    · rw [(hplow j hp).1, (hplow j' hp').1]
      exact hD.two j j' hp hp' hne
    · obtain ⟨_, _, _, h3⟩ := hnew hs' hj'
      have h4 := hplow j hp
      rw [h4.1]; omega
    · obtain ⟨_, _, _, h3⟩ := hnew hs hj
      have h4 := hplow j' hp'
      rw [h4.1]; omega
    · exact absurd rfl hne

theorem sound_draw (hcs : ∀ w0 B, CallSound P w0 B call) (hmix : P.follows .mixedOrders = true) (R : Region1 P nt ops al b) {Q : Exit → Act → World → Prop} {env' : Env} (hE : ERel m nt env a) (hS : SRel w0 B m H w) (h : adraw call al env H [H] [] = some (env', H'))
    (hQ : ∀ a' w' m', m.le m' → SRel w0 B m' H' w' → ERel m' nt env' a' → a'.defers = a.defers → Q .normal a' w') (id : Nat) (r : Option Nat) (nn : Nat) : (Code.region id ops true).wpIn (FW r) nn P Q a w := by
  obtain ⟨E, G, V, st, e0, g0, e1, g1, htr, hst0, hsteff, _, hrd⟩ := adraw_trace al env H [H] [] env' H' h
  have hup : CallUp call := callSound_up (hcs w0 B)
  have hst0' : st[0]? = some (G 0) := by rw [hst0 0 (by simp), g0]; rfl
  have hstage := stage_at htr hst0' (by intro i x hx he; have := hsteff i x hx he; simpa using this)
  refine wpIn_region_any hmix ?_
  have hn0 : (G 0).next = m.n := by rw [g0]; exact hS.next
  -- the walk over whatever order
  have main : ∀ (fuel : Nat) (listed : Array Bool) (a' : Act) (w' : World), listed.size = ops.size → (List.range ops.size).countP (fun j => !listed.getD j false) = fuel → Closed ops (fun j => listed.getD j false) →
      Inv w0 B m nt al env E G V a.defers (fun j => listed.getD j false) a' w' → wpAnyIn (FW r) nn P .any ops Q fuel listed a' w' := by
    intro fuel
    induction fuel with
    | zero =>
      intro listed a' w' hsz hcnt hcl hI
      have hall : ∀ j, j < ops.size → listed.getD j false = true := by
        intro j hj
        have := List.countP_eq_zero.1 hcnt j (List.mem_range.2 hj)
        simpa using this
      refine ⟨?_, ?_⟩
      · rw [List.eq_nil_iff_forall_not_mem]
        intro j hj
        obtain ⟨hj1, o, ho, _⟩ := mem_ready.1 hj
        have hlt := (Array.getElem?_eq_some_iff.1 ho).1
        have := hall j hlt
        rw [getD_any (d' := true) (by omega)] at this
        rw [this] at hj1; cases hj1
      · obtain ⟨loc, k, hk, _, hk2, hl0, hD, hv⟩ := hI.ex
        have hkl : k = al.length := by
          rcases Nat.lt_or_ge k al.length with hlt | hge
          · obtain ⟨_, h2⟩ := hk2 hlt
            rw [hall k (by rw [← R.len]; exact hlt)] at h2; cases h2
          · omega
        subst hkl
        have hnh : ∀ id, id < (G al.length).next → holeS al G (fun j => listed.getD j false) id = false := fun id hid => no_hole hup htr (fun j hj _ => hall j (by rw [← R.len]; exact hj)) hid
        refine hQ a' w' (MM al G loc (fun j => listed.getD j false) al.length) ⟨?_, fun id hid => ?_⟩ (by rw [← g1]; exact hD.rel) ⟨hI.size, fun t ht => ?_⟩ hI.defers
        · rw [← hn0]; exact trace_mono hup htr (Nat.zero_le _) (Nat.le_refl _)
        · have hlt : id < (G al.length).next := Nat.lt_of_lt_of_le hid.1 (by rw [← hn0]; exact trace_mono hup htr (Nat.zero_le _) (Nat.le_refl _))
          exact ⟨⟨hlt, hnh id hlt⟩, hl0 id hid⟩
        · have := hv t ht
          rw [curE_at e0 htr (Nat.le_refl _) (fun j x hx hd => ⟨fun hj => hall j (by rw [← R.len]; exact hj), fun hj => by
            rcases Nat.lt_or_ge j al.length with h | h
            · omega
            · rw [List.getElem?_eq_none h] at hx; cases hx⟩), e1] at this
          have hl := lastW_le (al := al) (S := fun j => listed.getD j false) (t := t) al.length
          exact this.mono (MM_le hup htr (by omega) (Nat.le_refl _))
    | succ fuel ih =>
      intro listed a' w' hsz hcnt hcl hI
      refine ⟨?_, ?_⟩
      · -- something is ready
        intro hnil
        exfalso
        have hex : ∃ j, j < ops.size ∧ listed.getD j false = false := by
          have hp : 0 < (List.range ops.size).countP (fun j => !listed.getD j false) := by omega
          obtain ⟨j, hj, hp⟩ := List.countP_pos_iff.1 hp
          exact ⟨j, List.mem_range.1 hj, by simpa using hp⟩
        have hleast : ∀ k, (∃ j, j ≤ k ∧ j < ops.size ∧ listed.getD j false = false) → ∃ j, j < ops.size ∧ listed.getD j false = false ∧ ∀ i, i < j → listed.getD i false = true := by
          intro k
          induction k with
          | zero =>
            rintro ⟨j, hj, h1, h2⟩
            have : j = 0 := by omega
            subst this
            exact ⟨0, h1, h2, by omega⟩
          | succ k ihk =>
            rintro ⟨j, hj, h1, h2⟩
            by_cases hk : ∃ j, j ≤ k ∧ j < ops.size ∧ listed.getD j false = false
            · exact ihk hk
            · refine ⟨j, h1, h2, fun i hi => ?_⟩
              cases hl : listed.getD i false with
              | true => rfl
              | false => exact absurd ⟨i, by omega, by omega, hl⟩ hk
        obtain ⟨j0, hj0⟩ := hex
        obtain ⟨j, hj, hjf, hjl⟩ := hleast j0 ⟨j0, Nat.le_refl _, hj0⟩
        have ho := Array.getElem?_eq_getElem hj
        have hmem : j ∈ Region.ready .any ops listed := by
          rw [mem_ready]
          exact ⟨(getD_any (by omega)).trans hjf, _, ho, fun e hm hbd => hjl _ (R.edge j _ ho e hm hbd)⟩
        rw [hnil] at hmem
        cases hmem
      · intro i hi
        obtain ⟨hi1, o, ho, hwait⟩ := mem_ready.1 hi
        have hilt := (Array.getElem?_eq_some_iff.1 ho).1
        have hil : i < al.length := by rw [R.len]; exact hilt
        have hx := List.getElem?_eq_getElem hil
        generalize hxd : al[i] = x at hx
        obtain ⟨o', ho', hcd, hco, hcg, hdx⟩ := R.get i x hx
        rw [ho] at ho'; simp at ho'; subst ho'
        generalize hSd : (fun j => listed.getD j false) = S at hI hcl
        have hSat : ∀ j, listed.getD j false = S j := fun j => by rw [← hSd]
        have hwait : ∀ e, e ∈ o.after → Region.binds .any e = true → S e.on = true := fun e hm hbd => by rw [← hSat]; exact hwait e hm hbd
        have hSi : S i = false := by rw [← hSat]; exact (getD_any (by omega)).trans hi1
        obtain ⟨S', hSd'⟩ : ∃ S', (fun j => (listed.setIfInBounds i true).getD j false) = S' := ⟨_, rfl⟩
        have hS' : ∀ j, S' j = (S j || j == i) := by
          intro j
          rw [← hSd']
          show (listed.setIfInBounds i true).getD j false = _
          by_cases hji : j = i
          · subst hji
            simp [show j < listed.size by omega]
          · rw [getD_set_ne false (Ne.symm hji), hSat]
            simp [hji]
        have hSS : ∀ j, S j = true → S' j = true := fun j hj => by rw [hS' j, hj]; rfl
        have hcl' : Closed ops S' := by
          intro k ok hk hsk e hm hbd
          rw [hS'] at hsk ⊢
          simp only [Bool.or_eq_true, beq_iff_eq] at hsk
          rcases hsk with hsk | rfl
          · rw [show S e.on = true from hcl k ok hk hsk e hm hbd]; rfl
          · rw [ho] at hk; simp at hk; subst hk
            rw [show S e.on = true from hwait e hm hbd]; rfl
        have hbefore : ∀ j, (b i).testBit j = true → S j = true ∧ j < i := fun j hj => closed_bit R hcl i o j ho hwait hj
        have hafter : ∀ j, j < ops.size → (b j).testBit i = true → S j = false := by
          intro j hj hb
          cases hs : S j with
          | false => rfl
          | true =>
            have := (closed_bit' R hcl hj hs hb).1
            rw [hSi] at this; cases this
        have hlt_of : ∀ j y, al[j]? = some y → j < ops.size := by
          intro j y hy
          rw [← R.len]
          rcases Nat.lt_or_ge j al.length with h | h
          · exact h
          · rw [List.getElem?_eq_none h] at hy; cases hy
        obtain ⟨loc, k, hk, hk1, hk2, hl0, hD, hv⟩ := hI.ex
        -- what is looked at reads as in the order of the text
        have hwr : ∀ t, t ∈ x.looks → ∀ j y, al[j]? = some y → y.dst = some t → (j < i → S j = true) ∧ (i ≤ j → S j = false) := by
          intro t ht j y hy hyd
          by_cases hji : j = i
          · subst hji
            exact ⟨by omega, fun _ => hSi⟩
          · have hbit := R.temps j i y x t hy hx hji hyd (.inl ht)
            refine ⟨fun hlt => ?_, fun hle => ?_⟩
            · rw [Nat.max_eq_right (by omega), Nat.min_eq_left (by omega)] at hbit
              exact (hbefore j hbit).1
            · rw [Nat.max_eq_left (by omega), Nat.min_eq_right (by omega)] at hbit
              exact hafter j (hlt_of j y hy) hbit
        have hlook : ∀ t, t ∈ x.looks → curE al env V S al.length t = E i t := fun t ht => curE_at e0 htr (by omega) (hwr t ht)
        have hlast : ∀ t, t ∈ x.looks → lastW al S t al.length ≤ i := fun t ht => lastW_lt (fun j y hy hyd hij => (hwr t ht j y hy hyd).2 hij) _
        have hlate : ∀ t, ∀ j y, al[j]? = some y → x.dst = some t → y.dst = some t → i < j → S j = false := by
          intro t j y hy hxd' hyd hij
          have hbit := R.temps i j x y t hx hy (by omega) hxd' (.inr hyd)
          rw [Nat.max_eq_right (by omega), Nat.min_eq_left (by omega)] at hbit
          exact hafter j (hlt_of j y hy) hbit
        -- a frame that knows what is looked at, and nothing else
        let envS : Env := fun t => if t ∈ x.looks then curE al env V S al.length t else match a'.eval (.tmp t) with
          | .bool b => .bool b
          | _ => .any
        have hEr : ∀ q, max i k ≤ q → q ≤ al.length → ERel (MM al G loc S q) nt envS a' := by
          intro q hq hql
          refine ⟨hI.size, fun t ht => ?_⟩
          show VRel _ (if t ∈ x.looks then _ else _) _
          split
          · rename_i hmem
            have := hlast t hmem
            exact (hv t ht).mono (MM_le hup htr (by omega) hql)
          · generalize a'.eval (.tmp t) = u
            cases u with
            | bool b => exact .bool b
            | _ => exact .any _ (fun b hb => by cases hb)
        have hopd : ∀ y, y ∈ x.op.opds → aev envS y = aev (E i) y := by
          intro y hy
          cases y with
          | con v => rfl
          | tmp t =>
            have hmem : t ∈ x.looks := by
              simp only [AOper.looks, List.mem_append, List.mem_filterMap]
              exact .inl ⟨_, hy, rfl⟩
            show (if t ∈ x.looks then _ else _) = _
            rw [if_pos hmem]
            exact hlook t hmem
        have hguard : agd envS x.guard = agd (E i) x.guard := by
          cases hg : x.guard with
          | none => rfl
          | some g =>
            obtain ⟨d, wnt⟩ := g
            have hmem : d ∈ x.looks := by simp [AOper.looks, hg]
            simp only [agd]
            rw [show envS d = E i d from by show (if d ∈ x.looks then _ else _) = _; rw [if_pos hmem]; exact hlook d hmem]
        have hkil : max i k ≤ al.length := by omega
        have hwd := wanted_rel (ops := ops) (hEr _ (Nat.le_refl _) hkil) hcg
        rw [hguard] at hwd
        obtain ⟨hEi, hrun, hskip⟩ := htr.step i x hx
        -- an effect stands at its turn, or is ahead of it
        have hki : effb al i = true → k ≤ i := by
          intro he
          rcases Nat.lt_or_ge i k with hlt | hge
          · rw [show S i = true from hk1 i hlt he] at hSi; cases hSi
          · exact hge
        have hkh : hardb al i = true → k = i := by
          intro hh
          have he : effb al i = true := by
            unfold hardb at hh; rw [hx] at hh; simp at hh
            simp [effb, hx, hh.1]
          have := hki he
          rcases Nat.lt_or_ge k i with hlt | hge
          · obtain ⟨h1, h2⟩ := hk2 (by omega)
            have := (hbefore k (R.chain k i hlt h1 hh)).1
            rw [h2] at this; cases this
          · omega
        -- going on
        have hgo : ∀ (v' : Value) (w2 : World), Inv w0 B m nt al env E G V a.defers S' (a'.put o.dst v') w2 → wpAnyIn (FW r) nn P .any ops Q fuel (listed.setIfInBounds i true) (a'.put o.dst v') w2 := by
          intro v' w2 hI2
          refine ih _ _ _ (by simp [hsz]) ?_ (by rw [hSd']; exact hcl') (by rw [hSd']; exact hI2)
          have hc1 : (List.range ops.size).countP (fun j => !listed.getD j false) = (List.range ops.size).countP (fun j => !(listed.setIfInBounds i true).getD j false) + 1 := by
            have hsplit : ∀ n, n ≤ ops.size → (List.range n).countP (fun j => !listed.getD j false) = (List.range n).countP (fun j => !(listed.setIfInBounds i true).getD j false) + if i < n then 1 else 0 := by
              intro n
              induction n with
              | zero => intro _; simp
              | succ n ihn =>
                intro hn
                rw [List.range_succ, List.countP_append, List.countP_append, ihn (by omega)]
                by_cases hni : n = i
                · subst hni
                  have h1 : (listed.setIfInBounds n true).getD n false = true := by simp [show n < listed.size by omega]
                  simp only [List.countP_cons, List.countP_nil, (hSat n).trans hSi, h1]
                  simp
                · have hsame : (listed.setIfInBounds i true).getD n false = listed.getD n false := getD_set_ne false (Ne.symm hni)
                  have hsing : List.countP (fun j => !(listed.setIfInBounds i true).getD j false) [n] = List.countP (fun j => !listed.getD j false) [n] := by
                    simp only [List.countP_cons, List.countP_nil, hsame]
                  rw [hsing]
                  have hif : (if i < n + 1 then 1 else 0) = (if i < n then 1 else 0) := by
                    by_cases hin : i < n
                    · rw [if_pos hin, if_pos (by omega)]
                    · rw [if_neg hin, if_neg (by omega)]
                  rw [hif]; omega
            rw [hsplit _ (Nat.le_refl _), if_pos hilt]
          omega
        have hleS : ∀ q, q ≤ al.length → (MM al G loc S q).le (MM al G loc S' q) := fun q _ => ⟨Nat.le_refl _, fun id hid => ⟨⟨hid.1, hole_less hSS hid.2⟩, rfl⟩⟩
        have hfalse : agd (E i) x.guard = false → wpAnyIn (FW r) nn P .any ops Q fuel (listed.setIfInBounds i true) (a'.put o.dst undef) w' := by
          intro hg
          obtain ⟨hV, hG⟩ := hskip hg
          refine hgo _ _ (inv_step hup htr hx hSi hS' hdx hcd hlate hI.defers hI.size hl0 hv (Nat.le_refl k) hk (fun j hj he => hSS j (hk1 j hj he)) (data_next hup htr hk hk1 hD hS' (Below.refl _ _) hleS (fun _ _ => rfl) ?_) hleS (by rw [hV]; exact undef_rel _))
          intro _ hp
          exfalso
          unfold pend at hp
          rw [hx] at hp
          simp [hg] at hp
        unfold wpOpIn
        simp only [ho]
        cases hg : agd (E i) x.guard with
        | false =>
          rw [if_neg (by rw [hwd, hg]; simp)]
          exact ⟨fun _ _ => trivial, hfalse hg⟩
        | true =>
          rw [if_pos (by rw [hwd, hg])]
          have hr := hrun hg
          cases he : effb al i with
          | false =>
            -- it touches nothing
            have hxe : x.op.eff = false := by simpa [effb, hx] using he
            have hnc : x.op.isCall = false := by
              cases hop : x.op <;> rw [hop] at hxe <;> simp [AOp.eff] at hxe <;> rfl
            have hread : ado call x.op (aev (E i)) (G k) = some (V i, G k) := by
              cases hre : x.op.reads with
              | false => exact (aop_still hxe hr).2 hre (G k)
              | true =>
                have hrdx := R.rd i x hx
                simp only [rdOf, hre, if_true] at hrdx
                -- the stage lies between the two
                have hcount : ∀ j, j ≤ al.length → effn al j = (List.range j).countP fun q => effb al q := by
                  intro j hj
                  unfold effn
                  exact countP_lt _ _ _ hj
                have htw : ∀ (p : Nat → Bool) (j : Nat), j ≤ al.length → (∀ q, q < j → p q = true) → (List.range j).countP (fun q => effb al q) ≤ ((List.range al.length).takeWhile p).countP fun q => effb al q := by
                  intro p j hj hp
                  have hpre : List.range j <+: (List.range al.length).takeWhile p := by
                    have e : List.range al.length = List.range j ++ (List.range (al.length - j)).map (j + ·) := by
                      rw [← List.range_add]; congr 1; omega
                    rw [e, List.takeWhile_append_of_pos (by intro q hq; exact hp q (List.mem_range.1 hq))]
                    exact List.prefix_append _ _
                  exact hpre.sublist.countP_le
                have htw2 : ∀ (p : Nat → Bool) (j : Nat), j ≤ al.length → (j < al.length → p j = false) → ((List.range al.length).takeWhile p).countP (fun q => effb al q) ≤ (List.range j).countP fun q => effb al q := by
                  intro p j hj hp
                  have hpre : (List.range al.length).takeWhile p <+: List.range j := by
                    have e : List.range al.length = List.range j ++ (List.range (al.length - j)).map (j + ·) := by
                      rw [← List.range_add]; congr 1; omega
                    rcases Nat.lt_or_ge j al.length with hlt | hge
                    · have e2 : (List.range (al.length - j)).map (j + ·) = j :: ((List.range (al.length - j - 1)).map (j + 1 + ·)) := by
                        have : al.length - j = (al.length - j - 1) + 1 := by omega
                        rw [this, List.range_succ_eq_map, List.map_cons, List.map_map]
                        simp only [Nat.add_zero, Nat.add_sub_cancel, List.cons.injEq, true_and]
                        apply List.map_congr_left
                        intro q _
                        simp only [Function.comp]; omega
                      rw [e, e2, List.takeWhile_append]
                      split
                      · rw [List.takeWhile_cons_of_neg (by rw [hp hlt]; simp), List.append_nil]
                        exact List.prefix_refl _
                      · exact List.takeWhile_prefix _
                    · have : j = al.length := by omega
                      subst this
                      exact List.takeWhile_prefix _
                  exact hpre.sublist.countP_le
                have hlo : (stagesOf al b i).1 ≤ effn al k := by
                  rw [hcount k hk]
                  refine htw2 _ k hk fun hlt => ?_
                  obtain ⟨h1, h2⟩ := hk2 hlt
                  rw [h1]
                  cases hbt : (b i).testBit k with
                  | false => rfl
                  | true => rw [(hbefore k hbt).1] at h2; cases h2
                have hhi : effn al k ≤ (stagesOf al b i).2 := by
                  rw [hcount k hk]
                  refine htw _ k hk fun q hq => ?_
                  cases heq : effb al q with
                  | false => rfl
                  | true =>
                    cases hbt : (b q).testBit i with
                    | false => rfl
                    | true =>
                      have := hafter q (by rw [← R.len]; omega) hbt
                      rw [hk1 q hq heq] at this; cases this
                have hlo' : (stagesOf al b i).1 ≤ effn al i := by
                  show ((List.range al.length).takeWhile fun q => !effb al q || (b i).testBit q).countP (fun q => effb al q) ≤ (List.range al.length).countP fun q => effb al q && decide (q < i)
                  refine Nat.le_trans (List.countP_mono_left (q := fun q => effb al q && decide (q < i)) fun q hq heq => ?_) (List.takeWhile_sublist _).countP_le
                  have hp := List.all_eq_true.1 (List.all_takeWhile (p := fun q => !effb al q || (b i).testBit q) (l := List.range al.length)) q hq
                  rw [heq] at hp
                  simp only [Bool.not_true, Bool.false_or] at hp
                  simp [heq, (hbefore q hp).2]
                have hhi' : effn al i ≤ (stagesOf al b i).2 := by
                  rw [hcount i (by omega)]
                  refine htw _ i (by omega) fun q hq => ?_
                  cases hbt : (b q).testBit i with
                  | false => simp
                  | true =>
                    exfalso
                    have hjs : q < ops.size := by rw [← R.len]; omega
                    have := closed_bit R (S := fun _ => true) (fun _ _ _ _ _ _ _ => rfl) q _ i (Array.getElem?_eq_getElem hjs) (fun _ _ _ => rfl) hbt
                    omega
                by_cases heq : (stagesOf al b i).1 = (stagesOf al b i).2
                · have hsame : effn al k = effn al i := by omega
                  have h1 := hstage k hk
                  rw [hsame, hstage i (by omega)] at h1
                  simp at h1
                  rw [← h1, hr, (aop_still hxe hr).1]
                · rw [if_neg heq] at hrdx
                  have hok := hrd i x (stagesOf al b i).1 (stagesOf al b i).2 hx hrdx hg
                  simp only [ARead.ok, List.all_eq_true] at hok
                  have hst := hstage k hk
                  generalize effn al k = k0 at *
                  generalize (stagesOf al b i).1 = lo0 at *
                  generalize (stagesOf al b i).2 = hi0 at *
                  have := hok (k0 - lo0) (List.mem_range.2 (by omega))
                  rw [show lo0 + (k0 - lo0) = k0 by omega, hst] at this
                  simp only at this
                  have hado : ado call x.op (aev (E i)) (G k) = aop x.op (aev (E i)) (G k) := by
                    cases hop : x.op with
                    | call f l => rw [hop] at hre; simp [AOp.reads] at hre
                    | _ => rfl
                  split at this
                  · rename_i v1 H1 hv1
                    have hvv := AVal.eq_of_beq _ _ this
                    rw [hado, hv1, hvv]
                    have := (aop_still (call := call) hxe (by rw [hado]; exact hv1)).1
                    rw [this]
                  · cases this
            obtain ⟨q, hq⟩ : ∃ q, q = max i k := ⟨_, rfl⟩
            have hql : q ≤ al.length := by omega
            let Hs : AHeap := frz { obj := (G k).obj, next := (G q).next }
            have hadoS : ado call x.op (aev envS) Hs = some (V i, Hs) := by
              rw [aop_congr hopd]
              exact still_obj hxe hread fun id l own ho => ⟨false, by show (frz { obj := (G k).obj, next := (G q).next }).obj id = _; simp [frz, ho]⟩
            have hSs : SRel w' (lowK w'.heap.size) (MM al G loc S q) Hs w' := by
              refine ⟨Keep.refl _ _, fun z hz => by simpa [lowK] using hz, rfl, ?_, ?_⟩
              · intro id o ho
                obtain ⟨l, own, h1, rfl⟩ := frz_inv ho
                obtain ⟨h2, c, e, fz, h3, h4, _⟩ := hD.rel.obj id _ h1
                have hle := MM_le (loc := loc) (S := S) hup htr (q := k) (q' := q) (by omega) hql
                exact ⟨(hle.2 id h2).1, c, e, fz, h3, fun j y hy => let ⟨u, q1, q2, q3⟩ := h4 j y hy; ⟨u, q1, q2.mono hle, q3⟩, fun h => by cases h⟩
              · intro z z' o o' hz hz' hown
                obtain ⟨l, own, h1, rfl⟩ := frz_inv hz
                cases hown
            refine sound_ado (hcs w' (lowK w'.heap.size)) hco (hEr q (by omega) hql) hSs hadoS (fun v' w2 m' hm hms hS2 hv2 => ?_) _ _
            have hbl : Below w'.heap.size w' w2 := hS2.below.below
            have hmn : m'.n = (G q).next := hS2.next.symm
            refine hgo _ _ (inv_step hup htr hx hSi hS' hdx hcd hlate hI.defers hI.size hl0 hv (Nat.le_refl k) hk (fun j hj he => hSS j (hk1 j hj he)) (data_next hup htr hk hk1 hD hS' hbl hleS (fun _ _ => rfl) ?_) hleS ?_)
            · intro _ hp
              have := (pend_lt hp).2.2.2
              rw [he] at this; cases this
            · have hnn : (G (max (i + 1) k)).next = (G q).next := by
                rw [hq]
                rcases Nat.lt_or_ge i k with hlt | hge
                · rw [Nat.max_eq_right (by omega), Nat.max_eq_right (by omega)]
                · rw [Nat.max_eq_left (by omega), Nat.max_eq_left (by omega), trace_still htr hil he]
              refine hv2.mono ⟨by rw [hmn]; exact Nat.le_of_eq hnn.symm, fun id hid => ?_⟩
              have hh : holeS al G S id = false := by
                cases hc : holeS al G S id with
                | false => rfl
                | true =>
                  have := (hms hnc).2 id (by show id < (G q).next; rw [← hmn]; exact hid.1) hc
                  rw [hid.2] at this; cases this
              exact ⟨⟨by show id < (G (max (i + 1) k)).next; rw [hnn, ← hmn]; exact hid.1, hole_less hSS hh⟩, ((hm.2 id ⟨by show id < (G q).next; rw [← hmn]; exact hid.1, hh⟩).2).symm⟩
          | true =>
            have hki' := hki he
            have hxe : x.op.eff = true := by simpa [effb, hx] using he
            cases hf : x.op.fresh with
            | true =>
              -- a new object, at its turn or ahead of it
              obtain ⟨l, hG, hfn⟩ := fresh_new hf hr
              have hnc : x.op.isCall = false := by
                cases hop : x.op <;> rw [hop] at hf <;> simp [AOp.fresh] at hf <;> rfl
              let Hs : AHeap := { obj := fun _ => none, next := (G i).next }
              have hadoS : ado call x.op (aev envS) Hs = some (V i, Hs.new (.cells l true)) := by
                rw [aop_congr hopd]
                exact hfn Hs rfl
              have hSs : SRel w' (lowK w'.heap.size) (MM al G loc S i) Hs w' :=
                by
                  refine ⟨Keep.refl _ _, fun z hz => by simpa [lowK] using hz, rfl, ?_, ?_⟩
                  · intro id o ho
                    cases ho
                  · intro z z' o o' hz
                    cases hz
              refine sound_ado (hcs w' (lowK w'.heap.size)) hco (hEr i (by omega) (by omega)) hSs hadoS (fun v' w2 m' hm hms hS2 hv2 => ?_) _ _
              have hbl : Below w'.heap.size w' w2 := hS2.below.below
              have hmn : m'.n = (G i).next + 1 := hS2.next.symm
              have hGn : (G (i + 1)).next = (G i).next + 1 := by rw [hG]; rfl
              obtain ⟨loc', hloc'⟩ : ∃ loc' : Nat → Loc, ∀ id, loc' id = if id = (G i).next then m'.loc id else loc id := ⟨fun id => if id = (G i).next then m'.loc id else loc id, fun _ => rfl⟩
              have hole : ∀ id, holeS al G S id = false → id ≠ (G i).next := by
                intro id hh hid
                rw [is_hole hil he hSi (by omega) (by omega)] at hh; cases hh
              have hloc : ∀ id, holeS al G S id = false → loc' id = loc id := fun id hh => by rw [hloc' id, if_neg (hole id hh)]
              have hle : ∀ q, q ≤ al.length → (MM al G loc S q).le (MM al G loc' S' q) := fun q _ => ⟨Nat.le_refl _, fun id hid => ⟨⟨hid.1, hole_less hSS hid.2⟩, hloc id hid.2⟩⟩
              have hmM : m'.le (MM al G loc' S' (i + 1)) := by
                refine ⟨by rw [hmn]; exact Nat.le_of_eq hGn.symm, fun id hid => ?_⟩
                have hlt : id < (G (i + 1)).next := by rw [hGn, ← hmn]; exact hid.1
                by_cases hidn : id = (G i).next
                · refine ⟨⟨hlt, ?_⟩, by show loc' id = _; rw [hloc' id, if_pos hidn]⟩
                  show holeS al G S' id = false
                  cases hc : holeS al G S' id with
                  | false => rfl
                  | true =>
                    exfalso
                    unfold holeS at hc
                    rw [List.any_eq_true] at hc
                    obtain ⟨z, hz, hc⟩ := hc
                    simp only [Bool.and_eq_true, decide_eq_true_eq, Bool.not_eq_true'] at hc
                    obtain ⟨⟨hc1, hc2⟩, hc3, hc4⟩ := hc
                    have hzl := List.mem_range.1 hz
                    rcases Nat.lt_trichotomy z i with hlt2 | heq | hgt
                    · have := trace_mono hup htr (i := z + 1) (j := i) (by omega) (by omega); omega
                    · subst heq; rw [hS' z] at hc2; simp at hc2
                    · have := trace_mono hup htr (i := i + 1) (j := z) (by omega) (by omega); omega
                · have hidl : id < (G i).next := by omega
                  have hh : holeS al G S id = false := by
                    cases hc : holeS al G S id with
                    | false => rfl
                    | true =>
                      have := (hms hnc).2 id hidl hc
                      rw [hid.2] at this; cases this
                  exact ⟨⟨hlt, hole_less hSS hh⟩, by show loc' id = _; rw [hloc id hh]; exact ((hm.2 id ⟨hidl, hh⟩).2).symm⟩
              refine hgo _ _ (inv_step hup htr hx hSi hS' hdx hcd hlate hI.defers hI.size ?_ hv (Nat.le_refl k) hk (fun j hj he => hSS j (hk1 j hj he)) (data_next hup htr hk hk1 hD hS' hbl hle hloc ?_) hle ?_)
              · intro id hid
                rw [hloc id (no_hole hup htr hk1 (Nat.lt_of_lt_of_le hid.1 (by rw [← hn0]; exact trace_mono hup htr (Nat.zero_le _) hk)))]
                exact hl0 id hid
              · intro _ _
                obtain ⟨h1, h2⟩ := hS2.obj (G i).next (.cells l true) (by simp [Hs, AHeap.new])
                refine ⟨l, hG, ?_, ?_⟩
                · rw [hloc' _, if_pos rfl]
                  obtain ⟨c, e, fz, h3, h4, h5⟩ := h2
                  refine ⟨c, e, fz, h3, fun j y hy => let ⟨u, q1, q2, q3⟩ := h4 j y hy; ⟨u, q1, q2.mono hmM, q3⟩, fun _ => ?_⟩
                  obtain ⟨h6, h7⟩ := h5 rfl
                  refine ⟨?_, h7⟩
                  cases hBb : B (m'.loc (G i).next).block with
                  | false => rfl
                  | true =>
                    have h8 := hD.rel.size _ hBb
                    have h9 := hD.rel.below.size
                    simp [lowK] at h6; omega
                · rw [hloc' _, if_pos rfl]
                  obtain ⟨c, e, fz, h3, h4, h5⟩ := h2
                  have := (h5 rfl).1
                  simpa [lowK] using this
              · rw [Nat.max_eq_left (by omega)]
                exact hv2.mono hmM
            | false =>
              have hh : hardb al i = true := by unfold hardb; rw [hx]; simp [hxe, hf]
              have hkieq := hkh hh
              subst hkieq
              -- at its turn
              obtain ⟨K, hK⟩ : ∃ K : Nat → Bool, ∀ z, K z = (B z || (List.range al.length).any fun j => pend al E S k j && (z == (loc (G j).next).block)) := ⟨fun z => (B z || (List.range al.length).any fun j => pend al E S k j && (z == (loc (G j).next).block)), fun _ => rfl⟩
              have hKp : ∀ j, pend al E S k j = true → K (loc (G j).next).block = true := by
                intro j hj
                rw [hK]
                have : ((List.range al.length).any fun q => pend al E S k q && ((loc (G j).next).block == (loc (G q).next).block)) = true := by
                  rw [List.any_eq_true]
                  exact ⟨j, List.mem_range.2 (pend_lt hj).2.1, by simp [hj]⟩
                rw [this, Bool.or_true]
              have hKB : ∀ z, B z = true → K z = true := fun z hz => by rw [hK, hz]; rfl
              have hKs : ∀ z, K z = true → z < w'.heap.size := by
                intro z hz
                rw [hK] at hz
                rw [Bool.or_eq_true] at hz
                rcases hz with hz | hz
                · have := hD.rel.size z hz
                  have := hD.rel.below.size
                  omega
                · rw [List.any_eq_true] at hz
                  obtain ⟨j, _, hj⟩ := hz
                  simp only [Bool.and_eq_true, beq_iff_eq] at hj
                  obtain ⟨l, _, h2⟩ := hD.obj j hj.1
                  rw [hj.2]; exact h2.lt
              have hSs : SRel w' K (MM al G loc S k) (G k) w' := by
                refine ⟨Keep.refl _ _, hKs, rfl, fun id o ho => ?_, hD.rel.apart⟩
                obtain ⟨h1, h2⟩ := hD.rel.obj id o ho
                refine ⟨h1, ?_⟩
                cases o with
                | cells l own =>
                  obtain ⟨c, e, fz, h3, h4, h5⟩ := h2
                  refine ⟨c, e, fz, h3, h4, fun hown => ?_⟩
                  obtain ⟨h6, h7⟩ := h5 hown
                  refine ⟨?_, h7⟩
                  rw [hK, h6, Bool.false_or, List.any_eq_false]
                  intro j _
                  simp only [Bool.and_eq_true, beq_iff_eq, not_and]
                  intro hj
                  exact hD.far j hj id _ ho
              have hadoS : ado call x.op (aev envS) (G k) = some (V k, G (k + 1)) := by rw [aop_congr hopd]; exact hr
              refine sound_ado (hcs w' K) hco (hEr k (by omega) hk) hSs hadoS (fun v' w2 m' hm hms hS2 hv2 => ?_) _ _
              have hmn : m'.n = (G (k + 1)).next := hS2.next.symm
              have hU := trace_up hup htr hil
              obtain ⟨loc', hloc'⟩ : ∃ loc' : Nat → Loc, ∀ id, loc' id = if id < (G (k + 1)).next then m'.loc id else loc id := ⟨fun id => if id < (G (k + 1)).next then m'.loc id else loc id, fun _ => rfl⟩
              have hloc : ∀ id, holeS al G S id = false → loc' id = loc id := by
                intro id hh
                rw [hloc' id]
                split
                · rename_i hlt
                  have hlt2 : id < (G k).next := by
                    rcases Nat.lt_or_ge id (G k).next with h | h
                    · exact h
                    · rw [is_hole hil he hSi h hlt] at hh; cases hh
                  exact (hm.2 id ⟨hlt2, hh⟩).2
                · rfl
              have hle : ∀ q, q ≤ al.length → (MM al G loc S q).le (MM al G loc' S' q) := fun q _ => ⟨Nat.le_refl _, fun id hid => ⟨⟨hid.1, hole_less hSS hid.2⟩, hloc id hid.2⟩⟩
              have hS1 : ∀ j, j < k + 1 → effb al j = true → S' j = true := by
                intro j hj hej
                by_cases hjk : j < k
                · exact hSS j (hk1 j hjk hej)
                · have : j = k := by omega
                  subst this
                  rw [hS' j]; simp
              have hmM : m'.le (MM al G loc' S' (k + 1)) := by
                refine ⟨Nat.le_of_eq hmn, fun id hid => ?_⟩
                have hlt : id < (G (k + 1)).next := by rw [← hmn]; exact hid.1
                exact ⟨⟨hlt, no_hole hup htr hS1 hlt⟩, by show loc' id = _; rw [hloc' id, if_pos hlt]⟩
              have hpe : ∀ j, pend al E S' (k + 1) j = true → pend al E S k j = true ∧ loc' (G j).next = loc (G j).next := by
                intro j hj
                obtain ⟨hp1, hp2, hp3, hp4⟩ := pend_lt hj
                refine ⟨?_, ?_⟩
                · unfold pend at hj ⊢
                  simp only [Bool.and_eq_true, decide_eq_true_eq] at hj ⊢
                  refine ⟨by omega, ?_, hj.2.2⟩
                  have := hj.2.1
                  rw [hS' j] at this
                  simp only [Bool.or_eq_true, beq_iff_eq] at this
                  rcases this with h | h
                  · exact h
                  · omega
                · rw [hloc' _, if_neg (by have := trace_mono hup htr (i := k + 1) (j := j) hp1 (by omega); omega)]
              refine hgo _ _ (inv_step (k0 := k + 1) hup htr hx hSi hS' hdx hcd hlate hI.defers hI.size ?_ hv (Nat.le_succ k) (by omega) hS1 ⟨?_, ?_, ?_, ?_⟩ hle ?_)
              · intro id hid
                rw [hloc id (no_hole hup htr hk1 (Nat.lt_of_lt_of_le hid.1 (by rw [← hn0]; exact trace_mono hup htr (Nat.zero_le _) hk)))]
                exact hl0 id hid
              · exact (hS2.rebase hD.rel.below hKB hD.rel.size).inj hmM hmn.symm
              · intro j hj
                obtain ⟨hp, hlj⟩ := hpe j hj
                obtain ⟨l, h1, h2⟩ := hD.obj j hp
                refine ⟨l, h1, ?_⟩
                rw [hlj]
                exact h2.keep (hle (j + 1) (by have := (pend_lt hp).2.1; omega)) (hS2.below.block _ (hKp j hp))
              · intro j hj id o' ho'
                obtain ⟨hp, hlj⟩ := hpe j hj
                obtain ⟨h1, h2⟩ := hS2.obj id o' ho'
                have hlt : id < (G (k + 1)).next := by rw [← hmn]; exact h1.1
                rw [hlj, hloc' id, if_pos hlt]
                cases o' with
                | cells l own =>
                  cases own with
                  | true =>
                    obtain ⟨c, e, fz, h3, h4, h5⟩ := h2
                    have h6 := (h5 rfl).1
                    intro hb
                    rw [hb, hKp j hp] at h6; cases h6
                  | false =>
                    have hold := hU.2 id l ho'
                    have := (hm.2 id (hD.rel.obj id _ hold).1).2
                    rw [this]
                    exact hD.far j hp id _ hold
              · intro j j' hj hj' hne
                obtain ⟨hp, hlj⟩ := hpe j hj
                obtain ⟨hp', hlj'⟩ := hpe j' hj'
                rw [hlj, hlj']
                exact hD.two j j' hp hp' hne
              · rw [Nat.max_eq_left (Nat.le_refl _)]
                exact hv2.mono hmM
  have hz : (fun j => (Array.replicate ops.size false).getD j false) = fun _ => false := by
    funext j
    by_cases hj : j < ops.size
    · simp [hj]
    · simp [Array.getD_eq_getD_getElem?, hj]
  refine main ops.size (Array.replicate ops.size false) a _ (by simp) ?_ ?_ ?_
  · have : (List.range ops.size).countP (fun j => !(Array.replicate ops.size false).getD j false) = (List.range ops.size).countP (fun _ => true) := by
      refine countP_congr' fun j hj => ?_
      simp [hj]
    rw [this, List.countP_true, List.length_range]
  · intro i o ho hs
    have hlt := (Array.getElem?_eq_some_iff.1 ho).1
    simp [hlt] at hs
  · rw [hz]
    have hnp : ∀ k j, pend al E (fun _ => false) k j = true → False := by
      intro k j hp
      have := (pend_lt hp).2.2.1
      cases this
    have hle0 : m.le (MM al G m.loc (fun _ => false) 0) := by
      refine ⟨by rw [← hn0]; exact Nat.le_refl _, fun id hid => ?_⟩
      have hlt : id < (G 0).next := by rw [hn0]; exact hid.1
      exact ⟨⟨hlt, no_hole hup htr (k := 0) (fun j hj => by omega) hlt⟩, rfl⟩
    have hD0 : Data w0 B al E G m.loc (fun _ => false) 0 w.drew := by
      refine ⟨?_, fun j hj => (hnp _ _ hj).elim, fun j hj => (hnp _ _ hj).elim, fun j j' hj => (hnp _ _ hj).elim⟩
      rw [g0]
      exact hS.drew.inj hle0 (by show (G 0).next = m.n; exact hn0)
    obtain ⟨k', h1, h2, h3, h4, h5⟩ := absorb hup htr _ 0 rfl (Nat.zero_le _) (fun j hj => by omega) hD0
    refine ⟨rfl, hE.size, m.loc, k', h2, h3, h4, fun _ _ => rfl, h5, fun t ht => ?_⟩
    have hc : curE al env V (fun _ => false) al.length t = env t := by
      have : ∀ n, curE al env V (fun _ => false) n t = env t := by
        intro n
        induction n with
        | zero => rfl
        | succ n ihn => simp only [curE, Bool.false_eq_true, if_false]; exact ihn
      exact this _
    rw [hc]
    have hl : lastW al (fun _ => false) t al.length = 0 := by
      have : ∀ n, lastW al (fun _ => false) t n = 0 := by
        intro n
        induction n with
        | zero => rfl
        | succ n ihn => simp only [lastW, Bool.false_and, Bool.false_eq_true, if_false]; exact ihn
      exact this _
    rw [hl]
    exact ((hE.rel t ht).mono hle0).mono (MM_le hup htr (Nat.zero_le _) (by omega))

end
end Go.Proofs.Ytilhjcnkaelheaa.Am
