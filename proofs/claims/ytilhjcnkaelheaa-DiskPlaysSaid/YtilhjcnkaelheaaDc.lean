/- Disks: what each function does. -/
import Derived.Test.YtilhjcnkaelheaaDb
set_option maxRecDepth 100000
set_option linter.unusedSimpArgs false
set_option linter.unusedVariables false
set_option maxHeartbeats 2000000
namespace Go.Proofs.Ytilhjcnkaelheaa.Dk
open Go Go.Proofs.Ytilhjcnkaelheaa.Am DnFns Go.RowKit
open Sd (Sec noughts home homeno ofHome ofNo opened unfit pad)

/-- A disk: the sectors that are safe, the writes that are not, when it goes down, whether it is, how many steps there were. -/
structure DS where
  s : List (List UInt8)
  w : List (Nat × List UInt8)
  arm : Int
  dead : Bool
  ops : Int

def wc (x : Nat × List UInt8) : List AVal := [.int .i64 (x.1 : Int), .str x.2]
theorem wc_len (x : Nat × List UInt8) : (wc x).length = 2 := rfl
def DS.goes (d : DS) : Bool := !(d.dead || decide (d.arm = 1))
def low (x : Int) : Int := if 0 > x then 0 else x
def DS.step (d : DS) : DS := if d.goes then { d with arm := low (d.arm - 1), ops := IntKind.i64.wrap (d.ops + 1) } else { d with dead := true, arm := 0 }
def DS.write (d : DS) (i : Int) (s : List UInt8) : DS × Int := if (0 ≤ i ∧ i < d.s.length) ∧ s.length = 512 then (if d.goes then ({ d.step with w := d.w ++ [(i.toNat, s)] }, 0) else (d.step, 17)) else (d, 18)
def puts (s : List (List UInt8)) (l : List (Nat × List UInt8)) : List (List UInt8) := l.foldl (fun s x => s.set x.1 x.2) s
/-- Those of the first j that are wanted. -/
def pk (w : List (Nat × List UInt8)) (P : Nat → Bool) : Nat → List (Nat × List UInt8)
  | 0 => []
  | j + 1 => pk w P j ++ (match w[j]? with | some x => if P j then [x] else [] | none => [])
def DS.settle (d : DS) (P : Nat → Bool) : DS := { d with s := puts d.s (pk d.w P d.w.length), w := [] }
def DS.count (d : DS) (P : Nat → Bool) : Nat := (pk d.w P d.w.length).length
def DS.flush (d : DS) : DS × Int := if d.goes then (d.step.settle (fun _ => true), 0) else (d.step, 17)
def DS.up (d : DS) (keep : List Bool) : DS × Nat := ({ d.settle (fun i => keep.getD i false) with dead := false, arm := 0 }, d.count fun i => keep.getD i false)
def lw (w : List (Nat × List UInt8)) (i : Int) : Nat → Option (List UInt8)
  | 0 => none
  | k + 1 => if ((w.getD k (0, [])).1 : Int) = i then some (w.getD k (0, [])).2 else lw w i k
def DS.read (d : DS) (i : Int) : List UInt8 × Int := if d.dead then ([], 17) else if 0 ≤ i ∧ i < d.s.length then ((lw d.w i d.w.length).getD (d.s.getD i.toNat []), 0) else ([], 18)

theorem puts_len (l : List (Nat × List UInt8)) : ∀ s, (puts s l).length = s.length := by
  induction l with
  | nil => intro s; rfl
  | cons x l ih => intro s; show (puts (s.set x.1 x.2) l).length = _; rw [ih]; simp
theorem puts_app (s : List (List UInt8)) (l k : List (Nat × List UInt8)) : puts s (l ++ k) = puts (puts s l) k := by simp [puts]

/-- A disk in memory. -/
structure D (H : AHeap) (p a : Nat) (g : Option Nat) (vw : AVal) (d : DS) : Prop where
  op : H.obj p = some (.cells [.slice a 0 d.s.length d.s.length g, vw, .int .i64 d.arm, .bool d.dead, .int .i64 d.ops] true)
  oa : H.obj a = some (.cells (d.s.map .str) true)
  ow : Ow H 2 vw (d.w.flatMap wc)
  pa : p ≠ a
  pw : p ∉ vw.ids
  aw : a ∉ vw.ids
  pn : p < H.next
  an : a < H.next
  gs : g = none ∨ g = some 1
  n1 : 1 ≤ d.s.length
  n2 : d.s.length ≤ 4865
  hat : ∀ x, x ∈ d.w → x.1 < d.s.length
  a0 : 0 ≤ d.arm
  a1 : d.arm ≤ 9223372036854775807

theorem D.fr {L : List Nat} {H H' : AHeap} {p a : Nat} {g : Option Nat} {vw : AVal} {d : DS} (h : D H p a g vw d) (f : Fr L H H') (hp : p ∉ L) (ha : a ∉ L) (hw : ∀ i, i ∈ vw.ids → i ∉ L) : D H' p a g vw d :=
  { h with op := by rw [f.2 p h.pn hp]; exact h.op, oa := by rw [f.2 a h.an ha]; exact h.oa, ow := h.ow.fr f hw, pn := Nat.lt_of_lt_of_le h.pn f.1, an := Nat.lt_of_lt_of_le h.an f.1 }
theorem D.keeps {H H' : AHeap} {p a : Nat} {g : Option Nat} {vw : AVal} {d : DS} (h : D H p a g vw d) (f : Keeps H H') : D H' p a g vw d := h.fr (L := []) (Fr.of f) (by simp) (by simp) (by simp)

/-- A disk in memory, looked at. -/
structure DL (H : AHeap) (p a : Nat) (g : Option Nat) (vw : AVal) (d : DS) : Prop where
  op : ∃ o, H.obj p = some (.cells [.slice a 0 d.s.length d.s.length g, vw, .int .i64 d.arm, .bool d.dead, .int .i64 d.ops] o)
  oa : ∃ o, H.obj a = some (.cells (d.s.map .str) o)
  sw : Sl H 2 vw (d.w.flatMap wc)
  pn : p < H.next
  an : a < H.next
  wn : ∀ i, i ∈ vw.ids → i < H.next
theorem D.look {H : AHeap} {p a : Nat} {g : Option Nat} {vw : AVal} {d : DS} (h : D H p a g vw d) : DL H p a g vw d := ⟨⟨_, h.op⟩, ⟨_, h.oa⟩, h.ow.sl, h.pn, h.an, h.ow.lt⟩
theorem DL.frz {H : AHeap} {p a : Nat} {g : Option Nat} {vw : AVal} {d : DS} (h : DL H p a g vw d) : DL (frz H) p a g vw d :=
  ⟨by obtain ⟨o, ho⟩ := h.op; exact ⟨_, frz_obj ho⟩, by obtain ⟨o, ho⟩ := h.oa; exact ⟨_, frz_obj ho⟩, h.sw.frz, h.pn, h.an, h.wn⟩
theorem DL.keeps {H H' : AHeap} {p a : Nat} {g : Option Nat} {vw : AVal} {d : DS} (h : DL H p a g vw d) (k : Keeps H H') : DL H' p a g vw d :=
  ⟨by obtain ⟨o, ho⟩ := h.op; exact ⟨o, by rw [k.2 _ h.pn]; exact ho⟩, by obtain ⟨o, ho⟩ := h.oa; exact ⟨o, by rw [k.2 _ h.an]; exact ho⟩, h.sw.keep h.wn k, Nat.lt_of_lt_of_le h.pn k.1, Nat.lt_of_lt_of_le h.an k.1, fun i hi => Nat.lt_of_lt_of_le (h.wn i hi) k.1⟩
theorem DL.wlen {H : AHeap} {p a : Nat} {g : Option Nat} {vw : AVal} {d : DS} (h : DL H p a g vw d) : alenT false vw = some d.w.length := by
  rw [h.sw.alen, slen_fm wc_len (by decide) h.sw]

theorem U25 {H : AHeap} {p a : Nat} {g : Option Nat} {vw : AVal} {d : DS} (h : DL H p a g vw d) : AC A 25 [.ptr p 0] H = some (.int .i64 (d.s.length : Int), H) := by
  refine look_val (x := DnFns.c25) rfl rfl rfl rfl ?_
  obtain ⟨o, ho⟩ := h.frz.op
  simp only [c25, ho, e_nilp0, rwA, rwB, Nat.reduceAdd, Nat.reduceMul, Nat.reduceLeDiff, Int.reduceEq, Int.reduceLT, Int.reduceLE, Int.reduceAdd, Int.reduceSub, Int.reduceMul, ↓reduceIte, Nat.reduceEqDiff, reduceCtorEq, ↓cnd_true, ↓cnd_false]

theorem U45 {H : AHeap} {p a : Nat} {g : Option Nat} {vw : AVal} {d : DS} (h : DL H p a g vw d) (i : Int) : AC A 45 [.ptr p 0, .int .i64 i] H = some (.bool (decide (0 ≤ i) && decide (i < (d.s.length : Int))), H) := by
  refine look_val (x := DnFns.c45) rfl rfl rfl rfl ?_
  have u := U25 h.frz
  cases e : decide (0 ≤ i) <;> simp only [c45, e, u, Bool.true_and, Bool.false_and, rwA, rwB, Nat.reduceAdd, Nat.reduceMul, Nat.reduceLeDiff, Int.reduceEq, Int.reduceLT, Int.reduceLE, Int.reduceAdd, Int.reduceSub, Int.reduceMul, ↓reduceIte, Nat.reduceEqDiff, reduceCtorEq, ↓cnd_true, ↓cnd_false]

theorem U16 {H : AHeap} {p a : Nat} {g : Option Nat} {vw : AVal} {d : DS} (h : DL H p a g vw d) : AC A 16 [.ptr p 0] H = some (.int .i64 (d.w.length : Int), H) := by
  refine look_val (x := DnFns.c16) rfl rfl rfl rfl ?_
  obtain ⟨o, ho⟩ := h.frz.op
  simp only [c16, ho, h.frz.wlen, e_nilp0, rwA, rwB, Nat.reduceAdd, Nat.reduceMul, Nat.reduceLeDiff, Int.reduceEq, Int.reduceLT, Int.reduceLE, Int.reduceAdd, Int.reduceSub, Int.reduceMul, ↓reduceIte, Nat.reduceEqDiff, reduceCtorEq, ↓cnd_true, ↓cnd_false]

theorem U23 {H : AHeap} {p a : Nat} {g : Option Nat} {vw : AVal} {d : DS} (h : DL H p a g vw d) : AC A 23 [.ptr p 0] H = some (.int .i64 d.ops, H) := by
  refine look_val (x := DnFns.c23) rfl rfl rfl rfl ?_
  obtain ⟨o, ho⟩ := h.frz.op
  simp only [c23, ho, e_nilp0, rwA, rwB, Nat.reduceAdd, Nat.reduceMul, Nat.reduceLeDiff, Int.reduceEq, Int.reduceLT, Int.reduceLE, Int.reduceAdd, Int.reduceSub, Int.reduceMul, ↓reduceIte, Nat.reduceEqDiff, reduceCtorEq, ↓cnd_true, ↓cnd_false]

theorem U19 {H : AHeap} {p a : Nat} {g : Option Nat} {vw : AVal} {d : DS} (h : DL H p a g vw d) : AC A 19 [.ptr p 0] H = some (.bool d.dead, H) := by
  refine look_val (x := DnFns.c19) rfl rfl rfl rfl ?_
  obtain ⟨o, ho⟩ := h.frz.op
  simp only [c19, ho, e_nilp0, rwA, rwB, Nat.reduceAdd, Nat.reduceMul, Nat.reduceLeDiff, Int.reduceEq, Int.reduceLT, Int.reduceLE, Int.reduceAdd, Int.reduceSub, Int.reduceMul, ↓reduceIte, Nat.reduceEqDiff, reduceCtorEq, ↓cnd_true, ↓cnd_false]

theorem step_t {d : DS} (h : d.goes = true) : d.step = { d with arm := low (d.arm - 1), ops := IntKind.i64.wrap (d.ops + 1) } := by simp [DS.step, h]
theorem step_f {d : DS} (h : d.goes = false) : d.step = { d with dead := true, arm := 0 } := by simp [DS.step, h]
theorem goes_t {d : DS} (h : d.goes = true) : d.dead = false ∧ decide (d.arm = 1) = false := by simpa [DS.goes] using h
theorem goes_f {d : DS} (h : d.goes = false) : d.dead = true ∨ (d.dead = false ∧ decide (d.arm = 1) = true) := by
  simp [DS.goes] at h
  cases hd : d.dead
  · exact .inr ⟨rfl, by simpa using h hd⟩
  · exact .inl rfl
theorem mm_low (x : Int) : aminmax true (.int .i64 x) (.int .i64 0) = some (.int .i64 (low x)) := rfl

/-- The disk's own cells behind a change of its numbers. -/
def dcells (a : Nat) (g : Option Nat) (vw : AVal) (d : DS) : List AVal := [.slice a 0 d.s.length d.s.length g, vw, .int .i64 d.arm, .bool d.dead, .int .i64 d.ops]
theorem D.own {H : AHeap} {p a : Nat} {g : Option Nat} {vw : AVal} {d e : DS} (h : D H p a g vw d) (hs : e.s = d.s) (hw : e.w = d.w) (a0 : 0 ≤ e.arm) (a1 : e.arm ≤ 9223372036854775807) : D (H.set p (.cells (dcells a g vw e) true)) p a g vw e := by
  have k : Fr [p] H (H.set p (.cells (dcells a g vw e) true)) := Fr.set (.inl (by simp)) (Fr.refl _ _)
  exact { op := by rw [set_obj, if_pos rfl]; rfl, oa := by rw [hs, k.2 a h.an (by simp [Ne.symm h.pa])]; exact h.oa, ow := by rw [hw]; exact h.ow.fr k (fun i hi => by simp; rintro rfl; exact h.pw hi), pa := h.pa, pw := h.pw, aw := h.aw, pn := h.pn, an := h.an, gs := h.gs, n1 := by rw [hs]; exact h.n1, n2 := by rw [hs]; exact h.n2, hat := by rw [hs, hw]; exact h.hat, a0 := a0, a1 := a1 }

theorem step_s (d : DS) : d.step.s = d.s := by unfold DS.step; split <;> rfl
theorem step_w (d : DS) : d.step.w = d.w := by unfold DS.step; split <;> rfl
theorem step_arm {d : DS} (h0 : 0 ≤ d.arm) (h1 : d.arm ≤ 9223372036854775807) : 0 ≤ d.step.arm ∧ d.step.arm ≤ 9223372036854775807 := by
  unfold DS.step low; split
  · dsimp only; split <;> omega
  · exact ⟨Int.le_refl _, by show (0 : Int) ≤ _; decide⟩

theorem U46 {H : AHeap} {p a : Nat} {g : Option Nat} {vw : AVal} {d : DS} (h : D H p a g vw d) :
    AC A 46 [.ptr p 0] H = some (.int .i64 (if d.goes then 0 else 17), H.set p (.cells (dcells a g vw d.step) true)) := by
  have ho := h.op
  have h0 := h.a0
  have h1 := h.a1
  rw [s_fn (A := A) (f := 46) (x := DnFns.c46) rfl rfl rfl]
  have w1 : IntKind.i64.wrap (d.arm - 1) = d.arm - 1 := by rw [wrap_i64]; omega
  rcases sl_shape' h.ow.sl with hv | ⟨_, _, _, _, _, hv⟩ <;> rw [hv] at ho ⊢
  all_goals
    cases hg : d.goes
    · rw [step_f hg]
      rcases goes_f hg with e | ⟨e, e'⟩
      · rw [e] at ho
        simp only [c46, dcells, ho, AHeap.set_set, Bool.false_eq_true, rwA, rwB, Nat.reduceAdd, Nat.reduceMul, Nat.reduceLeDiff, Int.reduceEq, Int.reduceLT, Int.reduceLE, Int.reduceAdd, Int.reduceSub, Int.reduceMul, ↓reduceIte, Nat.reduceEqDiff, reduceCtorEq, ↓cnd_true, ↓cnd_false]
      · rw [e] at ho
        simp only [c46, dcells, ho, e', AHeap.set_set, Bool.false_eq_true, rwA, rwB, Nat.reduceAdd, Nat.reduceMul, Nat.reduceLeDiff, Int.reduceEq, Int.reduceLT, Int.reduceLE, Int.reduceAdd, Int.reduceSub, Int.reduceMul, ↓reduceIte, Nat.reduceEqDiff, reduceCtorEq, ↓cnd_true, ↓cnd_false]
    · rw [step_t hg]
      obtain ⟨e, e'⟩ := goes_t hg
      rw [e] at ho
      simp only [c46, dcells, low, ho, e', e, w1, AHeap.set_set, rwA, rwB, Nat.reduceAdd, Nat.reduceMul, Nat.reduceLeDiff, Int.reduceEq, Int.reduceLT, Int.reduceLE, Int.reduceAdd, Int.reduceSub, Int.reduceMul, ↓reduceIte, Nat.reduceEqDiff, reduceCtorEq, ↓cnd_true, ↓cnd_false]

theorem ids_push (N n : Nat) (c : Nat) (g : Option Nat) : (AVal.slice N 0 n c g).ids = [N] := rfl

theorem U11 {H : AHeap} {p a : Nat} {g : Option Nat} {vw : AVal} {d : DS} (h : D H p a g vw d) (hw : d.w.length < 1000000) (i : Int) (s : List UInt8) :
    ∃ H' vw', AC A 11 [.ptr p 0, .int .i64 i, .str s] H = some (.int .i64 (d.write i s).2, H') ∧ D H' p a g vw' (d.write i s).1 ∧ Fr (p :: vw.ids) H H' ∧ (∀ j, j ∈ vw'.ids → j ∈ vw.ids ∨ H.next ≤ j) := by
  have u := U45 h.look i
  by_cases c : (0 ≤ i ∧ i < d.s.length) ∧ s.length = 512
  · have c1 : decide (0 ≤ i) = true := by simp; omega
    have c2 : decide (i < (d.s.length : Int)) = true := by simp; omega
    have c3 : ((s.length : Int) == 512) = true := by simp; omega
    have c4 : decide ((s.length : Int) = 512) = true := by simp; omega
    simp only [DS.write, if_pos c]
    have u46 := U46 h
    obtain ⟨b0, b1⟩ := step_arm h.a0 h.a1
    have hD := h.own (e := d.step) (step_s d) (step_w d) b0 b1
    have k1 : Fr (p :: vw.ids) H (H.set p (.cells (dcells a g vw d.step) true)) := Fr.set (.inl (by simp)) (Fr.refl _ _)
    cases hg : d.goes
    · rw [hg] at u46
      refine ⟨H.set p (.cells (dcells a g vw d.step) true), vw, ?_, ?_, k1, fun j hj => .inl hj⟩
      · rw [s_fn (A := A) (f := 11) (x := DnFns.c11) rfl rfl rfl]
        simp only [c11, u, u46, c1, c2, c3, c4, Bool.true_and, Bool.false_eq_true, rwA, rwB, Nat.reduceAdd, Nat.reduceMul, Nat.reduceLeDiff, Int.reduceEq, Int.reduceLT, Int.reduceLE, Int.reduceAdd, Int.reduceSub, Int.reduceMul, ↓reduceIte, Nat.reduceEqDiff, reduceCtorEq, ↓cnd_true, ↓cnd_false]
      · exact hD
    · rw [hg] at u46
      simp only [if_true] at u46
      obtain ⟨K, eK⟩ : ∃ K, H.set p (.cells (dcells a g vw d.step) true) = K := ⟨_, rfl⟩
      rw [eK] at u46 hD k1
      have ho := hD.op
      have hn := slen_fm wc_len (by decide) hD.ow.sl
      rw [step_w] at hn
      have pu := hD.ow.pushE (by' := 24) (v := [.int .i64 i, .str s]) (by decide) rfl (by rw [hn]; omega)
      have ow := Ow_pushedE K vw (es := 2) (v := [.int .i64 i, .str s]) (by decide) rfl hD.ow.sl.length
      have po := pushE_obj (v := [.int .i64 i, .str s]) (c := (d.step.w.flatMap wc) ++ [.int .i64 i, .str s]) hD.pn hD.pw
      have pa := pushE_obj (v := [.int .i64 i, .str s]) (c := (d.step.w.flatMap wc) ++ [.int .i64 i, .str s]) hD.an hD.aw
      have pnx := pushE_next K vw [.int .i64 i, .str s] ((d.step.w.flatMap wc) ++ [.int .i64 i, .str s])
      have kp : Fr (p :: vw.ids) H (pushE K vw [.int .i64 i, .str s] ((d.step.w.flatMap wc) ++ [.int .i64 i, .str s])) := Fr.pushE (fun i hi => .inl (by simp [hi])) k1
      rw [hn] at pu ow
      obtain ⟨M, eM⟩ : ∃ M, pushE K vw [.int .i64 i, .str s] ((d.step.w.flatMap wc) ++ [.int .i64 i, .str s]) = M := ⟨_, rfl⟩
      rw [eM] at pu ow po pa pnx kp
      rw [ho] at po
      rw [hD.oa] at pa
      have hpn := hD.pn
      have han := hD.an
      have hKn : H.next = K.next := by rw [← eK, set_next]
      have kf : Fr (p :: vw.ids) H (M.set p (.cells (dcells a g (.slice (K.next + 1) 0 (d.w.length + 1) (d.w.length + 1) (some 2)) d.step) true)) := Fr.set (.inl (by simp)) kp
      refine ⟨M.set p (.cells (dcells a g (.slice (K.next + 1) 0 (d.w.length + 1) (d.w.length + 1) (some 2)) d.step) true), .slice (K.next + 1) 0 (d.w.length + 1) (d.w.length + 1) (some 2), ?_, ?_, kf, fun j hj => .inr (by simp [ids_push] at hj; omega)⟩
      · rw [s_fn (A := A) (f := 11) (x := DnFns.c11) rfl rfl rfl]
        rcases sl_shape' h.ow.sl with hv | ⟨_, _, _, _, _, hv⟩ <;> rw [hv] at ho pu po
        all_goals
          simp only [c11, u, u46, c1, c2, c3, c4, ho, pu, po, oldne hD.pn, dcells, Bool.true_and, Bool.false_eq_true, rwA, rwB, Nat.reduceAdd, Nat.reduceMul, Nat.reduceLeDiff, Int.reduceEq, Int.reduceLT, Int.reduceLE, Int.reduceAdd, Int.reduceSub, Int.reduceMul, ↓reduceIte, Nat.reduceEqDiff, reduceCtorEq, ↓cnd_true, ↓cnd_false]
      · refine { op := by rw [set_obj, if_pos rfl]; rfl, oa := ?_, ow := ?_, pa := h.pa, pw := by simp [ids_push]; omega, aw := by simp [ids_push]; omega, pn := by rw [set_next]; omega, an := by rw [set_next]; omega, gs := h.gs, n1 := hD.n1, n2 := hD.n2, hat := ?_, a0 := b0, a1 := b1 }
        · rw [set_obj, if_neg (Ne.symm h.pa), pa]; rfl
        · rw [Ow_set (by simp [ids_push]; omega)]
          have e : (d.w ++ [(i.toNat, s)]).flatMap wc = d.step.w.flatMap wc ++ [.int .i64 i, .str s] := by
            rw [step_w, List.flatMap_append]
            simp [wc, Int.toNat_of_nonneg c.1.1]
          show Ow M 2 _ ((d.w ++ [(i.toNat, s)]).flatMap wc)
          rw [e]; exact ow
        · intro x hx
          show x.1 < d.step.s.length
          rw [step_s]
          have hx : x ∈ d.w ++ [(i.toNat, s)] := hx
          rcases List.mem_append.1 hx with hx | hx
          · exact h.hat x hx
          · simp at hx; subst hx; show i.toNat < _; omega
  · simp only [DS.write, if_neg c]
    refine ⟨H, vw, ?_, h, Fr.refl _ _, fun j hj => .inl hj⟩
    rw [s_fn (A := A) (f := 11) (x := DnFns.c11) rfl rfl rfl]
    cases c1 : (decide (0 ≤ i) && decide (i < (d.s.length : Int)))
    · rw [c1] at u
      simp only [c11, u, rwA, rwB, Nat.reduceAdd, Nat.reduceMul, Nat.reduceLeDiff, Int.reduceEq, Int.reduceLT, Int.reduceLE, Int.reduceAdd, Int.reduceSub, Int.reduceMul, ↓reduceIte, Nat.reduceEqDiff, reduceCtorEq, ↓cnd_true, ↓cnd_false]
    · rw [c1] at u
      simp only [Bool.and_eq_true, decide_eq_true_eq] at c1
      have c4 : decide ((s.length : Int) = 512) = false := by simp; omega
      simp only [c11, u, c4, rwA, rwB, Nat.reduceAdd, Nat.reduceMul, Nat.reduceLeDiff, Int.reduceEq, Int.reduceLT, Int.reduceLE, Int.reduceAdd, Int.reduceSub, Int.reduceMul, ↓reduceIte, Nat.reduceEqDiff, reduceCtorEq, ↓cnd_true, ↓cnd_false]

end Go.Proofs.Ytilhjcnkaelheaa.Dk
