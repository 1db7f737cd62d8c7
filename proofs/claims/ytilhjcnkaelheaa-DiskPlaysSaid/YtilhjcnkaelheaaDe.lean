/- Disks: flushed, armed, brought up again, read. -/
import Derived.Test.YtilhjcnkaelheaaDc
set_option maxRecDepth 100000
set_option linter.unusedSimpArgs false
set_option linter.unusedVariables false
set_option maxHeartbeats 2000000
namespace Go.Proofs.Ytilhjcnkaelheaa.Dk
open Go Go.Proofs.Ytilhjcnkaelheaa.Am DnFns Go.RowKit
open Sd (Sec noughts home homeno ofHome ofNo opened unfit pad)

theorem U48 (j : Int) (H : AHeap) : AC A 48 [.int .i64 j] H = some (.bool true, H) := by
  refine one_val (x := DnFns.c48) rfl rfl rfl rfl rfl ?_ H
  simp only [c48, rwA, rwB, Nat.reduceAdd, Nat.reduceMul, Nat.reduceLeDiff, Int.reduceEq, Int.reduceLT, Int.reduceLE, Int.reduceAdd, Int.reduceSub, Int.reduceMul, ↓reduceIte, Nat.reduceEqDiff, reduceCtorEq, ↓cnd_true, ↓cnd_false]

theorem U50 {H : AHeap} {b : Nat} {o : Bool} {kv : AVal} {keep : List Bool} (ob : H.obj b = some (.cells [kv] o)) (hk : Sl H 1 kv (keep.map .bool)) (j : Nat) :
    AC A 50 [.int .i64 (j : Int), .ptr b 0] H = some (.bool (keep.getD j false), H) := by
  refine look_val (x := DnFns.c50) rfl rfl rfl rfl ?_
  have ho := frz_obj ob
  have hl := hk.frz.alen
  rw [slen1 hk.frz] at hl
  by_cases c : j < keep.length
  · obtain ⟨id, off, cap, g, k, own, rfl, hi, _, hc⟩ := hk.frz.elem1 c
    have c1 : decide ((j : Int) < (keep.length : Int)) = true := by simp; omega
    have ha : aidx keep.length (.int .i64 (j : Int)) = some j := by simp [aidx]; omega
    have e : keep.getD j false = keep[j] := by simp [c]
    rw [e]
    simp only [c50, ho, hl, c1, ha, hi, hc, rwA, rwB, Nat.reduceAdd, Nat.reduceMul, Nat.reduceLeDiff, Int.reduceEq, Int.reduceLT, Int.reduceLE, Int.reduceAdd, Int.reduceSub, Int.reduceMul, ↓reduceIte, Nat.reduceEqDiff, reduceCtorEq, ↓cnd_true, ↓cnd_false]
  · have c1 : decide ((j : Int) < (keep.length : Int)) = false := by simp; omega
    have e : keep.getD j false = false := by simp [List.getElem?_eq_none (show keep.length ≤ j by omega)]
    rw [e]
    simp only [c50, ho, hl, c1, rwA, rwB, Nat.reduceAdd, Nat.reduceMul, Nat.reduceLeDiff, Int.reduceEq, Int.reduceLT, Int.reduceLE, Int.reduceAdd, Int.reduceSub, Int.reduceMul, ↓reduceIte, Nat.reduceEqDiff, reduceCtorEq, ↓cnd_true, ↓cnd_false]

def b47 : ACode := (.seq (.region [⟨(some 14), (.bin .lss (.tmp 13) (.tmp 12)), none, none⟩]) (.seq (.cond (.tmp 14) .skip (.exit 0)) (.seq (.block 1 (.seq (.region [⟨(some 15), (.mv (.tmp 13)), none, none⟩, ⟨(some 16), (.idxASl 2 (.tmp 11) (.tmp 13)), none, none⟩, ⟨(some 17), (.load true 2 (.tmp 16)), none, none⟩, ⟨(some 7), (.new [(.int .i64 0), (.str [])]), none, none⟩, ⟨(some 6), (.mv (.tmp 15)), none, none⟩, ⟨none, (.store 2 (.tmp 7) (.tmp 17)), none, none⟩]) (.seq (.region [⟨(some 18), (.mv (.tmp 1)), none, none⟩, ⟨(some 19), (.mv (.tmp 6)), none, none⟩, ⟨(some 20), (.call (.tmp 18) [(.tmp 19)]), none, none⟩]) (.cond (.tmp 20) (.seq (.draw [⟨(some 21), (.mv (.tmp 0)), none, none⟩, ⟨(some 22), (.nilck (.tmp 21)), none, none⟩, ⟨(some 23), (.fieldA 0 (.tmp 22)), none, none⟩, ⟨(some 24), (.load false 1 (.tmp 23)), none, none⟩, ⟨(some 25), (.fieldA 0 (.tmp 7)), none, none⟩, ⟨(some 26), (.load false 1 (.tmp 25)), none, none⟩, ⟨(some 27), (.fieldA 1 (.tmp 7)), none, none⟩, ⟨(some 28), (.load false 1 (.tmp 27)), none, none⟩, ⟨(some 29), (.idxASl 1 (.tmp 24) (.tmp 26)), none, none⟩, ⟨none, (.store 1 (.tmp 29) (.tmp 28)), none, none⟩]) (.region [⟨(some 30), (.mv (.tmp 5)), none, none⟩, ⟨(some 31), (.bin .add (.tmp 30) (.con (.int .i64 1))), none, none⟩, ⟨(some 5), (.mv (.tmp 31)), none, none⟩])) .skip)))) (.region [⟨(some 32), (.bin .add (.tmp 13) (.con (.int .i64 1))), none, none⟩, ⟨(some 13), (.mv (.tmp 32)), none, none⟩]))))
theorem loop47 {H : AHeap} {p a : Nat} {g : Option Nat} {vw : AVal} {d : DS} (h : D H p a g vw d) (hw : d.w.length < 1000000) {P : Nat → Bool} {f : FuncId} {cap : List AVal}
    (hf : ∀ K j, Fr [a] H K → j < d.w.length → AC A f (.int .i64 (j : Int) :: cap) K = some (.bool (P j), K)) {env : Env}
    (h0 : env 0 = .ptr p 0) (h1 : env 1 = .func f [] cap) (h5 : env 5 = .int .i64 0) (h11 : env 11 = vw) (h12 : env 12 = .int .i64 (d.w.length : Int)) (h13 : env 13 = .int .i64 0) :
    Outs (AX A (.loop b47) env H) fun e env' K => e = .exit 0 ∧ env' 0 = .ptr p 0 ∧ env' 5 = .int .i64 (d.count P : Int) ∧ Fr [a] H K ∧ K.obj a = some (.cells ((puts d.s (pk d.w P d.w.length)).map .str) true) := by
  refine loop_ends (I := fun (j : Nat) env' K => j ≤ d.w.length ∧ env' 0 = .ptr p 0 ∧ env' 1 = .func f [] cap ∧ env' 5 = .int .i64 ((pk d.w P j).length : Int) ∧ env' 11 = vw ∧ env' 12 = .int .i64 (d.w.length : Int) ∧ env' 13 = .int .i64 (j : Int) ∧ Fr [a] H K ∧ K.obj a = some (.cells ((puts d.s (pk d.w P j)).map .str) true) ∧ (pk d.w P j).length ≤ j) (fun j => d.w.length - j) ?_ 0 env H
    ⟨Nat.zero_le _, h0, h1, h5, h11, h12, h13, Fr.refl _ _, h.oa, Nat.le_refl _⟩
  rintro j env K ⟨hj, h0, h1, h5, h11, h12, h13, k, oa, hle⟩
  by_cases c : j < d.w.length
  · have c1 : decide ((j : Int) < (d.w.length : Int)) = true := by simp; omega
    have ha : aidx d.w.length (.int .i64 (j : Int)) = some j := by simp [aidx]; omega
    have w1 : IntKind.i64.wrap ((j : Int) + 1) = ((j + 1 : Nat) : Int) := by rw [wrap_i64]; omega
    have hsl := h.ow.fr k (fun i hi => by simp; rintro rfl; exact h.aw hi)
    obtain ⟨id, off, cp, g', l, own, rfl, ho, hk, hall, _⟩ := hsl.sl.elem wc_len (by decide) c
    have hr := elem_room (es := 2) c hk
    have ld : apart true (off + j * 2) 2 l = some (.agg [.int .i64 ((d.w[j].1 : Nat) : Int), .str d.w[j].2]) := by rw [apart_agg _ _ _ hr, hall]; rfl
    obtain ⟨x, ex⟩ : ∃ x, d.w[j] = x := ⟨_, rfl⟩
    have hx : x.1 < d.s.length := by rw [← ex]; exact h.hat _ (List.getElem_mem c)
    rw [ex] at ld
    have hpk : pk d.w P (j + 1) = pk d.w P j ++ (if P j then [x] else []) := by
      simp only [pk]; rw [List.getElem?_eq_getElem c, ex]
    obtain ⟨K1, eK1⟩ : ∃ K1, (K.new (.cells [.int .i64 0, .str []] true)).set K.next (.cells [.int .i64 (x.1 : Int), .str x.2] true) = K1 := ⟨_, rfl⟩
    have k1 : Fr [a] H K1 := by rw [← eK1]; exact Fr.set (.inr k.1) (Fr.new k)
    have oN : K1.obj K.next = some (.cells [.int .i64 (x.1 : Int), .str x.2] true) := by rw [← eK1, set_obj, if_pos rfl]
    have hpn : p < K.next := Nat.lt_of_lt_of_le h.pn k.1
    have han : a < K.next := Nat.lt_of_lt_of_le h.an k.1
    have op : K1.obj p = some (.cells (dcells a g (.slice id off d.w.length cp g') d) true) := by rw [k1.2 p h.pn (by simp [h.pa])]; exact h.op
    have oa1 : K1.obj a = some (.cells ((puts d.s (pk d.w P j)).map .str) true) := by rw [← eK1, set_obj, if_neg (by omega), new_obj, if_neg (by omega)]; exact oa
    have ha2 : aidx d.s.length (.int .i64 (x.1 : Int)) = some x.1 := by simp [aidx]; omega
    have st : storeX K1 1 a x.1 [.str x.2] false (some (.cells ((puts d.s (pk d.w P j)).map .str) true)) = some (K1.set a (.cells (((puts d.s (pk d.w P j)).set x.1 x.2).map .str) true)) := by
      rw [store_one _ _ _ _ _ (by rw [List.length_map, puts_len]; exact hx), List.map_set]
    have hF := hf K1 j k1 c
    have w2 : IntKind.i64.wrap (((pk d.w P j).length : Int) + 1) = (((pk d.w P j).length + 1 : Nat) : Int) := by rw [wrap_i64]; omega
    cases hP : P j <;> rw [hP] at hF hpk
    · simp only [b47, h0, h1, h5, h11, h12, h13, c1, ha, ho, ld, eK1, hF, w1, rwA, rwB, Nat.reduceAdd, Nat.reduceMul, Nat.reduceLeDiff, Int.reduceEq, Int.reduceLT, Int.reduceLE, Int.reduceAdd, Int.reduceSub, Int.reduceMul, ↓reduceIte, Nat.reduceEqDiff, reduceCtorEq, ↓cnd_true, ↓cnd_false]
      rw [outs_some]
      refine .inl ⟨rfl, j + 1, by omega, by omega, by simp [Env.set, h0], by simp [Env.set, h1], ?_, by simp [Env.set, h11], by simp [Env.set, h12], by simp [Env.set], k1, ?_, ?_⟩
      · simp [Env.set, h5, hpk]
      · rw [hpk]; simpa using oa1
      · rw [hpk]; simp; omega
    · unfold dcells at op
      simp only [b47, h0, h1, h5, h11, h12, h13, c1, ha, ho, ld, eK1, hF, w1, oN, op, ha2, oa1, st, w2, oldne hpn, oldne han, rwA, rwB, Nat.reduceAdd, Nat.reduceMul, Nat.reduceLeDiff, Int.reduceEq, Int.reduceLT, Int.reduceLE, Int.reduceAdd, Int.reduceSub, Int.reduceMul, ↓reduceIte, Nat.reduceEqDiff, reduceCtorEq, ↓cnd_true, ↓cnd_false]
      rw [outs_some]
      refine .inl ⟨rfl, j + 1, by omega, by omega, by simp [Env.set, h0], by simp [Env.set, h1], ?_, by simp [Env.set, h11], by simp [Env.set, h12], by simp [Env.set], Fr.set (.inl (by simp)) k1, ?_, ?_⟩
      · simp [Env.set, hpk]
      · rw [hpk, set_obj, if_pos rfl]; simp [puts]
      · rw [hpk]; simp; omega
  · have e : j = d.w.length := by omega
    subst e
    have c1 : decide ((d.w.length : Int) < (d.w.length : Int)) = false := by simp
    simp only [b47, h12, h13, c1, rwA, rwB, Nat.reduceAdd, Nat.reduceMul, Nat.reduceLeDiff, Int.reduceEq, Int.reduceLT, Int.reduceLE, Int.reduceAdd, Int.reduceSub, Int.reduceMul, ↓reduceIte, Nat.reduceEqDiff, reduceCtorEq, ↓cnd_true, ↓cnd_false]
    rw [outs_some]
    exact .inr ⟨by simp, rfl, by simp [Env.set, h0], by simp [Env.set, h5, DS.count], k, oa⟩

theorem pk_mem {w : List (Nat × List UInt8)} {P : Nat → Bool} : ∀ {j : Nat} {x}, x ∈ pk w P j → x ∈ w
  | 0, x, h => by simp [pk] at h
  | j + 1, x, h => by
    simp only [pk, List.mem_append] at h
    rcases h with h | h
    · exact pk_mem h
    · split at h
      · rename_i y hy
        split at h
        · simp at h; subst h; exact List.mem_of_getElem? hy
        · simp at h
      · simp at h

theorem U47 {H : AHeap} {p a : Nat} {g : Option Nat} {vw : AVal} {d : DS} (h : D H p a g vw d) (hw : d.w.length < 1000000) {P : Nat → Bool} {f : FuncId} {cap : List AVal}
    (hf : ∀ K j, Fr [a] H K → j < d.w.length → AC A f (.int .i64 (j : Int) :: cap) K = some (.bool (P j), K)) :
    ∃ H', AC A 47 [.ptr p 0, .func f [] cap] H = some (.int .i64 (d.count P : Int), H') ∧ D H' p a g .nils (d.settle P) ∧ Fr [p, a] H H' := by
  have key : Rets (AC A 47 [.ptr p 0, .func f [] cap] H) fun v H' => v = .int .i64 (d.count P : Int) ∧ D H' p a g .nils (d.settle P) ∧ Fr [p, a] H H' := by
    rw [s_fn (A := A) (f := 47) (x := DnFns.c47) rfl rfl rfl]
    have ho := h.op
    have hl := h.look.wlen
    simp only [c47, ho, hl, rwA, rwB, Nat.reduceAdd, Nat.reduceMul, Nat.reduceLeDiff, Int.reduceEq, Int.reduceLT, Int.reduceLE, Int.reduceAdd, Int.reduceSub, Int.reduceMul, ↓reduceIte, Nat.reduceEqDiff, reduceCtorEq, ↓cnd_true, ↓cnd_false]
    repeat (first | refine outs_seq ?_ | refine outs_block ?_ | refine outs_step ?_ | refine outs_stepD ?_ | refine rets_end ?_ | refine ans_end ?_)
    refine (loop47 (d := d) h hw hf ?_ ?_ ?_ ?_ ?_ ?_).mono ?_
    · simp [Env.set, ainit]
    · simp [Env.set, ainit]
    · simp [Env.set]
    · simp [Env.set]
    · simp [Env.set]
    · simp [Env.set]
    rintro e env K ⟨rfl, h0, h5, k, oa⟩
    have op : K.obj p = some (.cells [.slice a 0 d.s.length d.s.length g, vw, .int .i64 d.arm, .bool d.dead, .int .i64 d.ops] true) := by rw [k.2 p h.pn (by simp [h.pa])]; exact h.op
    simp only [outs_some, h0, h5, op, rwA, rwB, Nat.reduceAdd, Nat.reduceMul, Nat.reduceLeDiff, Int.reduceEq, Int.reduceLT, Int.reduceLE, Int.reduceAdd, Int.reduceSub, Int.reduceMul, ↓reduceIte, Nat.reduceEqDiff, reduceCtorEq, ↓cnd_true, ↓cnd_false]
    rw [rets_some]
    refine ⟨rfl, ?_, Fr.set (.inl (by simp)) (k.mono (by simp))⟩
    have el : (d.settle P).s.length = d.s.length := by simp [DS.settle, puts_len]
    exact { op := by rw [set_obj, if_pos rfl, el]; rfl, oa := by rw [set_obj, if_neg (Ne.symm h.pa)]; exact oa, ow := Ow.nil _ _, pa := h.pa, pw := by simp [AVal.ids], aw := by simp [AVal.ids], pn := Nat.lt_of_lt_of_le h.pn k.1, an := Nat.lt_of_lt_of_le h.an k.1, gs := h.gs, n1 := by rw [el]; exact h.n1, n2 := by rw [el]; exact h.n2, hat := by intro x hx; simp [DS.settle] at hx, a0 := h.a0, a1 := h.a1 }
  obtain ⟨v, H', e, rfl, hD, hk⟩ := key
  exact ⟨H', e, hD, hk⟩

theorem U15 {H : AHeap} {p a : Nat} {g : Option Nat} {vw : AVal} {d : DS} (h : D H p a g vw d) {n : Int} (hn : n ≤ 9223372036854775807) :
    ∃ H', AC A 15 [.ptr p 0, .int .i64 n] H = some (.tuple [], H') ∧ D H' p a g vw { d with arm := low n } ∧ Fr [p] H H' := by
  refine ⟨H.set p (.cells (dcells a g vw { d with arm := low n }) true), ?_, h.own rfl rfl ?_ ?_, Fr.set (.inl (by simp)) (Fr.refl _ _)⟩
  · have ho := h.op
    rw [s_fn (A := A) (f := 15) (x := DnFns.c15) rfl rfl rfl]
    simp only [c15, ho, e_nilp0, dcells, low, Bool.not_false, rwA, rwB, Nat.reduceAdd, Nat.reduceMul, Nat.reduceLeDiff, Int.reduceEq, Int.reduceLT, Int.reduceLE, Int.reduceAdd, Int.reduceSub, Int.reduceMul, ↓reduceIte, Nat.reduceEqDiff, reduceCtorEq, ↓cnd_true, ↓cnd_false]
  · show 0 ≤ low n; unfold low; split <;> omega
  · show low n ≤ _; unfold low; split <;> omega

theorem U13 {H : AHeap} {p a : Nat} {g : Option Nat} {vw : AVal} {d : DS} (h : D H p a g vw d) (hw : d.w.length < 1000000) :
    ∃ H' vw', AC A 13 [.ptr p 0] H = some (.int .i64 d.flush.2, H') ∧ D H' p a g vw' d.flush.1 ∧ Fr [p, a] H H' ∧ (∀ j, j ∈ vw'.ids → j ∈ vw.ids) := by
  have u46 := U46 h
  obtain ⟨b0, b1⟩ := step_arm h.a0 h.a1
  have hD := h.own (e := d.step) (step_s d) (step_w d) b0 b1
  have k1 : Fr [p, a] H (H.set p (.cells (dcells a g vw d.step) true)) := Fr.set (.inl (by simp)) (Fr.refl _ _)
  obtain ⟨K, eK⟩ : ∃ K, H.set p (.cells (dcells a g vw d.step) true) = K := ⟨_, rfl⟩
  rw [eK] at u46 hD k1
  unfold DS.flush
  cases hg : d.goes
  · rw [hg] at u46
    refine ⟨K, vw, ?_, hD, k1, fun j hj => hj⟩
    rw [s_fn (A := A) (f := 13) (x := DnFns.c13) rfl rfl rfl]
    simp only [c13, u46, e_nilp0, Bool.false_eq_true, rwA, rwB, Nat.reduceAdd, Nat.reduceMul, Nat.reduceLeDiff, Int.reduceEq, Int.reduceLT, Int.reduceLE, Int.reduceAdd, Int.reduceSub, Int.reduceMul, ↓reduceIte, Nat.reduceEqDiff, reduceCtorEq, ↓cnd_true, ↓cnd_false]
  · rw [hg] at u46
    obtain ⟨H', e, hD', k2⟩ := U47 hD (by rw [step_w]; exact hw) (P := fun _ => true) (f := 48) (cap := []) (fun M j _ _ => U48 _ M)
    refine ⟨H', .nils, ?_, hD', k1.trans k2 (fun i hi => .inl hi), by simp [AVal.ids]⟩
    rw [s_fn (A := A) (f := 13) (x := DnFns.c13) rfl rfl rfl]
    simp only [c13, u46, e, e_nilp0, rwA, rwB, Nat.reduceAdd, Nat.reduceMul, Nat.reduceLeDiff, Int.reduceEq, Int.reduceLT, Int.reduceLE, Int.reduceAdd, Int.reduceSub, Int.reduceMul, ↓reduceIte, Nat.reduceEqDiff, reduceCtorEq, ↓cnd_true, ↓cnd_false]

theorem U17 {H : AHeap} {p a : Nat} {g : Option Nat} {vw kv : AVal} {d : DS} {keep : List Bool} (h : D H p a g vw d) (hw : d.w.length < 1000000) (hk : Sl H 1 kv (keep.map .bool)) (hid : ∀ i, i ∈ kv.ids → i < H.next ∧ i ≠ p ∧ i ≠ a) :
    ∃ H', AC A 17 [.ptr p 0, kv] H = some (.int .i64 ((d.up keep).2 : Int), H') ∧ D H' p a g .nils (d.up keep).1 ∧ Fr [p, a] H H' := by
  have hpn := h.pn
  have han := h.an
  have hK := h.keeps (Keeps.new H (.cells [kv] true))
  have hD := hK.own (e := { d with dead := false, arm := 0 }) rfl rfl (Int.le_refl _) (by show (0 : Int) ≤ _; decide)
  have k1 : Fr [p, a] H ((H.new (.cells [kv] true)).set p (.cells (dcells a g vw { d with dead := false, arm := 0 }) true)) := Fr.set (.inl (by simp)) (Fr.new (Fr.refl _ _))
  have oN : ((H.new (.cells [kv] true)).set p (.cells (dcells a g vw { d with dead := false, arm := 0 }) true)).obj H.next = some (.cells [kv] true) := by rw [set_obj, if_neg (by omega), new_obj, if_pos rfl]
  have nN : ((H.new (.cells [kv] true)).set p (.cells (dcells a g vw { d with dead := false, arm := 0 }) true)).next = H.next + 1 := by rw [set_next, new_next]
  obtain ⟨K, eK⟩ : ∃ K, (H.new (.cells [kv] true)).set p (.cells (dcells a g vw { d with dead := false, arm := 0 }) true) = K := ⟨_, rfl⟩
  rw [eK] at hD k1 oN nN
  have hkK := hk.fr k1 (fun i hi => ⟨(hid i hi).1, by simp [(hid i hi).2]⟩)
  obtain ⟨H', e, hD', k2⟩ := U47 hD hw (P := fun i => keep.getD i false) (f := 50) (cap := [.ptr H.next 0]) (fun M j kM _ => by
    refine U50 (o := true) ?_ (hkK.fr kM (fun i hi => ⟨by have := (hid i hi).1; omega, by simp [(hid i hi).2.2]⟩)) j
    rw [kM.2 _ (by omega) (by simp; omega)]; exact oN)
  refine ⟨H', ?_, hD', k1.trans k2 (fun i hi => .inl hi)⟩
  have ho := h.op
  have e' : d.count (fun i => keep.getD i false) = ({ d with dead := false, arm := 0 } : DS).count fun i => keep.getD i false := rfl
  unfold dcells at eK
  rw [s_fn (A := A) (f := 17) (x := DnFns.c17) rfl rfl rfl]
  rcases sl_shape' hk with rfl | ⟨_, _, _, _, _, rfl⟩ <;> simp only [c17, ho, e_nilp0, oldne hpn, AHeap.set_set, eK, e, e', DS.up, rwA, rwB, Nat.reduceAdd, Nat.reduceMul, Nat.reduceLeDiff, Int.reduceEq, Int.reduceLT, Int.reduceLE, Int.reduceAdd, Int.reduceSub, Int.reduceMul, ↓reduceIte, Nat.reduceEqDiff, reduceCtorEq, ↓cnd_true, ↓cnd_false]

end Go.Proofs.Ytilhjcnkaelheaa.Dk
