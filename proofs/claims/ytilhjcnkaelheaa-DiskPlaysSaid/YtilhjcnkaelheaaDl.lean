/- The reference's disks. -/
import Derived.Test.YtilhjcnkaelheaaDg
set_option maxRecDepth 100000
set_option linter.unusedSimpArgs false
set_option linter.unusedVariables false
set_option maxHeartbeats 4000000
namespace Go.Proofs.Ytilhjcnkaelheaa.Dk
open Go Go.Proofs.Ytilhjcnkaelheaa.Am DnFns Go.RowKit
open Sd (Sec noughts home homeno ofHome ofNo opened unfit pad)

/-- A disk of the reference: a value, its slices in memory. -/
structure R (H : AHeap) (vs vw : AVal) (d : DS) : Prop where
  ss : Sl H 1 vs (d.s.map .str)
  sw : Sl H 2 vw (d.w.flatMap wc)
  si : ∀ i, i ∈ vs.ids → i < H.next
  wi : ∀ i, i ∈ vw.ids → i < H.next
def rc (vs vw : AVal) (d : DS) : List AVal := [vs, vw, .int .i64 d.arm, .bool d.dead, .int .i64 d.ops]
theorem R.frz {H : AHeap} {vs vw : AVal} {d : DS} (h : R H vs vw d) : R (frz H) vs vw d := ⟨h.ss.frz, h.sw.frz, h.si, h.wi⟩
theorem R.fr {L : List Nat} {H K : AHeap} {vs vw : AVal} {d : DS} (h : R H vs vw d) (f : Fr L H K) (hs : ∀ i, i ∈ vs.ids → i ∉ L) (hw : ∀ i, i ∈ vw.ids → i ∉ L) : R K vs vw d :=
  ⟨h.ss.fr f fun i hi => ⟨h.si i hi, hs i hi⟩, h.sw.fr f fun i hi => ⟨h.wi i hi, hw i hi⟩, fun i hi => Nat.lt_of_lt_of_le (h.si i hi) f.1, fun i hi => Nat.lt_of_lt_of_le (h.wi i hi) f.1⟩
theorem R.keeps {H K : AHeap} {vs vw : AVal} {d : DS} (h : R H vs vw d) (f : Keeps H K) : R K vs vw d := h.fr (L := []) (Fr.of f) (by simp) (by simp)
theorem R.slen {H : AHeap} {vs vw : AVal} {d : DS} (h : R H vs vw d) : alenT false vs = some d.s.length := by rw [h.ss.alen, slen1 h.ss]
theorem R.wlen {H : AHeap} {vs vw : AVal} {d : DS} (h : R H vs vw d) : alenT false vw = some d.w.length := by rw [h.sw.alen, slen_fm wc_len (by decide) h.sw]
theorem R.old {H : AHeap} {vs vw : AVal} {d e : DS} (h : R H vs vw d) : (AVal.agg (rc vs vw e)).old H.next = true := by
  have h1 := old_sl h.ss h.si
  have h2 := old_sl h.sw h.wi
  simp [AVal.old, oldl, rc, h1, h2]
theorem R.oldl {H : AHeap} {vs vw : AVal} {d e : DS} (h : R H vs vw d) : oldl H.next (rc vs vw e) = true := by
  have h1 := old_sl h.ss h.si
  have h2 := old_sl h.sw h.wi
  simp [AVal.old, Go.Proofs.Ytilhjcnkaelheaa.Am.oldl, rc, h1, h2]
theorem R.like {H : AHeap} {vs vw : AVal} {d e : DS} (h : R H vs vw d) (h1 : e.s = d.s) (h2 : e.w = d.w) : R H vs vw e := ⟨by rw [h1]; exact h.ss, by rw [h2]; exact h.sw, h.si, h.wi⟩

theorem low_sub {x : Int} (h : 0 ≤ x) : low (x - 1) = if 0 < x then x - 1 else x := by unfold low; split <;> split <;> omega

theorem U68 {H : AHeap} {vs vw : AVal} {d : DS} (h : R H vs vw d) (a0 : 0 ≤ d.arm) (a1 : d.arm ≤ 9223372036854775807) :
    AC A 68 [.agg (rc vs vw d)] H = some (.tuple [.agg (rc vs vw d.step), .bool d.goes], H) := by
  refine look_val (x := DnFns.c68) rfl rfl rfl ?_ ?_
  · have := h.oldl (e := d.step)
    simp [AVal.old, oldl, this]
  have w1 : IntKind.i64.wrap (d.arm - 1) = d.arm - 1 := by rw [wrap_i64]; omega
  rcases sl_shape' h.ss with rfl | ⟨_, _, _, _, _, rfl⟩ <;> rcases sl_shape' h.sw with rfl | ⟨_, _, _, _, _, rfl⟩
  all_goals
    cases hg : d.goes
    · rw [step_f hg]
      rcases goes_f hg with e | ⟨e, e'⟩
      · simp only [c68, rc, e, AHeap.set_set, rwA, rwB, Nat.reduceAdd, Nat.reduceMul, Nat.reduceLeDiff, Int.reduceEq, Int.reduceLT, Int.reduceLE, Int.reduceAdd, Int.reduceSub, Int.reduceMul, ↓reduceIte, Nat.reduceEqDiff, reduceCtorEq, ↓cnd_true, ↓cnd_false]
      · simp only [c68, rc, e, e', AHeap.set_set, rwA, rwB, Nat.reduceAdd, Nat.reduceMul, Nat.reduceLeDiff, Int.reduceEq, Int.reduceLT, Int.reduceLE, Int.reduceAdd, Int.reduceSub, Int.reduceMul, ↓reduceIte, Nat.reduceEqDiff, reduceCtorEq, ↓cnd_true, ↓cnd_false]
    · rw [step_t hg]
      obtain ⟨e, e'⟩ := goes_t hg
      cases c : decide (0 < d.arm)
      · have el : low (d.arm - 1) = d.arm := by rw [low_sub a0, if_neg (by simpa using c)]
        simp only [c68, rc, e, e', c, el, AHeap.set_set, rwA, rwB, Nat.reduceAdd, Nat.reduceMul, Nat.reduceLeDiff, Int.reduceEq, Int.reduceLT, Int.reduceLE, Int.reduceAdd, Int.reduceSub, Int.reduceMul, ↓reduceIte, Nat.reduceEqDiff, reduceCtorEq, ↓cnd_true, ↓cnd_false]
      · have el : low (d.arm - 1) = d.arm - 1 := by rw [low_sub a0, if_pos (by simpa using c)]
        simp only [c68, rc, e, e', c, el, w1, AHeap.set_set, rwA, rwB, Nat.reduceAdd, Nat.reduceMul, Nat.reduceLeDiff, Int.reduceEq, Int.reduceLT, Int.reduceLE, Int.reduceAdd, Int.reduceSub, Int.reduceMul, ↓reduceIte, Nat.reduceEqDiff, reduceCtorEq, ↓cnd_true, ↓cnd_false]

def fw (w : List (Nat × List UInt8)) (i : Int) (s : List UInt8) : Nat → List UInt8
  | 0 => s
  | k + 1 => if ((w.getD k (0, [])).1 : Int) = i then (w.getD k (0, [])).2 else fw w i s k
theorem fw_lw (w : List (Nat × List UInt8)) (i : Int) (s : List UInt8) : ∀ k, fw w i s k = (lw w i k).getD s
  | 0 => rfl
  | k + 1 => by
    simp only [fw, lw]
    split
    · rfl
    · exact fw_lw w i s k

def b22 : ACode := (.seq (.seq (.region [⟨(some 24), (.mv (.tmp 7)), none, none⟩, ⟨(some 25), (.fieldA 1 (.tmp 2)), none, none⟩, ⟨(some 26), (.load false 1 (.tmp 25)), none, none⟩, ⟨(some 27), (.len false (.tmp 26)), none, none⟩, ⟨(some 28), (.bin .lss (.tmp 24) (.tmp 27)), none, none⟩]) (.cond (.tmp 28) .skip (.exit 0))) (.seq (.block 1 (.seq (.region [⟨(some 31), (.fieldA 1 (.tmp 2)), none, none⟩, ⟨(some 32), (.load false 1 (.tmp 31)), none, none⟩, ⟨(some 33), (.mv (.tmp 7)), none, none⟩, ⟨(some 34), (.idxASl 2 (.tmp 32) (.tmp 33)), none, none⟩, ⟨(some 35), (.fieldA 0 (.tmp 34)), none, none⟩, ⟨(some 36), (.load false 1 (.tmp 35)), none, none⟩, ⟨(some 37), (.mv (.tmp 1)), none, none⟩, ⟨(some 38), (.bin .eql (.tmp 36) (.tmp 37)), none, none⟩]) (.cond (.tmp 38) (.region [⟨(some 39), (.fieldA 1 (.tmp 2)), none, none⟩, ⟨(some 40), (.load false 1 (.tmp 39)), none, none⟩, ⟨(some 41), (.mv (.tmp 7)), none, none⟩, ⟨(some 42), (.idxASl 2 (.tmp 40) (.tmp 41)), none, none⟩, ⟨(some 43), (.fieldA 1 (.tmp 42)), none, none⟩, ⟨(some 44), (.load false 1 (.tmp 43)), none, none⟩, ⟨(some 6), (.mv (.tmp 44)), none, none⟩]) .skip))) (.region [⟨(some 29), (.mv (.tmp 7)), none, none⟩, ⟨(some 30), (.bin .add (.tmp 29) (.con (.int .i64 1))), none, none⟩, ⟨(some 7), (.mv (.tmp 30)), none, none⟩])))
theorem loop22 {H : AHeap} {q : Nat} {vs vw : AVal} {d : DS} (h : R H vs vw d) {o : Bool} (ho : H.obj q = some (.cells (rc vs vw d) o)) (hw : d.w.length < 1000000) {i : Int} {s : List UInt8} {env : Env}
    (h1 : env 1 = .int .i64 i) (h2 : env 2 = .ptr q 0) (h6 : env 6 = .str s) (h7 : env 7 = .int .i64 0) :
    Outs (AX A (.loop b22) env H) fun e env' K => e = .exit 0 ∧ env' 6 = .str (fw d.w i s d.w.length) := by
  refine loop_ends (I := fun (j : Nat) env' K => K = H ∧ j ≤ d.w.length ∧ env' 1 = .int .i64 i ∧ env' 2 = .ptr q 0 ∧ env' 6 = .str (fw d.w i s j) ∧ env' 7 = .int .i64 (j : Int)) (fun j => d.w.length - j) ?_ 0 env H ⟨rfl, Nat.zero_le _, h1, h2, h6, h7⟩
  rintro j env _ ⟨rfl, hj, h1, h2, h6, h7⟩
  have hl := h.wlen
  unfold rc at ho
  by_cases c : j < d.w.length
  · have c1 : decide ((j : Int) < (d.w.length : Int)) = true := by simp; omega
    have w1 : IntKind.i64.wrap ((j : Int) + 1) = ((j + 1 : Nat) : Int) := by rw [wrap_i64]; omega
    obtain ⟨id, off, cp, g, k, own, rfl, hi, _, _, hc⟩ := h.sw.elem wc_len (by decide) c
    have ha : aidx d.w.length (.int .i64 (j : Int)) = some j := by simp [aidx]; omega
    have p0 := hc 0 (by decide)
    have p1 := hc 1 (by decide)
    have eg : d.w.getD j (0, []) = d.w[j] := by simp [c]
    obtain ⟨x, ex⟩ : ∃ x, d.w[j] = x := ⟨_, rfl⟩
    rw [ex] at p0 p1 eg
    have p0 : k[off + j * 2]? = some (.int .i64 (x.1 : Int)) := p0
    have p1 : k[off + (j * 2 + 1)]? = some (.str x.2) := p1
    have hf : fw d.w i s (j + 1) = if (x.1 : Int) = i then x.2 else fw d.w i s j := by simp only [fw, eg]
    cases c2 : decide ((x.1 : Int) = i)
    · rw [if_neg (by simpa using c2)] at hf
      simp only [b22, h1, h2, h6, h7, ho, hl, c1, c2, ha, hi, p0, p1, w1, rwA, rwB, Nat.reduceAdd, Nat.reduceMul, Nat.reduceLeDiff, Int.reduceEq, Int.reduceLT, Int.reduceLE, Int.reduceAdd, Int.reduceSub, Int.reduceMul, ↓reduceIte, Nat.reduceEqDiff, reduceCtorEq, ↓cnd_true, ↓cnd_false]
      rw [outs_some]
      exact .inl ⟨rfl, j + 1, by omega, rfl, by omega, by simp [Env.set, h1], by simp [Env.set, h2], by simp [Env.set, h6, hf], by simp [Env.set]⟩
    · rw [if_pos (by simpa using c2)] at hf
      simp only [b22, h1, h2, h6, h7, ho, hl, c1, c2, ha, hi, p0, p1, w1, rwA, rwB, Nat.reduceAdd, Nat.reduceMul, Nat.reduceLeDiff, Int.reduceEq, Int.reduceLT, Int.reduceLE, Int.reduceAdd, Int.reduceSub, Int.reduceMul, ↓reduceIte, Nat.reduceEqDiff, reduceCtorEq, ↓cnd_true, ↓cnd_false]
      rw [outs_some]
      exact .inl ⟨rfl, j + 1, by omega, rfl, by omega, by simp [Env.set, h1], by simp [Env.set, h2], by simp [Env.set, hf], by simp [Env.set]⟩
  · have e : j = d.w.length := by omega
    subst e
    have c1 : decide ((d.w.length : Int) < (d.w.length : Int)) = false := by simp
    simp only [b22, h1, h2, h6, h7, ho, hl, c1, rwA, rwB, Nat.reduceAdd, Nat.reduceMul, Nat.reduceLeDiff, Int.reduceEq, Int.reduceLT, Int.reduceLE, Int.reduceAdd, Int.reduceSub, Int.reduceMul, ↓reduceIte, Nat.reduceEqDiff, reduceCtorEq, ↓cnd_true, ↓cnd_false]
    rw [outs_some]
    exact .inr ⟨by simp, rfl, by simp [Env.set, h6]⟩

theorem U22 {H : AHeap} {vs vw : AVal} {d : DS} (h : R H vs vw d) (hw : d.w.length < 1000000) (i : Int) :
    AC A 22 [.agg (rc vs vw d), .int .i64 i] H = some (.tuple [.str (d.read i).1, .int .i64 (d.read i).2], H) := by
  refine look_val (x := DnFns.c22) rfl rfl rfl rfl ?_
  have hf := h.frz
  obtain ⟨K, eK⟩ : ∃ K, (frz H).new (.cells (rc vs vw d) true) = K := ⟨_, rfl⟩
  have kK : Keeps (frz H) K := by rw [← eK]; exact Keeps.new _ _
  have hK := hf.keeps kK
  have oK : K.obj (frz H).next = some (.cells (rc vs vw d) true) := by rw [← eK, new_obj, if_pos rfl]
  have hl := hK.slen
  unfold DS.read
  unfold rc at oK eK
  cases hd : d.dead <;> rw [hd] at oK eK
  · by_cases c : 0 ≤ i ∧ i < (d.s.length : Int)
    · have c1 : decide (i < 0) = false := by simp; omega
      have c2 : decide ((d.s.length : Int) ≤ i) = false := by simp; omega
      obtain ⟨m, rfl⟩ : ∃ m : Nat, i = (m : Int) := ⟨i.toNat, by omega⟩
      obtain ⟨id, off, cp, g, k, own, rfl, hi, _, hc⟩ := hK.ss.elem1 (i := m) (by omega)
      have ha : aidx d.s.length (.int .i64 (m : Int)) = some m := by simp [aidx]; omega
      have eg : d.s.getD ((m : Int).toNat) [] = d.s[m]'(by omega) := by simp [show m < d.s.length by omega]
      rw [if_pos c, ← fw_lw, eg]
      rcases sl_shape' h.sw with rfl | ⟨_, _, _, _, _, rfl⟩
      all_goals
        simp only [c22, rc, hd, eK, oK, c1, c2, hl, ha, hi, hc, rwA, rwB, Nat.reduceAdd, Nat.reduceMul, Nat.reduceLeDiff, Int.reduceEq, Int.reduceLT, Int.reduceLE, Int.reduceAdd, Int.reduceSub, Int.reduceMul, ↓reduceIte, Nat.reduceEqDiff, reduceCtorEq, ↓cnd_true, ↓cnd_false]
        repeat (first | refine outs_seq ?_ | refine outs_block ?_ | refine outs_step ?_ | refine outs_stepD ?_ | refine rets_end ?_ | refine ans_end ?_)
        refine (loop22 (q := (frz H).next) (o := true) hK (by rw [oK, rc, hd]) hw (i := (m : Int)) (s := d.s[m]'(by omega)) ?_ ?_ ?_ ?_).mono ?_
        · simp [Env.set, ainit]
        · simp [Env.set]
        · simp [Env.set]
        · simp [Env.set]
        rintro e env K' ⟨rfl, h6⟩
        simp only [outs_some, h6, Bool.false_eq_true, if_false, rwA, rwB, Nat.reduceAdd, Nat.reduceMul, Nat.reduceLeDiff, Int.reduceEq, Int.reduceLT, Int.reduceLE, Int.reduceAdd, Int.reduceSub, Int.reduceMul, ↓reduceIte, Nat.reduceEqDiff, reduceCtorEq, ↓cnd_true, ↓cnd_false]
    · rw [if_neg c]
      rcases sl_shape' h.ss with rfl | ⟨_, _, _, _, _, rfl⟩ <;> rcases sl_shape' h.sw with rfl | ⟨_, _, _, _, _, rfl⟩
      all_goals
        cases c1 : decide (i < 0)
        · have c2 : decide ((d.s.length : Int) ≤ i) = true := by simp at c1; simp; omega
          simp only [c22, rc, hd, eK, oK, c1, c2, hl, Bool.false_eq_true, rwA, rwB, Nat.reduceAdd, Nat.reduceMul, Nat.reduceLeDiff, Int.reduceEq, Int.reduceLT, Int.reduceLE, Int.reduceAdd, Int.reduceSub, Int.reduceMul, ↓reduceIte, Nat.reduceEqDiff, reduceCtorEq, ↓cnd_true, ↓cnd_false]
        · simp only [c22, rc, hd, eK, oK, c1, hl, Bool.false_eq_true, rwA, rwB, Nat.reduceAdd, Nat.reduceMul, Nat.reduceLeDiff, Int.reduceEq, Int.reduceLT, Int.reduceLE, Int.reduceAdd, Int.reduceSub, Int.reduceMul, ↓reduceIte, Nat.reduceEqDiff, reduceCtorEq, ↓cnd_true, ↓cnd_false]
  · rcases sl_shape' h.ss with rfl | ⟨_, _, _, _, _, rfl⟩ <;> rcases sl_shape' h.sw with rfl | ⟨_, _, _, _, _, rfl⟩ <;> simp only [c22, rc, hd, eK, oK, rwA, rwB, Nat.reduceAdd, Nat.reduceMul, Nat.reduceLeDiff, Int.reduceEq, Int.reduceLT, Int.reduceLE, Int.reduceAdd, Int.reduceSub, Int.reduceMul, ↓reduceIte, Nat.reduceEqDiff, reduceCtorEq, ↓cnd_true, ↓cnd_false]

def b69 : ACode := (.seq (.seq (.region [⟨(some 11), (.mv (.tmp 6)), none, none⟩, ⟨(some 12), (.mv (.tmp 1)), none, none⟩, ⟨(some 13), (.len false (.tmp 12)), none, none⟩, ⟨(some 14), (.bin .lss (.tmp 11) (.tmp 13)), none, none⟩]) (.cond (.tmp 14) .skip (.exit 0))) (.seq (.block 1 (.draw [⟨(some 17), (.mv (.tmp 5)), none, none⟩, ⟨(some 18), (.mv (.tmp 1)), none, none⟩, ⟨(some 19), (.mv (.tmp 6)), none, none⟩, ⟨(some 20), (.idxASl 2 (.tmp 18) (.tmp 19)), none, none⟩, ⟨(some 21), (.fieldA 0 (.tmp 20)), none, none⟩, ⟨(some 22), (.load false 1 (.tmp 21)), none, none⟩, ⟨(some 23), (.mv (.tmp 1)), none, none⟩, ⟨(some 24), (.mv (.tmp 6)), none, none⟩, ⟨(some 25), (.idxASl 2 (.tmp 23) (.tmp 24)), none, none⟩, ⟨(some 26), (.fieldA 1 (.tmp 25)), none, none⟩, ⟨(some 27), (.load false 1 (.tmp 26)), none, none⟩, ⟨(some 28), (.idxASl 1 (.tmp 17) (.tmp 22)), none, none⟩, ⟨none, (.store 1 (.tmp 28) (.tmp 27)), none, none⟩])) (.region [⟨(some 15), (.mv (.tmp 6)), none, none⟩, ⟨(some 16), (.bin .add (.tmp 15) (.con (.int .i64 1))), none, none⟩, ⟨(some 6), (.mv (.tmp 16)), none, none⟩])))
theorem loop69 {H : AHeap} {b : Nat} {lv : AVal} {s0 : List (List UInt8)} {l : List (Nat × List UInt8)} (hl : Sl H 2 lv (l.flatMap wc)) (hid : ∀ i, i ∈ lv.ids → i < H.next ∧ i ≠ b) (hn : l.length < 1000000) (hat : ∀ x, x ∈ l → x.1 < s0.length) (hb : H.obj b = some (.cells (s0.map .str) true)) (hbn : b < H.next) {env : Env}
    (h1 : env 1 = lv) (h5 : env 5 = .slice b 0 s0.length s0.length (some 1)) (h6 : env 6 = .int .i64 0) :
    Outs (AX A (.loop b69) env H) fun e env' K => e = .exit 0 ∧ env' 2 = env 2 ∧ env' 4 = env 4 ∧ env' 5 = .slice b 0 s0.length s0.length (some 1) ∧ Fr [b] H K ∧ K.obj b = some (.cells ((puts s0 l).map .str) true) := by
  refine loop_ends (I := fun (j : Nat) env' K => j ≤ l.length ∧ env' 1 = lv ∧ env' 2 = env 2 ∧ env' 4 = env 4 ∧ env' 5 = .slice b 0 s0.length s0.length (some 1) ∧ env' 6 = .int .i64 (j : Int) ∧ Fr [b] H K ∧ K.obj b = some (.cells ((puts s0 (l.take j)).map .str) true)) (fun j => l.length - j) ?_ 0 env H ⟨Nat.zero_le _, h1, rfl, rfl, h5, h6, Fr.refl _ _, hb⟩
  rintro j env1 K ⟨hj, h1, h2, h4, h5, h6, hF, hb⟩
  have hlK := hl.fr hF (fun i hi => ⟨(hid i hi).1, by simp [(hid i hi).2]⟩)
  have ll := hlK.alen
  rw [slen_fm wc_len (by decide) hlK] at ll
  by_cases c : j < l.length
  · have c1 : decide ((j : Int) < (l.length : Int)) = true := by simp; omega
    have w1 : IntKind.i64.wrap ((j : Int) + 1) = ((j + 1 : Nat) : Int) := by rw [wrap_i64]; omega
    obtain ⟨id, off, cp, g, k, own, rfl, hi, _, _, hc⟩ := hlK.elem wc_len (by decide) c
    have ha : aidx l.length (.int .i64 (j : Int)) = some j := by simp [aidx]; omega
    have p0 := hc 0 (by decide)
    have p1 := hc 1 (by decide)
    have et : l.take (j + 1) = l.take j ++ [l[j]] := by rw [List.take_add_one, List.getElem?_eq_getElem c, Option.toList_some]
    have hx := hat l[j] (List.getElem_mem c)
    obtain ⟨x, ex⟩ : ∃ x, l[j] = x := ⟨_, rfl⟩
    rw [ex] at p0 p1 et hx
    have p0 : k[off + j * 2]? = some (.int .i64 (x.1 : Int)) := p0
    have p1 : k[off + (j * 2 + 1)]? = some (.str x.2) := p1
    have ha2 : aidx s0.length (.int .i64 (x.1 : Int)) = some x.1 := by simp [aidx]; omega
    have st : storeX K 1 b x.1 [.str x.2] false (some (.cells ((puts s0 (l.take j)).map .str) true)) = some (K.set b (.cells (((puts s0 (l.take j)).set x.1 x.2).map .str) true)) := by
      rw [store_one _ _ _ _ _ (by rw [List.length_map, puts_len]; exact hx), List.map_set]
    simp only [b69, h1, h5, h6, ll, c1, ha, hi, p0, p1, ha2, hb, st, w1, rwA, rwB, Nat.reduceAdd, Nat.reduceMul, Nat.reduceLeDiff, Int.reduceEq, Int.reduceLT, Int.reduceLE, Int.reduceAdd, Int.reduceSub, Int.reduceMul, ↓reduceIte, Nat.reduceEqDiff, reduceCtorEq, ↓cnd_true, ↓cnd_false]
    rw [outs_some]
    refine .inl ⟨rfl, j + 1, by omega, by omega, by simp [Env.set, h1], by simp [Env.set, h2], by simp [Env.set, h4], by simp [Env.set, h5], by simp [Env.set], Fr.set (.inl (by simp)) hF, ?_⟩
    rw [et, puts_app, set_obj, if_pos rfl]; rfl
  · have e : j = l.length := by omega
    subst e
    have c1 : decide ((l.length : Int) < (l.length : Int)) = false := by simp
    simp only [b69, h1, h5, h6, ll, c1, rwA, rwB, Nat.reduceAdd, Nat.reduceMul, Nat.reduceLeDiff, Int.reduceEq, Int.reduceLT, Int.reduceLE, Int.reduceAdd, Int.reduceSub, Int.reduceMul, ↓reduceIte, Nat.reduceEqDiff, reduceCtorEq, ↓cnd_true, ↓cnd_false]
    rw [outs_some]
    rw [List.take_length] at hb
    exact .inr ⟨by simp, rfl, by simp [Env.set, h2], by simp [Env.set, h4], by simp [Env.set, h5], hF, hb⟩

theorem U69 {H : AHeap} {vs vw lv : AVal} {d : DS} {l : List (Nat × List UInt8)} (h : R H vs vw d) (hl : Sl H 2 lv (l.flatMap wc)) (hid : ∀ i, i ∈ lv.ids → i < H.next) (hn : l.length < 1000000) (n1 : 1 ≤ d.s.length) (n2 : d.s.length ≤ 4865) (hat : ∀ x, x ∈ l → x.1 < d.s.length) :
    AC A 69 [.agg (rc vs vw d), lv] H = some (.agg (rc (.slice H.next 0 d.s.length d.s.length (some 1)) .nils d), H.new (.cells ((puts d.s l).map .str) true)) := by
  refine look_new (x := DnFns.c69) rfl rfl rfl ?_
  have hf := h.frz
  obtain ⟨q, eq⟩ : ∃ q, (frz H).next = q := ⟨_, rfl⟩
  have eq' : H.next = q := eq
  obtain ⟨K, eK⟩ : ∃ K, (((frz H).new (.cells (rc vs vw d) true)).new (.cells [.nils, .nils, .int .i64 0, .bool false, .int .i64 0] true)).new (.cells [] true) = K := ⟨_, rfl⟩
  have kK : Keeps (frz H) K := by rw [← eK]; exact Keeps.new' (Keeps.new' (Keeps.new' (Keeps.refl _)))
  have nK : K.next = q + 3 := by rw [← eK]; simp [new_next, eq]
  have hK := hf.keeps kK
  have o0 : K.obj q = some (.cells (rc vs vw d) true) := by rw [← eK]; simp only [new_obj, new_next, eq]; rw [if_neg (by omega), if_neg (by omega), if_pos trivial]
  have o1 : K.obj (q + 1) = some (.cells [.nils, .nils, .int .i64 0, .bool false, .int .i64 0] true) := by rw [← eK]; simp only [new_obj, new_next, eq]; rw [if_neg (by omega), if_pos trivial]
  have hs := slen1 hK.ss
  have ap := app_all (by' := 16) (id := q + 2) (by decide) hK.ss (by rw [hs]; omega) (by rw [hs]; omega)
  rw [hs, nK] at ap
  obtain ⟨K1, eK1⟩ : ∃ K1, K.new (.cells (d.s.map .str) true) = K1 := ⟨_, rfl⟩
  have kK1 : Keeps K K1 := by rw [← eK1]; exact Keeps.new _ _
  have nK1 : K1.next = q + 4 := by rw [← eK1, new_next, nK]
  have ob : K1.obj (q + 3) = some (.cells (d.s.map .str) true) := by rw [← eK1, new_obj, if_pos nK.symm]
  rw [eK1] at ap
  have hl1 := (hl.frz.keep hid kK).keep (fun i hi => by have := hid i hi; omega) kK1
  unfold rc at eK
  rcases sl_shape' h.ss with e1 | ⟨_, _, _, _, _, e1⟩ <;> rcases sl_shape' h.sw with e2 | ⟨_, _, _, _, _, e2⟩ <;> subst e1 e2
  all_goals
    unfold rc at o0
    simp only [c69, rc, eq, eK, o0, ap, rwA, rwB, Nat.reduceAdd, Nat.reduceMul, Nat.reduceLeDiff, Int.reduceEq, Int.reduceLT, Int.reduceLE, Int.reduceAdd, Int.reduceSub, Int.reduceMul, ↓reduceIte, Nat.reduceEqDiff, reduceCtorEq, ↓cnd_true, ↓cnd_false]
    repeat (first | refine outs_seq ?_ | refine outs_block ?_ | refine outs_step ?_ | refine outs_stepD ?_ | refine rets_end ?_ | refine ans_end ?_)
    refine (loop69 (b := q + 3) (s0 := d.s) hl1 (fun i hi => ⟨by have := hid i hi; omega, by have := hid i hi; omega⟩) hn hat ob (by omega) ?_ ?_ ?_).mono ?_
    · simp [Env.set, ainit]
    · simp [Env.set]
    · simp [Env.set]
    rintro e env K2 ⟨rfl, h2, h4, h5, hF, ho⟩
    have h2 : env 2 = .ptr q 0 := by rw [h2]; simp [Env.set]
    have h4 : env 4 = .ptr (q + 1) 0 := by rw [h4]; simp [Env.set]
    have p0 := (hF.2 q (by omega) (by simp)).trans ((kK1.2 q (by omega)).trans o0)
    have p1 : K2.obj (q + 1) = some (.cells [.nils, .nils, .int .i64 0, .bool false, .int .i64 0] true) := by rw [hF.2 _ (by omega) (by simp), kK1.2 _ (by omega)]; exact o1
    have n1 : (q + 1 = q) = False := by simp
    have n2 : (q = q + 1) = False := by simp
    have n3 : (q + 3 = q) = False := by simp
    have n4 : (q + 3 = q + 1) = False := by simp
    simp only [outs_some, h2, h4, h5, p0, p1, n1, n2, rwA, rwB, Nat.reduceAdd, Nat.reduceMul, Nat.reduceLeDiff, Int.reduceEq, Int.reduceLT, Int.reduceLE, Int.reduceAdd, Int.reduceSub, Int.reduceMul, ↓reduceIte, Nat.reduceEqDiff, reduceCtorEq, ↓cnd_true, ↓cnd_false]
    rw [rets_some]
    exact ⟨q + 3, by simp [AVal.ids, idsl, nub, eq'], by simp only [set_obj, n1, n2, n3, n4, if_false]; exact ho, oldl_str _ _, by simp [AVal.ren, renl, sig, eq']⟩

end Go.Proofs.Ytilhjcnkaelheaa.Dk
