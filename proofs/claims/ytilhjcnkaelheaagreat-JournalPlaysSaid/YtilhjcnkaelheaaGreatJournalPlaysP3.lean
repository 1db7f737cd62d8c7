/- Texts put together by program: YtilhjcnkaelheaaGreatDl, YtilhjcnkaelheaaGreatDm, YtilhjcnkaelheaaGreatDp, YtilhjcnkaelheaaGreatKa, YtilhjcnkaelheaaGreatKb, YtilhjcnkaelheaaGreatKc, YtilhjcnkaelheaaGreatKd, YtilhjcnkaelheaaGreatKe, YtilhjcnkaelheaaGreatKf, YtilhjcnkaelheaaGreatKg, YtilhjcnkaelheaaGreatKh, YtilhjcnkaelheaaGreatKi, YtilhjcnkaelheaaGreatKj, YtilhjcnkaelheaaGreatKk, YtilhjcnkaelheaaGreatKl, YtilhjcnkaelheaaGreatKm, YtilhjcnkaelheaaGreatKn, YtilhjcnkaelheaaGreatKo, YtilhjcnkaelheaaGreatKp. -/
import Derived.Test.YtilhjcnkaelheaaGreatJournalPlaysP2
section
/- The reference's disks. -/
set_option maxRecDepth 100000
set_option linter.unusedSimpArgs false
set_option linter.unusedVariables false
set_option maxHeartbeats 4000000
namespace Go.Proofs.YtilhjcnkaelheaaGreat.Dk
open Go Go.Proofs.YtilhjcnkaelheaaGreat.Am DnFns Go.RowKit
open Sd (Sec noughts home homeno ofHome ofNo opened unfit pad)

structure R (H : AHeap) (vs vw : AVal) (d : DS) : Prop where
  ss : Sl H 1 vs (d.s.map .str)
  sw : Sl H 2 vw (d.w.flatMap wc)
  si : ∀ i, i ∈ vs.ids → i < H.next
  wi : ∀ i, i ∈ vw.ids → i < H.next
def rc (vs vw : AVal) (d : DS) : List AVal := [vs, vw, .int .i64 d.arm, .bool d.dead, .int .i64 d.ops]
theorem R.frz {H : AHeap} {vs vw : AVal} {d : DS} (h : R H vs vw d) : R (frz H) vs vw d := ⟨h.ss.frz, h.sw.frz, h.si, h.wi⟩
theorem R.fr {L : List Nat} {H K : AHeap} {vs vw : AVal} {d : DS} (h : R H vs vw d) (f : Fr L H K) (hs : ∀ i, i ∈ vs.ids → i ∉ L) (hw : ∀ i, i ∈ vw.ids → i ∉ L) : R K vs vw d :=
  ⟨h.ss.fr f fun i hi => ⟨h.si i hi, hs i hi⟩, h.sw.fr f fun i hi => ⟨h.wi i hi, hw i hi⟩, fun i hi => Nat.lt_of_lt_of_le (h.si i hi) f.1, fun i hi => Nat.lt_of_lt_of_le (h.wi i hi) f.1⟩
theorem R.keeps {H K : AHeap} {vs vw : AVal} {d : DS} (h : R H vs vw d) (f : Keeps H K) : R K vs vw d := h.fr (L := []) (Fr.of f) (by simp) (by simp)
theorem R.slen {H : AHeap} {vs vw : AVal} {d : DS} (h : R H vs vw d) : alenT false vs = some d.s.length := by rw [h.ss.alen, slen1 h.ss]
theorem R.wlen {H : AHeap} {vs vw : AVal} {d : DS} (h : R H vs vw d) : alenT false vw = some d.w.length := by rw [h.sw.alen, slen_fm wc_len (by decide) h.sw]
theorem R.old {H : AHeap} {vs vw : AVal} {d e : DS} (h : R H vs vw d) : (AVal.agg (rc vs vw e)).old H.next = true := by
  have h1 := old_sl h.ss h.si
  have h2 := old_sl h.sw h.wi
  simp [AVal.old, oldl, rc, h1, h2]
theorem R.oldl {H : AHeap} {vs vw : AVal} {d e : DS} (h : R H vs vw d) : oldl H.next (rc vs vw e) = true := by
  have h1 := old_sl h.ss h.si
  have h2 := old_sl h.sw h.wi
  simp [AVal.old, Go.Proofs.YtilhjcnkaelheaaGreat.Am.oldl, rc, h1, h2]
theorem R.like {H : AHeap} {vs vw : AVal} {d e : DS} (h : R H vs vw d) (h1 : e.s = d.s) (h2 : e.w = d.w) : R H vs vw e := ⟨by rw [h1]; exact h.ss, by rw [h2]; exact h.sw, h.si, h.wi⟩

theorem low_sub {x : Int} (h : 0 ≤ x) : low (x - 1) = if 0 < x then x - 1 else x := by unfold low; split <;> split <;> omega

theorem U39 {H : AHeap} {vs vw : AVal} {d : DS} (h : R H vs vw d) (a0 : 0 ≤ d.arm) (a1 : d.arm ≤ 9223372036854775807) :
    AC A 39 [.agg (rc vs vw d)] H = some (.tuple [.agg (rc vs vw d.step), .bool d.goes], H) := by
  refine look_val (x := DnFns.c39) rfl rfl rfl ?_ ?_
  · have := h.oldl (e := d.step)
    simp [AVal.old, oldl, this]
  have w1 : IntKind.i64.wrap (d.arm - 1) = d.arm - 1 := by rw [wrap_i64]; omega
  rcases sl_shape' h.ss with rfl | ⟨_, _, _, _, _, rfl⟩ <;> rcases sl_shape' h.sw with rfl | ⟨_, _, _, _, _, rfl⟩
  all_goals
    cases hg : d.goes
    · rw [step_f hg]
      rcases goes_f hg with e | ⟨e, e'⟩
      · simp only [c39, rc, e, AHeap.set_set, rwA, rwB, Nat.reduceAdd, Nat.reduceMul, Nat.reduceLeDiff, Int.reduceEq, Int.reduceLT, Int.reduceLE, Int.reduceAdd, Int.reduceSub, Int.reduceMul, ↓reduceIte, Nat.reduceEqDiff, reduceCtorEq, ↓cnd_true, ↓cnd_false]
      · simp only [c39, rc, e, e', AHeap.set_set, rwA, rwB, Nat.reduceAdd, Nat.reduceMul, Nat.reduceLeDiff, Int.reduceEq, Int.reduceLT, Int.reduceLE, Int.reduceAdd, Int.reduceSub, Int.reduceMul, ↓reduceIte, Nat.reduceEqDiff, reduceCtorEq, ↓cnd_true, ↓cnd_false]
    · rw [step_t hg]
      obtain ⟨e, e'⟩ := goes_t hg
      cases c : decide (0 < d.arm)
      · have el : low (d.arm - 1) = d.arm := by rw [low_sub a0, if_neg (by simpa using c)]
        simp only [c39, rc, e, e', c, el, AHeap.set_set, rwA, rwB, Nat.reduceAdd, Nat.reduceMul, Nat.reduceLeDiff, Int.reduceEq, Int.reduceLT, Int.reduceLE, Int.reduceAdd, Int.reduceSub, Int.reduceMul, ↓reduceIte, Nat.reduceEqDiff, reduceCtorEq, ↓cnd_true, ↓cnd_false]
      · have el : low (d.arm - 1) = d.arm - 1 := by rw [low_sub a0, if_pos (by simpa using c)]
        simp only [c39, rc, e, e', c, el, w1, AHeap.set_set, rwA, rwB, Nat.reduceAdd, Nat.reduceMul, Nat.reduceLeDiff, Int.reduceEq, Int.reduceLT, Int.reduceLE, Int.reduceAdd, Int.reduceSub, Int.reduceMul, ↓reduceIte, Nat.reduceEqDiff, reduceCtorEq, ↓cnd_true, ↓cnd_false]

def fw (w : List (Nat × List UInt8)) (i : Int) (s : List UInt8) : Nat → List UInt8
  | 0 => s
  | k + 1 => if ((w.getD k (0, [])).1 : Int) = i then (w.getD k (0, [])).2 else fw w i s k
theorem fw_lw (w : List (Nat × List UInt8)) (i : Int) (s : List UInt8) : ∀ k, fw w i s k = (lw w i k).getD s
  | 0 => rfl
  | k + 1 => by
    simp only [fw, lw]
    split
    · rfl
    · exact fw_lw w i s k

def b47 : ACode := (.seq (.seq (.region [⟨(some 24), (.mv (.tmp 7)), none, none⟩, ⟨(some 25), (.fieldA 1 (.tmp 2)), none, none⟩, ⟨(some 26), (.load false 1 (.tmp 25)), none, none⟩, ⟨(some 27), (.len false (.tmp 26)), none, none⟩, ⟨(some 28), (.bin .lss (.tmp 24) (.tmp 27)), none, none⟩]) (.cond (.tmp 28) .skip (.exit 0))) (.seq (.block 1 (.seq (.region [⟨(some 31), (.fieldA 1 (.tmp 2)), none, none⟩, ⟨(some 32), (.load false 1 (.tmp 31)), none, none⟩, ⟨(some 33), (.mv (.tmp 7)), none, none⟩, ⟨(some 34), (.idxASl 2 (.tmp 32) (.tmp 33)), none, none⟩, ⟨(some 35), (.fieldA 0 (.tmp 34)), none, none⟩, ⟨(some 36), (.load false 1 (.tmp 35)), none, none⟩, ⟨(some 37), (.mv (.tmp 1)), none, none⟩, ⟨(some 38), (.bin .eql (.tmp 36) (.tmp 37)), none, none⟩]) (.cond (.tmp 38) (.region [⟨(some 39), (.fieldA 1 (.tmp 2)), none, none⟩, ⟨(some 40), (.load false 1 (.tmp 39)), none, none⟩, ⟨(some 41), (.mv (.tmp 7)), none, none⟩, ⟨(some 42), (.idxASl 2 (.tmp 40) (.tmp 41)), none, none⟩, ⟨(some 43), (.fieldA 1 (.tmp 42)), none, none⟩, ⟨(some 44), (.load false 1 (.tmp 43)), none, none⟩, ⟨(some 6), (.mv (.tmp 44)), none, none⟩]) .skip))) (.region [⟨(some 29), (.mv (.tmp 7)), none, none⟩, ⟨(some 30), (.bin .add (.tmp 29) (.con (.int .i64 1))), none, none⟩, ⟨(some 7), (.mv (.tmp 30)), none, none⟩])))
theorem loop47 {H : AHeap} {q : Nat} {vs vw : AVal} {d : DS} (h : R H vs vw d) {o : Bool} (ho : H.obj q = some (.cells (rc vs vw d) o)) (hw : d.w.length < 1000000) {i : Int} {s : List UInt8} {env : Env}
    (h1 : env 1 = .int .i64 i) (h2 : env 2 = .ptr q 0) (h6 : env 6 = .str s) (h7 : env 7 = .int .i64 0) :
    Outs (AX A (.loop b47) env H) fun e env' K => e = .exit 0 ∧ env' 6 = .str (fw d.w i s d.w.length) := by
  refine loop_ends (I := fun (j : Nat) env' K => K = H ∧ j ≤ d.w.length ∧ env' 1 = .int .i64 i ∧ env' 2 = .ptr q 0 ∧ env' 6 = .str (fw d.w i s j) ∧ env' 7 = .int .i64 (j : Int)) (fun j => d.w.length - j) ?_ 0 env H ⟨rfl, Nat.zero_le _, h1, h2, h6, h7⟩
  rintro j env _ ⟨rfl, hj, h1, h2, h6, h7⟩
  have hl := h.wlen
  unfold rc at ho
  by_cases c : j < d.w.length
  · have c1 : decide ((j : Int) < (d.w.length : Int)) = true := by simp; omega
    have w1 : IntKind.i64.wrap ((j : Int) + 1) = ((j + 1 : Nat) : Int) := by rw [wrap_i64]; omega
    obtain ⟨id, off, cp, g, k, own, rfl, hi, _, _, hc⟩ := h.sw.elem wc_len (by decide) c
    have ha : aidx d.w.length (.int .i64 (j : Int)) = some j := by simp [aidx]; omega
    have p0 := hc 0 (by decide)
    have p1 := hc 1 (by decide)
    have eg : d.w.getD j (0, []) = d.w[j] := by simp [c]
    obtain ⟨x, ex⟩ : ∃ x, d.w[j] = x := ⟨_, rfl⟩
    rw [ex] at p0 p1 eg
    have p0 : k[off + j * 2]? = some (.int .i64 (x.1 : Int)) := p0
    have p1 : k[off + (j * 2 + 1)]? = some (.str x.2) := p1
    have hf : fw d.w i s (j + 1) = if (x.1 : Int) = i then x.2 else fw d.w i s j := by simp only [fw, eg]
    cases c2 : decide ((x.1 : Int) = i)
    · rw [if_neg (by simpa using c2)] at hf
      simp only [b47, h1, h2, h6, h7, ho, hl, c1, c2, ha, hi, p0, p1, w1, rwA, rwB, Nat.reduceAdd, Nat.reduceMul, Nat.reduceLeDiff, Int.reduceEq, Int.reduceLT, Int.reduceLE, Int.reduceAdd, Int.reduceSub, Int.reduceMul, ↓reduceIte, Nat.reduceEqDiff, reduceCtorEq, ↓cnd_true, ↓cnd_false]
      rw [outs_some]
      exact .inl ⟨rfl, j + 1, by omega, rfl, by omega, by simp [Env.set, h1], by simp [Env.set, h2], by simp [Env.set, h6, hf], by simp [Env.set]⟩
    · rw [if_pos (by simpa using c2)] at hf
      simp only [b47, h1, h2, h6, h7, ho, hl, c1, c2, ha, hi, p0, p1, w1, rwA, rwB, Nat.reduceAdd, Nat.reduceMul, Nat.reduceLeDiff, Int.reduceEq, Int.reduceLT, Int.reduceLE, Int.reduceAdd, Int.reduceSub, Int.reduceMul, ↓reduceIte, Nat.reduceEqDiff, reduceCtorEq, ↓cnd_true, ↓cnd_false]
      rw [outs_some]
      exact .inl ⟨rfl, j + 1, by omega, rfl, by omega, by simp [Env.set, h1], by simp [Env.set, h2], by simp [Env.set, hf], by simp [Env.set]⟩
  · have e : j = d.w.length := by omega
    subst e
    have c1 : decide ((d.w.length : Int) < (d.w.length : Int)) = false := by simp
    simp only [b47, h1, h2, h6, h7, ho, hl, c1, rwA, rwB, Nat.reduceAdd, Nat.reduceMul, Nat.reduceLeDiff, Int.reduceEq, Int.reduceLT, Int.reduceLE, Int.reduceAdd, Int.reduceSub, Int.reduceMul, ↓reduceIte, Nat.reduceEqDiff, reduceCtorEq, ↓cnd_true, ↓cnd_false]
    rw [outs_some]
    exact .inr ⟨by simp, rfl, by simp [Env.set, h6]⟩

theorem U47 {H : AHeap} {vs vw : AVal} {d : DS} (h : R H vs vw d) (hw : d.w.length < 1000000) (i : Int) :
    AC A 47 [.agg (rc vs vw d), .int .i64 i] H = some (.tuple [.str (d.read i).1, .int .i64 (d.read i).2], H) := by
  refine look_val (x := DnFns.c47) rfl rfl rfl rfl ?_
  have hf := h.frz
  obtain ⟨K, eK⟩ : ∃ K, (frz H).new (.cells (rc vs vw d) true) = K := ⟨_, rfl⟩
  have kK : Keeps (frz H) K := by rw [← eK]; exact Keeps.new _ _
  have hK := hf.keeps kK
  have oK : K.obj (frz H).next = some (.cells (rc vs vw d) true) := by rw [← eK, new_obj, if_pos rfl]
  have hl := hK.slen
  unfold DS.read
  unfold rc at oK eK
  cases hd : d.dead <;> rw [hd] at oK eK
  · by_cases c : 0 ≤ i ∧ i < (d.s.length : Int)
    · have c1 : decide (i < 0) = false := by simp; omega
      have c2 : decide ((d.s.length : Int) ≤ i) = false := by simp; omega
      obtain ⟨m, rfl⟩ : ∃ m : Nat, i = (m : Int) := ⟨i.toNat, by omega⟩
      obtain ⟨id, off, cp, g, k, own, rfl, hi, _, hc⟩ := hK.ss.elem1 (i := m) (by omega)
      have ha : aidx d.s.length (.int .i64 (m : Int)) = some m := by simp [aidx]; omega
      have eg : d.s.getD ((m : Int).toNat) [] = d.s[m]'(by omega) := by simp [show m < d.s.length by omega]
      rw [if_pos c, ← fw_lw, eg]
      rcases sl_shape' h.sw with rfl | ⟨_, _, _, _, _, rfl⟩
      all_goals
        simp only [c47, rc, hd, eK, oK, c1, c2, hl, ha, hi, hc, rwA, rwB, Nat.reduceAdd, Nat.reduceMul, Nat.reduceLeDiff, Int.reduceEq, Int.reduceLT, Int.reduceLE, Int.reduceAdd, Int.reduceSub, Int.reduceMul, ↓reduceIte, Nat.reduceEqDiff, reduceCtorEq, ↓cnd_true, ↓cnd_false]
        repeat (first | refine outs_seq ?_ | refine outs_block ?_ | refine outs_step ?_ | refine outs_stepD ?_ | refine rets_end ?_ | refine ans_end ?_)
        refine (loop47 (q := (frz H).next) (o := true) hK (by rw [oK, rc, hd]) hw (i := (m : Int)) (s := d.s[m]'(by omega)) ?_ ?_ ?_ ?_).mono ?_
        · simp [Env.set, ainit]
        · simp [Env.set]
        · simp [Env.set]
        · simp [Env.set]
        rintro e env K' ⟨rfl, h6⟩
        simp only [outs_some, h6, Bool.false_eq_true, if_false, rwA, rwB, Nat.reduceAdd, Nat.reduceMul, Nat.reduceLeDiff, Int.reduceEq, Int.reduceLT, Int.reduceLE, Int.reduceAdd, Int.reduceSub, Int.reduceMul, ↓reduceIte, Nat.reduceEqDiff, reduceCtorEq, ↓cnd_true, ↓cnd_false]
    · rw [if_neg c]
      rcases sl_shape' h.ss with rfl | ⟨_, _, _, _, _, rfl⟩ <;> rcases sl_shape' h.sw with rfl | ⟨_, _, _, _, _, rfl⟩
      all_goals
        cases c1 : decide (i < 0)
        · have c2 : decide ((d.s.length : Int) ≤ i) = true := by simp at c1; simp; omega
          simp only [c47, rc, hd, eK, oK, c1, c2, hl, Bool.false_eq_true, rwA, rwB, Nat.reduceAdd, Nat.reduceMul, Nat.reduceLeDiff, Int.reduceEq, Int.reduceLT, Int.reduceLE, Int.reduceAdd, Int.reduceSub, Int.reduceMul, ↓reduceIte, Nat.reduceEqDiff, reduceCtorEq, ↓cnd_true, ↓cnd_false]
        · simp only [c47, rc, hd, eK, oK, c1, hl, Bool.false_eq_true, rwA, rwB, Nat.reduceAdd, Nat.reduceMul, Nat.reduceLeDiff, Int.reduceEq, Int.reduceLT, Int.reduceLE, Int.reduceAdd, Int.reduceSub, Int.reduceMul, ↓reduceIte, Nat.reduceEqDiff, reduceCtorEq, ↓cnd_true, ↓cnd_false]
  · rcases sl_shape' h.ss with rfl | ⟨_, _, _, _, _, rfl⟩ <;> rcases sl_shape' h.sw with rfl | ⟨_, _, _, _, _, rfl⟩ <;> simp only [c47, rc, hd, eK, oK, rwA, rwB, Nat.reduceAdd, Nat.reduceMul, Nat.reduceLeDiff, Int.reduceEq, Int.reduceLT, Int.reduceLE, Int.reduceAdd, Int.reduceSub, Int.reduceMul, ↓reduceIte, Nat.reduceEqDiff, reduceCtorEq, ↓cnd_true, ↓cnd_false]

def b40 : ACode := (.seq (.seq (.region [⟨(some 11), (.mv (.tmp 6)), none, none⟩, ⟨(some 12), (.mv (.tmp 1)), none, none⟩, ⟨(some 13), (.len false (.tmp 12)), none, none⟩, ⟨(some 14), (.bin .lss (.tmp 11) (.tmp 13)), none, none⟩]) (.cond (.tmp 14) .skip (.exit 0))) (.seq (.block 1 (.draw [⟨(some 17), (.mv (.tmp 5)), none, none⟩, ⟨(some 18), (.mv (.tmp 1)), none, none⟩, ⟨(some 19), (.mv (.tmp 6)), none, none⟩, ⟨(some 20), (.idxASl 2 (.tmp 18) (.tmp 19)), none, none⟩, ⟨(some 21), (.fieldA 0 (.tmp 20)), none, none⟩, ⟨(some 22), (.load false 1 (.tmp 21)), none, none⟩, ⟨(some 23), (.mv (.tmp 1)), none, none⟩, ⟨(some 24), (.mv (.tmp 6)), none, none⟩, ⟨(some 25), (.idxASl 2 (.tmp 23) (.tmp 24)), none, none⟩, ⟨(some 26), (.fieldA 1 (.tmp 25)), none, none⟩, ⟨(some 27), (.load false 1 (.tmp 26)), none, none⟩, ⟨(some 28), (.idxASl 1 (.tmp 17) (.tmp 22)), none, none⟩, ⟨none, (.store 1 (.tmp 28) (.tmp 27)), none, none⟩])) (.region [⟨(some 15), (.mv (.tmp 6)), none, none⟩, ⟨(some 16), (.bin .add (.tmp 15) (.con (.int .i64 1))), none, none⟩, ⟨(some 6), (.mv (.tmp 16)), none, none⟩])))
theorem loop40 {H : AHeap} {b : Nat} {lv : AVal} {s0 : List (List UInt8)} {l : List (Nat × List UInt8)} (hl : Sl H 2 lv (l.flatMap wc)) (hid : ∀ i, i ∈ lv.ids → i < H.next ∧ i ≠ b) (hn : l.length < 1000000) (hat : ∀ x, x ∈ l → x.1 < s0.length) (hb : H.obj b = some (.cells (s0.map .str) true)) (hbn : b < H.next) {env : Env}
    (h1 : env 1 = lv) (h5 : env 5 = .slice b 0 s0.length s0.length (some 1)) (h6 : env 6 = .int .i64 0) :
    Outs (AX A (.loop b40) env H) fun e env' K => e = .exit 0 ∧ env' 2 = env 2 ∧ env' 4 = env 4 ∧ env' 5 = .slice b 0 s0.length s0.length (some 1) ∧ Fr [b] H K ∧ K.obj b = some (.cells ((puts s0 l).map .str) true) := by
  refine loop_ends (I := fun (j : Nat) env' K => j ≤ l.length ∧ env' 1 = lv ∧ env' 2 = env 2 ∧ env' 4 = env 4 ∧ env' 5 = .slice b 0 s0.length s0.length (some 1) ∧ env' 6 = .int .i64 (j : Int) ∧ Fr [b] H K ∧ K.obj b = some (.cells ((puts s0 (l.take j)).map .str) true)) (fun j => l.length - j) ?_ 0 env H ⟨Nat.zero_le _, h1, rfl, rfl, h5, h6, Fr.refl _ _, hb⟩
  rintro j env1 K ⟨hj, h1, h2, h4, h5, h6, hF, hb⟩
  have hlK := hl.fr hF (fun i hi => ⟨(hid i hi).1, by simp [(hid i hi).2]⟩)
  have ll := hlK.alen
  rw [slen_fm wc_len (by decide) hlK] at ll
  by_cases c : j < l.length
  · have c1 : decide ((j : Int) < (l.length : Int)) = true := by simp; omega
    have w1 : IntKind.i64.wrap ((j : Int) + 1) = ((j + 1 : Nat) : Int) := by rw [wrap_i64]; omega
    obtain ⟨id, off, cp, g, k, own, rfl, hi, _, _, hc⟩ := hlK.elem wc_len (by decide) c
    have ha : aidx l.length (.int .i64 (j : Int)) = some j := by simp [aidx]; omega
    have p0 := hc 0 (by decide)
    have p1 := hc 1 (by decide)
    have et : l.take (j + 1) = l.take j ++ [l[j]] := by rw [List.take_add_one, List.getElem?_eq_getElem c, Option.toList_some]
    have hx := hat l[j] (List.getElem_mem c)
    obtain ⟨x, ex⟩ : ∃ x, l[j] = x := ⟨_, rfl⟩
    rw [ex] at p0 p1 et hx
    have p0 : k[off + j * 2]? = some (.int .i64 (x.1 : Int)) := p0
    have p1 : k[off + (j * 2 + 1)]? = some (.str x.2) := p1
    have ha2 : aidx s0.length (.int .i64 (x.1 : Int)) = some x.1 := by simp [aidx]; omega
    have st : storeX K 1 b x.1 [.str x.2] false (some (.cells ((puts s0 (l.take j)).map .str) true)) = some (K.set b (.cells (((puts s0 (l.take j)).set x.1 x.2).map .str) true)) := by
      rw [store_one _ _ _ _ _ (by rw [List.length_map, puts_len]; exact hx), List.map_set]
    simp only [b40, h1, h5, h6, ll, c1, ha, hi, p0, p1, ha2, hb, st, w1, rwA, rwB, Nat.reduceAdd, Nat.reduceMul, Nat.reduceLeDiff, Int.reduceEq, Int.reduceLT, Int.reduceLE, Int.reduceAdd, Int.reduceSub, Int.reduceMul, ↓reduceIte, Nat.reduceEqDiff, reduceCtorEq, ↓cnd_true, ↓cnd_false]
    rw [outs_some]
    refine .inl ⟨rfl, j + 1, by omega, by omega, by simp [Env.set, h1], by simp [Env.set, h2], by simp [Env.set, h4], by simp [Env.set, h5], by simp [Env.set], Fr.set (.inl (by simp)) hF, ?_⟩
    rw [et, puts_app, set_obj, if_pos rfl]; rfl
  · have e : j = l.length := by omega
    subst e
    have c1 : decide ((l.length : Int) < (l.length : Int)) = false := by simp
    simp only [b40, h1, h5, h6, ll, c1, rwA, rwB, Nat.reduceAdd, Nat.reduceMul, Nat.reduceLeDiff, Int.reduceEq, Int.reduceLT, Int.reduceLE, Int.reduceAdd, Int.reduceSub, Int.reduceMul, ↓reduceIte, Nat.reduceEqDiff, reduceCtorEq, ↓cnd_true, ↓cnd_false]
    rw [outs_some]
    rw [List.take_length] at hb
    exact .inr ⟨by simp, rfl, by simp [Env.set, h2], by simp [Env.set, h4], by simp [Env.set, h5], hF, hb⟩

theorem U40 {H : AHeap} {vs vw lv : AVal} {d : DS} {l : List (Nat × List UInt8)} (h : R H vs vw d) (hl : Sl H 2 lv (l.flatMap wc)) (hid : ∀ i, i ∈ lv.ids → i < H.next) (hn : l.length < 1000000) (n1 : 1 ≤ d.s.length) (n2 : d.s.length ≤ 4865) (hat : ∀ x, x ∈ l → x.1 < d.s.length) :
    AC A 40 [.agg (rc vs vw d), lv] H = some (.agg (rc (.slice H.next 0 d.s.length d.s.length (some 1)) .nils d), H.new (.cells ((puts d.s l).map .str) true)) := by
  refine look_new (x := DnFns.c40) rfl rfl rfl ?_
  have hf := h.frz
  obtain ⟨q, eq⟩ : ∃ q, (frz H).next = q := ⟨_, rfl⟩
  have eq' : H.next = q := eq
  obtain ⟨K, eK⟩ : ∃ K, (((frz H).new (.cells (rc vs vw d) true)).new (.cells [.nils, .nils, .int .i64 0, .bool false, .int .i64 0] true)).new (.cells [] true) = K := ⟨_, rfl⟩
  have kK : Keeps (frz H) K := by rw [← eK]; exact Keeps.new' (Keeps.new' (Keeps.new' (Keeps.refl _)))
  have nK : K.next = q + 3 := by rw [← eK]; simp [new_next, eq]
  have hK := hf.keeps kK
  have o0 : K.obj q = some (.cells (rc vs vw d) true) := by rw [← eK]; simp only [new_obj, new_next, eq]; rw [if_neg (by omega), if_neg (by omega), if_pos trivial]
  have o1 : K.obj (q + 1) = some (.cells [.nils, .nils, .int .i64 0, .bool false, .int .i64 0] true) := by rw [← eK]; simp only [new_obj, new_next, eq]; rw [if_neg (by omega), if_pos trivial]
  have hs := slen1 hK.ss
  have ap := app_all (by' := 16) (id := q + 2) (by decide) hK.ss (by rw [hs]; omega) (by rw [hs]; omega)
  rw [hs, nK] at ap
  obtain ⟨K1, eK1⟩ : ∃ K1, K.new (.cells (d.s.map .str) true) = K1 := ⟨_, rfl⟩
  have kK1 : Keeps K K1 := by rw [← eK1]; exact Keeps.new _ _
  have nK1 : K1.next = q + 4 := by rw [← eK1, new_next, nK]
  have ob : K1.obj (q + 3) = some (.cells (d.s.map .str) true) := by rw [← eK1, new_obj, if_pos nK.symm]
  rw [eK1] at ap
  have hl1 := (hl.frz.keep hid kK).keep (fun i hi => by have := hid i hi; omega) kK1
  unfold rc at eK
  rcases sl_shape' h.ss with e1 | ⟨_, _, _, _, _, e1⟩ <;> rcases sl_shape' h.sw with e2 | ⟨_, _, _, _, _, e2⟩ <;> subst e1 e2
  all_goals
    unfold rc at o0
    simp only [c40, rc, eq, eK, o0, ap, rwA, rwB, Nat.reduceAdd, Nat.reduceMul, Nat.reduceLeDiff, Int.reduceEq, Int.reduceLT, Int.reduceLE, Int.reduceAdd, Int.reduceSub, Int.reduceMul, ↓reduceIte, Nat.reduceEqDiff, reduceCtorEq, ↓cnd_true, ↓cnd_false]
    repeat (first | refine outs_seq ?_ | refine outs_block ?_ | refine outs_step ?_ | refine outs_stepD ?_ | refine rets_end ?_ | refine ans_end ?_)
    refine (loop40 (b := q + 3) (s0 := d.s) hl1 (fun i hi => ⟨by have := hid i hi; omega, by have := hid i hi; omega⟩) hn hat ob (by omega) ?_ ?_ ?_).mono ?_
    · simp [Env.set, ainit]
    · simp [Env.set]
    · simp [Env.set]
    rintro e env K2 ⟨rfl, h2, h4, h5, hF, ho⟩
    have h2 : env 2 = .ptr q 0 := by rw [h2]; simp [Env.set]
    have h4 : env 4 = .ptr (q + 1) 0 := by rw [h4]; simp [Env.set]
    have p0 := (hF.2 q (by omega) (by simp)).trans ((kK1.2 q (by omega)).trans o0)
    have p1 : K2.obj (q + 1) = some (.cells [.nils, .nils, .int .i64 0, .bool false, .int .i64 0] true) := by rw [hF.2 _ (by omega) (by simp), kK1.2 _ (by omega)]; exact o1
    have n1 : (q + 1 = q) = False := by simp
    have n2 : (q = q + 1) = False := by simp
    have n3 : (q + 3 = q) = False := by simp
    have n4 : (q + 3 = q + 1) = False := by simp
    simp only [outs_some, h2, h4, h5, p0, p1, n1, n2, rwA, rwB, Nat.reduceAdd, Nat.reduceMul, Nat.reduceLeDiff, Int.reduceEq, Int.reduceLT, Int.reduceLE, Int.reduceAdd, Int.reduceSub, Int.reduceMul, ↓reduceIte, Nat.reduceEqDiff, reduceCtorEq, ↓cnd_true, ↓cnd_false]
    rw [rets_some]
    exact ⟨q + 3, by simp [AVal.ids, idsl, nub, eq'], by simp only [set_obj, n1, n2, n3, n4, if_false]; exact ho, oldl_str _ _, by simp [AVal.ren, renl, sig, eq']⟩

end Go.Proofs.YtilhjcnkaelheaaGreat.Dk
end

section
/- The reference's disks: written, flushed, up again, made; two lists that are one. -/
set_option maxRecDepth 100000
set_option linter.unusedSimpArgs false
set_option linter.unusedVariables false
set_option maxHeartbeats 4000000
namespace Go.Proofs.YtilhjcnkaelheaaGreat.Dk
open Go Go.Proofs.YtilhjcnkaelheaaGreat.Am DnFns Go.RowKit
open Sd (Sec noughts home homeno ofHome ofNo opened unfit pad)

theorem U18 {H : AHeap} {vs vw : AVal} {d : DS} (h : R H vs vw d) (a0 : 0 ≤ d.arm) (a1 : d.arm ≤ 9223372036854775807) (hw : d.w.length < 1000000) (i : Int) (s : List UInt8) :
    ∃ H' vw', AC A 18 [.agg (rc vs vw d), .int .i64 i, .str s] H = some (.tuple [.agg (rc vs vw' (d.write i s).1), .int .i64 (d.write i s).2], H') ∧ R H' vs vw' (d.write i s).1 ∧ Keeps H H' ∧ ∀ j, j ∈ vw'.ids → j ∈ vw.ids ∨ H.next ≤ j := by
  obtain ⟨q, eq⟩ : ∃ q, H.next = q := ⟨_, rfl⟩
  obtain ⟨K, eK⟩ : ∃ K, (H.new (.cells (rc vs vw d) true)).new (.cells [.nils, .nils, .int .i64 0, .bool false, .int .i64 0] true) = K := ⟨_, rfl⟩
  have kK : Keeps H K := by rw [← eK]; exact Keeps.new' (Keeps.new' (Keeps.refl _))
  have nK : K.next = q + 2 := by rw [← eK]; simp [new_next, eq]
  have hK := h.keeps kK
  have o0 : K.obj q = some (.cells (rc vs vw d) true) := by rw [← eK]; simp only [new_obj, new_next, eq]; rw [if_neg (by omega), if_pos trivial]
  have o1 : K.obj (q + 1) = some (.cells [.nils, .nils, .int .i64 0, .bool false, .int .i64 0] true) := by rw [← eK]; simp only [new_obj, new_next, eq]; rw [if_pos trivial]
  have n1 : (q + 1 = q) = False := by simp
  have n2 : (q = q + 1) = False := by simp
  have hl := hK.slen
  have shp1 := sl_shape' h.ss
  have shp2 := sl_shape' h.sw
  unfold DS.write
  by_cases c : (0 ≤ i ∧ i < (d.s.length : Int)) ∧ s.length = 512
  · have c1 : decide (i < 0) = false := by simp; omega
    have c2 : decide ((d.s.length : Int) ≤ i) = false := by simp; omega
    have c3 : decide ((s.length : Int) = 512) = true := by simp; omega
    rw [if_pos c]
    have u := U39 hK a0 a1
    cases hg : d.goes
    · rw [hg] at u
      have kf : Keeps H ((K.set q (.cells (rc vs vw d.step) true)).set (q + 1) (.cells (rc vs vw d.step) true)) := Keeps.set' (by omega) (Keeps.set' (by omega) kK)
      refine ⟨(K.set q (.cells (rc vs vw d.step) true)).set (q + 1) (.cells (rc vs vw d.step) true), vw, ?_, (h.keeps kf).like (step_s d) (step_w d), kf, fun j hj => .inl hj⟩
      rw [s_fn (A := A) (f := 18) (x := DnFns.c18) rfl rfl rfl]
      unfold rc at eK o0 u ⊢
      rcases shp1 with rfl | ⟨_, _, _, _, _, rfl⟩ <;> rcases shp2 with rfl | ⟨_, _, _, _, _, rfl⟩ <;>
        simp only [c18, eq, eK, o0, o1, hl, c1, c2, c3, u, n1, n2, Bool.false_eq_true, rwA, rwB, Nat.reduceAdd, Nat.reduceMul, Nat.reduceLeDiff, Int.reduceEq, Int.reduceLT, Int.reduceLE, Int.reduceAdd, Int.reduceSub, Int.reduceMul, ↓reduceIte, Nat.reduceEqDiff, reduceCtorEq, ↓cnd_true, ↓cnd_false]
    · rw [hg] at u
      obtain ⟨K3, eK3⟩ : ∃ K3, (K.set q (.cells (rc vs vw d.step) true)).new (.cells [] true) = K3 := ⟨_, rfl⟩
      have k3 : Keeps H K3 := by rw [← eK3]; exact Keeps.new' (Keeps.set' (by omega) kK)
      have n3 : K3.next = q + 3 := by rw [← eK3, new_next, set_next, nK]
      have g0 : Gr K3 2 (.slice (q + 2) 0 0 0 none) [] := by
        have := Gr.empty (K.set q (.cells (rc vs vw d.step) true)) 2
        rw [eK3, set_next, nK] at this; exact this
      have hw3 := h.sw.keep h.wi k3
      have sl3 := slen_fm wc_len (by decide) hw3
      obtain ⟨v1, K4, e4, g4, i4, f4, s4⟩ := g0.add (by' := 24) (by decide) hw3 (by rw [sl3]; simp only [slen]; omega)
      obtain ⟨v2, K5, e5, g5, i5, f5, s5, a2, ea2⟩ := g4.push (by' := 24) (by decide) (x := [.int .i64 i, .str s]) rfl (by rw [s4, sl3]; simp only [slen]; omega)
      have x4 := f4.1
      have x5 := f5.1
      have j4 : ∀ j, j ∈ v1.ids → q + 2 ≤ j := fun j hj => (i4 j hj).elim (fun h => by simp [AVal.ids] at h; omega) (fun h => by omega)
      have p0 : K3.obj q = some (.cells (rc vs vw d.step) true) := by rw [← eK3, new_obj, if_neg (by rw [set_next, nK]; omega), set_obj, if_pos rfl]
      have p1 : K3.obj (q + 1) = some (.cells [.nils, .nils, .int .i64 0, .bool false, .int .i64 0] true) := by rw [← eK3, new_obj, if_neg (by rw [set_next, nK]; omega), set_obj, if_neg (by omega)]; exact o1
      have q0 : K4.obj q = some (.cells (rc vs vw d.step) true) := by rw [f4.2 q (by omega) (by simp [AVal.ids])]; exact p0
      have q1 : K4.obj (q + 1) = some (.cells [.nils, .nils, .int .i64 0, .bool false, .int .i64 0] true) := by rw [f4.2 _ (by omega) (by simp [AVal.ids])]; exact p1
      have r0 : K5.obj q = some (.cells (rc vs vw d.step) true) := by rw [f5.2 q (by omega) (fun hx => by have := j4 _ hx; omega)]; exact q0
      have r1 : K5.obj (q + 1) = some (.cells [.nils, .nils, .int .i64 0, .bool false, .int .i64 0] true) := by rw [f5.2 _ (by omega) (fun hx => by have := j4 _ hx; omega)]; exact q1
      have k5 : Keeps H K5 := ⟨by omega, fun j hj => by rw [f5.2 j (by omega) (fun hx => by have := j4 _ hx; omega), f4.2 j (by omega) (by simp [AVal.ids]; omega), k3.2 j hj]⟩
      obtain ⟨d', ed'⟩ : ∃ d' : DS, { d.step with w := d.w ++ [(i.toNat, s)] } = d' := ⟨_, rfl⟩
      have kf : Keeps H ((K5.set q (.cells (rc vs v2 d') true)).set (q + 1) (.cells (rc vs v2 d') true)) := Keeps.set' (by omega) (Keeps.set' (by omega) k5)
      have ew : d'.w.flatMap wc = [] ++ d.w.flatMap wc ++ [.int .i64 i, .str s] := by
        rw [← ed', List.flatMap_append]
        simp [wc, Int.toNat_of_nonneg c.1.1]
      refine ⟨(K5.set q (.cells (rc vs v2 d') true)).set (q + 1) (.cells (rc vs v2 d') true), v2, ?_, ?_, kf, fun j hj => .inr (by have := i5 j hj; omega)⟩
      · rw [s_fn (A := A) (f := 18) (x := DnFns.c18) rfl rfl rfl]
        have ed1 : d'.arm = d.step.arm := by rw [← ed']
        have ed2 : d'.dead = d.step.dead := by rw [← ed']
        have ed3 : d'.ops = d.step.ops := by rw [← ed']
        have oq := (oldne (show q < K4.next by omega))
        have oq1 := (oldne (show q + 1 < K4.next by omega))
        simp only [if_true, ed']
        unfold rc at eK o0 u eK3 p0 q0 r0 ⊢
        rw [ea2] at e5 ⊢
        rw [ed1, ed2, ed3]
        rcases shp1 with rfl | ⟨_, _, _, _, _, rfl⟩ <;> rcases shp2 with rfl | ⟨_, _, _, _, _, rfl⟩ <;>
          simp only [c18, eq, nK, eK, eK3, o0, o1, p0, p1, q0, q1, r0, r1, hl, c1, c2, c3, u, e4, e5, n1, n2, oq, oq1, AHeap.set_set, rwA, rwB, Nat.reduceAdd, Nat.reduceMul, Nat.reduceLeDiff, Int.reduceEq, Int.reduceLT, Int.reduceLE, Int.reduceAdd, Int.reduceSub, Int.reduceMul, ↓reduceIte, Nat.reduceEqDiff, reduceCtorEq, ↓cnd_true, ↓cnd_false]
      · simp only [if_true, ed']
        refine ⟨?_, ?_, fun j hj => Nat.lt_of_lt_of_le (h.si j hj) kf.1, ?_⟩
        · have e : d'.s = d.s := by rw [← ed']; exact step_s d
          rw [e]; exact h.ss.keep h.si kf
        · rw [ew, Sl_set (fun hx => by have := i5 _ hx; omega), Sl_set (fun hx => by have := i5 _ hx; omega)]
          exact g5.sl
        · intro j hj
          rw [set_next, set_next]
          exact g5.lt j hj
  · rw [if_neg c]
    have kf : Keeps H (K.set (q + 1) (.cells (rc vs vw d) true)) := Keeps.set' (by omega) kK
    refine ⟨K.set (q + 1) (.cells (rc vs vw d) true), vw, ?_, h.keeps kf, kf, fun j hj => .inl hj⟩
    rw [s_fn (A := A) (f := 18) (x := DnFns.c18) rfl rfl rfl]
    unfold rc at eK o0 ⊢
    rcases shp1 with rfl | ⟨_, _, _, _, _, rfl⟩ <;> rcases shp2 with rfl | ⟨_, _, _, _, _, rfl⟩
    all_goals
      cases c1 : decide (i < 0)
      · cases c2 : decide ((d.s.length : Int) ≤ i)
        · have c3 : decide ((s.length : Int) = 512) = false := by simp at c1 c2; simp; omega
          simp only [c18, eq, eK, o0, o1, hl, c1, c2, c3, n1, n2, rwA, rwB, Nat.reduceAdd, Nat.reduceMul, Nat.reduceLeDiff, Int.reduceEq, Int.reduceLT, Int.reduceLE, Int.reduceAdd, Int.reduceSub, Int.reduceMul, ↓reduceIte, Nat.reduceEqDiff, reduceCtorEq, ↓cnd_true, ↓cnd_false]
        · simp only [c18, eq, eK, o0, o1, hl, c1, c2, n1, n2, rwA, rwB, Nat.reduceAdd, Nat.reduceMul, Nat.reduceLeDiff, Int.reduceEq, Int.reduceLT, Int.reduceLE, Int.reduceAdd, Int.reduceSub, Int.reduceMul, ↓reduceIte, Nat.reduceEqDiff, reduceCtorEq, ↓cnd_true, ↓cnd_false]
      · simp only [c18, eq, eK, o0, o1, hl, c1, n1, n2, rwA, rwB, Nat.reduceAdd, Nat.reduceMul, Nat.reduceLeDiff, Int.reduceEq, Int.reduceLT, Int.reduceLE, Int.reduceAdd, Int.reduceSub, Int.reduceMul, ↓reduceIte, Nat.reduceEqDiff, reduceCtorEq, ↓cnd_true, ↓cnd_false]

theorem U13 {H : AHeap} {vs vw : AVal} {d : DS} (h : R H vs vw d) (a0 : 0 ≤ d.arm) (a1 : d.arm ≤ 9223372036854775807) (hw : d.w.length < 1000000) (n1 : 1 ≤ d.s.length) (n2 : d.s.length ≤ 4865) (hat : ∀ x, x ∈ d.w → x.1 < d.s.length) :
    ∃ H' vs' vw', AC A 13 [.agg (rc vs vw d)] H = some (.tuple [.agg (rc vs' vw' d.flush.1), .int .i64 d.flush.2], H') ∧ R H' vs' vw' d.flush.1 ∧ Keeps H H' ∧ (∀ j, j ∈ vs'.ids → j ∈ vs.ids ∨ H.next ≤ j) ∧ ∀ j, j ∈ vw'.ids → j ∈ vw.ids := by
  obtain ⟨q, eq⟩ : ∃ q, H.next = q := ⟨_, rfl⟩
  obtain ⟨K, eK⟩ : ∃ K, (H.new (.cells (rc vs vw d) true)).new (.cells [.nils, .nils, .int .i64 0, .bool false, .int .i64 0] true) = K := ⟨_, rfl⟩
  have kK : Keeps H K := by rw [← eK]; exact Keeps.new' (Keeps.new' (Keeps.refl _))
  have nK : K.next = q + 2 := by rw [← eK]; simp [new_next, eq]
  have hK := h.keeps kK
  have o0 : K.obj q = some (.cells (rc vs vw d) true) := by rw [← eK]; simp only [new_obj, new_next, eq]; rw [if_neg (by omega), if_pos trivial]
  have o1 : K.obj (q + 1) = some (.cells [.nils, .nils, .int .i64 0, .bool false, .int .i64 0] true) := by rw [← eK]; simp only [new_obj, new_next, eq]; rw [if_pos trivial]
  have m1 : (q + 1 = q) = False := by simp
  have m2 : (q = q + 1) = False := by simp
  have u := U39 hK a0 a1
  have shp1 := sl_shape' h.ss
  have shp2 := sl_shape' h.sw
  obtain ⟨K1, eK1⟩ : ∃ K1, K.set q (.cells (rc vs vw d.step) true) = K1 := ⟨_, rfl⟩
  have k1 : Keeps H K1 := by rw [← eK1]; exact Keeps.set' (by omega) kK
  have nK1 : K1.next = q + 2 := by rw [← eK1, set_next, nK]
  have p0 : K1.obj q = some (.cells (rc vs vw d.step) true) := by rw [← eK1, set_obj, if_pos rfl]
  have p1 : K1.obj (q + 1) = some (.cells [.nils, .nils, .int .i64 0, .bool false, .int .i64 0] true) := by rw [← eK1, set_obj, if_neg (by omega)]; exact o1
  have h1 := (h.keeps k1).like (e := d.step) (step_s d) (step_w d)
  unfold DS.flush
  cases hg : d.goes
  · rw [hg] at u
    have kf : Keeps H (K1.set (q + 1) (.cells (rc vs vw d.step) true)) := Keeps.set' (by omega) k1
    refine ⟨K1.set (q + 1) (.cells (rc vs vw d.step) true), vs, vw, ?_, (h.keeps kf).like (step_s d) (step_w d), kf, fun j hj => .inl hj, fun j hj => hj⟩
    rw [s_fn (A := A) (f := 13) (x := DnFns.c13) rfl rfl rfl]
    unfold rc at eK o0 u eK1 p0 ⊢
    rcases shp1 with rfl | ⟨_, _, _, _, _, rfl⟩ <;> rcases shp2 with rfl | ⟨_, _, _, _, _, rfl⟩ <;>
      simp only [c13, eq, eK, eK1, o0, o1, p0, p1, u, m1, m2, Bool.false_eq_true, rwA, rwB, Nat.reduceAdd, Nat.reduceMul, Nat.reduceLeDiff, Int.reduceEq, Int.reduceLT, Int.reduceLE, Int.reduceAdd, Int.reduceSub, Int.reduceMul, ↓reduceIte, Nat.reduceEqDiff, reduceCtorEq, ↓cnd_true, ↓cnd_false]
  · rw [hg] at u
    have ew : d.step.w.flatMap wc = d.w.flatMap wc := by rw [step_w]
    have hwl : Sl K1 2 vw (d.w.flatMap wc) := by rw [← ew]; exact h1.sw
    have u69 := U40 (l := d.w) h1 hwl h1.wi hw (by rw [step_s]; exact n1) (by rw [step_s]; exact n2) (by rw [step_s]; exact hat)
    have es : d.step.settle (fun _ => true) = { d.step with s := puts d.step.s d.w, w := [] } := by
      unfold DS.settle
      rw [step_w]
      have : ∀ j, j ≤ d.w.length → pk d.w (fun _ => true) j = d.w.take j := by
        intro j
        induction j with
        | zero => intro _; simp [pk]
        | succ j ih =>
          intro hj
          rw [pk, ih (by omega), List.getElem?_eq_getElem (by omega), List.take_add_one, List.getElem?_eq_getElem (by omega)]
          rfl
      rw [this _ (Nat.le_refl _), List.take_length]
    obtain ⟨K2, eK2⟩ : ∃ K2, K1.new (.cells ((puts d.step.s d.w).map .str) true) = K2 := ⟨_, rfl⟩
    have k2 : Keeps H K2 := by rw [← eK2]; exact Keeps.new' k1
    have os : K2.obj (q + 2) = some (.cells ((puts d.step.s d.w).map .str) true) := by rw [← eK2, new_obj, if_pos nK1.symm]
    have nK2 : K2.next = q + 3 := by rw [← eK2, new_next, nK1]
    have r1 : K2.obj (q + 1) = some (.cells [.nils, .nils, .int .i64 0, .bool false, .int .i64 0] true) := by rw [← eK2, new_obj, if_neg (by omega)]; exact p1
    rw [eK2, nK1] at u69
    have kf : Keeps H (K2.set (q + 1) (.cells (rc (.slice (q + 2) 0 d.step.s.length d.step.s.length (some 1)) .nils d.step) true)) := Keeps.set' (by omega) k2
    refine ⟨_, .slice (q + 2) 0 d.step.s.length d.step.s.length (some 1), .nils, ?_, ?_, kf, fun j hj => .inr (by simp [AVal.ids] at hj; omega), by simp [AVal.ids]⟩
    · rw [s_fn (A := A) (f := 13) (x := DnFns.c13) rfl rfl rfl]
      simp only [if_true, es]
      unfold rc at eK o0 u eK1 p0 u69 ⊢
      rcases shp1 with rfl | ⟨_, _, _, _, _, rfl⟩ <;> rcases shp2 with rfl | ⟨_, _, _, _, _, rfl⟩ <;>
        simp only [c13, eq, eK, eK1, o0, o1, p0, p1, r1, u, u69, m1, m2, rwA, rwB, Nat.reduceAdd, Nat.reduceMul, Nat.reduceLeDiff, Int.reduceEq, Int.reduceLT, Int.reduceLE, Int.reduceAdd, Int.reduceSub, Int.reduceMul, ↓reduceIte, Nat.reduceEqDiff, reduceCtorEq, ↓cnd_true, ↓cnd_false]
    · simp only [if_true, es]
      have eo : (K2.set (q + 1) (.cells (rc (.slice (q + 2) 0 d.step.s.length d.step.s.length (some 1)) .nils d.step) true)).obj (q + 2) = some (.cells ((puts d.step.s d.w).map .str) true) := by rw [set_obj, if_neg (by omega)]; exact os
      have sl := safe_sl (g := some 1) eo
      rw [puts_len] at sl
      exact ⟨sl, .inl ⟨rfl, rfl⟩, by simp [AVal.ids, set_next]; omega, by simp [AVal.ids]⟩

end Go.Proofs.YtilhjcnkaelheaaGreat.Dk
end

section
/- The reference's disks: up again, made; two lists that are one. -/
set_option maxRecDepth 100000
set_option linter.unusedSimpArgs false
set_option linter.unusedVariables false
set_option maxHeartbeats 4000000
namespace Go.Proofs.YtilhjcnkaelheaaGreat.Dk
open Go Go.Proofs.YtilhjcnkaelheaaGreat.Am DnFns Go.RowKit
open Sd (Sec noughts home homeno ofHome ofNo opened unfit pad)

def b16 : ACode := (.seq (.seq (.region [⟨(some 9), (.mv (.tmp 7)), none, none⟩, ⟨(some 10), (.fieldA 1 (.tmp 2)), none, none⟩, ⟨(some 11), (.load false 1 (.tmp 10)), none, none⟩, ⟨(some 12), (.len false (.tmp 11)), none, none⟩, ⟨(some 13), (.bin .lss (.tmp 9) (.tmp 12)), none, none⟩]) (.cond (.tmp 13) .skip (.exit 0))) (.seq (.block 1 (.seq (.region [⟨(some 16), (.mv (.tmp 7)), none, none⟩, ⟨(some 17), (.mv (.tmp 1)), none, none⟩, ⟨(some 18), (.len false (.tmp 17)), none, none⟩, ⟨(some 19), (.bin .lss (.tmp 16) (.tmp 18)), none, none⟩, ⟨(some 20), (.mv (.tmp 19)), none, none⟩, ⟨(some 21), (.mv (.tmp 1)), (some (20, true)), none⟩, ⟨(some 22), (.mv (.tmp 7)), (some (20, true)), none⟩, ⟨(some 23), (.idxASl 1 (.tmp 21) (.tmp 22)), (some (20, true)), none⟩, ⟨(some 24), (.load false 1 (.tmp 23)), (some (20, true)), none⟩, ⟨(some 25), (.pick (.tmp 20) (.tmp 24) (.con (.bool false))), none, none⟩]) (.cond (.tmp 25) (.region [⟨(some 26), (.mv (.tmp 6)), none, none⟩, ⟨(some 27), (.fieldA 1 (.tmp 2)), none, none⟩, ⟨(some 28), (.load false 1 (.tmp 27)), none, none⟩, ⟨(some 29), (.mv (.tmp 7)), none, none⟩, ⟨(some 30), (.idxASl 2 (.tmp 28) (.tmp 29)), none, none⟩, ⟨(some 31), (.load true 2 (.tmp 30)), none, none⟩, ⟨(some 32), (.buildS 1 [(.int .i64 0), (.str [])] [(0, (2, (.tmp 31)))]), none, none⟩, ⟨(some 33), (.append 2 24 (.tmp 26) (.tmp 32)), none, none⟩, ⟨(some 6), (.mv (.tmp 33)), none, none⟩]) .skip))) (.region [⟨(some 14), (.mv (.tmp 7)), none, none⟩, ⟨(some 15), (.bin .add (.tmp 14) (.con (.int .i64 1))), none, none⟩, ⟨(some 7), (.mv (.tmp 15)), none, none⟩])))
theorem loop16 {H : AHeap} {q : Nat} {vs vw kv : AVal} {d : DS} {keep : List Bool} (h : R H vs vw d) (hk : Sl H 1 kv (keep.map .bool)) (hki : ∀ i, i ∈ kv.ids → i < H.next) (hw : d.w.length < 1000000) (ho : H.obj q = some (.cells (rc vs vw d) true)) (hq : q < H.next) {lv : AVal} (hl : Gr H 2 lv []) {b0 : Nat} (hb : b0 ≤ H.next) (hlb : ∀ i, i ∈ lv.ids → b0 ≤ i) (hqb : q < b0) (hsb : ∀ i, i ∈ vs.ids ++ vw.ids ++ kv.ids → i < b0) {env : Env}
    (h1 : env 1 = kv) (h2 : env 2 = .ptr q 0) (h6 : env 6 = lv) (h7 : env 7 = .int .i64 0) :
    Outs (AX A (.loop b16) env H) fun e env' K => e = .exit 0 ∧ env' 2 = .ptr q 0 ∧ env' 4 = env 4 ∧ (∃ lv', env' 6 = lv' ∧ Gr K 2 lv' ((pk d.w (fun i => keep.getD i false) d.w.length).flatMap wc) ∧ (∀ i, i ∈ lv'.ids → b0 ≤ i)) ∧ H.next ≤ K.next ∧ ∀ i, i < b0 → K.obj i = H.obj i := by
  refine loop_ends (I := fun (j : Nat) env' K => j ≤ d.w.length ∧ env' 1 = kv ∧ env' 2 = .ptr q 0 ∧ env' 4 = env 4 ∧ (∃ lv', env' 6 = lv' ∧ Gr K 2 lv' ((pk d.w (fun i => keep.getD i false) j).flatMap wc) ∧ (∀ i, i ∈ lv'.ids → b0 ≤ i)) ∧ env' 7 = .int .i64 (j : Int) ∧ H.next ≤ K.next ∧ (∀ i, i < b0 → K.obj i = H.obj i) ∧ (pk d.w (fun i => keep.getD i false) j).length ≤ j) (fun j => d.w.length - j) ?_ 0 env H
    ⟨Nat.zero_le _, h1, h2, rfl, ⟨lv, h6, hl, hlb⟩, h7, Nat.le_refl _, fun _ _ => rfl, Nat.le_refl _⟩
  rintro j env1 K ⟨hj, h1, h2, h4, ⟨lv', h6, hg, hgb⟩, h7, hn, hK, hpl⟩
  have oK : K.obj q = some (.cells (rc vs vw d) true) := by rw [hK q hqb]; exact ho
  have swK : Sl K 2 vw (d.w.flatMap wc) := h.sw.keeps fun i hi => hK i (hsb i (by simp [hi]))
  have hkK : Sl K 1 kv (keep.map .bool) := hk.keeps fun i hi => hK i (hsb i (by simp [hi]))
  have wl := swK.alen
  rw [slen_fm wc_len (by decide) swK] at wl
  have kl := hkK.alen
  rw [slen1 hkK] at kl
  unfold rc at oK
  by_cases c : j < d.w.length
  · have c1 : decide ((j : Int) < (d.w.length : Int)) = true := by simp; omega
    have w1 : IntKind.i64.wrap ((j : Int) + 1) = ((j + 1 : Nat) : Int) := by rw [wrap_i64]; omega
    obtain ⟨id, off, cp, g, k, own, rfl, hi, hk2, hall, _⟩ := swK.elem wc_len (by decide) c
    have ha : aidx d.w.length (.int .i64 (j : Int)) = some j := by simp [aidx]; omega
    have ld : apart true (off + j * 2) 2 k = some (.agg [.int .i64 ((d.w[j].1 : Nat) : Int), .str d.w[j].2]) := by rw [apart_agg _ _ _ (elem_room (es := 2) c hk2), hall]; rfl
    obtain ⟨x, ex⟩ : ∃ x, d.w[j] = x := ⟨_, rfl⟩
    rw [ex] at ld
    have hpk : pk d.w (fun i => keep.getD i false) (j + 1) = pk d.w (fun i => keep.getD i false) j ++ (if keep.getD j false then [x] else []) := by
      simp only [pk]; rw [List.getElem?_eq_getElem c, ex]
    have sl : slen lv' = (pk d.w (fun i => keep.getD i false) j).length := slen_fm wc_len (by decide) hg.sl
    by_cases cj : j < keep.length
    · have c2 : decide ((j : Int) < (keep.length : Int)) = true := by simp; omega
      have ha2 : aidx keep.length (.int .i64 (j : Int)) = some j := by simp [aidx]; omega
      obtain ⟨id', off', cp', g', k', own', rfl, hi', _, hc'⟩ := hkK.elem1 cj
      have ek : keep.getD j false = keep[j] := by simp [cj]
      cases hb : keep[j] <;> rw [hb] at hc' ek <;> rw [ek] at hpk
      · simp only [b16, h1, h2, h6, h7, oK, wl, kl, c1, c2, ha2, hi', hc', w1, rwA, rwB, Nat.reduceAdd, Nat.reduceMul, Nat.reduceLeDiff, Int.reduceEq, Int.reduceLT, Int.reduceLE, Int.reduceAdd, Int.reduceSub, Int.reduceMul, ↓reduceIte, Nat.reduceEqDiff, reduceCtorEq, ↓cnd_true, ↓cnd_false]
        rw [outs_some]
        exact .inl ⟨rfl, j + 1, by omega, by omega, by simp [Env.set, h1], by simp [Env.set, h2], by simp [Env.set, h4], ⟨lv', by simp [Env.set, h6], by rw [hpk]; simpa using hg, hgb⟩, by simp [Env.set], hn, hK, by rw [hpk, List.length_append]; simp only [Bool.false_eq_true, if_false, if_true, List.length_nil, List.length_cons]; omega⟩
      · obtain ⟨v2, K2, e2, g2, i2, f2, s2, a2, ea2⟩ := hg.push (by' := 24) (by decide) (x := [.int .i64 (x.1 : Int), .str x.2]) rfl (by rw [sl]; omega)
        have := f2.1
        have e2' := e2
        rw [ea2] at e2
        simp only [b16, h1, h2, h6, h7, oK, wl, kl, c1, c2, ha, ha2, hi, hi', hc', ld, e2, w1, rwA, rwB, Nat.reduceAdd, Nat.reduceMul, Nat.reduceLeDiff, Int.reduceEq, Int.reduceLT, Int.reduceLE, Int.reduceAdd, Int.reduceSub, Int.reduceMul, ↓reduceIte, Nat.reduceEqDiff, reduceCtorEq, ↓cnd_true, ↓cnd_false]
        rw [outs_some]
        refine .inl ⟨rfl, j + 1, by omega, by omega, by simp [Env.set, h1], by simp [Env.set, h2], by simp [Env.set, h4], ⟨v2, by rw [ea2]; simp [Env.set], ?_, fun i hi => by have := i2 i hi; omega⟩, by simp [Env.set], by omega, fun i hi => ?_, by rw [hpk, List.length_append]; simp only [Bool.false_eq_true, if_false, if_true, List.length_nil, List.length_cons]; omega⟩
        · rw [hpk, List.flatMap_append]
          have : (if true = true then [x] else []).flatMap wc = [.int .i64 (x.1 : Int), .str x.2] := by simp [wc]
          rw [this]; exact g2
        · rw [f2.2 i (by omega) (fun hx => by have := hgb i hx; omega)]; exact hK i hi
    · have c2 : decide ((j : Int) < (keep.length : Int)) = false := by simp; omega
      have ek : keep.getD j false = false := by simp [List.getElem?_eq_none (show keep.length ≤ j by omega)]
      rw [ek] at hpk
      simp only [b16, h1, h2, h6, h7, oK, wl, kl, c1, c2, w1, rwA, rwB, Nat.reduceAdd, Nat.reduceMul, Nat.reduceLeDiff, Int.reduceEq, Int.reduceLT, Int.reduceLE, Int.reduceAdd, Int.reduceSub, Int.reduceMul, ↓reduceIte, Nat.reduceEqDiff, reduceCtorEq, ↓cnd_true, ↓cnd_false]
      rw [outs_some]
      exact .inl ⟨rfl, j + 1, by omega, by omega, by simp [Env.set, h1], by simp [Env.set, h2], by simp [Env.set, h4], ⟨lv', by simp [Env.set, h6], by rw [hpk]; simpa using hg, hgb⟩, by simp [Env.set], hn, hK, by rw [hpk, List.length_append]; simp only [Bool.false_eq_true, if_false, if_true, List.length_nil, List.length_cons]; omega⟩
  · have e : j = d.w.length := by omega
    subst e
    have c1 : decide ((d.w.length : Int) < (d.w.length : Int)) = false := by simp
    simp only [b16, h2, h7, oK, wl, c1, rwA, rwB, Nat.reduceAdd, Nat.reduceMul, Nat.reduceLeDiff, Int.reduceEq, Int.reduceLT, Int.reduceLE, Int.reduceAdd, Int.reduceSub, Int.reduceMul, ↓reduceIte, Nat.reduceEqDiff, reduceCtorEq, ↓cnd_true, ↓cnd_false]
    rw [outs_some]
    exact .inr ⟨by simp, rfl, by simp [Env.set, h2], by simp [Env.set, h4], ⟨lv', by simp [Env.set, h6], hg, hgb⟩, hn, hK⟩

theorem pk_le (w : List (Nat × List UInt8)) (P : Nat → Bool) : ∀ j, (pk w P j).length ≤ j
  | 0 => Nat.le_refl _
  | j + 1 => by
    have := pk_le w P j
    simp only [pk, List.length_append]
    split
    · split <;> simp <;> omega
    · simp; omega

theorem U16 {H : AHeap} {vs vw kv : AVal} {d : DS} {keep : List Bool} (h : R H vs vw d) (hk : Sl H 1 kv (keep.map .bool)) (hki : ∀ i, i ∈ kv.ids → i < H.next) (hw : d.w.length < 1000000) (n1 : 1 ≤ d.s.length) (n2 : d.s.length ≤ 4865) (hat : ∀ x, x ∈ d.w → x.1 < d.s.length) :
    ∃ H' vs', AC A 16 [.agg (rc vs vw d), kv] H = some (.tuple [.agg (rc vs' .nils (d.up keep).1), .int .i64 ((d.up keep).2 : Int)], H') ∧ R H' vs' .nils (d.up keep).1 ∧ Keeps H H' ∧ (∀ j, j ∈ vs'.ids → H.next ≤ j) := by
  have key : Rets (AC A 16 [.agg (rc vs vw d), kv] H) fun v H' => ∃ vs', v = .tuple [.agg (rc vs' .nils (d.up keep).1), .int .i64 ((d.up keep).2 : Int)] ∧ R H' vs' .nils (d.up keep).1 ∧ Keeps H H' ∧ (∀ j, j ∈ vs'.ids → H.next ≤ j) := by
    rw [s_fn (A := A) (f := 16) (x := DnFns.c16) rfl rfl rfl]
    obtain ⟨q, eq⟩ : ∃ q, H.next = q := ⟨_, rfl⟩
    obtain ⟨K, eK⟩ : ∃ K, ((H.new (.cells (rc vs vw d) true)).new (.cells [.nils, .nils, .int .i64 0, .bool false, .int .i64 0] true)).new (.cells [] true) = K := ⟨_, rfl⟩
    have kK : Keeps H K := by rw [← eK]; exact Keeps.new' (Keeps.new' (Keeps.new' (Keeps.refl _)))
    have nK : K.next = q + 3 := by rw [← eK]; simp [new_next, eq]
    have hK := h.keeps kK
    have o0 : K.obj q = some (.cells (rc vs vw d) true) := by rw [← eK]; simp only [new_obj, new_next, eq]; rw [if_neg (by omega), if_neg (by omega), if_pos trivial]
    have o1 : K.obj (q + 1) = some (.cells [.nils, .nils, .int .i64 0, .bool false, .int .i64 0] true) := by rw [← eK]; simp only [new_obj, new_next, eq]; rw [if_neg (by omega), if_pos trivial]
    have g0 : Gr K 2 (.slice (q + 2) 0 0 0 none) [] := by
      have := Gr.empty ((H.new (.cells (rc vs vw d) true)).new (.cells [.nils, .nils, .int .i64 0, .bool false, .int .i64 0] true)) 2
      rw [eK, new_next, new_next, eq] at this; exact this
    have m1 : (q + 1 = q) = False := by simp
    have m2 : (q = q + 1) = False := by simp
    have shp1 := sl_shape' h.ss
    have shp2 := sl_shape' h.sw
    have hsb : ∀ i, i ∈ vs.ids ++ vw.ids ++ kv.ids → i < q + 2 := by
      intro i hi
      simp only [List.mem_append] at hi
      rcases hi with (hi | hi) | hi
      · have := h.si i hi; omega
      · have := h.wi i hi; omega
      · have := hki i hi; omega
    have L := fun env h1 h2 h6 h7 => loop16 (env := env) hK (hk.keep hki kK) (fun i hi => by have := hki i hi; omega) hw o0 (by omega) g0 (b0 := q + 2) (by omega) (by simp [AVal.ids]) (by omega) hsb h1 h2 h6 h7
    unfold rc at eK
    rcases shp1 with rfl | ⟨_, _, _, _, _, rfl⟩ <;> rcases shp2 with rfl | ⟨_, _, _, _, _, rfl⟩
    all_goals
      simp only [c16, rc, eq, eK, rwA, rwB, Nat.reduceAdd, Nat.reduceMul, Nat.reduceLeDiff, Int.reduceEq, Int.reduceLT, Int.reduceLE, Int.reduceAdd, Int.reduceSub, Int.reduceMul, ↓reduceIte, Nat.reduceEqDiff, reduceCtorEq, ↓cnd_true, ↓cnd_false]
      repeat (first | refine outs_seq ?_ | refine outs_block ?_ | refine outs_step ?_ | refine outs_stepD ?_ | refine rets_end ?_ | refine ans_end ?_)
      refine (L _ (by simp [Env.set, ainit]) (by simp [Env.set]) (by simp [Env.set]) (by simp [Env.set])).mono ?_
      rintro e env K1 ⟨rfl, h2, h4, ⟨lv, h6, hg, hgb⟩, hn, hK1⟩
      have h4 : env 4 = .ptr (q + 1) 0 := by rw [h4]; simp [Env.set]
      have k1 : Keeps H K1 := ⟨by omega, fun i hi => by rw [hK1 i (by omega)]; exact kK.2 i hi⟩
      have h1 := h.keeps k1
      have p0 := (hK1 q (by omega)).trans o0
      have p1 := (hK1 (q + 1) (by omega)).trans o1
      have pl := pk_le d.w (fun i => keep.getD i false) d.w.length
      have u69 := U40 (l := pk d.w (fun i => keep.getD i false) d.w.length) h1 hg.sl hg.lt (by omega) n1 n2 (fun x hx => hat x (pk_mem hx))
      obtain ⟨K2, eK2⟩ : ∃ K2, K1.new (.cells ((puts d.s (pk d.w (fun i => keep.getD i false) d.w.length)).map .str) true) = K2 := ⟨_, rfl⟩
      have k2 : Keeps K1 K2 := by rw [← eK2]; exact Keeps.new _ _
      have nK2 : K2.next = K1.next + 1 := by rw [← eK2, new_next]
      have os : K2.obj K1.next = some (.cells ((puts d.s (pk d.w (fun i => keep.getD i false) d.w.length)).map .str) true) := by rw [← eK2, new_obj, if_pos rfl]
      rw [eK2] at u69
      have r0 := (k2.2 q (by omega)).trans p0
      have r1 := (k2.2 (q + 1) (by omega)).trans p1
      have ll := hg.sl.alen
      rw [slen_fm wc_len (by decide) hg.sl] at ll
      unfold rc at u69 p0 r0
      simp only [outs_some, h2, h4, h6, p0, p1, r0, r1, u69, ll, m1, m2, AHeap.set_set, rwA, rwB, Nat.reduceAdd, Nat.reduceMul, Nat.reduceLeDiff, Int.reduceEq, Int.reduceLT, Int.reduceLE, Int.reduceAdd, Int.reduceSub, Int.reduceMul, ↓reduceIte, Nat.reduceEqDiff, reduceCtorEq, ↓cnd_true, ↓cnd_false]
      rw [rets_some]
      refine ⟨_, rfl, ?_, ?_, ?_⟩
      · have eo : ((K2.set q (.cells [.slice K1.next 0 d.s.length d.s.length (some 1), .nils, .int .i64 0, .bool false, .int .i64 d.ops] true)).set (q + 1) (.cells [.slice K1.next 0 d.s.length d.s.length (some 1), .nils, .int .i64 0, .bool false, .int .i64 d.ops] true)).obj K1.next = some (.cells ((puts d.s (pk d.w (fun i => keep.getD i false) d.w.length)).map .str) true) := by rw [set_obj, if_neg (by omega), set_obj, if_neg (by omega)]; exact os
        have sl := safe_sl (g := some 1) eo
        rw [puts_len] at sl
        exact ⟨sl, .inl ⟨rfl, rfl⟩, by simp [AVal.ids, set_next, nK2], by simp [AVal.ids]⟩
      · exact Keeps.set' (by omega) (Keeps.set' (by omega) (k1.trans k2))
      · simp [AVal.ids]; omega
  obtain ⟨v, H', e, vs', rfl, h1, h2, h3⟩ := key
  exact ⟨H', vs', e, h1, h2, h3⟩

/-! ### Made -/
def b6 : ACode := (.seq (.seq (.region [⟨(some 18), (.mv (.tmp 6)), none, none⟩, ⟨(some 19), (.mv (.tmp 0)), none, none⟩, ⟨(some 20), (.bin .lss (.tmp 18) (.tmp 19)), none, none⟩]) (.cond (.tmp 20) .skip (.exit 0))) (.seq (.block 1 (.region [⟨(some 23), (.fieldA 0 (.tmp 4)), none, none⟩, ⟨(some 24), (.load false 1 (.tmp 23)), none, none⟩, ⟨(some 25), (.mv (.tmp 6)), none, none⟩, ⟨(some 26), (.mv (.tmp 5)), none, none⟩, ⟨(some 27), (.idxASl 1 (.tmp 24) (.tmp 25)), none, none⟩, ⟨none, (.store 1 (.tmp 27) (.tmp 26)), none, none⟩])) (.region [⟨(some 21), (.mv (.tmp 6)), none, none⟩, ⟨(some 22), (.bin .add (.tmp 21) (.con (.int .i64 1))), none, none⟩, ⟨(some 6), (.mv (.tmp 22)), none, none⟩])))
theorem loop6 {H : AHeap} {b q : Nat} {N : Nat} {x : List UInt8} (hN : N < 1000000) (hb : H.obj b = some (.cells (upx N x 0) true)) (ho : H.obj q = some (.cells [.slice b 0 N N none, .nils, .int .i64 0, .bool false, .int .i64 0] true)) (hbq : b ≠ q) {env : Env}
    (h0 : env 0 = .int .i64 (N : Int)) (h4 : env 4 = .ptr q 0) (h5 : env 5 = .str x) (h6 : env 6 = .int .i64 0) :
    Outs (AX A (.loop b6) env H) fun e env' K => e = .exit 0 ∧ env' 2 = env 2 ∧ env' 4 = .ptr q 0 ∧ Fr [b] H K ∧ K.obj b = some (.cells (upx N x N) true) := by
  refine loop_ends (I := fun (j : Nat) env' K => j ≤ N ∧ env' 0 = .int .i64 (N : Int) ∧ env' 2 = env 2 ∧ env' 4 = .ptr q 0 ∧ env' 5 = .str x ∧ env' 6 = .int .i64 (j : Int) ∧ Fr [b] H K ∧ K.obj b = some (.cells (upx N x j) true) ∧ K.obj q = some (.cells [.slice b 0 N N none, .nils, .int .i64 0, .bool false, .int .i64 0] true)) (fun j => N - j) ?_ 0 env H ⟨Nat.zero_le _, h0, rfl, h4, h5, h6, Fr.refl _ _, hb, ho⟩
  rintro j env1 K ⟨hj, h0, h2, h4, h5, h6, hF, hb, ho⟩
  by_cases c : j < N
  · have c1 : decide ((j : Int) < (N : Int)) = true := by simp; omega
    have w1 : IntKind.i64.wrap ((j : Int) + 1) = ((j + 1 : Nat) : Int) := by rw [wrap_i64]; omega
    have ha : aidx N (.int .i64 (j : Int)) = some j := by simp [aidx]; omega
    have st := store_one K b j (.str x) (upx N x j) (by rw [upx_len hj]; exact c)
    rw [upx_set c] at st
    simp only [b6, h0, h4, h5, h6, ho, hb, c1, ha, st, w1, rwA, rwB, Nat.reduceAdd, Nat.reduceMul, Nat.reduceLeDiff, Int.reduceEq, Int.reduceLT, Int.reduceLE, Int.reduceAdd, Int.reduceSub, Int.reduceMul, ↓reduceIte, Nat.reduceEqDiff, reduceCtorEq, ↓cnd_true, ↓cnd_false]
    rw [outs_some]
    exact .inl ⟨rfl, j + 1, by omega, by omega, by simp [Env.set, h0], by simp [Env.set, h2], by simp [Env.set, h4], by simp [Env.set, h5], by simp [Env.set], Fr.set (.inl (by simp)) hF, by rw [set_obj, if_pos rfl], by rw [set_obj, if_neg (Ne.symm hbq)]; exact ho⟩
  · have e : j = N := by omega
    subst e
    have c1 : decide ((j : Int) < (j : Int)) = false := by simp
    simp only [b6, h0, h6, c1, rwA, rwB, Nat.reduceAdd, Nat.reduceMul, Nat.reduceLeDiff, Int.reduceEq, Int.reduceLT, Int.reduceLE, Int.reduceAdd, Int.reduceSub, Int.reduceMul, ↓reduceIte, Nat.reduceEqDiff, reduceCtorEq, ↓cnd_true, ↓cnd_false]
    rw [outs_some]
    exact .inr ⟨by simp, rfl, by simp [Env.set, h2], by simp [Env.set, h4], hF, hb⟩

theorem U6x {n : Int} (h : ¬ (1 ≤ n ∧ n ≤ 4865)) (H : AHeap) : ∃ H', AC A 6 [.int .i64 n] H = some (.tuple [.agg [.nils, .nils, .int .i64 0, .bool false, .int .i64 0], .bool false], H') ∧ Keeps H H' := by
  refine ⟨(H.new (.cells [.nils, .nils, .int .i64 0, .bool false, .int .i64 0] true)).set H.next (.cells [.nils, .nils, .int .i64 0, .bool false, .int .i64 0] true), ?_, Keeps.set' (Nat.le_refl _) (Keeps.new' (Keeps.refl _))⟩
  rw [s_fn (A := A) (f := 6) (x := DnFns.c6) rfl rfl rfl]
  cases c : decide (n < 1)
  · have c2 : decide (4865 < n) = true := by simp at c; simp; omega
    simp only [c6, c, c2, rwA, rwB, Nat.reduceAdd, Nat.reduceMul, Nat.reduceLeDiff, Int.reduceEq, Int.reduceLT, Int.reduceLE, Int.reduceAdd, Int.reduceSub, Int.reduceMul, ↓reduceIte, Nat.reduceEqDiff, reduceCtorEq, ↓cnd_true, ↓cnd_false]
  · simp only [c6, c, rwA, rwB, Nat.reduceAdd, Nat.reduceMul, Nat.reduceLeDiff, Int.reduceEq, Int.reduceLT, Int.reduceLE, Int.reduceAdd, Int.reduceSub, Int.reduceMul, ↓reduceIte, Nat.reduceEqDiff, reduceCtorEq, ↓cnd_true, ↓cnd_false]

theorem U6 {n : Nat} (h1 : 1 ≤ n) (h2 : n ≤ 4865) (H : AHeap) : ∃ H' vs, AC A 6 [.int .i64 (n : Int)] H = some (.tuple [.agg (rc vs .nils (fresh n)), .bool true], H') ∧ R H' vs .nils (fresh n) ∧ Keeps H H' ∧ (∀ j, j ∈ vs.ids → H.next ≤ j) := by
  have key : Rets (AC A 6 [.int .i64 (n : Int)] H) fun v H' => ∃ vs, v = .tuple [.agg (rc vs .nils (fresh n)), .bool true] ∧ R H' vs .nils (fresh n) ∧ Keeps H H' ∧ (∀ j, j ∈ vs.ids → H.next ≤ j) := by
    rw [s_fn (A := A) (f := 6) (x := DnFns.c6) rfl rfl rfl]
    obtain ⟨q, eq⟩ : ∃ q, H.next = q := ⟨_, rfl⟩
    have c : decide ((n : Int) < 1) = false := by simp; omega
    have c2 : decide (4865 < (n : Int)) = false := by simp; omega
    have mk : ∀ M : AHeap, amkS M 1 16 [.str []] (.int .i64 (n : Int)) (.int .i64 (n : Int)) = some (.slice M.next 0 n n none, M.new (.cells (upx n (noughts 512) 0) true)) := by
      intro M
      simp only [amkS]
      rw [if_pos ⟨by omega, by omega, by omega, by omega, rfl⟩, Int.toNat_natCast, arep_str]
      rfl
    obtain ⟨K, eK⟩ : ∃ K, (((H.new (.cells [.nils, .nils, .int .i64 0, .bool false, .int .i64 0] true)).new (.cells (upx n (noughts 512) 0) true)).new (.cells [.nils, .nils, .int .i64 0, .bool false, .int .i64 0] true)).set (q + 2) (.cells [.slice (q + 1) 0 n n none, .nils, .int .i64 0, .bool false, .int .i64 0] true) = K := ⟨_, rfl⟩
    have kK : Keeps H K := by rw [← eK]; exact Keeps.set' (by omega) (Keeps.new' (Keeps.new' (Keeps.new' (Keeps.refl _))))
    have nK : K.next = q + 3 := by rw [← eK]; simp [new_next, set_next, eq]
    have o0 : K.obj q = some (.cells [.nils, .nils, .int .i64 0, .bool false, .int .i64 0] true) := by rw [← eK]; simp only [set_obj, new_obj, new_next, eq]; rw [if_neg (by omega), if_neg (by omega), if_neg (by omega), if_pos trivial]
    have o1 : K.obj (q + 1) = some (.cells (upx n (noughts 512) 0) true) := by rw [← eK]; simp only [set_obj, new_obj, new_next, eq]; rw [if_neg (by omega), if_neg (by omega), if_pos trivial]
    have o2 : K.obj (q + 2) = some (.cells [.slice (q + 1) 0 n n none, .nils, .int .i64 0, .bool false, .int .i64 0] true) := by rw [← eK]; simp only [set_obj]; rw [if_pos trivial]
    simp only [c6, c, c2, eq, mk, U33a, eK, rwA, rwB, Nat.reduceAdd, Nat.reduceMul, Nat.reduceLeDiff, Int.reduceEq, Int.reduceLT, Int.reduceLE, Int.reduceAdd, Int.reduceSub, Int.reduceMul, ↓reduceIte, Nat.reduceEqDiff, reduceCtorEq, ↓cnd_true, ↓cnd_false]
    repeat (first | refine outs_seq ?_ | refine outs_block ?_ | refine outs_step ?_ | refine outs_stepD ?_ | refine rets_end ?_ | refine ans_end ?_)
    refine (loop6 (x := noughts 512) (by omega) o1 o2 (by omega) ?_ ?_ ?_ ?_).mono ?_
    · simp [Env.set, ainit]
    · simp [Env.set]
    · simp [Env.set]
    · simp [Env.set]
    rintro e env K1 ⟨rfl, g2, g4, hF, hb⟩
    have g2 : env 2 = .ptr q 0 := by rw [g2]; simp [Env.set]
    have p0 := (hF.2 q (by omega) (by simp)).trans o0
    have p2 := (hF.2 (q + 2) (by omega) (by simp)).trans o2
    have k1 : Keeps H K1 := ⟨by have := hF.1; omega, fun i hi => by rw [hF.2 i (by omega) (by simp; omega)]; exact kK.2 i hi⟩
    simp only [outs_some, g2, g4, p0, p2, rwA, rwB, Nat.reduceAdd, Nat.reduceMul, Nat.reduceLeDiff, Int.reduceEq, Int.reduceLT, Int.reduceLE, Int.reduceAdd, Int.reduceSub, Int.reduceMul, ↓reduceIte, Nat.reduceEqDiff, reduceCtorEq, ↓cnd_true, ↓cnd_false]
    rw [rets_some]
    have hn1 := hF.1
    refine ⟨.slice (q + 1) 0 n n none, rfl, ⟨?_, .inl ⟨rfl, rfl⟩, by simp [AVal.ids, set_next]; omega, by simp [AVal.ids]⟩, Keeps.set' (by omega) k1, by simp [AVal.ids]⟩
    have eo : (K1.set q (.cells [.slice (q + 1) 0 n n none, .nils, .int .i64 0, .bool false, .int .i64 0] true)).obj (q + 1) = some (.cells ((List.replicate n (noughts 512)).map .str) true) := by rw [set_obj, if_neg (by omega), hb, upx_all]
    have sl := safe_sl (g := none) eo
    rw [List.length_replicate] at sl
    exact sl
  obtain ⟨v, H', e, vs', rfl, h1, h2, h3⟩ := key
  exact ⟨H', vs', e, h1, h2, h3⟩

/-! ### Two lists that are one -/
def b24 : ACode := (.seq (.seq (.region [⟨(some 11), (.mv (.tmp 5)), none, none⟩, ⟨(some 12), (.mv (.tmp 0)), none, none⟩, ⟨(some 13), (.len false (.tmp 12)), none, none⟩, ⟨(some 14), (.bin .lss (.tmp 11) (.tmp 13)), none, none⟩]) (.cond (.tmp 14) .skip (.exit 0))) (.seq (.block 1 (.seq (.draw [⟨(some 17), (.mv (.tmp 0)), none, none⟩, ⟨(some 18), (.mv (.tmp 5)), none, none⟩, ⟨(some 19), (.idxASl 1 (.tmp 17) (.tmp 18)), none, none⟩, ⟨(some 20), (.load false 1 (.tmp 19)), none, none⟩, ⟨(some 21), (.mv (.tmp 1)), none, none⟩, ⟨(some 22), (.mv (.tmp 5)), none, none⟩, ⟨(some 23), (.idxASl 1 (.tmp 21) (.tmp 22)), none, none⟩, ⟨(some 24), (.load false 1 (.tmp 23)), none, none⟩, ⟨(some 25), (.bin .neq (.tmp 20) (.tmp 24)), none, none⟩]) (.cond (.tmp 25) (.seq (.region [⟨(some 4), (.mv (.con (.bool false))), none, none⟩]) .ret) .skip))) (.region [⟨(some 15), (.mv (.tmp 5)), none, none⟩, ⟨(some 16), (.bin .add (.tmp 15) (.con (.int .i64 1))), none, none⟩, ⟨(some 5), (.mv (.tmp 16)), none, none⟩])))
theorem loop24 {H : AHeap} {s t : AVal} {l k : List (List UInt8)} (hs : Sl H 1 s (l.map .str)) (ht : Sl H 1 t (k.map .str)) (hl : l.length = k.length) (hb : l.length < 1000000) {env : Env} (h0 : env 0 = s) (h1 : env 1 = t) (h5 : env 5 = .int .i64 0) :
    Outs (AX A (.loop b24) env H) fun e env' H' => H' = H ∧ ((e = .exit 0 ∧ l = k) ∨ (e = .ret ∧ env' 4 = .bool false ∧ l ≠ k)) := by
  refine loop_ends (I := fun (j : Nat) env' H' => j ≤ l.length ∧ H' = H ∧ env' 0 = s ∧ env' 1 = t ∧ env' 5 = .int .i64 (j : Int) ∧ l.take j = k.take j) (fun j => l.length - j) ?_ 0 env H ⟨Nat.zero_le _, rfl, h0, h1, h5, by simp⟩
  rintro j env' _ ⟨hj, rfl, h0, h1, h5, hp⟩
  have e0 := hs.len1
  rw [List.length_map] at e0
  by_cases hjm : j < l.length
  · have e1 : decide ((j : Int) < (l.length : Int)) = true := by simp; omega
    obtain ⟨id, off, cap, g, c, own, rfl, ho, _, a1⟩ := hs.elem1 hjm
    obtain ⟨id2, off2, cap2, g2, c2, own2, rfl, ho2, _, a2⟩ := ht.elem1 (i := j) (by omega)
    have ha : aidx l.length (.int .i64 (j : Int)) = some j := by simp [aidx]; omega
    have w1 : IntKind.i64.wrap ((j : Int) + 1) = ((j + 1 : Nat) : Int) := by rw [wrap_i64]; omega
    have ha2 : aidx k.length (.int .i64 (j : Int)) = some j := by simp [aidx]; omega
    have ge : ∀ (l : List (List UInt8)) (h : j < l.length), l.take (j + 1) = l.take j ++ [l[j]] := fun l h => by
      rw [List.take_add_one, List.getElem?_eq_getElem h]; rfl
    cases hd : decide (l[j] = k[j])
    · simp only [b24, h0, h1, h5, e0, e1, ha, ha2, ho, ho2, a1, a2, hd, rwA, rwB, Nat.reduceAdd, Nat.reduceMul, Nat.reduceLeDiff, Int.reduceEq, Int.reduceLT, Int.reduceLE, Int.reduceAdd, Int.reduceSub, Int.reduceMul, ↓reduceIte, Nat.reduceEqDiff, reduceCtorEq, ↓cnd_true, ↓cnd_false]
      rw [outs_some]
      refine .inr ⟨by simp, rfl, .inr ⟨rfl, by simp [Env.set], ?_⟩⟩
      intro h
      subst h
      simp at hd
    · simp only [b24, h0, h1, h5, e0, e1, ha, ha2, ho, ho2, a1, a2, hd, w1, rwA, rwB, Nat.reduceAdd, Nat.reduceMul, Nat.reduceLeDiff, Int.reduceEq, Int.reduceLT, Int.reduceLE, Int.reduceAdd, Int.reduceSub, Int.reduceMul, ↓reduceIte, Nat.reduceEqDiff, reduceCtorEq, ↓cnd_true, ↓cnd_false]
      rw [outs_some]
      refine .inl ⟨rfl, j + 1, by omega, by omega, rfl, by simp [Env.set, h0], by simp [Env.set, h1], by simp [Env.set], ?_⟩
      rw [ge l hjm, ge k (by omega), hp]
      simp only [decide_eq_true_eq] at hd
      rw [hd]
  · have : j = l.length := by omega
    subst this
    have e1 : decide ((l.length : Int) < (l.length : Int)) = false := by simp
    simp only [b24, h0, h5, e0, e1, rwA, rwB, Nat.reduceAdd, Nat.reduceMul, Nat.reduceLeDiff, Int.reduceEq, Int.reduceLT, Int.reduceLE, Int.reduceAdd, Int.reduceSub, Int.reduceMul, ↓reduceIte, Nat.reduceEqDiff, reduceCtorEq, ↓cnd_true, ↓cnd_false]
    rw [outs_some]
    refine .inr ⟨by simp, rfl, .inl ⟨rfl, ?_⟩⟩
    rw [List.take_length, hl, List.take_length] at hp
    exact hp

theorem U24 {H : AHeap} {s t : AVal} {l k : List (List UInt8)} (hs : Sl H 1 s (l.map .str)) (ht : Sl H 1 t (k.map .str)) (hb : l.length < 1000000) :
    AC A 24 [s, t] H = some (.bool (decide (l = k)), H) := by
  refine look_val (x := DnFns.c24) rfl rfl rfl rfl ?_
  have hsf := hs.frz
  have htf := ht.frz
  have e0 := hsf.len1
  have e1 := htf.len1
  rw [List.length_map] at e0 e1
  by_cases c : l.length = k.length
  · have c1 : decide ((l.length : Int) = (k.length : Int)) = true := by simp; omega
    simp only [c24, e0, e1, c1, rwA, rwB, Nat.reduceAdd, Nat.reduceMul, Nat.reduceLeDiff, Int.reduceEq, Int.reduceLT, Int.reduceLE, Int.reduceAdd, Int.reduceSub, Int.reduceMul, ↓reduceIte, Nat.reduceEqDiff, reduceCtorEq, ↓cnd_true, ↓cnd_false]
    repeat (first | refine outs_seq ?_ | refine outs_block ?_ | refine outs_step ?_ | refine outs_stepD ?_ | refine rets_end ?_ | refine ans_end ?_)
    refine (loop24 hsf htf c hb ?_ ?_ ?_).mono ?_
    · simp [Env.set, ainit]
    · simp [Env.set, ainit]
    · simp [Env.set]
    rintro e env K ⟨rfl, (⟨rfl, h⟩ | ⟨rfl, h4, h⟩)⟩
    · simp only [outs_some, h, decide_true, rwA, rwB, Nat.reduceAdd, Nat.reduceMul, Nat.reduceLeDiff, Int.reduceEq, Int.reduceLT, Int.reduceLE, Int.reduceAdd, Int.reduceSub, Int.reduceMul, ↓reduceIte, Nat.reduceEqDiff, reduceCtorEq, ↓cnd_true, ↓cnd_false]
    · simp only [outs_some, h4, decide_eq_false h, rwA, rwB, Nat.reduceAdd, Nat.reduceMul, Nat.reduceLeDiff, Int.reduceEq, Int.reduceLT, Int.reduceLE, Int.reduceAdd, Int.reduceSub, Int.reduceMul, ↓reduceIte, Nat.reduceEqDiff, reduceCtorEq, ↓cnd_true, ↓cnd_false]
  · have c1 : decide ((l.length : Int) = (k.length : Int)) = false := by simp; omega
    have c2 : decide (l = k) = false := decide_eq_false fun h => c (by rw [h])
    rw [c2]
    simp only [c24, e0, e1, c1, rwA, rwB, Nat.reduceAdd, Nat.reduceMul, Nat.reduceLeDiff, Int.reduceEq, Int.reduceLT, Int.reduceLE, Int.reduceAdd, Int.reduceSub, Int.reduceMul, ↓reduceIte, Nat.reduceEqDiff, reduceCtorEq, ↓cnd_true, ↓cnd_false]

end Go.Proofs.YtilhjcnkaelheaaGreat.Dk
end

section
/- The great seat (numbers of b07z.names): the reference's journal: May, Sectors, Append. -/
set_option maxRecDepth 100000
set_option linter.unusedSimpArgs false
set_option linter.unusedVariables false
set_option maxHeartbeats 4000000
namespace Go.Proofs.YtilhjcnkaelheaaGreat.Dk
open Go Go.Proofs.YtilhjcnkaelheaaGreat.Am DnFns Go.RowKit
open Sd (Sec noughts home homeno ofHome ofNo opened unfit pad)

theorem U22 {H : AHeap} {jp p a : Nat} {vw : AVal} {j : JS} (h : J H jp p a vw j) : AC A 22 [.ptr jp 0] H = some (.int .u64 (j.number : Int), H) := by
  refine look_val (x := DnFns.c22) rfl rfl rfl rfl ?_
  have o := frz_obj h.oj
  unfold jc at o
  simp only [c22, o, e_nilp0, rwA, rwB, Nat.reduceAdd, Nat.reduceMul, Nat.reduceLeDiff, Int.reduceEq, Int.reduceLT, Int.reduceLE, Int.reduceAdd, Int.reduceSub, Int.reduceMul, ↓reduceIte, Nat.reduceEqDiff, reduceCtorEq, ↓cnd_true, ↓cnd_false]

theorem U23 {H : AHeap} {jp p a : Nat} {vw : AVal} {j : JS} (h : J H jp p a vw j) : AC A 23 [.ptr jp 0] H = some (.int .u64 (j.epoch : Int), H) := by
  refine look_val (x := DnFns.c23) rfl rfl rfl rfl ?_
  have o := frz_obj h.oj
  unfold jc at o
  simp only [c23, o, e_nilp0, rwA, rwB, Nat.reduceAdd, Nat.reduceMul, Nat.reduceLeDiff, Int.reduceEq, Int.reduceLT, Int.reduceLE, Int.reduceAdd, Int.reduceSub, Int.reduceMul, ↓reduceIte, Nat.reduceEqDiff, reduceCtorEq, ↓cnd_true, ↓cnd_false]

def may (d : DS) (size : Int) : Bool := (decide (4 ≤ size) && decide (size ≤ 1024)) && decide (size < (d.s.length : Int))
theorem U8 {H : AHeap} {vs vw : AVal} {d : DS} (h : R H vs vw d) (size : Int) : AC A 8 [.agg (rc vs vw d), .int .i64 size] H = some (.bool (may d size), H) := by
  refine look_val (x := DnFns.c8) rfl rfl rfl rfl ?_
  obtain ⟨q, eq⟩ : ∃ q, (frz H).next = q := ⟨_, rfl⟩
  obtain ⟨K, eK⟩ : ∃ K, (frz H).new (.cells (rc vs vw d) true) = K := ⟨_, rfl⟩
  have o0 : K.obj q = some (.cells (rc vs vw d) true) := by rw [← eK, new_obj, if_pos eq.symm]
  have hl := (h.frz.keeps (Keeps.new (frz H) (.cells (rc vs vw d) true))).slen
  unfold may
  have shp1 := sl_shape' h.ss
  have shp2 := sl_shape' h.sw
  unfold rc at eK o0 ⊢
  rcases shp1 with rfl | ⟨_, _, _, _, _, rfl⟩ <;> rcases shp2 with rfl | ⟨_, _, _, _, _, rfl⟩
  all_goals
    cases c1 : decide (4 ≤ size)
    · simp only [c8, eq, eK, o0, hl, c1, Bool.false_and, rwA, rwB, Nat.reduceAdd, Nat.reduceMul, Nat.reduceLeDiff, Int.reduceEq, Int.reduceLT, Int.reduceLE, Int.reduceAdd, Int.reduceSub, Int.reduceMul, ↓reduceIte, Nat.reduceEqDiff, reduceCtorEq, ↓cnd_true, ↓cnd_false]
    · cases c2 : decide (size ≤ 1024)
      · simp only [c8, eq, eK, o0, hl, c1, c2, Bool.true_and, Bool.false_and, rwA, rwB, Nat.reduceAdd, Nat.reduceMul, Nat.reduceLeDiff, Int.reduceEq, Int.reduceLT, Int.reduceLE, Int.reduceAdd, Int.reduceSub, Int.reduceMul, ↓reduceIte, Nat.reduceEqDiff, reduceCtorEq, ↓cnd_true, ↓cnd_false]
      · simp only [c8, eq, eK, o0, hl, c1, c2, Bool.true_and, rwA, rwB, Nat.reduceAdd, Nat.reduceMul, Nat.reduceLeDiff, Int.reduceEq, Int.reduceLT, Int.reduceLE, Int.reduceAdd, Int.reduceSub, Int.reduceMul, ↓reduceIte, Nat.reduceEqDiff, reduceCtorEq, ↓cnd_true, ↓cnd_false]

theorem img_ok (j : JS) {l : List Im} (hc : chk l = true) {i : Nat} (hi : i < l.length) (hn : l.length < 60000) : (sx j 2 l[i].page (i : Int) l[i].text).ok = true := by
  have hok := chk_at hc hi
  unfold okI pgok at hok
  simp only [Bool.and_eq_true, decide_eq_true_eq] at hok
  obtain ⟨⟨o1, o2⟩, o3⟩ := hok
  unfold Sec.ok Sd.short sx
  simp [o3]; omega
theorem end_ok (j : JS) (l : List Im) (hn : l.length < 60000) : (sx j 3 0 (l.length : Int) (noughts 480)).ok = true := by
  unfold Sec.ok Sd.short sx
  simp [noughts]; omega
theorem secs_len (j : JS) (l : List Im) : (secs j l).length = l.length + 1 := by simp [secs, imgSs_len]
theorem imgSs_get (j : JS) : ∀ (l : List Im) (k i : Nat) (h : i < l.length), (imgSs j k l)[i]? = some (imgS j (k + i) l[i])
  | x :: l, k, 0, h => by simp [imgSs]
  | x :: l, k, i + 1, h => by
    have := imgSs_get j l (k + 1) i (by simpa using h)
    rw [show k + 1 + i = k + (i + 1) by omega] at this
    simpa [imgSs] using this
def jr (j : JS) : List AVal := [.int .i64 (j.size : Int), .int .u64 (j.epoch : Int), .int .i64 (j.at' : Int), .int .u64 (j.number : Int)]

def b36r : ACode := (.seq (.seq (.region [⟨(some 12), (.mv (.tmp 6)), none, none⟩, ⟨(some 13), (.mv (.tmp 1)), none, none⟩, ⟨(some 14), (.len false (.tmp 13)), none, none⟩, ⟨(some 15), (.bin .lss (.tmp 12) (.tmp 14)), none, none⟩]) (.cond (.tmp 15) .skip (.exit 0))) (.seq (.block 1 (.seq (.draw [⟨(some 19), (.fieldA 1 (.tmp 2)), none, none⟩, ⟨(some 20), (.load false 1 (.tmp 19)), none, none⟩, ⟨(some 21), (.fieldA 3 (.tmp 2)), none, none⟩, ⟨(some 22), (.load false 1 (.tmp 21)), none, none⟩, ⟨(some 23), (.bin .add (.tmp 22) (.con (.int .u64 1))), none, none⟩, ⟨(some 24), (.mv (.tmp 1)), none, none⟩, ⟨(some 25), (.mv (.tmp 6)), none, none⟩, ⟨(some 26), (.idxASl 2 (.tmp 24) (.tmp 25)), none, none⟩, ⟨(some 27), (.fieldA 0 (.tmp 26)), none, none⟩, ⟨(some 28), (.load false 1 (.tmp 27)), none, none⟩, ⟨(some 29), (.mv (.tmp 6)), none, none⟩, ⟨(some 30), (.mv (.tmp 1)), none, none⟩, ⟨(some 31), (.mv (.tmp 6)), none, none⟩, ⟨(some 32), (.idxASl 2 (.tmp 30) (.tmp 31)), none, none⟩, ⟨(some 33), (.fieldA 1 (.tmp 32)), none, none⟩, ⟨(some 34), (.load false 1 (.tmp 33)), none, none⟩, ⟨(some 35), (.build [(.int .i64 0), (.int .u64 0), (.int .u64 0), (.int .i64 0), (.int .i64 0), (.str [])] [(0, (1, (.con (.int .i64 2)))), (1, (1, (.tmp 20))), (2, (1, (.tmp 23))), (3, (1, (.tmp 28))), (4, (1, (.tmp 29))), (5, (1, (.tmp 34)))]), none, none⟩, ⟨(some 36), (.call (.con (.func 55 [] [])) [(.tmp 35)]), none, none⟩, ⟨(some 18), (.mv (.tmp 36)), none, none⟩, ⟨(some 37), (.extract (.tmp 18) 0), none, none⟩, ⟨(some 38), (.extract (.tmp 18) 1), none, none⟩, ⟨(some 7), (.mv (.tmp 37)), none, none⟩, ⟨(some 8), (.mv (.tmp 38)), none, none⟩]) (.region [⟨(some 39), (.mv (.tmp 5)), none, none⟩, ⟨(some 40), (.mv (.tmp 7)), none, none⟩, ⟨(some 41), (.buildS 1 [(.str [])] [(0, (1, (.tmp 40)))]), none, none⟩, ⟨(some 42), (.append 1 16 (.tmp 39) (.tmp 41)), none, none⟩, ⟨(some 5), (.mv (.tmp 42)), none, none⟩]))) (.region [⟨(some 16), (.mv (.tmp 6)), none, none⟩, ⟨(some 17), (.bin .add (.tmp 16) (.con (.int .i64 1))), none, none⟩, ⟨(some 6), (.mv (.tmp 17)), none, none⟩])))
theorem loop36r {H : AHeap} {q : Nat} {lv : AVal} {j : JS} {l : List Im} (hl : Sl H 2 lv (l.flatMap ic)) (hid : ∀ i, i ∈ lv.ids → i < H.next) (ho : H.obj q = some (.cells (jr j) true)) (hq : q < H.next) (hc : chk l = true) (hn : l.length ≤ 2000) (he : j.epoch < 18446744073709551616) (hnum : j.number < 1000000) {env : Env}
    {v0 : AVal} (g0 : Gr H 1 v0 []) (hv0 : ∀ i, i ∈ v0.ids → i ≠ q) (h1 : env 1 = lv) (h2 : env 2 = .ptr q 0) (h5 : env 5 = v0) (h6 : env 6 = .int .i64 0) {B : Nat} (hB : ∀ i, i ∈ v0.ids → B ≤ i) (hBn : B ≤ H.next) (hlB : ∀ i, i ∈ lv.ids → i < B) (hqB : B ≤ q) :
    Outs (AX A (.loop b36r) env H) fun e env' K => e = .exit 0 ∧ env' 1 = lv ∧ env' 2 = .ptr q 0 ∧ K.obj q = some (.cells (jr j) true) ∧ ∃ v, env' 5 = v ∧ Gr K 1 v ((imgSs j 0 l).map .str) ∧ (∀ i, i ∈ v.ids → B ≤ i ∧ i ≠ q) ∧ H.next ≤ K.next ∧ Sl K 2 lv (l.flatMap ic) := by
  refine loop_ends (I := fun (i : Nat) env' K => i ≤ l.length ∧ env' 1 = lv ∧ env' 2 = .ptr q 0 ∧ env' 6 = .int .i64 (i : Int) ∧ K.obj q = some (.cells (jr j) true) ∧ (∃ v, env' 5 = v ∧ Gr K 1 v (((imgSs j 0 l).take i).map .str) ∧ (∀ i, i ∈ v.ids → B ≤ i ∧ i ≠ q)) ∧ H.next ≤ K.next ∧ Sl K 2 lv (l.flatMap ic)) (fun i => l.length - i) ?_ 0 env H
    ⟨Nat.zero_le _, h1, h2, h6, ho, ⟨v0, h5, by simpa using g0, fun i hi => ⟨hB i hi, hv0 i hi⟩⟩, Nat.le_refl _, hl⟩
  rintro i env1 K ⟨hi, h1, h2, h6, ho, ⟨v, h5, hg, hv⟩, hKn, hl⟩
  have ll := hl.alen
  rw [slen_fm ic_len (by decide) hl] at ll
  by_cases c : i < l.length
  · have c1 : decide ((i : Int) < (l.length : Int)) = true := by simp; omega
    have w1 : IntKind.i64.wrap ((i : Int) + 1) = ((i + 1 : Nat) : Int) := by rw [wrap_i64]; omega
    have w2 : IntKind.u64.wrap ((j.number : Int) + 1) = ((j.number + 1 : Nat) : Int) := by rw [wrapU64]; omega
    have hl2 := hl
    obtain ⟨id, off, cp, g, k, own, rfl, hok, _, _, hcc⟩ := hl.elem ic_len (by decide) c
    have ha : aidx l.length (.int .i64 (i : Int)) = some i := by simp [aidx]; omega
    have p0 := hcc 0 (by decide)
    have p1 := hcc 1 (by decide)
    have hok2 := img_ok j hc c (by omega)
    have hget := imgSs_get j l 0 i c
    rw [Nat.zero_add] at hget
    have ht : (imgSs j 0 l).take (i + 1) = (imgSs j 0 l).take i ++ [imgS j i l[i]] := by rw [List.take_add_one, hget, Option.toList_some]
    obtain ⟨x, ex⟩ : ∃ x, l[i] = x := ⟨_, rfl⟩
    rw [ex] at p0 p1 hok2 ht
    have p0 : k[off + i * 2]? = some (.int .i64 x.page) := p0
    have p1 : k[off + (i * 2 + 1)]? = some (.str x.text) := p1
    have u55 := fun M => U55 2 j.epoch (j.number + 1) x.page (i : Int) x.text he (by omega) M
    have e1 : Sec.sealb ⟨2, j.epoch, j.number + 1, x.page, (i : Int), x.text⟩ = imgS j i x := (Sd.seal_ok hok2).1
    have e2 : Sec.no ⟨2, j.epoch, j.number + 1, x.page, (i : Int), x.text⟩ = 0 := (Sd.seal_ok hok2).2
    rw [e1, e2] at u55
    have sl : slen v = i := by
      have := hg.sl.length
      rw [List.length_map, List.length_take, imgSs_len] at this
      omega
    obtain ⟨v2, K2, ea, g2, i2, f2, s2, a2, ea2⟩ := hg.push (by' := 16) (by decide) (x := [.str (imgS j i x)]) rfl (by rw [sl]; omega)
    rw [ea2] at ea
    have hqK : q < K.next := by omega
    have oq : K2.obj q = some (.cells (jr j) true) := by rw [f2.2 q hqK (fun hx => (hv q hx).2 rfl)]; exact ho
    have sl2 := hl2.fr f2 (fun jj hj => ⟨by have := hlB jj hj; omega, fun hx => by have := hlB jj hj; have := (hv jj hx).1; omega⟩)
    unfold jr at ho
    simp only [b36r, h1, h2, h5, h6, ll, c1, ha, ho, hok, p0, p1, u55, w1, w2, ea, rwA, rwB, Nat.reduceAdd, Nat.reduceMul, Nat.reduceLeDiff, Int.reduceEq, Int.reduceLT, Int.reduceLE, Int.reduceAdd, Int.reduceSub, Int.reduceMul, ↓reduceIte, Nat.reduceEqDiff, reduceCtorEq, ↓cnd_true, ↓cnd_false]
    rw [outs_some]
    refine .inl ⟨rfl, i + 1, by omega, by omega, by simp [Env.set, h1], by simp [Env.set, h2], by simp [Env.set], oq, ⟨v2, by rw [ea2]; simp [Env.set], by rw [ht]; simpa using g2, fun jj hj => by have := i2 jj hj; exact ⟨by omega, by omega⟩⟩, by have := f2.1; omega, sl2⟩
  · have e : i = l.length := by omega
    subst e
    have c1 : decide ((l.length : Int) < (l.length : Int)) = false := by simp
    simp only [b36r, h1, h2, h6, ll, c1, rwA, rwB, Nat.reduceAdd, Nat.reduceMul, Nat.reduceLeDiff, Int.reduceEq, Int.reduceLT, Int.reduceLE, Int.reduceAdd, Int.reduceSub, Int.reduceMul, ↓reduceIte, Nat.reduceEqDiff, reduceCtorEq, ↓cnd_true, ↓cnd_false]
    rw [outs_some]
    rw [List.take_of_length_le (by rw [imgSs_len]; exact Nat.le_refl _)] at hg
    exact .inr ⟨by simp, rfl, by simp [Env.set, h1], by simp [Env.set, h2], ho, v, by simp [Env.set, h5], hg, hv, hKn, hl⟩

theorem oldl_strs (n : Nat) (l : List (List UInt8)) : oldl n (l.map .str) = true := by
  induction l with
  | nil => rfl
  | cons a l ih => simp [oldl, AVal.old, ih]
theorem U36r {H : AHeap} {lv : AVal} {j : JS} {l : List Im} (hl : Sl H 2 lv (l.flatMap ic)) (hid : ∀ i, i ∈ lv.ids → i < H.next) (hc : chk l = true) (hn : l.length ≤ 2000) (he : j.epoch < 18446744073709551616) (hnum : j.number < 1000000) :
    ∃ v K, AC A 36 [.agg (jr j), lv] H = some (v, K) ∧ Gr K 1 v ((secs j l).map .str) ∧ Keeps H K ∧ ∀ i, i ∈ v.ids → H.next ≤ i := by
  refine look_gr (x := DnFns.c36) rfl rfl rfl (oldl_strs _ _) ?_
  obtain ⟨q, eq⟩ : ∃ q, (frz H).next = q := ⟨_, rfl⟩
  have eqH : H.next = q := eq
  obtain ⟨K1, eK1⟩ : ∃ K, (frz H).new (.cells (jr j) true) = K := ⟨_, rfl⟩
  have n1 : K1.next = q + 1 := by rw [← eK1, new_next, eq]
  obtain ⟨K2, eK2⟩ : ∃ K, K1.new (.cells [] true) = K := ⟨_, rfl⟩
  have g0 := Gr.empty K1 1
  rw [eK2, n1] at g0
  have k2 : Keeps (frz H) K2 := by rw [← eK2, ← eK1]; exact Keeps.new' (Keeps.new' (Keeps.refl _))
  have n2 : K2.next = q + 2 := by rw [← eK2, new_next, n1]
  have o0 : K2.obj q = some (.cells (jr j) true) := by rw [← eK2, new_obj, if_neg (by omega), ← eK1, new_obj, if_pos eq.symm]
  have hK := hl.frz.keep hid k2
  have w2 : IntKind.u64.wrap ((j.number : Int) + 1) = ((j.number + 1 : Nat) : Int) := by rw [wrapU64]; omega
  have L := fun env h1 h2 h5 h6 => loop36r (env := env) (v0 := .slice (q + 1) 0 0 0 none) (B := q) hK (fun i hi => by have := hid i hi; omega) o0 (by omega) hc hn he hnum g0 (by simp [AVal.ids]) h1 h2 h5 h6 (by simp [AVal.ids]) (by omega) (fun i hi => by have := hid i hi; omega) (Nat.le_refl _)
  have hok2 := end_ok j l (by omega)
  have u55 := fun M => U55 3 j.epoch (j.number + 1) 0 (l.length : Int) (noughts 480) he (by omega) M
  have e1 : Sec.sealb ⟨3, j.epoch, j.number + 1, 0, (l.length : Int), noughts 480⟩ = endS j l := (Sd.seal_ok hok2).1
  have e2 : Sec.no ⟨3, j.epoch, j.number + 1, 0, (l.length : Int), noughts 480⟩ = 0 := (Sd.seal_ok hok2).2
  rw [e1, e2] at u55
  unfold jr at eK1
  simp only [c36, jr, eq, n1, eK1, eK2, rwA, rwB, Nat.reduceAdd, Nat.reduceMul, Nat.reduceLeDiff, Int.reduceEq, Int.reduceLT, Int.reduceLE, Int.reduceAdd, Int.reduceSub, Int.reduceMul, ↓reduceIte, Nat.reduceEqDiff, reduceCtorEq, ↓cnd_true, ↓cnd_false]
  repeat (first | refine outs_seq ?_ | refine outs_block ?_ | refine outs_step ?_ | refine outs_stepD ?_ | refine rets_end ?_ | refine ans_end ?_)
  refine (L _ ?_ ?_ ?_ ?_).mono ?_
  · simp [Env.set, ainit]
  · simp [Env.set]
  · simp [Env.set]
  · simp [Env.set]
  rintro e env K ⟨rfl, h1, h2, ho, v, h5, hg, hv, hKn, hl⟩
  have ll := hl.alen
  rw [slen_fm ic_len (by decide) hl] at ll
  have sl : slen v = l.length := by
    have := hg.sl.length
    rw [List.length_map, imgSs_len] at this
    omega
  obtain ⟨v2, K3, ea, g2, i2, f2, s2, a2, ea2⟩ := hg.push (by' := 16) (by decide) (x := [.str (endS j l)]) rfl (by rw [sl]; omega)
  rw [ea2] at ea
  unfold jr at ho
  simp only [outs_some, h1, h2, h5, ho, ll, w2, U33b, u55, ea, rwA, rwB, Nat.reduceAdd, Nat.reduceMul, Nat.reduceLeDiff, Int.reduceEq, Int.reduceLT, Int.reduceLE, Int.reduceAdd, Int.reduceSub, Int.reduceMul, ↓reduceIte, Nat.reduceEqDiff, reduceCtorEq, ↓cnd_true, ↓cnd_false]
  rw [rets_some]
  rw [← ea2]
  exact ⟨by unfold secs; simpa using g2, fun i hi => by have := i2 i hi; omega⟩

end Go.Proofs.YtilhjcnkaelheaaGreat.Dk
end

section
/- The great seat: the reference's Append. -/
set_option maxRecDepth 100000
set_option linter.unusedSimpArgs false
set_option linter.unusedVariables false
set_option maxHeartbeats 8000000
namespace Go.Proofs.YtilhjcnkaelheaaGreat.Dk
open Go Go.Proofs.YtilhjcnkaelheaaGreat.Am DnFns Go.RowKit
open Sd (Sec noughts home homeno ofHome ofNo opened unfit pad)

theorem write_arm {d : DS} (h0 : 0 ≤ d.arm) (h1 : d.arm ≤ 9223372036854775807) (i : Int) (s : List UInt8) : 0 ≤ (d.write i s).1.arm ∧ (d.write i s).1.arm ≤ 9223372036854775807 := by
  unfold DS.write
  split
  · split
    · exact step_arm h0 h1
    · exact step_arm h0 h1
  · exact ⟨h0, h1⟩

structure AP (K : AHeap) (q : Nat) (W0 : List Nat) (vs vw : AVal) (d : DS) (j : JS) : Prop where
  r : R K vs vw d
  o0 : K.obj q = some (.cells (rc vs vw d) true)
  o1 : K.obj (q + 1) = some (.cells (jr j) true)
  o2 : K.obj (q + 2) = some (.cells [.nils, .nils, .int .i64 0, .bool false, .int .i64 0] true)
  o3 : K.obj (q + 3) = some (.cells [.int .i64 0, .int .u64 0, .int .i64 0, .int .u64 0] true)
  kn : q + 4 ≤ K.next
  si : ∀ i, i ∈ vs.ids → i < q
  wi : ∀ i, i ∈ vw.ids → i ∈ W0 ∨ q + 4 ≤ i
  wl : ∀ i, i ∈ W0 → i < q
  a0 : 0 ≤ d.arm
  a1 : d.arm ≤ 9223372036854775807
theorem AP.keeps {K K' : AHeap} {q : Nat} {W0 : List Nat} {vs vw : AVal} {d : DS} {j : JS} (h : AP K q W0 vs vw d j) (k : Keeps K K') : AP K' q W0 vs vw d j :=
  ⟨h.r.keeps k, by rw [k.2 _ (by have := h.kn; omega)]; exact h.o0, by rw [k.2 _ (by have := h.kn; omega)]; exact h.o1, by rw [k.2 _ (by have := h.kn; omega)]; exact h.o2, by rw [k.2 _ (by have := h.kn; omega)]; exact h.o3, by have := h.kn; have := k.1; omega, h.si, h.wi, h.wl, h.a0, h.a1⟩

def b9 : ACode := (.seq (.seq (.region [⟨(some 32), (.mv (.tmp 10)), none, none⟩, ⟨(some 33), (.mv (.tmp 9)), none, none⟩, ⟨(some 34), (.len false (.tmp 33)), none, none⟩, ⟨(some 35), (.bin .lss (.tmp 32) (.tmp 34)), none, none⟩]) (.cond (.tmp 35) .skip (.exit 0))) (.seq (.block 1 (.seq (.draw [⟨(some 39), (.load true 5 (.tmp 3)), none, none⟩, ⟨(some 40), (.fieldA 2 (.tmp 4)), none, none⟩, ⟨(some 41), (.load false 1 (.tmp 40)), none, none⟩, ⟨(some 42), (.bin .add (.con (.int .i64 1)) (.tmp 41)), none, none⟩, ⟨(some 43), (.mv (.tmp 10)), none, none⟩, ⟨(some 44), (.bin .add (.tmp 42) (.tmp 43)), none, none⟩, ⟨(some 45), (.mv (.tmp 9)), none, none⟩, ⟨(some 46), (.mv (.tmp 10)), none, none⟩, ⟨(some 47), (.idxASl 1 (.tmp 45) (.tmp 46)), none, none⟩, ⟨(some 48), (.load false 1 (.tmp 47)), none, none⟩, ⟨(some 49), (.call (.con (.func 18 [] [])) [(.tmp 39), (.tmp 44), (.tmp 48)]), none, none⟩, ⟨(some 38), (.mv (.tmp 49)), none, none⟩, ⟨(some 50), (.extract (.tmp 38) 0), none, none⟩, ⟨(some 51), (.extract (.tmp 38) 1), none, none⟩, ⟨(some 11), (.new [.nils, .nils, (.int .i64 0), (.bool false), (.int .i64 0)]), none, none⟩, ⟨none, (.store 5 (.tmp 11) (.tmp 50)), none, none⟩, ⟨(some 12), (.mv (.tmp 51)), none, none⟩]) (.seq (.region [⟨(some 52), (.load true 5 (.tmp 11)), none, none⟩, ⟨none, (.store 5 (.tmp 3) (.tmp 52)), none, none⟩]) (.seq (.region [⟨(some 53), (.mv (.tmp 12)), none, none⟩, ⟨(some 54), (.bin .neq (.tmp 53) (.con (.int .i64 0))), none, none⟩]) (.cond (.tmp 54) (.seq (.draw [⟨(some 55), (.load true 5 (.tmp 3)), none, none⟩, ⟨(some 56), (.load true 4 (.tmp 4)), none, (some (0, 1))⟩, ⟨(some 57), (.mv (.tmp 12)), none, none⟩, ⟨none, (.store 5 (.tmp 6) (.tmp 55)), none, none⟩, ⟨none, (.store 4 (.tmp 7) (.tmp 56)), none, none⟩, ⟨(some 8), (.mv (.tmp 57)), none, none⟩]) .ret) .skip))))) (.region [⟨(some 36), (.mv (.tmp 10)), none, none⟩, ⟨(some 37), (.bin .add (.tmp 36) (.con (.int .i64 1))), none, none⟩, ⟨(some 10), (.mv (.tmp 37)), none, none⟩])))
theorem loop9 {H0 H : AHeap} {q : Nat} {W0 : List Nat} {vs vw : AVal} {d : DS} {j : JS} {l : List Im} (h : AP H q W0 vs vw d j) (hB : H0.next = q) (hk : Keeps H0 H) (hw : d.w.length < 400000) (hj : j.wf) {sv : AVal} {S : List (List UInt8)} (hs : Sl H 1 sv (S.map .str)) (hsi : ∀ i, i ∈ sv.ids → q + 4 ≤ i ∧ i < H.next) (hn : S.length ≤ 2000) {env : Env}
    (h3 : env 3 = .ptr q 0) (h4 : env 4 = .ptr (q + 1) 0) (h6 : env 6 = .ptr (q + 2) 0) (h7 : env 7 = .ptr (q + 3) 0) (h9 : env 9 = sv) (h10 : env 10 = .int .i64 0) :
    Outs (AX A (.loop b9) env H) fun e env' K => Keeps H0 K ∧ env' 3 = .ptr q 0 ∧ env' 4 = .ptr (q + 1) 0 ∧ env' 6 = .ptr (q + 2) 0 ∧ env' 7 = .ptr (q + 3) 0 ∧
      ((e = .exit 0 ∧ env' 9 = sv ∧ (wseq d (1 + j.at') S).2 = 0 ∧ ∃ vw', AP K q W0 vs vw' (wseq d (1 + j.at') S).1 j) ∨
       (e = .ret ∧ (wseq d (1 + j.at') S).2 ≠ 0 ∧ env' 8 = .int .i64 (wseq d (1 + j.at') S).2 ∧ ∃ vw', R K vs vw' (wseq d (1 + j.at') S).1 ∧ (∀ i, i ∈ vw'.ids → i ∈ W0 ∨ q + 4 ≤ i) ∧ K.obj (q + 2) = some (.cells (rc vs vw' (wseq d (1 + j.at') S).1) true) ∧ K.obj (q + 3) = some (.cells (jr j) true))) := by
  obtain ⟨Z, hZ⟩ : ∃ Z, wseq d (1 + j.at') S = Z := ⟨_, rfl⟩
  rw [hZ]
  refine loop_ends (I := fun (i : Nat) env' K => i ≤ S.length ∧ env' 3 = .ptr q 0 ∧ env' 4 = .ptr (q + 1) 0 ∧ env' 6 = .ptr (q + 2) 0 ∧ env' 7 = .ptr (q + 3) 0 ∧ env' 9 = sv ∧ env' 10 = .int .i64 (i : Int) ∧ Keeps H0 K ∧ Sl K 1 sv (S.map .str) ∧ (∀ i, i ∈ sv.ids → q + 4 ≤ i ∧ i < K.next) ∧ ∃ vw' d', AP K q W0 vs vw' d' j ∧ d'.w.length ≤ d.w.length + i ∧ wseq d' (1 + j.at' + i) (S.drop i) = Z) (fun i => S.length - i) ?_ 0 env H
    ⟨Nat.zero_le _, h3, h4, h6, h7, h9, h10, hk, hs, hsi, vw, d, h, Nat.le_refl _, by simpa using hZ⟩
  rintro i env1 K ⟨hi, h3, h4, h6, h7, h9, h10, hk, hs, hsi, vw, d', h, hwl, hE⟩
  have ls := hs.alen
  rw [slen1 hs] at ls
  have kn := h.kn
  by_cases c : i < S.length
  · have c1 : decide ((i : Int) < (S.length : Int)) = true := by simp; omega
    have w1 : IntKind.i64.wrap ((i : Int) + 1) = ((i + 1 : Nat) : Int) := by rw [wrap_i64]; omega
    have js := hj.s2
    have ja := hj.a1
    obtain ⟨z, hz⟩ : ∃ z, 1 + j.at' + i = z := ⟨_, rfl⟩
    obtain ⟨y, hy⟩ : ∃ y, 1 + j.at' = y := ⟨_, rfl⟩
    have w2 : IntKind.i64.wrap (1 + (j.at' : Int)) = (y : Int) := by rw [wrap_i64]; omega
    have w3 : IntKind.i64.wrap ((y : Int) + (i : Int)) = (z : Int) := by rw [wrap_i64]; omega
    have hs2 := hs
    obtain ⟨id, off, cp, g, k, own, rfl, ho, _, hc⟩ := hs.elem1 c
    have ha : aidx S.length (.int .i64 (i : Int)) = some i := by simp [aidx]; omega
    have hd : S.drop i = S[i] :: S.drop (i + 1) := (List.getElem_cons_drop c).symm
    obtain ⟨b, eb⟩ : ∃ b, S[i] = b := ⟨_, rfl⟩
    rw [eb] at hc hd
    rw [hz, hd] at hE
    unfold wseq at hE
    obtain ⟨K1, vw1, e18, R1, k1, i1⟩ := U18 h.r h.a0 h.a1 (by omega) (z : Int) b
    have A1 := h.keeps k1
    have wa := write_arm h.a0 h.a1 (z : Int) b
    have ww := write_w d' (z : Int) b
    obtain ⟨d1, ed1⟩ : ∃ d1, (d'.write (z : Int) b).1 = d1 := ⟨_, rfl⟩
    obtain ⟨no, eno⟩ : ∃ no, (d'.write (z : Int) b).2 = no := ⟨_, rfl⟩
    have ep : d'.write (z : Int) b = (d1, no) := by rw [← ed1, ← eno]
    rw [ep] at e18 R1 wa ww hE
    simp only at e18 R1 wa ww hE
    obtain ⟨K2, eK2⟩ : ∃ X, (K1.new (.cells [.nils, .nils, .int .i64 0, .bool false, .int .i64 0] true)).set K1.next (.cells (rc vs vw1 d1) true) = X := ⟨_, rfl⟩
    have k2 : Keeps K1 K2 := by rw [← eK2]; exact Keeps.set' (Nat.le_refl _) (Keeps.new' (Keeps.refl _))
    have oN : K2.obj K1.next = some (.cells (rc vs vw1 d1) true) := by rw [← eK2, set_obj, if_pos rfl]
    have A2 := A1.keeps k2
    have n1 := A1.kn
    have x1 := k1.1
    have x2 := k2.1
    obtain ⟨K3, eK3⟩ : ∃ X, K2.set q (.cells (rc vs vw1 d1) true) = X := ⟨_, rfl⟩
    have f3 : Fr [q] K2 K3 := by rw [← eK3]; exact Fr.set (.inl (by simp)) (Fr.refl _ _)
    have x3 := f3.1
    have v1w : ∀ i, i ∈ vw1.ids → i ∈ W0 ∨ q + 4 ≤ i := fun i hi => (i1 i hi).elim (h.wi i) (fun h => by omega)
    have v1q : ∀ i, i ∈ vw1.ids → i < q ∨ q + 4 ≤ i := fun i hi => (v1w i hi).imp_left (h.wl i)
    have A3 : AP K3 q W0 vs vw1 d1 j := ⟨(R1.keeps k2).fr f3 (fun i hi => by have := h.si i hi; simp; omega) (fun i hi => by have := v1q i hi; simp; omega),
      by rw [← eK3, set_obj, if_pos rfl], by rw [f3.2 _ (by omega) (by simp)]; exact A2.o1, by rw [f3.2 _ (by omega) (by simp)]; exact A2.o2, by rw [f3.2 _ (by omega) (by simp)]; exact A2.o3, by omega, h.si, v1w, h.wl, wa.1, wa.2⟩
    have hk3 : Keeps H0 K3 := ⟨by have := hk.1; omega, fun i hi => by rw [f3.2 i (by have := hk.1; omega) (by simp; omega), k2.2 i (by have := hk.1; omega), k1.2 i (by have := hk.1; omega), hk.2 i hi]⟩
    have hs3 := ((hs2.keep (fun i hi => (hsi i hi).2) k1).keep (fun i hi => by have := (hsi i hi).2; omega) k2).fr f3 (fun i hi => ⟨by have := (hsi i hi).2; omega, by have := (hsi i hi).1; simp; omega⟩)
    have hsi3 : ∀ i, i ∈ (AVal.slice id off S.length cp g).ids → q + 4 ≤ i ∧ i < K3.next := fun i hi => ⟨(hsi i hi).1, by have := (hsi i hi).2; omega⟩
    have o0 := h.o0
    have o1 := h.o1
    have z0 := A2.o0
    have p0 := A3.o0
    have p1 := A3.o1
    have p2 := A3.o2
    have p3 := A3.o3
    have shp1 := sl_shape' h.r.ss
    have shp2 := sl_shape' h.r.sw
    have shp3 := sl_shape' R1.sw
    have m1 : (q + 2 = q) = False := by simp
    have m2 : (q + 3 = q) = False := by simp
    have m3 : (q + 3 = q + 2) = False := by simp
    have m4 : (q + 2 = q + 3) = False := by simp
    have m5 : (q + 1 = q + 2) = False := by simp
    have m6 : (q + 1 = q + 3) = False := by simp
    have m7 : (q = q + 2) = False := by simp
    have m8 : (q = q + 3) = False := by simp
    cases ce : decide (no = 0)
    · have ne : no ≠ 0 := by simpa using ce
      rw [if_neg ne] at hE
      obtain ⟨K4, eK4⟩ : ∃ X, (K3.set (q + 2) (.cells (rc vs vw1 d1) true)).set (q + 3) (.cells (jr j) true) = X := ⟨_, rfl⟩
      have f4 : Fr [q + 2, q + 3] K3 K4 := by rw [← eK4]; exact Fr.set (.inl (by simp)) (Fr.set (.inl (by simp)) (Fr.refl _ _))
      have hk4 : Keeps H0 K4 := ⟨by have := hk3.1; have := f4.1; omega, fun i hi => by rw [f4.2 i (by have := hk3.1; omega) (by simp; omega), hk3.2 i hi]⟩
      have R4 : R K4 vs vw1 d1 := A3.r.fr f4 (fun i hi => by have := h.si i hi; simp; omega) (fun i hi => by have := v1q i hi; simp; omega)
      have r2 : K4.obj (q + 2) = some (.cells (rc vs vw1 d1) true) := by rw [← eK4, set_obj, if_neg (by omega), set_obj, if_pos rfl]
      have r3 : K4.obj (q + 3) = some (.cells (jr j) true) := by rw [← eK4, set_obj, if_pos rfl]
      have goalE : K4.obj (q + 2) = some (.cells (rc vs vw1 Z.1) true) := by rw [← hE]; exact r2
      have goalR : R K4 vs vw1 Z.1 := by rw [← hE]; exact R4
      have hne : Z.2 ≠ 0 := by rw [← hE]; exact ne
      have hno : no = Z.2 := by rw [← hE]
      unfold rc at o0 z0 p0 oN eK2 eK3 e18 eK4
      unfold jr at o1 p1 eK4
      rcases shp1 with rfl | ⟨_, _, _, _, _, rfl⟩ <;> rcases shp2 with rfl | ⟨_, _, _, _, _, rfl⟩ <;> rcases shp3 with e3 | ⟨_, _, _, _, _, e3⟩
      all_goals
        rw [e3] at e18 oN p0 eK2 eK3 eK4
        simp only [b9, h3, h4, h6, h7, h9, h10, ls, c1, ha, ho, hc, o0, z0, o1, p0, p1, p2, p3, w2, w3, e18, eK2, oN, eK3, ce, eK4, m1, m2, m3, m4, m5, m6, m7, m8, if_false, rwA, rwB, Nat.reduceAdd, Nat.reduceMul, Nat.reduceLeDiff, Int.reduceEq, Int.reduceLT, Int.reduceLE, Int.reduceAdd, Int.reduceSub, Int.reduceMul, ↓reduceIte, Nat.reduceEqDiff, reduceCtorEq, ↓cnd_true, ↓cnd_false]
        rw [outs_some]
        exact .inr ⟨by simp, hk4, by simp [Env.set, h3], by simp [Env.set, h4], by simp [Env.set, h6], by simp [Env.set, h7], .inr ⟨rfl, hne, by simp [Env.set, hno], vw1, goalR, v1w, goalE, r3⟩⟩
    · have e0 : no = 0 := by simpa using ce
      rw [if_pos e0] at hE
      unfold rc at o0 z0 p0 oN eK2 eK3 e18
      unfold jr at o1 p1
      rcases shp1 with rfl | ⟨_, _, _, _, _, rfl⟩ <;> rcases shp2 with rfl | ⟨_, _, _, _, _, rfl⟩ <;> rcases shp3 with e3 | ⟨_, _, _, _, _, e3⟩
      all_goals
        rw [e3] at e18 oN p0 eK2 eK3
        simp only [b9, h3, h4, h6, h7, h9, h10, ls, c1, ha, ho, hc, o0, z0, o1, p0, p1, w2, w3, e18, eK2, oN, eK3, ce, w1, rwA, rwB, Nat.reduceAdd, Nat.reduceMul, Nat.reduceLeDiff, Int.reduceEq, Int.reduceLT, Int.reduceLE, Int.reduceAdd, Int.reduceSub, Int.reduceMul, ↓reduceIte, Nat.reduceEqDiff, reduceCtorEq, ↓cnd_true, ↓cnd_false]
        rw [outs_some]
        refine .inl ⟨rfl, i + 1, by omega, by omega, by simp [Env.set, h3], by simp [Env.set, h4], by simp [Env.set, h6], by simp [Env.set, h7], by simp [Env.set, h9], by simp [Env.set], hk3, hs3, hsi3, vw1, d1, A3, by omega, ?_⟩
        rw [← hE, show 1 + (j.at' + (i + 1)) = z + 1 by omega]
  · have e : i = S.length := by omega
    subst e
    have c1 : decide ((S.length : Int) < (S.length : Int)) = false := by simp
    rw [List.drop_eq_nil_of_le (Nat.le_refl _)] at hE
    have hz : Z = (d', 0) := hE.symm
    simp only [b9, h9, h10, ls, c1, rwA, rwB, Nat.reduceAdd, Nat.reduceMul, Nat.reduceLeDiff, Int.reduceEq, Int.reduceLT, Int.reduceLE, Int.reduceAdd, Int.reduceSub, Int.reduceMul, ↓reduceIte, Nat.reduceEqDiff, reduceCtorEq, ↓cnd_true, ↓cnd_false]
    rw [outs_some]
    exact .inr ⟨by simp, hk, by simp [Env.set, h3], by simp [Env.set, h4], by simp [Env.set, h6], by simp [Env.set, h7], .inl ⟨rfl, by simp [Env.set, h9], by rw [hz], vw, by rw [hz]; exact h⟩⟩

end Go.Proofs.YtilhjcnkaelheaaGreat.Dk
end

section
/- The great seat: the reference's Append, whole. -/
set_option maxRecDepth 100000
set_option linter.unusedSimpArgs false
set_option linter.unusedVariables false
set_option maxHeartbeats 8000000
namespace Go.Proofs.YtilhjcnkaelheaaGreat.Dk
open Go Go.Proofs.YtilhjcnkaelheaaGreat.Am DnFns Go.RowKit
open Sd (Sec noughts home homeno ofHome ofNo opened unfit pad)

theorem U9 {H : AHeap} {vs vw : AVal} {d : DS} {j : JS} (h : R H vs vw d) (a0 : 0 ≤ d.arm) (a1 : d.arm ≤ 9223372036854775807) (hw : d.w.length < 400000) (hj : j.wf) {lv : AVal} {l : List Im} (hl : Sl H 2 lv (l.flatMap ic)) (hid : ∀ i, i ∈ lv.ids → i < H.next) (hn : l.length ≤ 8796093022208) :
    ∃ H' vw', AC A 9 [.agg (rc vs vw d), .agg (jr j), lv] H = some (.tuple [.agg (rc vs vw' (app d j l).1), .agg (jr (app d j l).2.1), .int .i64 (app d j l).2.2], H') ∧ R H' vs vw' (app d j l).1 ∧ Keeps H H' ∧ ∀ i, i ∈ vw'.ids → i ∈ vw.ids ∨ H.next ≤ i := by
  obtain ⟨q, eq⟩ : ∃ q, H.next = q := ⟨_, rfl⟩
  obtain ⟨K0, eK0⟩ : ∃ X, (((H.new (.cells (rc vs vw d) true)).new (.cells (jr j) true)).new (.cells [.nils, .nils, .int .i64 0, .bool false, .int .i64 0] true)).new (.cells [.int .i64 0, .int .u64 0, .int .i64 0, .int .u64 0] true) = X := ⟨_, rfl⟩
  have k0 : Keeps H K0 := by rw [← eK0]; exact Keeps.new' (Keeps.new' (Keeps.new' (Keeps.new' (Keeps.refl _))))
  have n0 : K0.next = q + 4 := by rw [← eK0]; simp [new_next, eq]
  have o0 : K0.obj q = some (.cells (rc vs vw d) true) := by rw [← eK0]; simp only [new_obj, new_next, eq]; rw [if_neg (by omega), if_neg (by omega), if_neg (by omega), if_pos trivial]
  have o1 : K0.obj (q + 1) = some (.cells (jr j) true) := by rw [← eK0]; simp only [new_obj, new_next, eq]; rw [if_neg (by omega), if_neg (by omega), if_pos trivial]
  have o2 : K0.obj (q + 2) = some (.cells [.nils, .nils, .int .i64 0, .bool false, .int .i64 0] true) := by rw [← eK0]; simp only [new_obj, new_next, eq]; rw [if_neg (by omega), if_pos trivial]
  have o3 : K0.obj (q + 3) = some (.cells [.int .i64 0, .int .u64 0, .int .i64 0, .int .u64 0] true) := by rw [← eK0]; simp only [new_obj, new_next, eq]; rw [if_pos trivial]
  have A0 : AP K0 q vw.ids vs vw d j := ⟨h.keeps k0, o0, o1, o2, o3, by omega, fun i hi => by have := h.si i hi; omega, fun i hi => .inl hi, fun i hi => by have := h.wi i hi; omega, a0, a1⟩
  have hl0 := hl.keep hid k0
  have u35 := U35 hl0 hn
  have ll := hl0.alen
  rw [slen_fm ic_len (by decide) hl0] at ll
  have m1 : (q + 2 = q) = False := by simp
  have m2 : (q + 3 = q) = False := by simp
  have m3 : (q + 3 = q + 2) = False := by simp
  have m4 : (q + 2 = q + 3) = False := by simp
  have m5 : (q + 1 = q + 2) = False := by simp
  have m6 : (q + 1 = q + 3) = False := by simp
  have m7 : (q = q + 2) = False := by simp
  have m8 : (q = q + 3) = False := by simp
  have m9 : (q = q + 1) = False := by simp
  have m10 : (q + 3 = q + 1) = False := by simp
  have m11 : (q + 2 = q + 1) = False := by simp
  have m12 : (q + 1 = q) = False := by simp
  have a11 : q + 1 + 1 = q + 2 := rfl
  have a12 : q + 1 + 1 + 1 = q + 3 := rfl
  have js := hj.s2
  have ja := hj.a1
  have jn := hj.n1
  have key : Rets (AC A 9 [.agg (rc vs vw d), .agg (jr j), lv] H) fun u H' => ∃ vw', u = .tuple [.agg (rc vs vw' (app d j l).1), .agg (jr (app d j l).2.1), .int .i64 (app d j l).2.2] ∧ R H' vs vw' (app d j l).1 ∧ Keeps H H' ∧ ∀ i, i ∈ vw'.ids → i ∈ vw.ids ∨ q ≤ i := by
    rw [s_fn (A := A) (f := 9) (x := DnFns.c9) rfl rfl rfl]
    have shp1 := sl_shape' h.ss
    have shp2 := sl_shape' h.sw
    -- the two early answers
    have early : ∀ (no : Int), app d j l = (d, j, no) → ∀ K, (K0.set (q + 2) (.cells (rc vs vw d) true)).set (q + 3) (.cells (jr j) true) = K →
        ∃ vw', AVal.tuple [.agg (rc vs vw d), .agg (jr j), .int .i64 no] = .tuple [.agg (rc vs vw' (app d j l).1), .agg (jr (app d j l).2.1), .int .i64 (app d j l).2.2] ∧ R K vs vw' (app d j l).1 ∧ Keeps H K ∧ ∀ i, i ∈ vw'.ids → i ∈ vw.ids ∨ q ≤ i := by
      rintro no e K rfl
      rw [e]
      have kf : Keeps H ((K0.set (q + 2) (.cells (rc vs vw d) true)).set (q + 3) (.cells (jr j) true)) := Keeps.set' (by omega) (Keeps.set' (by omega) k0)
      exact ⟨vw, rfl, h.keeps kf, kf, fun i hi => .inl hi⟩
    obtain ⟨KE, eKE⟩ : ∃ X, (K0.set (q + 2) (.cells (rc vs vw d) true)).set (q + 3) (.cells (jr j) true) = X := ⟨_, rfl⟩
    have rE2 : KE.obj (q + 2) = some (.cells (rc vs vw d) true) := by rw [← eKE, set_obj, if_neg (by omega), set_obj, if_pos rfl]
    have rE3 : KE.obj (q + 3) = some (.cells (jr j) true) := by rw [← eKE, set_obj, if_pos rfl]
    cases c1 : chk l
    · have ea : app d j l = (d, j, 18) := by unfold app; rw [if_pos c1]
      have E := early 18 ea KE eKE
      rw [c1] at u35
      clear early
      unfold rc at eK0 o0 eKE rE2
      unfold jr at eK0 o1 eKE rE3
      rw [show rc vs vw d = [vs, vw, .int .i64 d.arm, .bool d.dead, .int .i64 d.ops] from rfl, show jr j = [.int .i64 (j.size : Int), .int .u64 (j.epoch : Int), .int .i64 (j.at' : Int), .int .u64 (j.number : Int)] from rfl] at E ⊢
      rcases shp1 with rfl | ⟨_, _, _, _, _, rfl⟩ <;> rcases shp2 with rfl | ⟨_, _, _, _, _, rfl⟩
      all_goals
        simp only [c9, eq, new_next, a11, a12, eK0, u35, o0, o1, o2, o3, eKE, rE2, rE3, m1, m2, m3, m4, m5, m6, m7, m8, if_false, rwA, rwB, Nat.reduceAdd, Nat.reduceMul, Nat.reduceLeDiff, Int.reduceEq, Int.reduceLT, Int.reduceLE, Int.reduceAdd, Int.reduceSub, Int.reduceMul, ↓reduceIte, Nat.reduceEqDiff, reduceCtorEq, ↓cnd_true, ↓cnd_false]
        rw [rets_some]
        exact E
    have wl1 : IntKind.i64.wrap ((l.length : Int) + 1) = ((l.length + 1 : Nat) : Int) := by rw [wrap_i64]; omega
    have wl2 : IntKind.i64.wrap ((j.size : Int) - (j.at' : Int)) = (j.size : Int) - (j.at' : Int) := by rw [wrap_i64]; omega
    have gz : ∀ x y : Int, decide (x > y) = decide (y < x) := fun _ _ => rfl
    rw [c1] at u35
    cases c2 : decide ((j.size : Int) - (j.at' : Int) < ((l.length + 1 : Nat) : Int))
    rotate_left
    · have ea : app d j l = (d, j, 14) := by
        unfold app; rw [if_neg (by rw [c1]; decide), if_pos (by have := of_decide_eq_true c2; omega)]
      have E := early 14 ea KE eKE
      clear early
      unfold rc at eK0 o0 eKE rE2
      unfold jr at eK0 o1 eKE rE3
      rw [show rc vs vw d = [vs, vw, .int .i64 d.arm, .bool d.dead, .int .i64 d.ops] from rfl, show jr j = [.int .i64 (j.size : Int), .int .u64 (j.epoch : Int), .int .i64 (j.at' : Int), .int .u64 (j.number : Int)] from rfl] at E ⊢
      rcases shp1 with rfl | ⟨_, _, _, _, _, rfl⟩ <;> rcases shp2 with rfl | ⟨_, _, _, _, _, rfl⟩
      all_goals
        simp only [c9, eq, new_next, a11, a12, eK0, u35, ll, wl1, wl2, c2, o0, o1, o2, o3, eKE, rE2, rE3, m1, m2, m3, m4, m5, m6, m7, m8, if_false, rwA, rwB, Nat.reduceAdd, Nat.reduceMul, Nat.reduceLeDiff, Int.reduceEq, Int.reduceLT, Int.reduceLE, Int.reduceAdd, Int.reduceSub, Int.reduceMul, ↓reduceIte, Nat.reduceEqDiff, reduceCtorEq, ↓cnd_true, ↓cnd_false]
        rw [rets_some]
        exact E
    have hroom : ¬ j.size - j.at' ≤ l.length := by have := of_decide_eq_false c2; omega
    obtain ⟨sv, K1, e36, g36, k1, i36⟩ := U36r hl0 (fun i hi => by have := hid i hi; omega) c1 (by omega) hj.e1 hj.n1
    have A1 := A0.keeps k1
    have hk1 := k0.trans k1
    have L := fun env h3 h4 h6 h7 h9 h10 => loop9 (l := l) (env := env) A1 eq hk1 hw hj g36.sl (fun i hi => ⟨by have := i36 i hi; omega, g36.lt i hi⟩) (by rw [secs_len]; omega) h3 h4 h6 h7 h9 h10
    have lsec : (secs j l).length = l.length + 1 := secs_len j l
    unfold jr at e36
    have o1' := o1
    have eK0' := eK0
    unfold rc jr at eK0
    unfold rc at o0
    unfold jr at o1
    rw [show rc vs vw d = [vs, vw, .int .i64 d.arm, .bool d.dead, .int .i64 d.ops] from rfl, show jr j = [.int .i64 (j.size : Int), .int .u64 (j.epoch : Int), .int .i64 (j.at' : Int), .int .u64 (j.number : Int)] from rfl]
    have fin : ∀ {env : Env}, env 3 = .ptr q 0 → env 4 = .ptr (q + 1) 0 → env 6 = .ptr (q + 2) 0 → env 7 = .ptr (q + 3) 0 → env 9 = sv → env 10 = .int .i64 0 → Outs (AX A (.loop b9) env K1) _ := fun {env} h3 h4 h6 h7 h9 h10 => L env h3 h4 h6 h7 h9 h10
    rcases shp1 with hv1 | ⟨_, _, _, _, _, hv1⟩ <;> rcases shp2 with hv2 | ⟨_, _, _, _, _, hv2⟩ <;> rcases g36.shape with hv3 | ⟨_, _, _, hv3⟩
    all_goals
      have eK0c := eK0
      have o0c := o0
      have e36c := e36
      rw [hv1, hv2] at eK0c o0c
      rw [hv3] at e36c
      rw [hv1, hv2]
      simp only [c9, eq, new_next, a11, a12, eK0c, u35, ll, wl1, wl2, c2, o0c, o1, e36c, rwA, rwB, Nat.reduceAdd, Nat.reduceMul, Nat.reduceLeDiff, Int.reduceEq, Int.reduceLT, Int.reduceLE, Int.reduceAdd, Int.reduceSub, Int.reduceMul, ↓reduceIte, Nat.reduceEqDiff, reduceCtorEq, ↓cnd_true, ↓cnd_false]
      repeat (first | refine outs_seq ?_ | refine outs_block ?_ | refine outs_step ?_ | refine outs_stepD ?_ | refine rets_end ?_ | refine ans_end ?_)
      refine (fin ?_ ?_ ?_ ?_ ?_ ?_).mono ?_
      · simp [Env.set]
      · simp [Env.set]
      · simp [Env.set]
      · simp [Env.set]
      · simp [Env.set, hv3]
      · simp [Env.set]
      rintro e env K ⟨hkK, q3, q4, q6, q7, (⟨rfl, q9, hz, vw', AZ⟩ | ⟨rfl, hz, q8, vw', RZ, wZ, r2, r3⟩)⟩
      · have ea : app d j l = ((wseq d (1 + j.at') (secs j l)).1, { j with at' := j.at' + (l.length + 1), number := j.number + 1 }, 0) := by
          unfold app; rw [if_neg (by rw [c1]; decide), if_neg hroom, if_pos hz]
        obtain ⟨Z, eZ⟩ : ∃ Z, (wseq d (1 + j.at') (secs j l)).1 = Z := ⟨_, rfl⟩
        rw [eZ] at ea AZ
        have l9 : alenT false sv = some (l.length + 1) := by rw [g36.sl.alen, slen1 g36.sl, lsec]
        have x1 : IntKind.i64.wrap ((j.at' : Int) + ((l.length + 1 : Nat) : Int)) = ((j.at' + (l.length + 1) : Nat) : Int) := by rw [wrap_i64]; omega
        have x2 : IntKind.u64.wrap ((j.number : Int) + 1) = ((j.number + 1 : Nat) : Int) := by rw [wrapU64]; omega
        obtain ⟨jn', ejn⟩ : ∃ jn', ({ j with at' := j.at' + (l.length + 1), number := j.number + 1 } : JS) = jn' := ⟨_, rfl⟩
        have ejr : jr jn' = [.int .i64 (j.size : Int), .int .u64 (j.epoch : Int), .int .i64 ((j.at' + (l.length + 1) : Nat) : Int), .int .u64 ((j.number + 1 : Nat) : Int)] := by rw [← ejn]; rfl
        obtain ⟨K2, eK2⟩ : ∃ X, K.set (q + 1) (.cells (jr jn') true) = X := ⟨_, rfl⟩
        obtain ⟨K3, eK3⟩ : ∃ X, (K2.set (q + 2) (.cells (rc vs vw' Z) true)).set (q + 3) (.cells (jr jn') true) = X := ⟨_, rfl⟩
        have z0 := AZ.o0
        have z1 := AZ.o1
        have b0 : K2.obj q = some (.cells (rc vs vw' Z) true) := by rw [← eK2, set_obj, if_neg (by omega)]; exact z0
        have b1 : K2.obj (q + 1) = some (.cells (jr jn') true) := by rw [← eK2, set_obj, if_pos rfl]
        have b2 : K2.obj (q + 2) = some (.cells [.nils, .nils, .int .i64 0, .bool false, .int .i64 0] true) := by rw [← eK2, set_obj, if_neg (by omega)]; exact AZ.o2
        have b3 : K2.obj (q + 3) = some (.cells [.int .i64 0, .int .u64 0, .int .i64 0, .int .u64 0] true) := by rw [← eK2, set_obj, if_neg (by omega)]; exact AZ.o3
        have d2 : K3.obj (q + 2) = some (.cells (rc vs vw' Z) true) := by rw [← eK3, set_obj, if_neg (by omega), set_obj, if_pos rfl]
        have d3 : K3.obj (q + 3) = some (.cells (jr jn') true) := by rw [← eK3, set_obj, if_pos rfl]
        have f3 : Fr [q + 1, q + 2, q + 3] K K3 := by rw [← eK3, ← eK2]; exact Fr.set (.inl (by simp)) (Fr.set (.inl (by simp)) (Fr.set (.inl (by simp)) (Fr.refl _ _)))
        have hk3 : Keeps H K3 := ⟨by have := hkK.1; have := f3.1; omega, fun i hi => by rw [f3.2 i (by have := hkK.1; omega) (by simp; omega), hkK.2 i hi]⟩
        have R3 : R K3 vs vw' Z := AZ.r.fr f3 (fun i hi => by have := AZ.si i hi; simp; omega) (fun i hi => by have := (AZ.wi i hi).imp_left (AZ.wl i); simp; omega)
        have wz : ∀ i, i ∈ vw'.ids → i ∈ vw.ids ∨ q ≤ i := fun i hi => (AZ.wi i hi).imp_right (fun h => by omega)
        have E : ∃ vw'', AVal.tuple [.agg (rc vs vw' Z), .agg (jr jn'), .int .i64 0] = .tuple [.agg (rc vs vw'' (app d j l).1), .agg (jr (app d j l).2.1), .int .i64 (app d j l).2.2] ∧ R K3 vs vw'' (app d j l).1 ∧ Keeps H K3 ∧ ∀ i, i ∈ vw''.ids → i ∈ vw.ids ∨ q ≤ i := by
          rw [ea, ejn]; exact ⟨vw', rfl, R3, hk3, wz⟩
        rw [hv1, hv2] at E
        unfold rc at z0 b0 d2 eK3 E
        rw [ejr] at eK2 b1 eK3 d3 E
        unfold jr at z1
        rw [hv1] at z0 b0 d2 eK3
        rcases sl_shape' AZ.r.sw with e3 | ⟨_, _, _, _, _, e3⟩
        all_goals
          rw [e3] at z0 b0 d2 eK3 E
          simp only [outs_some, q3, q4, q6, q7, q9, l9, z0, z1, x1, x2, AHeap.set_set, eK2, b0, b1, b2, b3, eK3, d2, d3, m1, m2, m3, m4, m5, m6, m7, m8, if_false, rwA, rwB, Nat.reduceAdd, Nat.reduceMul, Nat.reduceLeDiff, Int.reduceEq, Int.reduceLT, Int.reduceLE, Int.reduceAdd, Int.reduceSub, Int.reduceMul, ↓reduceIte, Nat.reduceEqDiff, reduceCtorEq, ↓cnd_true, ↓cnd_false]
          rw [rets_some]
          exact E
      · have ea : app d j l = ((wseq d (1 + j.at') (secs j l)).1, j, (wseq d (1 + j.at') (secs j l)).2) := by
          unfold app; rw [if_neg (by rw [c1]; decide), if_neg hroom, if_neg hz]
        obtain ⟨Z, eZ⟩ : ∃ Z, wseq d (1 + j.at') (secs j l) = Z := ⟨_, rfl⟩
        rw [eZ] at ea RZ r2 q8
        have wz : ∀ i, i ∈ vw'.ids → i ∈ vw.ids ∨ q ≤ i := fun i hi => (wZ i hi).imp_right (fun h => by omega)
        have E : ∃ vw'', AVal.tuple [.agg (rc vs vw' Z.1), .agg (jr j), .int .i64 Z.2] = .tuple [.agg (rc vs vw'' (app d j l).1), .agg (jr (app d j l).2.1), .int .i64 (app d j l).2.2] ∧ R K vs vw'' (app d j l).1 ∧ Keeps H K ∧ ∀ i, i ∈ vw''.ids → i ∈ vw.ids ∨ q ≤ i := by
          rw [ea]; exact ⟨vw', rfl, RZ, hkK, wz⟩
        rw [hv1, hv2] at E
        unfold rc at r2 E
        unfold jr at r3 E
        rw [hv1] at r2
        rcases sl_shape' RZ.sw with e3 | ⟨_, _, _, _, _, e3⟩
        all_goals
          rw [e3] at r2 E
          simp only [outs_some, q6, q7, q8, r2, r3, rwA, rwB, Nat.reduceAdd, Nat.reduceMul, Nat.reduceLeDiff, Int.reduceEq, Int.reduceLT, Int.reduceLE, Int.reduceAdd, Int.reduceSub, Int.reduceMul, ↓reduceIte, Nat.reduceEqDiff, reduceCtorEq, ↓cnd_true, ↓cnd_false]
          rw [rets_some]
          exact E
  obtain ⟨u, H', e, vw', rfl, h1, h2, h3⟩ := key
  exact ⟨H', vw', e, h1, h2, by rw [eq]; exact h3⟩

end Go.Proofs.YtilhjcnkaelheaaGreat.Dk
end

section
/- The great seat: the reference's scanner (one). -/
set_option maxRecDepth 100000
set_option linter.unusedSimpArgs false
set_option linter.unusedVariables false
set_option maxHeartbeats 8000000
namespace Go.Proofs.YtilhjcnkaelheaaGreat.Dk
open Go Go.Proofs.YtilhjcnkaelheaaGreat.Am DnFns Go.RowKit
open Sd (Sec noughts home homeno ofHome ofNo opened unfit pad)

theorem open_ok {b : List UInt8} (h : unfit b = 0) : (opened b).ok = true := by
  unfold unfit at h
  unfold opened
  split at h
  · rename_i hf
    rw [if_pos hf]
    exact (Sd.fits_is hf).1
  · exact absurd h (by decide)
theorem open_at {b : List UInt8} (h : unfit b = 0) : 0 ≤ (opened b).at' ∧ (opened b).page.length = 480 := by
  have := open_ok h
  unfold Sec.ok Sd.short at this
  simp only [Bool.and_eq_true, decide_eq_true_eq] at this
  omega
theorem page_nought {s : List UInt8} (h : s.length = 480) : decide (s = noughts 480) = s.all (· == 0) := by
  cases c : s.all (· == 0)
  · refine decide_eq_false (fun e => ?_)
    rw [e] at c
    simp [noughts] at c
  · refine decide_eq_true ?_
    unfold noughts
    rw [List.all_eq_true] at c
    exact List.eq_replicate_iff.2 ⟨h, fun x hx => by simpa using c x hx⟩

def on (all : List (List UInt8)) (ep num : Nat) : Nat → Nat → List Im → List Im
  | 0, _, _ => []
  | f + 1, i, out =>
    if i < all.length then
      if isof ep num out.length (all.getD i []) = 1 then on all ep num f (i + 1) (out ++ [⟨(opened (all.getD i [])).at', (opened (all.getD i [])).page⟩])
      else if isof ep num out.length (all.getD i []) = 2 then out else []
    else []

def b58r : ACode := (.seq (.seq (.region [⟨(some 15), (.mv (.tmp 10)), none, none⟩, ⟨(some 16), (.mv (.tmp 0)), none, none⟩, ⟨(some 17), (.len false (.tmp 16)), none, none⟩, ⟨(some 18), (.bin .lss (.tmp 15) (.tmp 17)), none, none⟩]) (.cond (.tmp 18) .skip (.exit 0))) (.seq (.block 1 (.seq (.region [⟨(some 22), (.mv (.tmp 0)), none, none⟩, ⟨(some 23), (.mv (.tmp 10)), none, none⟩, ⟨(some 24), (.idxASl 1 (.tmp 22) (.tmp 23)), none, none⟩, ⟨(some 25), (.load false 1 (.tmp 24)), none, none⟩, ⟨(some 26), (.call (.con (.func 76 [] [])) [(.tmp 25)]), none, none⟩, ⟨(some 21), (.mv (.tmp 26)), none, none⟩, ⟨(some 27), (.extract (.tmp 21) 0), none, none⟩, ⟨(some 28), (.extract (.tmp 21) 1), none, none⟩, ⟨(some 11), (.new [(.int .i64 0), (.int .u64 0), (.int .u64 0), (.int .i64 0), (.int .i64 0), (.str [])]), none, none⟩, ⟨none, (.store 6 (.tmp 11) (.tmp 27)), none, none⟩, ⟨(some 12), (.mv (.tmp 28)), none, none⟩]) (.seq (.seq (.region [⟨(some 29), (.mv (.tmp 12)), none, none⟩, ⟨(some 30), (.bin .neq (.tmp 29) (.con (.int .i64 0))), none, none⟩, ⟨(some 31), (.mv (.tmp 30)), none, none⟩, ⟨(some 32), (.fieldA 1 (.tmp 11)), (some (31, false)), none⟩, ⟨(some 33), (.load false 1 (.tmp 32)), (some (31, false)), none⟩, ⟨(some 34), (.mv (.tmp 2)), (some (31, false)), none⟩, ⟨(some 35), (.bin .neq (.tmp 33) (.tmp 34)), (some (31, false)), none⟩, ⟨(some 36), (.pick (.tmp 31) (.con (.bool true)) (.tmp 35)), none, none⟩, ⟨(some 37), (.mv (.tmp 36)), none, none⟩, ⟨(some 38), (.fieldA 2 (.tmp 11)), (some (37, false)), none⟩, ⟨(some 39), (.load false 1 (.tmp 38)), (some (37, false)), none⟩, ⟨(some 40), (.mv (.tmp 3)), (some (37, false)), none⟩, ⟨(some 41), (.bin .neq (.tmp 39) (.tmp 40)), (some (37, false)), none⟩, ⟨(some 42), (.pick (.tmp 37) (.con (.bool true)) (.tmp 41)), none, none⟩, ⟨(some 43), (.mv (.tmp 42)), none, none⟩, ⟨(some 44), (.fieldA 4 (.tmp 11)), (some (43, false)), none⟩, ⟨(some 45), (.load false 1 (.tmp 44)), (some (43, false)), none⟩, ⟨(some 46), (.mv (.tmp 9)), (some (43, false)), none⟩, ⟨(some 47), (.len false (.tmp 46)), (some (43, false)), none⟩, ⟨(some 48), (.bin .neq (.tmp 45) (.tmp 47)), (some (43, false)), none⟩, ⟨(some 49), (.pick (.tmp 43) (.con (.bool true)) (.tmp 48)), none, none⟩]) (.cond (.tmp 49) (.seq (.region [⟨(some 8), (.mv (.con .nils)), none, none⟩]) .ret) .skip)) (.seq (.seq (.draw [⟨(some 50), (.fieldA 0 (.tmp 11)), none, none⟩, ⟨(some 51), (.load false 1 (.tmp 50)), none, none⟩, ⟨(some 52), (.bin .eql (.tmp 51) (.con (.int .i64 3))), none, none⟩, ⟨(some 53), (.mv (.tmp 52)), none, none⟩, ⟨(some 54), (.fieldA 3 (.tmp 11)), (some (53, true)), none⟩, ⟨(some 55), (.load false 1 (.tmp 54)), (some (53, true)), none⟩, ⟨(some 56), (.bin .eql (.tmp 55) (.con (.int .i64 0))), (some (53, true)), none⟩, ⟨(some 57), (.pick (.tmp 53) (.tmp 56) (.con (.bool false))), none, none⟩, ⟨(some 58), (.mv (.tmp 57)), none, none⟩, ⟨(some 59), (.fieldA 5 (.tmp 11)), (some (58, true)), none⟩, ⟨(some 60), (.load false 1 (.tmp 59)), (some (58, true)), (some (0, 1))⟩, ⟨(some 61), (.call (.con (.func 33 [] [])) [(.con (.int .i64 480))]), (some (58, true)), none⟩, ⟨(some 62), (.bin .eql (.tmp 60) (.tmp 61)), (some (58, true)), none⟩, ⟨(some 63), (.pick (.tmp 58) (.tmp 62) (.con (.bool false))), none, none⟩]) (.cond (.tmp 63) (.seq (.region [⟨(some 64), (.mv (.tmp 9)), none, none⟩, ⟨(some 8), (.mv (.tmp 64)), none, none⟩]) .ret) .skip)) (.seq (.seq (.region [⟨(some 65), (.fieldA 0 (.tmp 11)), none, none⟩, ⟨(some 66), (.load false 1 (.tmp 65)), none, none⟩, ⟨(some 67), (.bin .neq (.tmp 66) (.con (.int .i64 2))), none, none⟩, ⟨(some 68), (.mv (.tmp 67)), none, none⟩, ⟨(some 69), (.fieldA 3 (.tmp 11)), (some (68, false)), none⟩, ⟨(some 70), (.load false 1 (.tmp 69)), (some (68, false)), none⟩, ⟨(some 71), (.bin .gtr (.tmp 70) (.con (.int .i64 3839))), (some (68, false)), none⟩, ⟨(some 72), (.pick (.tmp 68) (.con (.bool true)) (.tmp 71)), none, none⟩]) (.cond (.tmp 72) (.seq (.region [⟨(some 8), (.mv (.con .nils)), none, none⟩]) .ret) .skip)) (.region [⟨(some 73), (.mv (.tmp 9)), none, none⟩, ⟨(some 74), (.fieldA 3 (.tmp 11)), none, none⟩, ⟨(some 75), (.load false 1 (.tmp 74)), none, none⟩, ⟨(some 76), (.fieldA 5 (.tmp 11)), none, none⟩, ⟨(some 77), (.load false 1 (.tmp 76)), none, none⟩, ⟨(some 78), (.build [(.int .i64 0), (.str [])] [(0, (1, (.tmp 75))), (1, (1, (.tmp 77)))]), none, none⟩, ⟨(some 79), (.buildS 1 [(.int .i64 0), (.str [])] [(0, (2, (.tmp 78)))]), none, none⟩, ⟨(some 80), (.append 2 24 (.tmp 73) (.tmp 79)), none, none⟩, ⟨(some 9), (.mv (.tmp 80)), none, none⟩])))))) (.region [⟨(some 19), (.mv (.tmp 10)), none, none⟩, ⟨(some 20), (.bin .add (.tmp 19) (.con (.int .i64 1))), none, none⟩, ⟨(some 10), (.mv (.tmp 20)), none, none⟩])))
theorem loop58r {H : AHeap} {av : AVal} {all : List (List UInt8)} (hs : Sl H 1 av (all.map .str)) (hid : ∀ i, i ∈ av.ids → i < H.next) (hn : all.length ≤ 1024) {ep num at0 : Nat} (ha : at0 ≤ all.length) {B : Nat} {v0 : AVal} (g0 : Gr H 2 v0 []) (hB : ∀ i, i ∈ v0.ids → B ≤ i) (hBn : B ≤ H.next) (hlB : ∀ i, i ∈ av.ids → i < B) {env : Env}
    (h0 : env 0 = av) (h2 : env 2 = .int .u64 (ep : Int)) (h3 : env 3 = .int .u64 (num : Int)) (h9 : env 9 = v0) (h10 : env 10 = .int .i64 (at0 : Int)) :
    Outs (AX A (.loop b58r) env H) fun e env' K => (e = .exit 0 ∧ on all ep num 1025 at0 [] = []) ∨
      (e = .ret ∧ ∃ v, env' 8 = v ∧ Gr K 2 v ((on all ep num 1025 at0 []).flatMap ic) ∧ ∀ i, i ∈ v.ids → B ≤ i) := by
  obtain ⟨R, hR⟩ : ∃ R, on all ep num 1025 at0 [] = R := ⟨_, rfl⟩
  rw [hR]
  refine loop_ends (I := fun (i : Nat) env' K => i ≤ all.length ∧ env' 0 = av ∧ env' 2 = .int .u64 (ep : Int) ∧ env' 3 = .int .u64 (num : Int) ∧ env' 10 = .int .i64 (i : Int) ∧ Sl K 1 av (all.map .str) ∧ H.next ≤ K.next ∧ ∃ v out, env' 9 = v ∧ Gr K 2 v (out.flatMap ic) ∧ (∀ i, i ∈ v.ids → B ≤ i) ∧ out.length + at0 = i ∧ on all ep num (1025 - out.length) i out = R) (fun i => all.length - i) ?_ at0 env H
    ⟨ha, h0, h2, h3, h10, hs, Nat.le_refl _, v0, [], h9, g0, hB, by simp, hR⟩
  rintro i env1 K ⟨hi, h0, h2, h3, h10, hs, hKn, v, out, h9, hg, hv, hoi, hE⟩
  have ls := hs.alen
  rw [slen1 hs] at ls
  obtain ⟨fu, efu⟩ : ∃ fu, 1025 - out.length = fu + 1 := ⟨1024 - out.length, by omega⟩
  rw [efu] at hE
  unfold on at hE
  by_cases c : i < all.length
  · rw [if_pos c] at hE
    have c0 : decide ((i : Int) < (all.length : Int)) = true := by simp; omega
    have w1 : IntKind.i64.wrap ((i : Int) + 1) = ((i + 1 : Nat) : Int) := by rw [wrap_i64]; omega
    have hs2 := hs
    obtain ⟨id, off, cp, g, k, own, rfl, ho, _, hc⟩ := hs.elem1 c
    have hx : aidx all.length (.int .i64 (i : Int)) = some i := by simp [aidx]; omega
    have gd : all.getD i [] = all[i] := by simp [c]
    rw [gd] at hE
    obtain ⟨b, eb⟩ : ∃ b, all[i] = b := ⟨_, rfl⟩
    rw [eb] at hc hE
    have u76 := fun M => U76 b M
    obtain ⟨x, ex⟩ : ∃ x, opened b = x := ⟨_, rfl⟩
    have hat := @open_at b
    rw [ex] at u76 hE hat
    obtain ⟨q, hq⟩ : ∃ q, isof ep num out.length b = q := ⟨_, rfl⟩
    rw [hq] at hE
    unfold isof at hq
    rw [ex] at hq
    obtain ⟨K1, eK1⟩ : ∃ K1, (K.new (.cells [.int .i64 0, .int .u64 0, .int .u64 0, .int .i64 0, .int .i64 0, .str []] true)).set K.next (.cells [.int .i64 x.kind, .int .u64 (x.epoch : Int), .int .u64 (x.number : Int), .int .i64 x.at', .int .i64 x.many, .str x.page] true) = K1 := ⟨_, rfl⟩
    have k1 : Keeps K K1 := by rw [← eK1]; exact Keeps.set' (Nat.le_refl _) (Keeps.new' (Keeps.refl _))
    have oN : K1.obj K.next = some (.cells [.int .i64 x.kind, .int .u64 (x.epoch : Int), .int .u64 (x.number : Int), .int .i64 x.at', .int .i64 x.many, .str x.page] true) := by rw [← eK1, set_obj, if_pos rfl]
    have n1 : K1.next = K.next + 1 := by rw [← eK1, set_next, new_next]
    have g1 := hg.fr (L := []) (Fr.of k1) (by simp)
    have ll := g1.sl.alen
    have sl : slen v = out.length := slen_fm ic_len (by decide) g1.sl
    rw [sl] at ll
    have fin : ∀ (env' : Env), env' 8 = .nils → [] = R → (AExit.ret = .exit 0 ∧ R = []) ∨ (AExit.ret = .ret ∧ ∃ v, env' 8 = v ∧ Gr K1 2 v (R.flatMap ic) ∧ ∀ i, i ∈ v.ids → B ≤ i) := by
      intro env' e8 e
      rw [← e]
      exact .inr ⟨rfl, .nils, e8, Gr.nil _ _, by simp [AVal.ids]⟩
    unfold Sec.cells at u76
    have zero : q = 0 → [] = R := by
      rintro rfl
      rw [if_neg (by decide), if_neg (by decide)] at hE
      exact hE
    cases c1 : decide (unfit b = 0)
    · rw [if_pos (.inl (by simpa using c1))] at hq
      simp only [b58r, h0, h2, h3, h9, h10, ls, c0, hx, ho, hc, u76, eK1, oN, c1, rwA, rwB, Nat.reduceAdd, Nat.reduceMul, Nat.reduceLeDiff, Int.reduceEq, Int.reduceLT, Int.reduceLE, Int.reduceAdd, Int.reduceSub, Int.reduceMul, ↓reduceIte, Nat.reduceEqDiff, reduceCtorEq, ↓cnd_true, ↓cnd_false]
      rw [outs_some]
      exact .inr ⟨by simp, fin _ (by simp [Env.set]) (zero hq.symm)⟩
    cases c2 : decide ((x.epoch : Int) = (ep : Int))
    · rw [if_pos (.inr (.inl (by intro hx; rw [hx] at c2; simp at c2)))] at hq
      simp only [b58r, h0, h2, h3, h9, h10, ls, c0, hx, ho, hc, u76, eK1, oN, c1, c2, rwA, rwB, Nat.reduceAdd, Nat.reduceMul, Nat.reduceLeDiff, Int.reduceEq, Int.reduceLT, Int.reduceLE, Int.reduceAdd, Int.reduceSub, Int.reduceMul, ↓reduceIte, Nat.reduceEqDiff, reduceCtorEq, ↓cnd_true, ↓cnd_false]
      rw [outs_some]
      exact .inr ⟨by simp, fin _ (by simp [Env.set]) (zero hq.symm)⟩
    cases c3 : decide ((x.number : Int) = (num : Int))
    · rw [if_pos (.inr (.inr (by intro hx; rw [hx] at c3; simp at c3)))] at hq
      simp only [b58r, h0, h2, h3, h9, h10, ls, c0, hx, ho, hc, u76, eK1, oN, c1, c2, c3, rwA, rwB, Nat.reduceAdd, Nat.reduceMul, Nat.reduceLeDiff, Int.reduceEq, Int.reduceLT, Int.reduceLE, Int.reduceAdd, Int.reduceSub, Int.reduceMul, ↓reduceIte, Nat.reduceEqDiff, reduceCtorEq, ↓cnd_true, ↓cnd_false]
      rw [outs_some]
      exact .inr ⟨by simp, fin _ (by simp [Env.set]) (zero hq.symm)⟩
    have d1 : unfit b = 0 := by simpa using c1
    have d2 : x.epoch = ep := by have := of_decide_eq_true c2; omega
    have d3 : x.number = num := by have := of_decide_eq_true c3; omega
    rw [if_neg (by simp [d1, d2, d3])] at hq
    obtain ⟨at0', pl⟩ := hat d1
    have pn := page_nought pl
    cases c5 : decide (x.many = (out.length : Int))
    · have nm : ¬ x.many = (out.length : Int) := by simpa using c5
      rw [if_neg (fun h => nm h.1.2), if_neg (fun h => nm h.1.1.2)] at hq
      simp only [b58r, h0, h2, h3, h9, h10, ls, c0, hx, ho, hc, u76, eK1, oN, c1, c2, c3, ll, c5, rwA, rwB, Nat.reduceAdd, Nat.reduceMul, Nat.reduceLeDiff, Int.reduceEq, Int.reduceLT, Int.reduceLE, Int.reduceAdd, Int.reduceSub, Int.reduceMul, ↓reduceIte, Nat.reduceEqDiff, reduceCtorEq, ↓cnd_true, ↓cnd_false]
      rw [outs_some]
      exact .inr ⟨by simp, fin _ (by simp [Env.set]) (zero hq.symm)⟩
    have d5 := of_decide_eq_true c5
    cases c6 : decide (x.kind = 3)
    · have nk : ¬ x.kind = 3 := by simpa using c6
      cases c4 : decide (x.kind = 2)
      · have n2 : ¬ x.kind = 2 := by simpa using c4
        rw [if_neg (fun h => n2 h.1.1), if_neg (fun h => nk h.1.1.1)] at hq
        simp only [b58r, h0, h2, h3, h9, h10, ls, c0, hx, ho, hc, u76, eK1, oN, c1, c2, c3, ll, c5, c6, c4, rwA, rwB, Nat.reduceAdd, Nat.reduceMul, Nat.reduceLeDiff, Int.reduceEq, Int.reduceLT, Int.reduceLE, Int.reduceAdd, Int.reduceSub, Int.reduceMul, ↓reduceIte, Nat.reduceEqDiff, reduceCtorEq, ↓cnd_true, ↓cnd_false]
        rw [outs_some]
        exact .inr ⟨by simp, fin _ (by simp [Env.set]) (zero hq.symm)⟩
      have d4 := of_decide_eq_true c4
      cases c8 : decide (3839 < x.at')
      rotate_left
      · have np : ¬ pgok x.at' = true := by have := of_decide_eq_true c8; unfold pgok; simp; omega
        rw [if_neg (fun h => np h.2), if_neg (fun h => nk h.1.1.1)] at hq
        simp only [b58r, h0, h2, h3, h9, h10, ls, c0, hx, ho, hc, u76, eK1, oN, c1, c2, c3, ll, c5, c6, c4, c8, rwA, rwB, Nat.reduceAdd, Nat.reduceMul, Nat.reduceLeDiff, Int.reduceEq, Int.reduceLT, Int.reduceLE, Int.reduceAdd, Int.reduceSub, Int.reduceMul, ↓reduceIte, Nat.reduceEqDiff, reduceCtorEq, ↓cnd_true, ↓cnd_false]
        rw [outs_some]
        exact .inr ⟨by simp, fin _ (by simp [Env.set]) (zero hq.symm)⟩
      have pp : pgok x.at' = true := by have := of_decide_eq_false c8; unfold pgok; simp; omega
      rw [if_pos ⟨⟨d4, d5⟩, pp⟩] at hq
      rw [← hq, if_pos rfl] at hE
      obtain ⟨v2, K2, e2, g2, i2, f2, s2, a2, ea2⟩ := g1.push (by' := 24) (by decide) (x := ic ⟨x.at', x.page⟩) rfl (by rw [sl]; omega)
      have x2 := f2.1
      have x1 := k1.1
      have sK2 := (hs2.keep (fun i hi => by have := hid i hi; omega) k1).fr f2 (fun i hi => ⟨by have := hid i hi; omega, fun hx => by have := hlB i hi; have := hv i hx; omega⟩)
      rw [ea2] at e2
      unfold ic at e2
      simp only [b58r, h0, h2, h3, h9, h10, ls, c0, hx, ho, hc, u76, eK1, oN, c1, c2, c3, ll, c5, c6, c4, c8, e2, w1, rwA, rwB, Nat.reduceAdd, Nat.reduceMul, Nat.reduceLeDiff, Int.reduceEq, Int.reduceLT, Int.reduceLE, Int.reduceAdd, Int.reduceSub, Int.reduceMul, ↓reduceIte, Nat.reduceEqDiff, reduceCtorEq, ↓cnd_true, ↓cnd_false]
      rw [outs_some]
      refine .inl ⟨rfl, i + 1, by omega, by omega, by simp [Env.set, h0], by simp [Env.set, h2], by simp [Env.set, h3], by simp [Env.set], sK2, by omega, v2, out ++ [⟨x.at', x.page⟩], by rw [ea2]; simp [Env.set], by simpa using g2, fun i hi => by have := i2 i hi; omega, by simp; omega, ?_⟩
      rw [← hE]
      congr 1
      simp; omega
    have d6 := of_decide_eq_true c6
    have n2 : ¬ x.kind = 2 := by omega
    have c4 : decide (x.kind = 2) = false := decide_eq_false n2
    rw [if_neg (fun h => n2 h.1.1)] at hq
    cases c7 : decide (x.at' = 0)
    · have na : ¬ x.at' = 0 := by simpa using c7
      rw [if_neg (fun h => na h.1.2)] at hq
      simp only [b58r, h0, h2, h3, h9, h10, ls, c0, hx, ho, hc, u76, eK1, oN, c1, c2, c3, ll, c5, c6, c4, c7, rwA, rwB, Nat.reduceAdd, Nat.reduceMul, Nat.reduceLeDiff, Int.reduceEq, Int.reduceLT, Int.reduceLE, Int.reduceAdd, Int.reduceSub, Int.reduceMul, ↓reduceIte, Nat.reduceEqDiff, reduceCtorEq, ↓cnd_true, ↓cnd_false]
      rw [outs_some]
      exact .inr ⟨by simp, fin _ (by simp [Env.set]) (zero hq.symm)⟩
    have d7 := of_decide_eq_true c7
    cases cp : x.page.all (· == 0) <;> rw [cp] at pn
    · rw [if_neg (fun h => by rw [cp] at h; cases h.2)] at hq
      simp only [b58r, h0, h2, h3, h9, h10, ls, c0, hx, ho, hc, u76, eK1, oN, c1, c2, c3, ll, c5, c6, c4, c7, U33b, pn, rwA, rwB, Nat.reduceAdd, Nat.reduceMul, Nat.reduceLeDiff, Int.reduceEq, Int.reduceLT, Int.reduceLE, Int.reduceAdd, Int.reduceSub, Int.reduceMul, ↓reduceIte, Nat.reduceEqDiff, reduceCtorEq, ↓cnd_true, ↓cnd_false]
      rw [outs_some]
      exact .inr ⟨by simp, fin _ (by simp [Env.set]) (zero hq.symm)⟩
    · rw [if_pos ⟨⟨⟨d6, d5⟩, d7⟩, cp⟩] at hq
      rw [← hq, if_neg (by decide), if_pos rfl] at hE
      simp only [b58r, h0, h2, h3, h9, h10, ls, c0, hx, ho, hc, u76, eK1, oN, c1, c2, c3, ll, c5, c6, c4, c7, U33b, pn, rwA, rwB, Nat.reduceAdd, Nat.reduceMul, Nat.reduceLeDiff, Int.reduceEq, Int.reduceLT, Int.reduceLE, Int.reduceAdd, Int.reduceSub, Int.reduceMul, ↓reduceIte, Nat.reduceEqDiff, reduceCtorEq, ↓cnd_true, ↓cnd_false]
      rw [outs_some, ← hE]
      exact .inr ⟨by simp, .inr ⟨rfl, v, by simp [Env.set], g1, hv⟩⟩
  · rw [if_neg c] at hE
    have c0 : decide ((i : Int) < (all.length : Int)) = false := by simp; omega
    simp only [b58r, h0, h10, ls, c0, rwA, rwB, Nat.reduceAdd, Nat.reduceMul, Nat.reduceLeDiff, Int.reduceEq, Int.reduceLT, Int.reduceLE, Int.reduceAdd, Int.reduceSub, Int.reduceMul, ↓reduceIte, Nat.reduceEqDiff, reduceCtorEq, ↓cnd_true, ↓cnd_false]
    rw [outs_some]
    exact .inr ⟨by simp, .inl ⟨rfl, hE.symm⟩⟩

theorem U58r {H : AHeap} {av : AVal} {all : List (List UInt8)} (hs : Sl H 1 av (all.map .str)) (hid : ∀ i, i ∈ av.ids → i < H.next) (hn : all.length ≤ 1024) {at0 : Nat} (ha : at0 ≤ all.length) (ep num : Nat) :
    ∃ v K, AC A 58 [av, .int .i64 (at0 : Int), .int .u64 (ep : Int), .int .u64 (num : Int)] H = some (v, K) ∧ Gr K 2 v ((on all ep num 1025 at0 []).flatMap ic) ∧ Keeps H K ∧ ∀ i, i ∈ v.ids → H.next ≤ i := by
  refine look_gr (x := DnFns.c58) rfl rfl rfl (oldl_ic _ _) ?_
  obtain ⟨q, eq⟩ : ∃ q, (frz H).next = q := ⟨_, rfl⟩
  have eqH : H.next = q := eq
  obtain ⟨K1, eK1⟩ : ∃ K, (frz H).new (.cells [] true) = K := ⟨_, rfl⟩
  have g0 := Gr.empty (frz H) 2
  rw [eK1, eq] at g0
  have k1 : Keeps (frz H) K1 := by rw [← eK1]; exact Keeps.new _ _
  simp only [c58, eq, eK1, rwA, rwB, Nat.reduceAdd, Nat.reduceMul, Nat.reduceLeDiff, Int.reduceEq, Int.reduceLT, Int.reduceLE, Int.reduceAdd, Int.reduceSub, Int.reduceMul, ↓reduceIte, Nat.reduceEqDiff, reduceCtorEq, ↓cnd_true, ↓cnd_false]
  repeat (first | refine outs_seq ?_ | refine outs_block ?_ | refine outs_step ?_ | refine outs_stepD ?_ | refine rets_end ?_ | refine ans_end ?_)
  refine (loop58r (B := q) (v0 := .slice q 0 0 0 none) (hs.frz.keep hid k1) (fun i hi => by have := hid i hi; have := k1.1; omega) hn ha (ep := ep) (num := num) g0 (by simp [AVal.ids]) (by have := k1.1; omega) (fun i hi => by have := hid i hi; omega) ?_ ?_ ?_ ?_ ?_).mono ?_
  · simp [Env.set, ainit]
  · simp [Env.set, ainit]
  · simp [Env.set, ainit]
  · simp [Env.set]
  · simp [Env.set]
  rintro e env K (⟨rfl, h⟩ | ⟨rfl, v, h8, hg, hv⟩)
  · simp only [outs_some, rwA, rwB, Nat.reduceAdd, Nat.reduceMul, Nat.reduceLeDiff, Int.reduceEq, Int.reduceLT, Int.reduceLE, Int.reduceAdd, Int.reduceSub, Int.reduceMul, ↓reduceIte, Nat.reduceEqDiff, reduceCtorEq, ↓cnd_true, ↓cnd_false]
    rw [rets_some, h]
    exact ⟨Gr.nil _ _, by simp [AVal.ids]⟩
  · rcases hg.shape with e | ⟨_, _, _, e⟩
    all_goals
      rw [e] at h8 hg hv
      simp only [outs_some, h8, rwA, rwB, Nat.reduceAdd, Nat.reduceMul, Nat.reduceLeDiff, Int.reduceEq, Int.reduceLT, Int.reduceLE, Int.reduceAdd, Int.reduceSub, Int.reduceMul, ↓reduceIte, Nat.reduceEqDiff, reduceCtorEq, ↓cnd_true, ↓cnd_false]
      rw [rets_some]
      exact ⟨hg, fun i hi => by have := hv i hi; omega⟩

end Go.Proofs.YtilhjcnkaelheaaGreat.Dk
end

section
/- The great seat: the reference's Scan; it tells what the program's Scan tells. -/
set_option maxRecDepth 100000
set_option linter.unusedSimpArgs false
set_option linter.unusedVariables false
set_option maxHeartbeats 8000000
namespace Go.Proofs.YtilhjcnkaelheaaGreat.Dk
open Go Go.Proofs.YtilhjcnkaelheaaGreat.Am DnFns Go.RowKit
open Sd (Sec noughts home homeno ofHome ofNo opened unfit pad)

theorem NL.fr2' {B : Nat} {K K' : AHeap} {v : AVal} {pl : List (AVal × List Im)} (h : NL B K v pl) (k : Keeps K K') : NL B K' v pl := h.fr' (L := []) (Fr.of k) (by simp)

def rs (all : List (List UInt8)) (ep : Nat) : Nat → Nat → List (List Im) → List (List Im)
  | 0, _, out => out
  | f + 1, at0, out =>
    if (on all ep (out.length + 1) 1025 at0 []).length = 0 then out
    else rs all ep f (at0 + (on all ep (out.length + 1) 1025 at0 []).length + 1) (out ++ [on all ep (out.length + 1) 1025 at0 []])
theorem on_len (all : List (List UInt8)) (ep num : Nat) : ∀ (f i : Nat) (out : List Im), on all ep num f i out = [] ∨ (out.length ≤ (on all ep num f i out).length ∧ i + ((on all ep num f i out).length - out.length) + 1 ≤ all.length)
  | 0, _, _ => .inl rfl
  | f + 1, i, out => by
    unfold on
    split
    · split
      · rcases on_len all ep num f (i + 1) (out ++ [⟨(opened (all.getD i [])).at', (opened (all.getD i [])).page⟩]) with h | ⟨h1, h2⟩
        · exact .inl h
        · rw [List.length_append, List.length_singleton] at h1 h2
          exact .inr ⟨by omega, by omega⟩
      · split
        · exact .inr ⟨Nat.le_refl _, by omega⟩
        · exact .inl rfl
    · exact .inl rfl

structure Reads (d : DS) (size : Nat) (all : List (List UInt8)) : Prop where
  n : all.length = size
  r : ∀ i, i < size → d.read ((1 + i : Nat) : Int) = (all.getD i [], 0)
theorem nx_on {d : DS} {size : Nat} {all : List (List UInt8)} (h : Reads d size all) (ep num at0 : Nat) : ∀ (f i : Nat) (out : List Im), (nx d ep num size at0 f i out).no = 0 ∧ (nx d ep num size at0 f i out).l = on all ep num f i out ∧
    ((on all ep num f i out).length ≠ 0 → (nx d ep num size at0 f i out).at' = i + ((on all ep num f i out).length - out.length) + 1)
  | 0, _, _ => ⟨rfl, rfl, fun h => absurd rfl h⟩
  | f + 1, i, out => by
    unfold nx on
    rw [h.n]
    by_cases c : i < size
    · rw [if_pos c, if_pos c, h.r i c]
      simp only
      rw [if_neg (by simp)]
      by_cases c1 : isof ep num out.length (all.getD i []) = 1
      · rw [if_pos c1, if_pos c1]
        obtain ⟨h1, h2, h3⟩ := nx_on h ep num at0 f (i + 1) (out ++ [⟨(opened (all.getD i [])).at', (opened (all.getD i [])).page⟩])
        refine ⟨h1, h2, fun hne => ?_⟩
        rw [h3 hne]
        have := on_len all ep num f (i + 1) (out ++ [⟨(opened (all.getD i [])).at', (opened (all.getD i [])).page⟩])
        rcases this with e | ⟨e, _⟩
        · rw [e] at hne; exact absurd rfl hne
        · rw [List.length_append, List.length_singleton] at e ⊢
          omega
      · rw [if_neg c1, if_neg c1]
        split
        · exact ⟨rfl, rfl, fun _ => by simp⟩
        · exact ⟨rfl, rfl, fun h => absurd rfl h⟩
    · rw [if_neg c, if_neg c]
      exact ⟨rfl, rfl, fun h => absurd rfl h⟩
theorem sn_rs {d : DS} {size : Nat} {all : List (List UInt8)} (h : Reads d size all) (ep : Nat) : ∀ (f at0 : Nat) (out : List (List Im)), sn d ep size f (out.length + 1) at0 out = (rs all ep f at0 out, 0)
  | 0, _, _ => rfl
  | f + 1, at0, out => by
    obtain ⟨h1, h2, h3⟩ := nx_on h ep (out.length + 1) at0 1025 at0 []
    unfold sn rs
    rw [h1, h2]
    rw [if_neg (by simp)]
    by_cases c : (on all ep (out.length + 1) 1025 at0 []).length = 0
    · rw [if_pos c, if_pos c]
    · rw [if_neg c, if_neg c, h3 c]
      have := sn_rs h ep f (at0 + (on all ep (out.length + 1) 1025 at0 []).length + 1) (out ++ [on all ep (out.length + 1) 1025 at0 []])
      rw [List.length_append, List.length_singleton] at this
      simpa using this

def b50r : ACode := (.block 1 (.seq (.region [⟨(some 9), (.mv (.tmp 0)), none, none⟩, ⟨(some 10), (.mv (.tmp 6)), none, none⟩, ⟨(some 11), (.mv (.tmp 1)), none, none⟩, ⟨(some 12), (.mv (.tmp 5)), none, none⟩, ⟨(some 13), (.len false (.tmp 12)), none, none⟩, ⟨(some 14), (.toInt .u64 (.tmp 13)), none, none⟩, ⟨(some 15), (.bin .add (.tmp 14) (.con (.int .u64 1))), none, none⟩, ⟨(some 16), (.call (.con (.func 58 [] [])) [(.tmp 9), (.tmp 10), (.tmp 11), (.tmp 15)]), none, none⟩, ⟨(some 7), (.mv (.tmp 16)), none, none⟩]) (.seq (.seq (.region [⟨(some 17), (.mv (.tmp 7)), none, none⟩, ⟨(some 18), (.len false (.tmp 17)), none, none⟩, ⟨(some 19), (.bin .eql (.tmp 18) (.con (.int .i64 0))), none, none⟩]) (.cond (.tmp 19) (.seq (.region [⟨(some 20), (.mv (.tmp 5)), none, none⟩, ⟨(some 4), (.mv (.tmp 20)), none, none⟩]) .ret) .skip)) (.seq (.region [⟨(some 21), (.mv (.tmp 5)), none, none⟩, ⟨(some 22), (.mv (.tmp 7)), none, none⟩, ⟨(some 23), (.buildS 1 [.nils] [(0, (1, (.tmp 22)))]), none, none⟩, ⟨(some 24), (.append 1 24 (.tmp 21) (.tmp 23)), none, none⟩, ⟨(some 5), (.mv (.tmp 24)), none, none⟩]) (.region [⟨(some 25), (.mv (.tmp 6)), none, none⟩, ⟨(some 26), (.mv (.tmp 7)), none, none⟩, ⟨(some 27), (.len false (.tmp 26)), none, none⟩, ⟨(some 28), (.bin .add (.tmp 25) (.tmp 27)), none, none⟩, ⟨(some 29), (.bin .add (.tmp 28) (.con (.int .i64 1))), none, none⟩, ⟨(some 6), (.mv (.tmp 29)), none, none⟩])))))
theorem loop50r {H : AHeap} {av : AVal} {all : List (List UInt8)} (hs : Sl H 1 av (all.map .str)) (hid : ∀ i, i ∈ av.ids → i < H.next) (hn : all.length ≤ 1024) {ep : Nat} {B : Nat} {v0 : AVal} (g0 : NL B H v0 []) (hBn : B ≤ H.next) (hlB : ∀ i, i ∈ av.ids → i < B) {env : Env}
    (h0 : env 0 = av) (h1 : env 1 = .int .u64 (ep : Int)) (h5 : env 5 = v0) (h6 : env 6 = .int .i64 0) :
    Outs (AX A (.loop b50r) env H) fun e env' K => e = .ret ∧ ∃ v pl, env' 4 = v ∧ NL B K v pl ∧ pl.map (·.2) = rs all ep 1025 0 [] ∧ (∀ i, i < B → K.obj i = H.obj i) ∧ H.next ≤ K.next := by
  obtain ⟨R, hR⟩ : ∃ R, rs all ep 1025 0 [] = R := ⟨_, rfl⟩
  rw [hR]
  refine loop_ends (I := fun (at0 : Nat) env' K => at0 ≤ all.length ∧ env' 0 = av ∧ env' 1 = .int .u64 (ep : Int) ∧ env' 6 = .int .i64 (at0 : Int) ∧ (∀ i, i < B → K.obj i = H.obj i) ∧ H.next ≤ K.next ∧ ∃ v pl, env' 5 = v ∧ NL B K v pl ∧ pl.length ≤ at0 ∧ rs all ep (1025 - pl.length) at0 (pl.map (·.2)) = R) (fun at0 => all.length - at0) ?_ 0 env H
    ⟨Nat.zero_le _, h0, h1, h6, fun _ _ => rfl, Nat.le_refl _, v0, [], h5, g0, Nat.le_refl _, hR⟩
  rintro at0 env1 K ⟨hi, h0, h1, h6, hF, hKn, v, pl, h5, N, hpl, hE⟩
  obtain ⟨fu, efu⟩ : ∃ fu, 1025 - pl.length = fu + 1 := ⟨1024 - pl.length, by omega⟩
  rw [efu] at hE
  unfold rs at hE
  have hsK : Sl K 1 av (all.map .str) := hs.keeps (fun i hi => hF i (hlB i hi))
  have hidK : ∀ i, i ∈ av.ids → i < K.next := fun i hi => by have := hid i hi; omega
  have ll := N.g.sl.alen
  rw [N.sz] at ll
  have elen : (pl.map (·.2)).length = pl.length := by simp
  rw [elen] at hE
  obtain ⟨u, K1, e58, g58, k1, i58⟩ := U58r hsK hidK hn hi ep (pl.length + 1)
  have hol := on_len all ep (pl.length + 1) 1025 at0 []
  obtain ⟨l, el⟩ : ∃ l, on all ep (pl.length + 1) 1025 at0 [] = l := ⟨_, rfl⟩
  rw [el] at hE g58 hol
  have w0 : IntKind.u64.wrap (pl.length : Int) = (pl.length : Int) := by rw [wrapU64]; omega
  have w1 : IntKind.u64.wrap ((pl.length : Int) + 1) = ((pl.length + 1 : Nat) : Int) := by rw [wrapU64]; omega
  have lu := g58.sl.alen
  have su : slen u = l.length := slen_fm ic_len (by decide) g58.sl
  rw [su] at lu
  have x1 := k1.1
  have N1 := N.fr2' k1
  have F1 : ∀ i, i < B → K1.obj i = H.obj i := fun i hi => by rw [k1.2 i (by omega), hF i hi]
  cases c1 : decide ((l.length : Int) = 0)
  rotate_left
  · rw [if_pos (by simp at c1; rw [c1]; rfl)] at hE
    rcases g58.shape with e' | ⟨_, _, _, e'⟩
    all_goals
      rw [e'] at e58 lu
      simp only [b50r, h0, h1, h5, h6, ll, w0, w1, e58, lu, c1, rwA, rwB, Nat.reduceAdd, Nat.reduceMul, Nat.reduceLeDiff, Int.reduceEq, Int.reduceLT, Int.reduceLE, Int.reduceAdd, Int.reduceSub, Int.reduceMul, ↓reduceIte, Nat.reduceEqDiff, reduceCtorEq, ↓cnd_true, ↓cnd_false]
      rw [outs_some, ← hE]
      exact .inr ⟨by simp, rfl, _, pl, by simp [Env.set], N1, rfl, F1, by omega⟩
  have hne : ¬ l.length = 0 := by simp at c1; intro hx; rw [List.length_eq_zero_iff] at hx; exact c1 hx
  rw [if_neg hne] at hE
  have hat : at0 + l.length + 1 ≤ all.length := by
    rcases hol with e | ⟨_, e⟩
    · rw [e] at hne; exact absurd rfl hne
    · simpa using e
  obtain ⟨z, hz⟩ : ∃ z, at0 + l.length = z := ⟨_, rfl⟩
  have w2 : IntKind.i64.wrap ((at0 : Int) + (l.length : Int)) = (z : Int) := by rw [wrap_i64]; omega
  have w3 : IntKind.i64.wrap ((z : Int) + 1) = ((z + 1 : Nat) : Int) := by rw [wrap_i64]; omega
  have gi := g58.lt
  obtain ⟨v2, K2, e2, N2, f2, i2, a2, ea2⟩ := N1.push (u := u) (l := l) g58.sl (fun j hj => ⟨by have := i58 j hj; omega, gi j hj, fun hv => by have := N.g.lt j hv; have := i58 j hj; omega⟩) (by omega) (by omega)
  rw [ea2] at e2
  have F2 : ∀ i, i < B → K2.obj i = H.obj i := fun i hi => by rw [f2.2 i (by omega) (fun hx => by have := N.vf i hx; omega), F1 i hi]
  rcases g58.shape with e' | ⟨_, _, _, e'⟩
  all_goals
    rw [e'] at e58 lu e2 N2
    simp only [b50r, h0, h1, h5, h6, ll, w0, w1, e58, lu, c1, e2, w2, w3, rwA, rwB, Nat.reduceAdd, Nat.reduceMul, Nat.reduceLeDiff, Int.reduceEq, Int.reduceLT, Int.reduceLE, Int.reduceAdd, Int.reduceSub, Int.reduceMul, ↓reduceIte, Nat.reduceEqDiff, reduceCtorEq, ↓cnd_true, ↓cnd_false]
    rw [outs_some]
    refine .inl ⟨rfl, z + 1, by omega, by omega, by simp [Env.set, h0], by simp [Env.set, h1], by simp [Env.set], F2, by have := f2.1; omega, v2, _, by rw [ea2]; try simp [Env.set], N2, by simp; omega, ?_⟩
    rw [← hE, ← hz]
    have : 1025 - (pl.length + 1) = fu := by omega
    simp [this]

end Go.Proofs.YtilhjcnkaelheaaGreat.Dk
end

section
/- The great seat: told. -/
set_option maxRecDepth 100000
set_option linter.unusedSimpArgs false
set_option linter.unusedVariables false
set_option maxHeartbeats 8000000
namespace Go.Proofs.YtilhjcnkaelheaaGreat.Dk
open Go Go.Proofs.YtilhjcnkaelheaaGreat.Am DnFns Go.RowKit
open Sd (Sec noughts home homeno ofHome ofNo opened unfit pad)

theorem U50r {H : AHeap} {av : AVal} {all : List (List UInt8)} (hs : Sl H 1 av (all.map .str)) (hid : ∀ i, i ∈ av.ids → i < H.next) (hn : all.length ≤ 1024) (ep : Nat) :
    ∃ v K pl, AC A 50 [av, .int .u64 (ep : Int)] H = some (v, K) ∧ Keeps H K ∧ NL H.next K v pl ∧ pl.map (·.2) = rs all ep 1025 0 [] := by
  have key : Rets (AC A 50 [av, .int .u64 (ep : Int)] H) fun v K => ∃ pl, Keeps H K ∧ NL H.next K v pl ∧ pl.map (·.2) = rs all ep 1025 0 [] := by
    rw [s_fn (A := A) (f := 50) (x := DnFns.c50) rfl rfl rfl]
    obtain ⟨q, eq⟩ : ∃ q, H.next = q := ⟨_, rfl⟩
    obtain ⟨K1, eK1⟩ : ∃ K, H.new (.cells [] true) = K := ⟨_, rfl⟩
    have g0 := Gr.empty H 1
    rw [eK1, eq] at g0
    have k1 : Keeps H K1 := by rw [← eK1]; exact Keeps.new _ _
    have N0 : NL q K1 (.slice q 0 0 0 none) [] := ⟨g0, ⟨by simp, by simp⟩, by simp, by simp [AVal.ids]⟩
    simp only [c50, eq, eK1, rwA, rwB, Nat.reduceAdd, Nat.reduceMul, Nat.reduceLeDiff, Int.reduceEq, Int.reduceLT, Int.reduceLE, Int.reduceAdd, Int.reduceSub, Int.reduceMul, ↓reduceIte, Nat.reduceEqDiff, reduceCtorEq, ↓cnd_true, ↓cnd_false]
    repeat (first | refine outs_seq ?_ | refine outs_block ?_ | refine outs_step ?_ | refine outs_stepD ?_ | refine rets_end ?_ | refine ans_end ?_)
    refine (loop50r (B := q) (v0 := .slice q 0 0 0 none) (hs.keep hid k1) (fun i hi => by have := hid i hi; have := k1.1; omega) hn (ep := ep) N0 (by have := k1.1; omega) (fun i hi => by have := hid i hi; omega) ?_ ?_ ?_ ?_).mono ?_
    · simp [Env.set, ainit]
    · simp [Env.set, ainit]
    · simp [Env.set]
    · simp [Env.set]
    rintro e env K ⟨rfl, v, pl, h4, N, hp, hF, hKn⟩
    have hk : Keeps H K := ⟨by have := k1.1; omega, fun i hi => by rw [hF i (by omega), k1.2 i hi]⟩
    rcases N.g.shape with e | ⟨_, _, _, e⟩
    all_goals
      rw [e] at h4 N
      simp only [outs_some, h4, rwA, rwB, Nat.reduceAdd, Nat.reduceMul, Nat.reduceLeDiff, Int.reduceEq, Int.reduceLT, Int.reduceLE, Int.reduceAdd, Int.reduceSub, Int.reduceMul, ↓reduceIte, Nat.reduceEqDiff, reduceCtorEq, ↓cnd_true, ↓cnd_false]
      rw [rets_some]
      exact ⟨pl, hk, N, hp⟩
  obtain ⟨v, K, e, pl, h1, h2, h3⟩ := key
  exact ⟨v, K, pl, e, h1, h2, h3⟩

theorem sn_dead {d : DS} {size : Nat} (hd : d.dead = true) (h : 0 < size) (ep : Nat) : sn d ep size 1025 1 0 [] = ([], 17) := by
  have e : nx d ep 1 size 0 1025 0 [] = ⟨[], 17, 0⟩ := by
    unfold nx
    rw [if_pos h]
    have : d.read ((1 + 0 : Nat) : Int) = ([], 17) := by unfold DS.read; rw [hd]; rfl
    rw [this]
    simp only
    rw [if_pos (by decide)]
  unfold sn
  rw [e]
  simp only
  rw [if_pos (by decide)]

def alls (d : DS) (size : Nat) : List (List UInt8) := (List.range size).map fun i => (d.read ((1 + i : Nat) : Int)).1
theorem alls_len (d : DS) (size : Nat) : (alls d size).length = size := by simp [alls]
theorem alls_at (d : DS) {size i : Nat} (h : i < size) : (alls d size)[i]? = some (d.read ((1 + i : Nat) : Int)).1 := by simp [alls, h]
theorem alls_reads {d : DS} {size : Nat} (hd : d.dead = false) (h : size < d.s.length) : Reads d size (alls d size) := by
  refine ⟨alls_len d size, fun i hi => ?_⟩
  have e1 : (alls d size).getD i [] = (d.read ((1 + i : Nat) : Int)).1 := by rw [List.getD_eq_getElem?_getD, alls_at d hi]; rfl
  have e2 : (d.read ((1 + i : Nat) : Int)).2 = 0 := by
    unfold DS.read
    rw [hd, if_neg (by decide), if_pos ⟨by omega, by omega⟩]
  rw [e1, ← e2]

def b27r : ACode := (.seq (.seq (.region [⟨(some 31), (.mv (.tmp 12)), none, none⟩, ⟨(some 32), (.mv (.tmp 2)), none, none⟩, ⟨(some 33), (.bin .leq (.tmp 31) (.tmp 32)), none, none⟩]) (.cond (.tmp 33) .skip (.exit 0))) (.seq (.block 1 (.seq (.region [⟨(some 37), (.load true 5 (.tmp 5)), none, none⟩, ⟨(some 38), (.mv (.tmp 12)), none, none⟩, ⟨(some 39), (.call (.con (.func 47 [] [])) [(.tmp 37), (.tmp 38)]), none, none⟩, ⟨(some 36), (.mv (.tmp 39)), none, none⟩, ⟨(some 40), (.extract (.tmp 36) 0), none, none⟩, ⟨(some 41), (.extract (.tmp 36) 1), none, none⟩, ⟨(some 13), (.mv (.tmp 40)), none, none⟩, ⟨(some 14), (.mv (.tmp 41)), none, none⟩]) (.region [⟨(some 42), (.mv (.tmp 11)), none, none⟩, ⟨(some 43), (.mv (.tmp 13)), none, none⟩, ⟨(some 44), (.buildS 1 [(.str [])] [(0, (1, (.tmp 43)))]), none, none⟩, ⟨(some 45), (.append 1 16 (.tmp 42) (.tmp 44)), none, none⟩, ⟨(some 11), (.mv (.tmp 45)), none, none⟩]))) (.region [⟨(some 34), (.mv (.tmp 12)), none, none⟩, ⟨(some 35), (.bin .add (.tmp 34) (.con (.int .i64 1))), none, none⟩, ⟨(some 12), (.mv (.tmp 35)), none, none⟩])))
theorem loop27r {H : AHeap} {q : Nat} {vs vw : AVal} {d : DS} (hR : R H vs vw d) (ho : H.obj q = some (.cells (rc vs vw d) true)) (hq : q < H.next) (hw : d.w.length < 1000000) {size : Nat} (hz : size ≤ 1024) {env : Env}
    (h2 : env 2 = .int .i64 (size : Int)) (h5 : env 5 = .ptr q 0) (h11 : env 11 = .nils) (h12 : env 12 = .int .i64 1) :
    Outs (AX A (.loop b27r) env H) fun e env' K => e = .exit 0 ∧ (∀ i, i < 11 → env' i = env i) ∧ Keeps H K ∧ ∃ v, env' 11 = v ∧ Gr K 1 v ((alls d size).map .str) ∧ ∀ i, i ∈ v.ids → H.next ≤ i := by
  refine loop_ends (I := fun (i : Nat) env' K => i ≤ size ∧ (∀ i, i < 11 → env' i = env i) ∧ env' 12 = .int .i64 ((i + 1 : Nat) : Int) ∧ Keeps H K ∧ ∃ v, env' 11 = v ∧ Gr K 1 v (((alls d size).take i).map .str) ∧ ∀ i, i ∈ v.ids → H.next ≤ i) (fun i => size - i) ?_ 0 env H
    ⟨Nat.zero_le _, fun _ _ => rfl, h12, Keeps.refl _, .nils, h11, by simpa using Gr.nil _ _, by simp [AVal.ids]⟩
  rintro i env1 K ⟨hi, hE, h12, hK, v, h11, hg, hv⟩
  have g2 := (hE 2 (by decide)).trans h2
  have g5 := (hE 5 (by decide)).trans h5
  obtain ⟨z, hz1⟩ : ∃ z, i + 1 = z := ⟨_, rfl⟩
  rw [hz1] at h12
  by_cases c : i < size
  · have c1 : decide ((z : Int) ≤ (size : Int)) = true := by simp; omega
    have w1 : IntKind.i64.wrap ((z : Int) + 1) = ((z + 1 : Nat) : Int) := by rw [wrap_i64]; omega
    have oK : K.obj q = some (.cells (rc vs vw d) true) := by rw [hK.2 q hq]; exact ho
    have u47 := U47 (hR.keeps hK) hw (z : Int)
    have ez : ((1 + i : Nat) : Int) = (z : Int) := by omega
    have hat := alls_at d c
    rw [ez] at hat
    obtain ⟨b, eb⟩ : ∃ b, (d.read (z : Int)).1 = b := ⟨_, rfl⟩
    rw [eb] at u47 hat
    have ht : (alls d size).take (i + 1) = (alls d size).take i ++ [b] := by rw [List.take_add_one, hat, Option.toList_some]
    have sl : slen v = i := by
      have := hg.sl.length
      rw [List.length_map, List.length_take, alls_len] at this
      omega
    obtain ⟨v2, K2, e2, g2', i2, f2, s2, a2, ea2⟩ := hg.push (by' := 16) (by decide) (x := [.str b]) rfl (by rw [sl]; omega)
    rw [ea2] at e2
    have kf : Keeps H K2 := ⟨by have := hK.1; have := f2.1; omega, fun i hi => by rw [f2.2 i (by have := hK.1; omega) (fun hx => by have := hv i hx; omega), hK.2 i hi]⟩
    have shp1 := sl_shape' hR.ss
    have shp2 := sl_shape' hR.sw
    unfold rc at oK u47
    rcases shp1 with rfl | ⟨_, _, _, _, _, rfl⟩ <;> rcases shp2 with rfl | ⟨_, _, _, _, _, rfl⟩
    all_goals
      simp only [b27r, g2, g5, h11, h12, c1, oK, u47, e2, w1, rwA, rwB, Nat.reduceAdd, Nat.reduceMul, Nat.reduceLeDiff, Int.reduceEq, Int.reduceLT, Int.reduceLE, Int.reduceAdd, Int.reduceSub, Int.reduceMul, ↓reduceIte, Nat.reduceEqDiff, reduceCtorEq, ↓cnd_true, ↓cnd_false]
      rw [outs_some]
      refine .inl ⟨rfl, z, by omega, by omega, ?_, by simp [Env.set], kf, v2, by rw [ea2]; simp [Env.set], by rw [← hz1, ht]; simpa using g2', fun jj hj => by have := i2 jj hj; have := hK.1; omega⟩
      intro i hi
      (try simp only [Env.set])
      repeat rw [if_neg (by omega)]
      exact hE i hi
  · have e : i = size := by omega
    have c1 : decide ((z : Int) ≤ (size : Int)) = false := by simp; omega
    simp only [b27r, g2, h12, c1, rwA, rwB, Nat.reduceAdd, Nat.reduceMul, Nat.reduceLeDiff, Int.reduceEq, Int.reduceLT, Int.reduceLE, Int.reduceAdd, Int.reduceSub, Int.reduceMul, ↓reduceIte, Nat.reduceEqDiff, reduceCtorEq, ↓cnd_true, ↓cnd_false]
    rw [outs_some]
    subst e
    rw [List.take_of_length_le (by rw [alls_len]; exact Nat.le_refl _)] at hg
    refine .inr ⟨by simp, rfl, ?_, hK, v, by simp [Env.set, h11], hg, hv⟩
    intro i hi
    (try simp only [Env.set])
    repeat rw [if_neg (by omega)]
    exact hE i hi

end Go.Proofs.YtilhjcnkaelheaaGreat.Dk
end

section
/- The great seat: told answers true. -/
set_option maxRecDepth 100000
set_option linter.unusedSimpArgs false
set_option linter.unusedVariables false
set_option maxHeartbeats 8000000
namespace Go.Proofs.YtilhjcnkaelheaaGreat.Dk
open Go Go.Proofs.YtilhjcnkaelheaaGreat.Am DnFns Go.RowKit
open Sd (Sec noughts home homeno ofHome ofNo opened unfit pad)

theorem rs_all (all : List (List UInt8)) (ep : Nat) : ∀ (f at0 : Nat) (out : List (List Im)), (∀ l, l ∈ out → l.length ≤ all.length) → (rs all ep f at0 out).length ≤ out.length + f ∧ ∀ l, l ∈ rs all ep f at0 out → l.length ≤ all.length
  | 0, at0, out, h => ⟨Nat.le_refl _, h⟩
  | f + 1, at0, out, h => by
    unfold rs
    split
    · exact ⟨by omega, h⟩
    · have := on_len all ep (out.length + 1) 1025 at0 []
      obtain ⟨h1, h2⟩ := rs_all all ep f (at0 + (on all ep (out.length + 1) 1025 at0 []).length + 1) (out ++ [on all ep (out.length + 1) 1025 at0 []]) (by
        intro l hl
        rcases List.mem_append.1 hl with hl | hl
        · exact h l hl
        · simp at hl; subst hl
          rcases this with e | ⟨_, e⟩
          · rw [e]; simp
          · simp at e; omega)
      exact ⟨by rw [List.length_append, List.length_singleton] at h1; omega, h2⟩

theorem U27r {H : AHeap} {p a : Nat} {g : Option Nat} {vwD vs vw : AVal} {d : DS} (hD : D H p a g vwD d) (hR : R H vs vw d) (hw : d.w.length < 1000000) {size : Nat} (s1 : 4 ≤ size) (s2 : size ≤ 1024) (s3 : size < d.s.length) (ep : Nat) :
    ∃ K, AC A 27 [.ptr p 0, .agg (rc vs vw d), .int .i64 (size : Int), .int .u64 (ep : Int)] H = some (.bool true, K) ∧ Keeps H K := by
  have key : Rets (AC A 27 [.ptr p 0, .agg (rc vs vw d), .int .i64 (size : Int), .int .u64 (ep : Int)] H) fun u K => u = .bool true ∧ Keeps H K := by
    rw [s_fn (A := A) (f := 27) (x := DnFns.c27) rfl rfl rfl]
    obtain ⟨q, eq⟩ : ∃ q, H.next = q := ⟨_, rfl⟩
    obtain ⟨K0, eK0⟩ : ∃ K, H.new (.cells (rc vs vw d) true) = K := ⟨_, rfl⟩
    have k0 : Keeps H K0 := by rw [← eK0]; exact Keeps.new _ _
    have n0 : K0.next = q + 1 := by rw [← eK0, new_next, eq]
    have o0 : K0.obj q = some (.cells (rc vs vw d) true) := by rw [← eK0, new_obj, if_pos eq.symm]
    obtain ⟨v, K1, pl, e29, k1, N1, epl⟩ := U29 (hD.keeps k0) hw (ep := ep) s1 s2 s3
    have o1 : K1.obj q = some (.cells (rc vs vw d) true) := by rw [k1.2 q (by omega)]; exact o0
    have R1 := (hR.keeps k0).keeps k1
    have shp1 := sl_shape' hR.ss
    have shp2 := sl_shape' hR.sw
    have lv := N1.g.sl.alen
    rw [N1.sz] at lv
    cases hd : d.dead
    rotate_left
    · rw [sn_dead hd (by omega)] at e29 epl
      have pl0 : pl.length = 0 := by have := congrArg List.length epl; simpa using this
      rw [pl0] at lv
      unfold rc at eK0 o1 ⊢
      rw [hd] at eK0 o1 ⊢
      simp only at e29
      have zd : decide (((0 : Nat) : Int) = 0) = true := rfl
      rcases shp1 with rfl | ⟨_, _, _, _, _, rfl⟩ <;> rcases shp2 with rfl | ⟨_, _, _, _, _, rfl⟩ <;> rcases N1.g.shape with e | ⟨_, _, _, e⟩
      all_goals
        rw [e] at e29 lv
        simp only [c27, eq, eK0, e29, o1, lv, zd, rwA, rwB, Nat.reduceAdd, Nat.reduceMul, Nat.reduceLeDiff, Int.reduceEq, Int.reduceLT, Int.reduceLE, Int.reduceAdd, Int.reduceSub, Int.reduceMul, ↓reduceIte, Nat.reduceEqDiff, reduceCtorEq, ↓cnd_true, ↓cnd_false]
        first | (rw [rets_some]; exact ⟨rfl, k0.trans k1⟩) | exact ⟨_, _, rfl, rfl, k0.trans k1⟩
    have rd := alls_reads hd s3
    have esn := sn_rs rd ep 1025 0 []
    have e01 : ([] : List (List Im)).length + 1 = 1 := rfl
    rw [e01] at esn
    rw [esn] at e29 epl
    simp only at epl
    obtain ⟨r1, r2⟩ := rs_all (alls d size) ep 1025 0 [] (by simp)
    have pl1 : pl.length ≤ 1025 := by
      have := congrArg List.length epl
      rw [List.length_map] at this
      simp at r1; omega
    have hm : ∀ x, x ∈ pl → x.2.length ≤ 8796093022208 := by
      intro x hx
      have : x.2 ∈ pl.map (·.2) := List.mem_map_of_mem hx
      rw [epl] at this
      have := r2 _ this
      rw [alls_len] at this
      omega
    have L := fun env h2 h5 h11 h12 => loop27r (env := env) R1 o1 (by have := k1.1; omega) hw s2 h2 h5 h11 h12
    have o1' := o1
    have eK0' := eK0
    unfold rc at eK0' o1' ⊢
    rw [hd] at eK0' o1' ⊢
    rcases shp1 with hv1 | ⟨_, _, _, _, _, hv1⟩ <;> rcases shp2 with hv2 | ⟨_, _, _, _, _, hv2⟩ <;> rcases N1.g.shape with e | ⟨_, _, _, e⟩
    all_goals
      rw [hv1, hv2] at eK0' o1'
      rw [hv1, hv2]
      have e29' := e29
      rw [e] at e29'
      simp only [c27, eq, eK0', e29', o1', rwA, rwB, Nat.reduceAdd, Nat.reduceMul, Nat.reduceLeDiff, Int.reduceEq, Int.reduceLT, Int.reduceLE, Int.reduceAdd, Int.reduceSub, Int.reduceMul, ↓reduceIte, Nat.reduceEqDiff, reduceCtorEq, ↓cnd_true, ↓cnd_false]
      repeat (first | refine outs_seq ?_ | refine outs_block ?_ | refine outs_step ?_ | refine outs_stepD ?_ | refine rets_end ?_ | refine ans_end ?_)
      refine (L _ ?_ ?_ ?_ ?_).mono ?_
      · simp [Env.set, ainit]
      · simp [Env.set]
      · simp [Env.set]
      · simp [Env.set]
      rintro x env K2 ⟨rfl, hE, k2, v11, h11, g11, i11⟩
      have b3 := (hE 3 (by decide)).trans (show _ = AVal.int .u64 (ep : Int) by simp [Env.set, ainit])
      have b9 := (hE 9 (by decide)).trans (show _ = v by simp [Env.set, e])
      have b10 := (hE 10 (by decide)).trans (show _ = AVal.int .i64 0 by simp [Env.set])
      have N2 := N1.fr2' k2
      obtain ⟨v8, K3, ql, e49, k3, N3, eql⟩ := U49 N2.g.sl N2.g.lt N2.l (by omega) hm
      obtain ⟨v5, K4, rl, e50, k4, N4, erl⟩ := U50r (g11.sl.keep g11.lt k3) (fun i hi => by have := g11.lt i hi; have := k3.1; omega) (by rw [alls_len]; exact s2) ep
      have N34 := N3.fr2' k4
      have ql1 : ql.length = pl.length := by have := congrArg List.length eql; simpa using this
      have e48 := U48 N34.g.sl N4.g.sl N34.l N4.l (by omega) (fun x hx => by
        have : x.2 ∈ ql.map (·.2) := List.mem_map_of_mem hx
        rw [eql] at this
        obtain ⟨y, hy, ey⟩ := List.mem_map.1 this
        rw [← ey]; exact hm y hy)
      rw [decide_eq_true (show ql.map (·.2) = rl.map (·.2) by rw [eql, epl, erl])] at e48
      rcases N3.g.shape with e' | ⟨_, _, _, e'⟩ <;> rcases N4.g.shape with e'' | ⟨_, _, _, e''⟩
      all_goals
        rw [e'] at e49 e48
        rw [e''] at e50 e48
        simp only [outs_some, b3, b9, b10, h11, e49, e50, e48, rwA, rwB, Nat.reduceAdd, Nat.reduceMul, Nat.reduceLeDiff, Int.reduceEq, Int.reduceLT, Int.reduceLE, Int.reduceAdd, Int.reduceSub, Int.reduceMul, ↓reduceIte, Nat.reduceEqDiff, reduceCtorEq, ↓cnd_true, ↓cnd_false]
        first | (rw [rets_some]; exact ⟨rfl, (((k0.trans k1).trans k2).trans k3).trans k4⟩) | exact ⟨_, _, rfl, rfl, (((k0.trans k1).trans k2).trans k3).trans k4⟩
  obtain ⟨u, K, e, rfl, h⟩ := key
  exact ⟨K, e, h⟩

end Go.Proofs.YtilhjcnkaelheaaGreat.Dk
end

section
/- The great seat: texts; acts as arguments. -/
set_option maxRecDepth 100000
set_option linter.unusedSimpArgs false
set_option linter.unusedVariables false
set_option maxHeartbeats 8000000
namespace Go.Proofs.YtilhjcnkaelheaaGreat.Dk
open Go Go.Proofs.YtilhjcnkaelheaaGreat.Am DnFns Go.RowKit
open Sd (Sec noughts home homeno ofHome ofNo opened unfit pad)

def tx (b : UInt8) : List UInt8 := List.replicate 512 b
theorem sl_page (b : UInt8) : ((abounds (pt b).length (pt b).length none (some (.int .i64 32)) none).map fun (l, h, _) => AVal.str (((pt b).take h).drop l)) = some (.str (List.replicate 32 b)) := by
  have e : abounds 480 480 none (some (.int .i64 32)) none = some (0, 32, 480) := rfl
  rw [pt_len, e]
  simp only [Option.map_some, List.drop_zero]
  simp [pt, List.take_replicate]
theorem U19 (b : UInt8) (H : AHeap) : AC A 19 [by8 b] H = some (.str (tx b), H) := by
  refine one_val (x := DnFns.c19) rfl rfl rfl rfl rfl ?_ H
  have e : pt b ++ List.replicate 32 b = tx b := by simp [pt, tx]
  have ab : abin BinOp.add (.str (pt b)) (.str (List.replicate 32 b)) = some (.str (tx b)) := by
    rw [← e]
    show astr BinOp.add (pt b) (List.replicate 32 b) = _
    unfold astr
    first | rfl | (rw [if_pos (by rw [pt_len, List.length_replicate]; decide)]) | (simp only []; rw [if_pos (by rw [pt_len, List.length_replicate]; decide)])
  have u28 : ∀ M, AC A 28 [by8 b] M = some (.str (pt b), M) := fun M => U28 b M
  unfold by8 at u28 ⊢
  simp only [c19, u28, sl_page, ab, rwA, rwB, Nat.reduceAdd, Nat.reduceMul, Nat.reduceLeDiff, Int.reduceEq, Int.reduceLT, Int.reduceLE, Int.reduceAdd, Int.reduceSub, Int.reduceMul, ↓reduceIte, Nat.reduceEqDiff, reduceCtorEq, ↓cnd_true, ↓cnd_false]

structure Act where
  kind : Int
  pv : AVal
  puts : List Pt
  n : Int
  byte : UInt8
  kv : AVal
  keep : List Bool
def ac (a : Act) : List AVal := [.int .i64 a.kind, a.pv, .int .i64 a.n, by8 a.byte, a.kv]
theorem ac_len (a : Act) : (ac a).length = 5 := rfl
def Act.mem (H : AHeap) (a : Act) : Prop := Sl H 3 a.pv (a.puts.flatMap pc) ∧ (∀ i, i ∈ a.pv.ids → i < H.next) ∧ Sl H 1 a.kv (a.keep.map .bool) ∧ (∀ i, i ∈ a.kv.ids → i < H.next) ∧ -9223372036854775808 ≤ a.n ∧ a.n ≤ 9223372036854775807
theorem arg_acts {H : AHeap} {v : AVal} {d : Dat} (h : AArg Tryz.prog H 23 v d) :
    ∃ l : List Act, Sl H 5 v (l.flatMap ac) ∧ (∀ i, i ∈ v.ids → i < H.next) ∧ slen v = l.length ∧ ∀ a, a ∈ l → a.mem H := by
  obtain ⟨cs, hs, hv⟩ := arg_sh (f := 9) (sh := .slice 5 72 (.st 5 (.fld 0 1 (.int .i64) (.fld 1 1 (.slice 3 16 (.st 3 (.fld 0 1 (.int .i64) (.fld 1 1 (.int .u8) (.fld 2 1 .bool .fend))))) (.fld 2 1 (.int .i64) (.fld 3 1 (.int .u8) (.fld 4 1 (.slice 1 1 .bool) .fend))))))) (by kernel_rfl) h
  obtain ⟨v', l, h1, h2, h3, h4, h5, h6, h7, h8⟩ := shp_listP (enc := ac) (Pr := fun a => a.mem H) hs (fun c hc => by
    simp only [Shp] at hc
    obtain ⟨hl, ⟨k, e0, _⟩, ⟨pv, xs1, e1, p1, p2, p3, p4, p5, p6, p7⟩, ⟨n, e2, b2⟩, ⟨b, e3, b3⟩, ⟨kv, xs, e4, s1, s2, s3, s4, s5, s6, s7⟩, _⟩ := hc
    match c, hl with
    | [c0, c1, c2, c3, c4], _ =>
      simp at e0 e1 e2 e3 e4
      subst e0 e1 e2 e3 e4
      obtain ⟨l, hl, rfl⟩ := cells_of (enc := fun b => [AVal.bool b]) (slen c4) xs s4 (fun i hi => by obtain ⟨b, hb⟩ := s7 i hi; exact ⟨b, hb⟩)
      obtain ⟨ps, hps, rfl⟩ := cells_of (enc := pc) (slen c1) xs1 p4 (fun i hi => by
        obtain ⟨hl, ⟨n, e1, b1⟩, ⟨b, e2, b2⟩, ⟨s, e3⟩, _⟩ := p7 i hi
        revert hl e1 e2 e3
        generalize (xs1.drop (i * 3)).take 3 = c
        intro hl e1 e2 e3
        match c, hl with
        | [c0, c1, c2], _ =>
          simp at e1 e2 e3
          subst e1 e2 e3
          have b2' : (0 : Int) ≤ b ∧ b ≤ 255 := b2
          obtain ⟨b', eb⟩ := u8_of b2'.1 b2'.2
          exact ⟨⟨n, b', s⟩, by rw [eb]; rfl⟩)
      have b3' : (0 : Int) ≤ b ∧ b ≤ 255 := b3
      obtain ⟨b', eb⟩ := u8_of b3'.1 b3'.2
      refine ⟨⟨k, c1, ps, n, b', c4, l⟩, ⟨p1, p3, ?_, s3, b2⟩, ?_⟩
      · rw [flatMap_one] at s1; exact s1
      · rw [eb]; rfl)
  have hv := hv.1 rfl
  rw [h1] at hv
  simp at hv
  subst hv
  exact ⟨l, h2, h4, h5, h8⟩

end Go.Proofs.YtilhjcnkaelheaaGreat.Dk
end

section
/- The great seat: what an act keeps. -/
set_option maxRecDepth 100000
set_option linter.unusedSimpArgs false
set_option linter.unusedVariables false
set_option maxHeartbeats 8000000
namespace Go.Proofs.YtilhjcnkaelheaaGreat.Dk
open Go Go.Proofs.YtilhjcnkaelheaaGreat.Am DnFns Go.RowKit
open Sd (Sec noughts home homeno ofHome ofNo opened unfit pad)

theorem write_s' (d : DS) (i : Int) (s : List UInt8) : (d.write i s).1.s = d.s := by
  unfold DS.write
  split
  · split
    · exact step_s d
    · exact step_s d
  · rfl
theorem wseq_len : ∀ (B : List (List UInt8)) (d : DS) (k : Nat), (wseq d k B).1.w.length ≤ d.w.length + B.length ∧ (wseq d k B).1.s = d.s
  | [], d, k => ⟨Nat.le_refl _, rfl⟩
  | b :: B, d, k => by
    have h1 := write_w d (k : Int) b
    have h2 := write_s' d (k : Int) b
    unfold wseq
    split
    · obtain ⟨h3, h4⟩ := wseq_len B (d.write (k : Int) b).1 (k + 1)
      refine ⟨?_, h4.trans h2⟩
      rw [List.length_cons]; omega
    · refine ⟨?_, h2⟩
      rw [List.length_cons]; omega
theorem app_len (d : DS) (j : JS) (l : List Im) : (app d j l).1.w.length ≤ d.w.length + l.length + 1 ∧ (app d j l).1.s = d.s := by
  have := wseq_len (secs j l) d (1 + j.at')
  rw [secs_len] at this
  obtain ⟨h1, h2⟩ := this
  unfold app
  split
  · exact ⟨by simp only; omega, rfl⟩
  · split
    · exact ⟨by simp only; omega, rfl⟩
    · split
      · exact ⟨by simp only; omega, h2⟩
      · exact ⟨by simp only; omega, h2⟩
theorem app_j {d : DS} {j : JS} {l : List Im} (h : j.at' ≤ j.size) : (app d j l).2.1.size = j.size ∧ (app d j l).2.1.epoch = j.epoch ∧ (app d j l).2.1.at' ≤ j.size ∧ (app d j l).2.1.number ≤ j.number + 1 := by
  unfold app
  split
  · exact ⟨rfl, rfl, h, Nat.le_succ _⟩
  · split
    · exact ⟨rfl, rfl, h, Nat.le_succ _⟩
    · rename_i hr
      split
      · exact ⟨rfl, rfl, by show j.at' + (l.length + 1) ≤ _; omega, Nat.le_refl _⟩
      · exact ⟨rfl, rfl, h, Nat.le_succ _⟩

end Go.Proofs.YtilhjcnkaelheaaGreat.Dk
end

section
/- The great seat: both disks and both journals, apart. -/
set_option maxRecDepth 100000
set_option linter.unusedSimpArgs false
set_option linter.unusedVariables false
set_option maxHeartbeats 8000000
namespace Go.Proofs.YtilhjcnkaelheaaGreat.Dk
open Go Go.Proofs.YtilhjcnkaelheaaGreat.Am DnFns Go.RowKit
open Sd (Sec noughts home homeno ofHome ofNo opened unfit pad)

structure PT (B H : AHeap) (p a : Nat) (g : Option Nat) (jp : Nat) (vw vs rw : AVal) (d : DS) (j : JS) : Prop where
  hd : D H p a g vw d
  hr : R H vs rw d
  hj : J H jp p a vw j
  sv : ∀ i, i ∈ vs.ids → i ≠ p ∧ i ≠ a ∧ i ≠ jp ∧ i ∉ vw.ids
  sw : ∀ i, i ∈ rw.ids → i ≠ p ∧ i ≠ a ∧ i ≠ jp ∧ i ∉ vw.ids
  base : Keeps B H
  bp : B.next ≤ p
  ba : B.next ≤ a
  bj : B.next ≤ jp
  bw : ∀ i, i ∈ vw.ids → B.next ≤ i

theorem PT.step {B H K K2 : AHeap} {p a : Nat} {g : Option Nat} {jp : Nat} {vw vs rw vw' vs' rw' : AVal} {d d' : DS} {j j' : JS} (T : PT B H p a g jp vw vs rw d j) (k : Keeps H K) (hR : R K vs' rw' d') (hs : ∀ i, i ∈ vs'.ids → i ∈ vs.ids ∨ H.next ≤ i) (hw : ∀ i, i ∈ rw'.ids → i ∈ rw.ids ∨ H.next ≤ i)
    {L : List Nat} (hD : D K2 p a g vw' d') (hJ : J K2 jp p a vw' j') (f : Fr L K K2) (hL : ∀ i, i ∈ L → i = p ∨ i = a ∨ i = jp ∨ i ∈ vw.ids) (hv : ∀ i, i ∈ vw'.ids → i ∈ vw.ids ∨ K.next ≤ i) : PT B K2 p a g jp vw' vs' rw' d' j' := by
  have x0 := k.1
  have x1 := f.1
  have pn := T.hd.pn
  have an := T.hd.an
  have jn := T.hj.jn
  have wn := T.hd.ow.lt
  have bb := T.base.1
  have bp := T.bp
  have ba := T.ba
  have bj := T.bj
  have gen : ∀ i, (i ∈ vs'.ids ∨ i ∈ rw'.ids) → i < K.next ∧ i ∉ L ∧ i ≠ p ∧ i ≠ a ∧ i ≠ jp ∧ i ∉ vw'.ids := by
    intro i hi
    have hlt : i < K.next := hi.elim (hR.si i) (hR.wi i)
    have hc : (i ≠ p ∧ i ≠ a ∧ i ≠ jp ∧ i ∉ vw.ids) ∨ H.next ≤ i := by
      rcases hi with hi | hi
      · exact (hs i hi).imp_left (T.sv i)
      · exact (hw i hi).imp_left (T.sw i)
    have hn : i ≠ p ∧ i ≠ a ∧ i ≠ jp ∧ i ∉ vw.ids := by
      rcases hc with h | h
      · exact h
      · exact ⟨by omega, by omega, by omega, fun hx => by have := wn i hx; omega⟩
    refine ⟨hlt, fun hl => ?_, hn.1, hn.2.1, hn.2.2.1, fun hx => (hv i hx).elim hn.2.2.2 (by omega)⟩
    rcases hL i hl with h | h | h | h
    · exact hn.1 h
    · exact hn.2.1 h
    · exact hn.2.2.1 h
    · exact hn.2.2.2 h
  refine ⟨hD, hR.fr f (fun i hi => (gen i (.inl hi)).2.1) (fun i hi => (gen i (.inr hi)).2.1), hJ, fun i hi => (gen i (.inl hi)).2.2, fun i hi => (gen i (.inr hi)).2.2, ⟨by omega, fun i hi => ?_⟩, bp, ba, bj, fun i hi => (hv i hi).elim (T.bw i) (fun h => by omega)⟩
  rw [f.2 i (by omega) (fun hl => ?_), k.2 i (by omega), T.base.2 i hi]
  rcases hL i hl with h | h | h | h
  · omega
  · omega
  · omega
  · have := T.bw i h; omega

end Go.Proofs.YtilhjcnkaelheaaGreat.Dk
end

section
/- The great seat: both, with the objects of the reference's disk and journal. -/
set_option maxRecDepth 100000
set_option linter.unusedSimpArgs false
set_option linter.unusedVariables false
set_option maxHeartbeats 8000000
namespace Go.Proofs.YtilhjcnkaelheaaGreat.Dk
open Go Go.Proofs.YtilhjcnkaelheaaGreat.Am DnFns Go.RowKit
open Sd (Sec noughts home homeno ofHome ofNo opened unfit pad)

structure Own (B H : AHeap) (p a jp : Nat) (vw vs rw : AVal) (w : Nat) (cs : List AVal) : Prop where
  o : H.obj w = some (.cells cs true)
  n : w < H.next
  b : B.next ≤ w
  d : w ≠ p ∧ w ≠ a ∧ w ≠ jp ∧ w ∉ vw.ids ∧ w ∉ vs.ids ∧ w ∉ rw.ids
theorem Own.fr {B H K : AHeap} {p a jp : Nat} {vw vs rw vw' vs' rw' : AVal} {w : Nat} {cs : List AVal} {L : List Nat} (h : Own B H p a jp vw vs rw w cs) (f : Fr L H K) (hL : w ∉ L) (hv : ∀ i, i ∈ vw'.ids → i ∈ vw.ids ∨ H.next ≤ i) (hs : ∀ i, i ∈ vs'.ids → i ∈ vs.ids ∨ H.next ≤ i) (hr : ∀ i, i ∈ rw'.ids → i ∈ rw.ids ∨ H.next ≤ i) : Own B K p a jp vw' vs' rw' w cs := by
  have n := h.n
  exact ⟨by rw [f.2 w h.n hL]; exact h.o, Nat.lt_of_lt_of_le h.n f.1, h.b, h.d.1, h.d.2.1, h.d.2.2.1, fun hx => (hv w hx).elim h.d.2.2.2.1 (by omega), fun hx => (hs w hx).elim h.d.2.2.2.2.1 (by omega), fun hx => (hr w hx).elim h.d.2.2.2.2.2 (by omega)⟩
theorem Own.set {B H : AHeap} {p a jp : Nat} {vw vs rw : AVal} {w : Nat} {cs : List AVal} (h : Own B H p a jp vw vs rw w cs) (cs' : List AVal) : Own B (H.set w (.cells cs' true)) p a jp vw vs rw w cs' :=
  ⟨by rw [set_obj, if_pos rfl], by rw [set_next]; exact h.n, h.b, h.d⟩
theorem PT.own {B H : AHeap} {p a : Nat} {g : Option Nat} {jp : Nat} {vw vs rw : AVal} {d : DS} {j : JS} {w : Nat} {cs cs' : List AVal} (T : PT B H p a g jp vw vs rw d j) (h : Own B H p a jp vw vs rw w cs) : PT B (H.set w (.cells cs' true)) p a g jp vw vs rw d j := by
  have k : Fr [w] H (H.set w (.cells cs' true)) := Fr.set (.inl (by simp)) (Fr.refl _ _)
  refine ⟨T.hd.fr k (by simp; exact Ne.symm h.d.1) (by simp; exact Ne.symm h.d.2.1) (fun i hi => by simp; rintro rfl; exact h.d.2.2.2.1 hi), T.hr.fr k (fun i hi => by simp; rintro rfl; exact h.d.2.2.2.2.1 hi) (fun i hi => by simp; rintro rfl; exact h.d.2.2.2.2.2 hi), T.hj.fr k (by simp; exact Ne.symm h.d.2.2.1) (fun i hi => .inl hi), T.sv, T.sw, ⟨by rw [set_next]; exact T.base.1, fun i hi => ?_⟩, T.bp, T.ba, T.bj, T.bw⟩
  rw [k.2 i (by have := T.base.1; omega) (by simp; have := h.b; omega), T.base.2 i hi]

end Go.Proofs.YtilhjcnkaelheaaGreat.Dk
end

section
/- The great seat: appended on both sides. -/
set_option maxRecDepth 100000
set_option linter.unusedSimpArgs false
set_option linter.unusedVariables false
set_option maxHeartbeats 8000000
namespace Go.Proofs.YtilhjcnkaelheaaGreat.Dk
open Go Go.Proofs.YtilhjcnkaelheaaGreat.Am DnFns Go.RowKit
open Sd (Sec noughts home homeno ofHome ofNo opened unfit pad)

theorem PT.append {B H : AHeap} {p a : Nat} {g : Option Nat} {jp : Nat} {vw vs rw : AVal} {d : DS} {j : JS} {w v : Nat} (T : PT B H p a g jp vw vs rw d j) (hw : Own B H p a jp vw vs rw w (rc vs rw d)) (hv : Own B H p a jp vw vs rw v (jr j)) (hwv : w ≠ v) (wf : j.wf) (hwl : d.w.length < 400000) {pv : AVal} {ps : List Pt} (hu : Sl B 3 pv (ps.flatMap pc)) (hi : ∀ i, i ∈ pv.ids → i < B.next) (hn : ps.length ≤ 60) :
    ∃ v1 K1 rw' K2 v3 K3 v4 K4 K5 vw', AC A 10 [pv] H = some (v1, K1) ∧
      AC A 9 [.agg (rc vs rw d), .agg (jr j), v1] K1 = some (.tuple [.agg (rc vs rw' (app d j (ps.map imOf)).1), .agg (jr (app d j (ps.map imOf)).2.1), .int .i64 (app d j (ps.map imOf)).2.2], K2) ∧
      AC A 10 [pv] ((K2.set w (.cells (rc vs rw' (app d j (ps.map imOf)).1) true)).set v (.cells (jr (app d j (ps.map imOf)).2.1) true)) = some (v3, K3) ∧ AC A 12 [v3] K3 = some (v4, K4) ∧ AC A 11 [.ptr jp 0, v4] K4 = some (.int .i64 (app d j (ps.map imOf)).2.2, K5) ∧
      Keeps H K1 ∧ Keeps K1 K2 ∧ K1.obj w = some (.cells (rc vs rw d) true) ∧ K1.obj v = some (.cells (jr j) true) ∧ K2.obj w = some (.cells (rc vs rw d) true) ∧ K2.obj v = some (.cells (jr j) true) ∧
      PT B K5 p a g jp vw' vs rw' (app d j (ps.map imOf)).1 (app d j (ps.map imOf)).2.1 ∧ Own B K5 p a jp vw' vs rw' w (rc vs rw' (app d j (ps.map imOf)).1) ∧ Own B K5 p a jp vw' vs rw' v (jr (app d j (ps.map imOf)).2.1) ∧ Fr (w :: v :: p :: jp :: vw.ids) H K5 ∧
      (v1 = .nils ∨ ∃ a n g, v1 = .slice a 0 n n g) ∧ (v3 = .nils ∨ ∃ a n g, v3 = .slice a 0 n n g) ∧ (v4 = .nils ∨ ∃ a n g, v4 = .slice a 0 n n g) := by
  have bn := T.base.1
  obtain ⟨v1, K1, e10, g1, k1, i1⟩ := U10 (hu.keep hi T.base) (fun i h => by have := hi i h; omega) (by omega)
  obtain ⟨K2, rw', e9, R2, k2, i2⟩ := U9 (T.hr.keeps k1) T.hd.a0 T.hd.a1 hwl wf g1.sl g1.lt (by simpa using (by omega : ps.length ≤ 8796093022208))
  obtain ⟨im, eim⟩ : ∃ im, ps.map imOf = im := ⟨_, rfl⟩
  have iml : im.length ≤ 60 := by rw [← eim]; simpa using hn
  rw [eim] at e9 R2 g1
  obtain ⟨d', ed⟩ : ∃ d', (app d j im).1 = d' := ⟨_, rfl⟩
  obtain ⟨j', ej⟩ : ∃ j', (app d j im).2.1 = j' := ⟨_, rfl⟩
  obtain ⟨no, eno⟩ : ∃ no, (app d j im).2.2 = no := ⟨_, rfl⟩
  rw [ed, ej, eno] at e9
  rw [ed] at R2
  obtain ⟨K2', eK⟩ : ∃ X, (K2.set w (.cells (rc vs rw' d') true)).set v (.cells (jr j') true) = X := ⟨_, rfl⟩
  have f2 : Fr [w, v] K2 K2' := by rw [← eK]; exact Fr.set (.inl (by simp)) (Fr.set (.inl (by simp)) (Fr.refl _ _))
  have n1 := k1.1
  have n2 := k2.1
  have n3 := f2.1
  have wn := hw.n
  have vn := hv.n
  have kk := k1.trans k2
  have fH : Fr [w, v] H K2' := (Fr.of (L := [w, v]) kk).trans f2 (fun i hi => .inl hi)
  have kB : Keeps B K2' := ⟨by omega, fun i hi => by rw [fH.2 i (by omega) (by simp; have := hw.b; have := hv.b; omega), T.base.2 i hi]⟩
  obtain ⟨v3, K3, e10b, g3, k3, i3⟩ := U10 (hu.keep hi kB) (fun i h => by have := hi i h; omega) (by omega)
  rw [eim] at g3
  obtain ⟨v4, K4, e12, g4, k4, i4⟩ := U12 g3.sl g3.lt (by omega)
  have fH4 : Fr [w, v] H K4 := (fH.trans (Fr.of (L := []) k3) (by simp)).trans (Fr.of (L := []) k4) (by simp)
  have m3 := k3.1
  have m4 := k4.1
  have D4 := T.hd.fr fH4 (by simp; exact ⟨Ne.symm hw.d.1, Ne.symm hv.d.1⟩) (by simp; exact ⟨Ne.symm hw.d.2.1, Ne.symm hv.d.2.1⟩) (fun i hi => by simp; exact ⟨by rintro rfl; exact hw.d.2.2.2.1 hi, by rintro rfl; exact hv.d.2.2.2.1 hi⟩)
  have J4 := T.hj.fr (vw' := vw) fH4 (by simp; exact ⟨Ne.symm hw.d.2.2.1, Ne.symm hv.d.2.2.1⟩) (fun i hi => .inl hi)
  have pn := T.hd.pn
  have vl := T.hd.ow.lt
  obtain ⟨K5, vw', e11, hD, hJ, f5, i5⟩ := U11 D4 J4 wf hwl g4.sl (fun i hi => ⟨g4.lt i hi, by have := i4 i hi; omega, fun hx => by have := i4 i hi; have := vl i hx; omega⟩) (by omega)
  rw [ed] at hD
  rw [ej] at hJ
  rw [eno] at e11
  have R2' : R K4 vs rw' d' := ((R2.fr f2 (fun i hi => by
      simp; exact ⟨by rintro rfl; exact hw.d.2.2.2.2.1 hi, by rintro rfl; exact hv.d.2.2.2.2.1 hi⟩) (fun i hi => by
      simp; exact ⟨by rintro rfl; exact (i2 _ hi).elim hw.d.2.2.2.2.2 (by omega), by rintro rfl; exact (i2 _ hi).elim hv.d.2.2.2.2.2 (by omega)⟩)).keeps k3).keeps k4
  have Lw : w ∉ p :: jp :: vw.ids := by simp; exact ⟨hw.d.1, hw.d.2.2.1, hw.d.2.2.2.1⟩
  have Lv : v ∉ p :: jp :: vw.ids := by simp; exact ⟨hv.d.1, hv.d.2.2.1, hv.d.2.2.2.1⟩
  have n5 := f5.1
  have rwl := R2.wi
  have rc' : ∀ i, i ∈ rw'.ids → i ≠ p ∧ i ≠ a ∧ i ≠ jp ∧ i ∉ vw.ids := by
    intro i hi
    rcases i2 i hi with h | h
    · exact T.sw i h
    · exact ⟨by omega, by have := T.hd.an; omega, by have := T.hj.jn; omega, fun hx => by have := vl i hx; omega⟩
  have ow2 : K2'.obj w = some (.cells (rc vs rw' d') true) := by rw [← eK, set_obj, if_neg hwv, set_obj, if_pos rfl]
  have ov2 : K2'.obj v = some (.cells (jr j') true) := by rw [← eK, set_obj, if_pos rfl]
  have ow5 : K5.obj w = some (.cells (rc vs rw' d') true) := by rw [f5.2 w (by omega) Lw, k4.2 w (by omega), k3.2 w (by omega)]; exact ow2
  have ov5 : K5.obj v = some (.cells (jr j') true) := by rw [f5.2 v (by omega) Lv, k4.2 v (by omega), k3.2 v (by omega)]; exact ov2
  have F5 : Fr (w :: v :: p :: jp :: vw.ids) H K5 := (fH4.mono (fun i hi => .inl (by simp at hi ⊢; rcases hi with h | h <;> simp [h]))).trans f5 (fun i hi => .inl (by simp at hi ⊢; rcases hi with h | h | h <;> simp [h]))
  rw [eim, ed, ej, eno]
  refine ⟨v1, K1, rw', K2, v3, K3, v4, K4, K5, vw', e10, e9, ?_, e12, e11, k1, k2, by rw [k1.2 w wn]; exact hw.o, by rw [k1.2 v vn]; exact hv.o, by rw [k2.2 w (by omega), k1.2 w wn]; exact hw.o, by rw [k2.2 v (by omega), k1.2 v vn]; exact hv.o, ?_, ?_, ?_, F5, g1.shape, g3.shape, g4.shape⟩
  · rw [eK]; exact e10b
  · refine ⟨hD, R2'.fr f5 (fun i hi => by simp; exact ⟨(T.sv i hi).1, (T.sv i hi).2.2.1, (T.sv i hi).2.2.2⟩) (fun i hi => by simp; exact ⟨(rc' i hi).1, (rc' i hi).2.2.1, (rc' i hi).2.2.2⟩), hJ, fun i hi => ⟨(T.sv i hi).1, (T.sv i hi).2.1, (T.sv i hi).2.2.1, fun hx => (i5 i hx).elim (T.sv i hi).2.2.2 (by have := T.hr.si i hi; omega)⟩, fun i hi => ⟨(rc' i hi).1, (rc' i hi).2.1, (rc' i hi).2.2.1, fun hx => (i5 i hx).elim (rc' i hi).2.2.2 (by have := rwl i hi; omega)⟩, ⟨by omega, fun i hi => ?_⟩, T.bp, T.ba, T.bj, fun i hi => (i5 i hi).elim (T.bw i) (by omega)⟩
    rw [f5.2 i (by omega) (by simp; exact ⟨by have := T.bp; omega, by have := T.bj; omega, fun hx => by have := T.bw i hx; omega⟩), fH4.2 i (by omega) (by simp; have := hw.b; have := hv.b; omega), T.base.2 i hi]
  · exact ⟨ow5, by omega, hw.b, hw.d.1, hw.d.2.1, hw.d.2.2.1, fun hx => (i5 w hx).elim hw.d.2.2.2.1 (by omega), hw.d.2.2.2.2.1, fun hx => (i2 w hx).elim hw.d.2.2.2.2.2 (by omega)⟩
  · exact ⟨ov5, by omega, hv.b, hv.d.1, hv.d.2.1, hv.d.2.2.1, fun hx => (i5 v hx).elim hv.d.2.2.2.1 (by omega), hv.d.2.2.2.2.1, fun hx => (i2 v hx).elim hv.d.2.2.2.2.2 (by omega)⟩

end Go.Proofs.YtilhjcnkaelheaaGreat.Dk
end

section
/- The great seat: flushed on both sides. -/
set_option maxRecDepth 100000
set_option linter.unusedSimpArgs false
set_option linter.unusedVariables false
set_option maxHeartbeats 8000000
namespace Go.Proofs.YtilhjcnkaelheaaGreat.Dk
open Go Go.Proofs.YtilhjcnkaelheaaGreat.Am DnFns Go.RowKit
open Sd (Sec noughts home homeno ofHome ofNo opened unfit pad)

theorem PT.both {B H K1 K1' K2 : AHeap} {p a : Nat} {g : Option Nat} {jp : Nat} {vw vs rw vw' vs' rw' : AVal} {d d' : DS} {j : JS} {w v : Nat} (T : PT B H p a g jp vw vs rw d j) (hw : Own B H p a jp vw vs rw w (rc vs rw d)) (hv : Own B H p a jp vw vs rw v (jr j)) (hwv : w ≠ v)
    (k1 : Keeps H K1) (R1 : R K1 vs' rw' d') (hs : ∀ i, i ∈ vs'.ids → i ∈ vs.ids ∨ H.next ≤ i) (hr : ∀ i, i ∈ rw'.ids → i ∈ rw.ids ∨ H.next ≤ i) (eK : K1.set w (.cells (rc vs' rw' d') true) = K1')
    {L : List Nat} (hD : D K2 p a g vw' d') (f : Fr L K1' K2) (hL : ∀ i, i ∈ L → i = p ∨ i = a ∨ i ∈ vw.ids) (hi : ∀ i, i ∈ vw'.ids → i ∈ vw.ids ∨ K1'.next ≤ i) :
    PT B K2 p a g jp vw' vs' rw' d' j ∧ Own B K2 p a jp vw' vs' rw' w (rc vs' rw' d') ∧ Own B K2 p a jp vw' vs' rw' v (jr j) ∧ Fr (w :: p :: a :: vw.ids) H K2 := by
  have wn := hw.n
  have vn := hv.n
  have n1 := k1.1
  have f1 : Fr [w] K1 K1' := by rw [← eK]; exact Fr.set (.inl (by simp)) (Fr.refl _ _)
  have n1' := f1.1
  have n2 := f.1
  have bn := T.base.1
  have fH : Fr [w] H K1' := (Fr.of (L := [w]) k1).trans f1 (fun i hi => .inl hi)
  have pn := T.hd.pn
  have an := T.hd.an
  have jn := T.hj.jn
  have vl := T.hd.ow.lt
  have e1 : K1'.next = K1.next := by rw [← eK, set_next]
  have gen : ∀ i, (i ∈ vs'.ids ∨ i ∈ rw'.ids) → i < K1.next ∧ i ≠ w ∧ i ≠ p ∧ i ≠ a ∧ i ≠ jp ∧ i ∉ vw.ids ∧ i ≠ v := by
    intro i hi
    have hlt : i < K1.next := hi.elim (R1.si i) (R1.wi i)
    have hc : (i ≠ w ∧ i ≠ p ∧ i ≠ a ∧ i ≠ jp ∧ i ∉ vw.ids ∧ i ≠ v) ∨ H.next ≤ i := by
      rcases hi with hi | hi
      · refine (hs i hi).imp_left (fun h => ?_)
        have := T.sv i h
        exact ⟨by rintro rfl; exact hw.d.2.2.2.2.1 h, this.1, this.2.1, this.2.2.1, this.2.2.2, by rintro rfl; exact hv.d.2.2.2.2.1 h⟩
      · refine (hr i hi).imp_left (fun h => ?_)
        have := T.sw i h
        exact ⟨by rintro rfl; exact hw.d.2.2.2.2.2 h, this.1, this.2.1, this.2.2.1, this.2.2.2, by rintro rfl; exact hv.d.2.2.2.2.2 h⟩
    rcases hc with h | h
    · exact ⟨hlt, h⟩
    · exact ⟨hlt, by omega, by omega, by omega, by omega, fun hx => by have := vl i hx; omega, by omega⟩
  have notL : ∀ i, i ≠ p → i ≠ a → i ∉ vw.ids → i ∉ L := fun i h1 h2 h3 hl => by
    rcases hL i hl with h | h | h
    · exact h1 h
    · exact h2 h
    · exact h3 h
  have Lw := notL w hw.d.1 hw.d.2.1 hw.d.2.2.2.1
  have Lv := notL v hv.d.1 hv.d.2.1 hv.d.2.2.2.1
  have Lj := notL jp T.hj.jd.1 T.hj.jd.2.1 T.hj.jd.2.2
  have R2 : R K2 vs' rw' d' := (R1.fr f1 (fun i hi => by simp; exact (gen i (.inl hi)).2.1) (fun i hi => by simp; exact (gen i (.inr hi)).2.1)).fr f (fun i hi => notL i (gen i (.inl hi)).2.2.1 (gen i (.inl hi)).2.2.2.1 (gen i (.inl hi)).2.2.2.2.2.1) (fun i hi => notL i (gen i (.inr hi)).2.2.1 (gen i (.inr hi)).2.2.2.1 (gen i (.inr hi)).2.2.2.2.2.1)
  have J2 := (T.hj.fr (vw' := vw) fH (by simp; exact Ne.symm hw.d.2.2.1) (fun i hi => .inl hi)).fr (vw' := vw') f Lj hi
  have out : ∀ i, (i ∈ vs'.ids ∨ i ∈ rw'.ids) → i ≠ p ∧ i ≠ a ∧ i ≠ jp ∧ i ∉ vw'.ids := fun i h => ⟨(gen i h).2.2.1, (gen i h).2.2.2.1, (gen i h).2.2.2.2.1, fun hx => (hi i hx).elim (gen i h).2.2.2.2.2.1 (by have := (gen i h).1; omega)⟩
  have F2 : Fr (w :: p :: a :: vw.ids) H K2 := (fH.mono (fun i hi => .inl (by simp at hi; simp [hi]))).trans f (fun i hi => .inl (by rcases hL i hi with h | h | h <;> simp [h]))
  refine ⟨⟨hD, R2, J2, fun i hi => out i (.inl hi), fun i hi => out i (.inr hi), ⟨by omega, fun i hi => ?_⟩, T.bp, T.ba, T.bj, fun i h => (hi i h).elim (T.bw i) (by omega)⟩, ⟨?_, by omega, hw.b, hw.d.1, hw.d.2.1, hw.d.2.2.1, fun hx => (hi w hx).elim hw.d.2.2.2.1 (by omega), fun hx => (gen w (.inl hx)).2.1 rfl, fun hx => (gen w (.inr hx)).2.1 rfl⟩, ⟨?_, by omega, hv.b, hv.d.1, hv.d.2.1, hv.d.2.2.1, fun hx => (hi v hx).elim hv.d.2.2.2.1 (by omega), fun hx => (gen v (.inl hx)).2.2.2.2.2.2 rfl, fun hx => (gen v (.inr hx)).2.2.2.2.2.2 rfl⟩, F2⟩
  · rw [F2.2 i (by omega) ?_, T.base.2 i hi]
    simp only [List.mem_cons, not_or]
    exact ⟨by have := hw.b; omega, by have := T.bp; omega, by have := T.ba; omega, fun hx => by have := T.bw i hx; omega⟩
  · rw [f.2 w (by omega) Lw, ← eK, set_obj, if_pos rfl]
  · rw [f.2 v (by omega) Lv, f1.2 v (by omega) (by simp; exact Ne.symm hwv), k1.2 v vn]; exact hv.o

end Go.Proofs.YtilhjcnkaelheaaGreat.Dk
end

section
/- The great seat: what an act does to the state; both sides of each kind. -/
set_option maxRecDepth 100000
set_option linter.unusedSimpArgs false
set_option linter.unusedVariables false
set_option maxHeartbeats 8000000
namespace Go.Proofs.YtilhjcnkaelheaaGreat.Dk
open Go Go.Proofs.YtilhjcnkaelheaaGreat.Am DnFns Go.RowKit
open Sd (Sec noughts home homeno ofHome ofNo opened unfit pad)

/-! ### The plain law: what an act does -/
def eff (S : DS × JS) (a : Act) : DS × JS :=
  if a.kind = 0 then ((app S.1 S.2 (a.puts.map imOf)).1, (app S.1 S.2 (a.puts.map imOf)).2.1)
  else if a.kind = 1 then (S.1.flush.1, S.2)
  else if a.kind = 2 then ({ S.1 with arm := low a.n }, S.2)
  else if a.kind = 3 then ((S.1.up a.keep).1, S.2)
  else if a.kind = 4 then ((S.1.write a.n (tx a.byte)).1, S.2)
  else if a.kind = 5 then (S.1, ⟨S.2.size, (S.2.epoch + 1) % 18446744073709551616, 0, 0⟩)
  else S

theorem app_s (d : DS) (j : JS) (l : List Im) : (app d j l).1.s = d.s := (app_len d j l).2
theorem eff_s (S : DS × JS) (a : Act) : (eff S a).1.s.length = S.1.s.length := by
  unfold eff
  split
  · rw [app_s]
  · split
    · unfold DS.flush
      split
      · show (puts S.1.step.s _).length = _; rw [puts_len, step_s]
      · show S.1.step.s.length = _; rw [step_s]
    · split
      · rfl
      · split
        · show (puts S.1.s _).length = _; rw [puts_len]
        · split
          · rw [write_s']
          · split <;> rfl
theorem eff_w (S : DS × JS) (a : Act) (h : a.puts.length ≤ 60) : (eff S a).1.w.length ≤ S.1.w.length + 61 := by
  unfold eff
  split
  · have := (app_len S.1 S.2 (a.puts.map imOf)).1
    rw [List.length_map] at this
    simp only; omega
  · split
    · unfold DS.flush
      split
      · exact Nat.zero_le _
      · show S.1.step.w.length ≤ _; rw [step_w]; omega
    · split
      · exact Nat.le_add_right _ _
      · split
        · exact Nat.zero_le _
        · split
          · have := write_w S.1 a.n (tx a.byte)
            simp only; omega
          · split <;> exact Nat.le_add_right _ _
theorem eff_j (S : DS × JS) (a : Act) (h : S.2.at' ≤ S.2.size) (he : S.2.epoch < 18446744073709551616) : (eff S a).2.size = S.2.size ∧ (eff S a).2.at' ≤ (eff S a).2.size ∧ (eff S a).2.number ≤ S.2.number + 1 ∧ (eff S a).2.epoch < 18446744073709551616 := by
  unfold eff
  split
  · obtain ⟨h1, h2, h3, h4⟩ := app_j (d := S.1) (l := a.puts.map imOf) h
    exact ⟨h1, by rw [h1]; exact h3, h4, by rw [h2]; exact he⟩
  · split
    · exact ⟨rfl, h, Nat.le_succ _, he⟩
    · split
      · exact ⟨rfl, h, Nat.le_succ _, he⟩
      · split
        · exact ⟨rfl, h, Nat.le_succ _, he⟩
        · split
          · exact ⟨rfl, h, Nat.le_succ _, he⟩
          · split
            · exact ⟨rfl, Nat.zero_le _, Nat.zero_le _, Nat.mod_lt _ (by decide)⟩
            · exact ⟨rfl, h, Nat.le_succ _, he⟩
structure Fits (n size i : Nat) (S : DS × JS) : Prop where
  s : S.1.s.length = n
  w : S.1.w.length ≤ 61 * i
  z : S.2.size = size
  a : S.2.at' ≤ S.2.size
  m : S.2.number ≤ i
  e : S.2.epoch < 18446744073709551616
theorem Fits.eff {n size i : Nat} {S : DS × JS} (h : Fits n size i S) (a : Act) (ha : a.puts.length ≤ 60) : Fits n size (i + 1) (Dk.eff S a) := by
  obtain ⟨h1, h2, h3, h4⟩ := eff_j S a h.a h.e
  have h5 := eff_w S a ha
  have := h.w
  have := h.m
  exact ⟨(eff_s S a).trans h.s, by omega, h1.trans h.z, h2, by omega, h4⟩
theorem Fits.wf {n size i : Nat} {S : DS × JS} (h : Fits n size i S) (hi : i ≤ 40) (s1 : 4 ≤ size) (s2 : size ≤ 1024) : S.2.wf := by
  have := h.m
  exact ⟨by rw [h.z]; exact s1, by rw [h.z]; exact s2, h.a, h.e, by omega⟩

/-! ### The state in memory -/
structure St (B H : AHeap) (p a : Nat) (g : Option Nat) (jp : Nat) (vw vs rw : AVal) (S : DS × JS) (w v : Nat) : Prop where
  T : PT B H p a g jp vw vs rw S.1 S.2
  ow : Own B H p a jp vw vs rw w (rc vs rw S.1)
  ov : Own B H p a jp vw vs rw v (jr S.2)
  ne : w ≠ v
theorem PT.keeps {B H K : AHeap} {p a : Nat} {g : Option Nat} {jp : Nat} {vw vs rw : AVal} {d : DS} {j : JS} (T : PT B H p a g jp vw vs rw d j) (k : Keeps H K) : PT B K p a g jp vw vs rw d j :=
  ⟨T.hd.keeps k, T.hr.keeps k, T.hj.fr (L := []) (Fr.of k) (by simp) (fun i hi => .inl hi), T.sv, T.sw, T.base.trans k, T.bp, T.ba, T.bj, T.bw⟩
theorem Own.keeps {B H K : AHeap} {p a jp : Nat} {vw vs rw : AVal} {w : Nat} {cs : List AVal} (h : Own B H p a jp vw vs rw w cs) (k : Keeps H K) : Own B K p a jp vw vs rw w cs :=
  ⟨by rw [k.2 w h.n]; exact h.o, Nat.lt_of_lt_of_le h.n k.1, h.b, h.d⟩
theorem St.keeps {B H K : AHeap} {p a : Nat} {g : Option Nat} {jp : Nat} {vw vs rw : AVal} {S : DS × JS} {w v : Nat} (h : St B H p a g jp vw vs rw S w v) (k : Keeps H K) : St B K p a g jp vw vs rw S w v :=
  ⟨h.T.keeps k, h.ow.keeps k, h.ov.keeps k, h.ne⟩
theorem PT.newj {B H : AHeap} {p a : Nat} {g : Option Nat} {jp : Nat} {vw vs rw : AVal} {d : DS} {j : JS} (T : PT B H p a g jp vw vs rw d j) (j' : JS) : PT B (H.new (.cells (jc p j') true)) p a g H.next vw vs rw d j' := by
  have k := Keeps.new H (.cells (jc p j') true)
  have pn := T.hd.pn
  have an := T.hd.an
  have vl := T.hd.ow.lt
  have si := T.hr.si
  have wi := T.hr.wi
  exact ⟨T.hd.keeps k, T.hr.keeps k, ⟨by rw [new_obj, if_pos rfl], by rw [new_next]; omega, by omega, by omega, fun hx => by have := vl _ hx; omega⟩, fun i hi => ⟨(T.sv i hi).1, (T.sv i hi).2.1, by have := si i hi; omega, (T.sv i hi).2.2.2⟩, fun i hi => ⟨(T.sw i hi).1, (T.sw i hi).2.1, by have := wi i hi; omega, (T.sw i hi).2.2.2⟩, T.base.trans k, T.bp, T.ba, T.base.1, T.bw⟩
theorem Own.newj {B H : AHeap} {p a jp : Nat} {vw vs rw : AVal} {w : Nat} {cs : List AVal} (h : Own B H p a jp vw vs rw w cs) (o : AObj) : Own B (H.new o) p a H.next vw vs rw w cs :=
  have n := h.n
  ⟨by rw [new_obj, if_neg (by omega)]; exact h.o, by rw [new_next]; omega, h.b, h.d.1, h.d.2.1, by omega, h.d.2.2.2⟩
theorem PT.stored {B H K1 : AHeap} {p a : Nat} {g : Option Nat} {jp : Nat} {vw vs rw : AVal} {d : DS} {j : JS} {w : Nat} {cs cs' : List AVal} (T : PT B H p a g jp vw vs rw d j) (hw : Own B H p a jp vw vs rw w cs) (k1 : Keeps H K1) : D (K1.set w (.cells cs' true)) p a g vw d :=
  (T.hd.keeps k1).fr (L := [w]) (Fr.set (.inl (by simp)) (Fr.refl _ _)) (by simp; exact Ne.symm hw.d.1) (by simp; exact Ne.symm hw.d.2.1) (fun i hi => by simp; rintro rfl; exact hw.d.2.2.2.1 hi)

def Post (B : AHeap) (p a : Nat) (g : Option Nat) (S : DS × JS) (w v : Nat) (env : Env) (e : AExit) (env' : Env) (K : AHeap) : Prop :=
  e = .normal ∧ (env' 1 = env 1 ∧ env' 9 = env 9 ∧ env' 11 = env 11 ∧ env' 15 = env 15 ∧ env' 93 = env 93 ∧ env' 94 = env 94 ∧ env' 95 = env 95) ∧
    ∃ jp vw vs rw n m, env' 13 = .ptr jp 0 ∧ env' 18 = .int .i64 n ∧ env' 19 = .int .i64 n ∧ env' 20 = .int .i64 m ∧ env' 21 = .int .i64 m ∧ St B K p a g jp vw vs rw S w v

def sw3 : ACode := (.block 2 (.seq (.region [⟨(some 106), (.bin .eql (.tmp 104) (.con (.int .i64 0))), none, none⟩, ⟨(some 105), (.mv (.tmp 106)), none, none⟩]) (.cond (.tmp 105) (.seq (.draw [⟨(some 108), (.load true 5 (.tmp 11)), none, (some (0, 1))⟩, ⟨(some 109), (.load true 4 (.tmp 15)), none, (some (0, 1))⟩, ⟨(some 110), (.fieldA 1 (.tmp 17)), none, none⟩, ⟨(some 111), (.load false 1 (.tmp 110)), none, none⟩, ⟨(some 112), (.call (.con (.func 10 [] [])) [(.tmp 111)]), none, none⟩, ⟨(some 113), (.call (.con (.func 9 [] [])) [(.tmp 108), (.tmp 109), (.tmp 112)]), none, none⟩, ⟨(some 107), (.mv (.tmp 113)), none, none⟩, ⟨(some 114), (.extract (.tmp 107) 0), none, none⟩, ⟨(some 115), (.extract (.tmp 107) 1), none, none⟩, ⟨(some 116), (.extract (.tmp 107) 2), none, none⟩, ⟨none, (.store 5 (.tmp 11) (.tmp 114)), none, none⟩, ⟨none, (.store 4 (.tmp 15) (.tmp 115)), none, none⟩, ⟨(some 18), (.mv (.tmp 116)), none, none⟩]) (.region [⟨(some 117), (.mv (.tmp 13)), none, none⟩, ⟨(some 118), (.fieldA 1 (.tmp 17)), none, none⟩, ⟨(some 119), (.load false 1 (.tmp 118)), none, none⟩, ⟨(some 120), (.call (.con (.func 10 [] [])) [(.tmp 119)]), none, none⟩, ⟨(some 121), (.call (.con (.func 12 [] [])) [(.tmp 120)]), none, none⟩, ⟨(some 122), (.call (.con (.func 11 [] [])) [(.tmp 117), (.tmp 121)]), none, none⟩, ⟨(some 19), (.mv (.tmp 122)), none, none⟩])) (.seq (.region [⟨(some 124), (.bin .eql (.tmp 104) (.con (.int .i64 1))), none, none⟩, ⟨(some 123), (.mv (.tmp 124)), none, none⟩]) (.cond (.tmp 123) (.seq (.region [⟨(some 126), (.load true 5 (.tmp 11)), none, none⟩, ⟨(some 127), (.call (.con (.func 13 [] [])) [(.tmp 126)]), none, none⟩, ⟨(some 125), (.mv (.tmp 127)), none, none⟩, ⟨(some 128), (.extract (.tmp 125) 0), none, none⟩, ⟨(some 129), (.extract (.tmp 125) 1), none, none⟩, ⟨none, (.store 5 (.tmp 11) (.tmp 128)), none, none⟩, ⟨(some 18), (.mv (.tmp 129)), none, none⟩]) (.region [⟨(some 130), (.mv (.tmp 9)), none, none⟩, ⟨(some 131), (.call (.con (.func 14 [] [])) [(.tmp 130)]), none, none⟩, ⟨(some 19), (.mv (.tmp 131)), none, none⟩])) (.seq (.region [⟨(some 133), (.bin .eql (.tmp 104) (.con (.int .i64 2))), none, none⟩, ⟨(some 132), (.mv (.tmp 133)), none, none⟩]) (.cond (.tmp 132) (.seq (.region [⟨(some 134), (.fieldA 2 (.tmp 17)), none, none⟩, ⟨(some 135), (.load false 1 (.tmp 134)), none, none⟩, ⟨(some 136), (.minmax true [(.tmp 135), (.con (.int .i64 0))]), none, none⟩, ⟨(some 137), (.fieldA 2 (.tmp 11)), none, none⟩, ⟨none, (.store 1 (.tmp 137) (.tmp 136)), none, none⟩]) (.region [⟨(some 138), (.mv (.tmp 9)), none, none⟩, ⟨(some 139), (.fieldA 2 (.tmp 17)), none, none⟩, ⟨(some 140), (.load false 1 (.tmp 139)), none, none⟩, ⟨(some 141), (.call (.con (.func 15 [] [])) [(.tmp 138), (.tmp 140)]), none, none⟩])) (.seq (.region [⟨(some 143), (.bin .eql (.tmp 104) (.con (.int .i64 3))), none, none⟩, ⟨(some 142), (.mv (.tmp 143)), none, none⟩]) (.cond (.tmp 142) (.seq (.region [⟨(some 145), (.load true 5 (.tmp 11)), none, none⟩, ⟨(some 146), (.fieldA 4 (.tmp 17)), none, none⟩, ⟨(some 147), (.load false 1 (.tmp 146)), none, none⟩, ⟨(some 148), (.call (.con (.func 16 [] [])) [(.tmp 145), (.tmp 147)]), none, none⟩, ⟨(some 144), (.mv (.tmp 148)), none, none⟩, ⟨(some 149), (.extract (.tmp 144) 0), none, none⟩, ⟨(some 150), (.extract (.tmp 144) 1), none, none⟩, ⟨none, (.store 5 (.tmp 11) (.tmp 149)), none, none⟩, ⟨(some 20), (.mv (.tmp 150)), none, none⟩]) (.region [⟨(some 151), (.mv (.tmp 9)), none, none⟩, ⟨(some 152), (.fieldA 4 (.tmp 17)), none, none⟩, ⟨(some 153), (.load false 1 (.tmp 152)), none, none⟩, ⟨(some 154), (.call (.con (.func 17 [] [])) [(.tmp 151), (.tmp 153)]), none, none⟩, ⟨(some 21), (.mv (.tmp 154)), none, none⟩])) (.seq (.region [⟨(some 156), (.bin .eql (.tmp 104) (.con (.int .i64 4))), none, none⟩, ⟨(some 155), (.mv (.tmp 156)), none, none⟩]) (.cond (.tmp 155) (.seq (.draw [⟨(some 158), (.load true 5 (.tmp 11)), none, (some (0, 1))⟩, ⟨(some 159), (.fieldA 2 (.tmp 17)), none, none⟩, ⟨(some 160), (.load false 1 (.tmp 159)), none, (some (0, 1))⟩, ⟨(some 161), (.fieldA 3 (.tmp 17)), none, none⟩, ⟨(some 162), (.load false 1 (.tmp 161)), none, none⟩, ⟨(some 163), (.call (.con (.func 19 [] [])) [(.tmp 162)]), none, none⟩, ⟨(some 164), (.call (.con (.func 18 [] [])) [(.tmp 158), (.tmp 160), (.tmp 163)]), none, none⟩, ⟨(some 157), (.mv (.tmp 164)), none, none⟩, ⟨(some 165), (.extract (.tmp 157) 0), none, none⟩, ⟨(some 166), (.extract (.tmp 157) 1), none, none⟩, ⟨none, (.store 5 (.tmp 11) (.tmp 165)), none, none⟩, ⟨(some 18), (.mv (.tmp 166)), none, none⟩]) (.draw [⟨(some 167), (.mv (.tmp 9)), none, none⟩, ⟨(some 168), (.fieldA 2 (.tmp 17)), none, none⟩, ⟨(some 169), (.load false 1 (.tmp 168)), none, (some (0, 1))⟩, ⟨(some 170), (.fieldA 3 (.tmp 17)), none, none⟩, ⟨(some 171), (.load false 1 (.tmp 170)), none, none⟩, ⟨(some 172), (.call (.con (.func 19 [] [])) [(.tmp 171)]), none, none⟩, ⟨(some 173), (.call (.con (.func 20 [] [])) [(.tmp 167), (.tmp 169), (.tmp 172)]), none, none⟩, ⟨(some 19), (.mv (.tmp 173)), none, none⟩])) (.seq (.region [⟨(some 175), (.bin .eql (.tmp 104) (.con (.int .i64 5))), none, none⟩, ⟨(some 174), (.mv (.tmp 175)), none, none⟩]) (.cond (.tmp 174) (.seq (.region [⟨(some 176), (.mv (.tmp 1)), none, none⟩, ⟨(some 177), (.fieldA 1 (.tmp 15)), none, none⟩, ⟨(some 178), (.load false 1 (.tmp 177)), none, none⟩, ⟨(some 179), (.bin .add (.tmp 178) (.con (.int .u64 1))), none, none⟩, ⟨(some 180), (.build [(.int .i64 0), (.int .u64 0), (.int .i64 0), (.int .u64 0)] [(0, (1, (.tmp 176))), (1, (1, (.tmp 179)))]), none, none⟩, ⟨none, (.store 4 (.tmp 15) (.tmp 180)), none, none⟩]) (.region [⟨(some 182), (.mv (.tmp 9)), none, none⟩, ⟨(some 183), (.mv (.tmp 1)), none, none⟩, ⟨(some 184), (.fieldA 1 (.tmp 15)), none, none⟩, ⟨(some 185), (.load false 1 (.tmp 184)), none, none⟩, ⟨(some 186), (.call (.con (.func 7 [] [])) [(.tmp 182), (.tmp 183), (.tmp 185)]), none, none⟩, ⟨(some 181), (.mv (.tmp 186)), none, none⟩, ⟨(some 187), (.extract (.tmp 181) 0), none, none⟩, ⟨(some 188), (.extract (.tmp 181) 1), none, none⟩, ⟨(some 13), (.mv (.tmp 187)), none, none⟩, ⟨(some 19), (.mv (.tmp 188)), none, none⟩])) .skip)))))))))))))

section
variable {B H : AHeap} {p a : Nat} {g : Option Nat} {jp : Nat} {vw vs rw : AVal} {S : DS × JS} {w v : Nat} {x : Act} {q size : Nat} {env : Env}

theorem kind1 (T : St B H p a g jp vw vs rw S w v) (hk : x.kind = 1) (hwl : S.1.w.length < 400000) (h9 : env 9 = .ptr p 0) (h11 : env 11 = .ptr w 0) (h13 : env 13 = .ptr jp 0) (h18 : env 18 = .int .i64 0) (h19 : env 19 = .int .i64 0) (h20 : env 20 = .int .i64 0) (h21 : env 21 = .int .i64 0) (h104 : env 104 = .int .i64 x.kind) :
    Outs (AX A sw3 env H) (Post B p a g (eff S x) w v env) := by
  obtain ⟨K1, vs', rw', e13, R1, k1, i1, i2⟩ := U13 T.T.hr T.T.hd.a0 T.T.hd.a1 (by omega) T.T.hd.n1 T.T.hd.n2 T.T.hd.hat
  obtain ⟨K1', eK⟩ : ∃ K, K1.set w (.cells (rc vs' rw' S.1.flush.1) true) = K := ⟨_, rfl⟩
  have hD : D K1' p a g vw S.1 := by rw [← eK]; exact T.T.stored T.ow k1
  obtain ⟨K2, vw', e14, hD2, f2, i3⟩ := U14 hD (by omega)
  obtain ⟨t1, t2, t3, _⟩ := T.T.both T.ow T.ov T.ne k1 R1 i1 (fun i hi => .inl (i2 i hi)) eK hD2 f2 (by simp) (fun i hi => .inl (i3 i hi))
  have o0 := T.ow.o
  have o1 : K1.obj w = some (.cells (rc vs rw S.1) true) := by rw [k1.2 w T.ow.n]; exact o0
  have es : eff S x = (S.1.flush.1, S.2) := by unfold eff; rw [hk]; simp
  obtain ⟨no, eno⟩ : ∃ n, S.1.flush.2 = n := ⟨_, rfl⟩
  rw [eno] at e13 e14
  rw [hk] at h104
  have s1 := sl_shape' T.T.hr.ss
  have s2 := sl_shape' T.T.hr.sw
  have s3 := sl_shape' R1.ss
  have s4 := sl_shape' R1.sw
  unfold rc at e13 eK o0 o1
  simp only [sw3, h9, h11, h18, h19, h104, o0, o1, e13, e14, eK, rwA, rwB, Nat.reduceAdd, Nat.reduceMul, Nat.reduceLeDiff, Int.reduceEq, Int.reduceLT, Int.reduceLE, Int.reduceAdd, Int.reduceSub, Int.reduceMul, ↓reduceIte, Nat.reduceEqDiff, reduceCtorEq, ↓cnd_true, ↓cnd_false]
  rw [outs_some]
  refine ⟨rfl, ⟨by simp [Env.set], by simp [Env.set], by simp [Env.set], by simp [Env.set], by simp [Env.set], by simp [Env.set], by simp [Env.set]⟩, jp, vw', vs', rw', no, 0, by simp [Env.set, h13], by simp [Env.set], by simp [Env.set], by simp [Env.set, h20], by simp [Env.set, h21], ?_⟩
  rw [es]
  exact ⟨t1, t2, t3, T.ne⟩

theorem kind2 (T : St B H p a g jp vw vs rw S w v) (hk : x.kind = 2) (hn : x.n ≤ 9223372036854775807) (hq : H.obj q = some (.cells (ac x) true)) (hqw : q ≠ w) (h9 : env 9 = .ptr p 0) (h11 : env 11 = .ptr w 0) (h13 : env 13 = .ptr jp 0) (h17 : env 17 = .ptr q 0) (h18 : env 18 = .int .i64 0) (h19 : env 19 = .int .i64 0) (h20 : env 20 = .int .i64 0) (h21 : env 21 = .int .i64 0) (h104 : env 104 = .int .i64 x.kind) :
    Outs (AX A sw3 env H) (Post B p a g (eff S x) w v env) := by
  obtain ⟨K1', eK⟩ : ∃ K, H.set w (.cells (rc vs rw { S.1 with arm := low x.n }) true) = K := ⟨_, rfl⟩
  have hD : D K1' p a g vw S.1 := by rw [← eK]; exact T.T.stored T.ow (Keeps.refl _)
  obtain ⟨K2, e15, hD2, f2⟩ := U15 hD hn
  have R1 : R H vs rw { S.1 with arm := low x.n } := T.T.hr.like rfl rfl
  obtain ⟨t1, t2, t3, _⟩ := T.T.both T.ow T.ov T.ne (Keeps.refl _) R1 (fun i hi => .inl hi) (fun i hi => .inl hi) eK hD2 f2 (by simp) (fun i hi => .inl hi)
  have o0 := T.ow.o
  have es : eff S x = ({ S.1 with arm := low x.n }, S.2) := by unfold eff; rw [hk]; simp
  rw [hk] at h104
  have q1 : K1'.obj q = some (.cells (ac x) true) := by rw [← eK, set_obj, if_neg hqw]; exact hq
  have mm := mm_low x.n
  unfold rc at eK o0
  unfold ac at hq q1
  simp only [sw3, h9, h11, h17, h104, o0, hq, q1, mm, e15, eK, rwA, rwB, Nat.reduceAdd, Nat.reduceMul, Nat.reduceLeDiff, Int.reduceEq, Int.reduceLT, Int.reduceLE, Int.reduceAdd, Int.reduceSub, Int.reduceMul, ↓reduceIte, Nat.reduceEqDiff, reduceCtorEq, ↓cnd_true, ↓cnd_false]
  rw [outs_some]
  refine ⟨rfl, ⟨by simp [Env.set], by simp [Env.set], by simp [Env.set], by simp [Env.set], by simp [Env.set], by simp [Env.set], by simp [Env.set]⟩, jp, vw, vs, rw, 0, 0, by simp [Env.set, h13], by simp [Env.set, h18], by simp [Env.set, h19], by simp [Env.set, h20], by simp [Env.set, h21], ?_⟩
  rw [es]
  exact ⟨t1, t2, t3, T.ne⟩

theorem kind3 (T : St B H p a g jp vw vs rw S w v) (hk : x.kind = 3) (hx : x.mem B) (hwl : S.1.w.length < 400000) (hq : H.obj q = some (.cells (ac x) true)) (hqw : q ≠ w) (hqn : q < H.next) (h9 : env 9 = .ptr p 0) (h11 : env 11 = .ptr w 0) (h13 : env 13 = .ptr jp 0) (h17 : env 17 = .ptr q 0) (h18 : env 18 = .int .i64 0) (h19 : env 19 = .int .i64 0) (h104 : env 104 = .int .i64 x.kind) :
    Outs (AX A sw3 env H) (Post B p a g (eff S x) w v env) := by
  obtain ⟨_, _, hkv, hki, _, _⟩ := hx
  have bn := T.T.base.1
  obtain ⟨K1, vs', e16, R1, k1, i1⟩ := U16 T.T.hr (hkv.keep hki T.T.base) (fun i hi => by have := hki i hi; omega) (by omega) T.T.hd.n1 T.T.hd.n2 T.T.hd.hat
  obtain ⟨K1', eK⟩ : ∃ K, K1.set w (.cells (rc vs' .nils (S.1.up x.keep).1) true) = K := ⟨_, rfl⟩
  have hD : D K1' p a g vw S.1 := by rw [← eK]; exact T.T.stored T.ow k1
  have kB : Keeps B K1' := by
    rw [← eK]
    refine ⟨by rw [set_next]; have := k1.1; omega, fun i hi => ?_⟩
    rw [set_obj, if_neg (by have := T.ow.b; omega), k1.2 i (by omega), T.T.base.2 i hi]
  obtain ⟨K2, e17, hD2, f2⟩ := U17 hD (by omega) (hkv.keep hki kB) (fun i hi => ⟨by have := hki i hi; have := kB.1; omega, by have := hki i hi; have := T.T.bp; omega, by have := hki i hi; have := T.T.ba; omega⟩)
  obtain ⟨t1, t2, t3, _⟩ := T.T.both T.ow T.ov T.ne k1 R1 (fun i hi => .inr (i1 i hi)) (by simp [AVal.ids]) eK hD2 f2 (by simp) (by simp [AVal.ids])
  have o0 := T.ow.o
  have o1 : K1.obj w = some (.cells (rc vs rw S.1) true) := by rw [k1.2 w T.ow.n]; exact o0
  have es : eff S x = ((S.1.up x.keep).1, S.2) := by unfold eff; rw [hk]; simp
  obtain ⟨no, eno⟩ : ∃ n, (S.1.up x.keep).2 = n := ⟨_, rfl⟩
  rw [eno] at e16 e17
  rw [hk] at h104
  have q1 : K1'.obj q = some (.cells (ac x) true) := by rw [← eK, set_obj, if_neg hqw, k1.2 q hqn]; exact hq
  unfold rc at e16 eK o0 o1
  unfold ac at hq q1
  simp only [sw3, h9, h11, h17, h104, o0, o1, hq, q1, e16, e17, eK, rwA, rwB, Nat.reduceAdd, Nat.reduceMul, Nat.reduceLeDiff, Int.reduceEq, Int.reduceLT, Int.reduceLE, Int.reduceAdd, Int.reduceSub, Int.reduceMul, ↓reduceIte, Nat.reduceEqDiff, reduceCtorEq, ↓cnd_true, ↓cnd_false]
  rw [outs_some]
  refine ⟨rfl, ⟨by simp [Env.set], by simp [Env.set], by simp [Env.set], by simp [Env.set], by simp [Env.set], by simp [Env.set], by simp [Env.set]⟩, jp, .nils, vs', .nils, 0, no, by simp [Env.set, h13], by simp [Env.set, h18], by simp [Env.set, h19], by simp [Env.set], by simp [Env.set], ?_⟩
  rw [es]
  exact ⟨t1, t2, t3, T.ne⟩

theorem kind4 (T : St B H p a g jp vw vs rw S w v) (hk : x.kind = 4) (hwl : S.1.w.length < 400000) (hq : H.obj q = some (.cells (ac x) true)) (hqw : q ≠ w) (hqn : q < H.next) (h9 : env 9 = .ptr p 0) (h11 : env 11 = .ptr w 0) (h13 : env 13 = .ptr jp 0) (h17 : env 17 = .ptr q 0) (h20 : env 20 = .int .i64 0) (h21 : env 21 = .int .i64 0) (h104 : env 104 = .int .i64 x.kind) :
    Outs (AX A sw3 env H) (Post B p a g (eff S x) w v env) := by
  obtain ⟨K1, rw', e18, R1, k1, i1⟩ := U18 T.T.hr T.T.hd.a0 T.T.hd.a1 (by omega) x.n (tx x.byte)
  obtain ⟨K1', eK⟩ : ∃ K, K1.set w (.cells (rc vs rw' (S.1.write x.n (tx x.byte)).1) true) = K := ⟨_, rfl⟩
  have hD : D K1' p a g vw S.1 := by rw [← eK]; exact T.T.stored T.ow k1
  obtain ⟨K2, vw', e20, hD2, f2, i2⟩ := U20 hD (by omega) x.n (tx x.byte)
  obtain ⟨t1, t2, t3, _⟩ := T.T.both T.ow T.ov T.ne k1 R1 (fun i hi => .inl hi) i1 eK hD2 f2 (by intro i hi; simp at hi; exact hi.imp_right .inr) i2
  have o0 := T.ow.o
  have o1 : K1.obj w = some (.cells (rc vs rw S.1) true) := by rw [k1.2 w T.ow.n]; exact o0
  have es : eff S x = ((S.1.write x.n (tx x.byte)).1, S.2) := by unfold eff; rw [hk]; simp
  obtain ⟨no, eno⟩ : ∃ n, (S.1.write x.n (tx x.byte)).2 = n := ⟨_, rfl⟩
  rw [eno] at e18 e20
  rw [hk] at h104
  have q1 : K1'.obj q = some (.cells (ac x) true) := by rw [← eK, set_obj, if_neg hqw, k1.2 q hqn]; exact hq
  have u19 := fun M => U19 x.byte M
  unfold by8 at u19
  unfold rc at e18 eK o0 o1
  unfold ac by8 at hq q1
  simp only [sw3, h9, h11, h17, h104, o0, o1, hq, q1, u19, e18, e20, eK, rwA, rwB, Nat.reduceAdd, Nat.reduceMul, Nat.reduceLeDiff, Int.reduceEq, Int.reduceLT, Int.reduceLE, Int.reduceAdd, Int.reduceSub, Int.reduceMul, ↓reduceIte, Nat.reduceEqDiff, reduceCtorEq, ↓cnd_true, ↓cnd_false]
  rw [outs_some]
  refine ⟨rfl, ⟨by simp [Env.set], by simp [Env.set], by simp [Env.set], by simp [Env.set], by simp [Env.set], by simp [Env.set], by simp [Env.set]⟩, jp, vw', vs, rw', no, 0, by simp [Env.set, h13], by simp [Env.set], by simp [Env.set], by simp [Env.set, h20], by simp [Env.set, h21], ?_⟩
  rw [es]
  exact ⟨t1, t2, t3, T.ne⟩

theorem kind5 (T : St B H p a g jp vw vs rw S w v) (hk : x.kind = 5) (s1 : 4 ≤ size) (s2 : size ≤ 1024) (s3 : size < S.1.s.length) (hz : S.2.size = size) (h1 : env 1 = .int .i64 (size : Int)) (h9 : env 9 = .ptr p 0) (h15 : env 15 = .ptr v 0) (h18 : env 18 = .int .i64 0) (h20 : env 20 = .int .i64 0) (h21 : env 21 = .int .i64 0) (h104 : env 104 = .int .i64 x.kind) :
    Outs (AX A sw3 env H) (Post B p a g (eff S x) w v env) := by
  obtain ⟨j', ej⟩ : ∃ j, (⟨size, (S.2.epoch + 1) % 18446744073709551616, 0, 0⟩ : JS) = j := ⟨_, rfl⟩
  obtain ⟨K1, eK⟩ : ∃ K, H.set v (.cells (jr j') true) = K := ⟨_, rfl⟩
  have T1 : PT B K1 p a g jp vw vs rw S.1 S.2 := by rw [← eK]; exact T.T.own T.ov
  have v1 : Own B K1 p a jp vw vs rw v (jr j') := by rw [← eK]; exact T.ov.set _
  have w1 : Own B K1 p a jp vw vs rw w (rc vs rw S.1) := by
    have f : Fr [v] H K1 := by rw [← eK]; exact Fr.set (.inl (by simp)) (Fr.refl _ _)
    exact T.ow.fr f (by simp; exact T.ne) (fun i hi => .inl hi) (fun i hi => .inl hi) (fun i hi => .inl hi)
  have e7 := U7 T1.hd (epoch := j'.epoch) s1 s2 s3
  have es : eff S x = (S.1, j') := by unfold eff; rw [hk]; simp [hz, ej]
  have t1 := T1.newj j'
  have t2 := w1.newj (.cells (jc p j') true)
  have t3 := v1.newj (.cells (jc p j') true)
  have o0 := T.ov.o
  have o1 : K1.obj v = some (.cells (jr j') true) := v1.o
  have ep : IntKind.u64.wrap ((S.2.epoch : Int) + 1) = (j'.epoch : Int) := by rw [wrapU64, ← ej]; simp only; omega
  have z0 : (j'.at' : Int) = 0 ∧ (j'.number : Int) = 0 ∧ j'.size = size := by rw [← ej]; exact ⟨rfl, rfl, rfl⟩
  have ejc : jc p ⟨size, j'.epoch, 0, 0⟩ = jc p j' := by rw [← ej]
  rw [ejc] at e7
  rw [hk] at h104
  unfold jr at o0 o1 eK
  rw [z0.1, z0.2.1, z0.2.2] at o1 eK
  simp only [sw3, h1, h9, h15, h104, o0, o1, ep, e7, eK, rwA, rwB, Nat.reduceAdd, Nat.reduceMul, Nat.reduceLeDiff, Int.reduceEq, Int.reduceLT, Int.reduceLE, Int.reduceAdd, Int.reduceSub, Int.reduceMul, ↓reduceIte, Nat.reduceEqDiff, reduceCtorEq, ↓cnd_true, ↓cnd_false]
  rw [outs_some]
  refine ⟨rfl, ⟨by simp [Env.set], by simp [Env.set], by simp [Env.set], by simp [Env.set], by simp [Env.set], by simp [Env.set], by simp [Env.set]⟩, K1.next, vw, vs, rw, 0, 0, by simp [Env.set], by simp [Env.set, h18], by simp [Env.set], by simp [Env.set, h20], by simp [Env.set, h21], ?_⟩
  rw [es]
  exact ⟨t1, t2, t3, T.ne⟩

theorem kind0 (T : St B H p a g jp vw vs rw S w v) (hk : x.kind = 0) (hx : x.mem B) (wf : S.2.wf) (hpl : x.puts.length ≤ 60) (hwl : S.1.w.length < 400000) (hq : H.obj q = some (.cells (ac x) true)) (hqw : q ≠ w) (hqv : q ≠ v) (hqn : q < H.next) (h9 : env 9 = .ptr p 0) (h11 : env 11 = .ptr w 0) (h13 : env 13 = .ptr jp 0) (h15 : env 15 = .ptr v 0) (h17 : env 17 = .ptr q 0) (h20 : env 20 = .int .i64 0) (h21 : env 21 = .int .i64 0) (h104 : env 104 = .int .i64 x.kind) :
    Outs (AX A sw3 env H) (Post B p a g (eff S x) w v env) := by
  obtain ⟨hu, hui, _⟩ := hx
  obtain ⟨v1, K1, rw', K2, v3, K3, v4, K4, K5, vw', e10, e9, e10b, e12, e11, k1, k2, o1, p1, o2, p2, t1, t2, t3, _, sh1, sh3, sh4⟩ := T.T.append T.ow T.ov T.ne wf hwl hu hui hpl
  have es : eff S x = ((app S.1 S.2 (x.puts.map imOf)).1, (app S.1 S.2 (x.puts.map imOf)).2.1) := by unfold eff; rw [hk]; simp
  have q1 := (k1.2 q hqn).trans hq
  have q2 := (k2.2 q (by have := k1.1; omega)).trans q1
  obtain ⟨d', ed⟩ : ∃ d', (app S.1 S.2 (x.puts.map imOf)).1 = d' := ⟨_, rfl⟩
  obtain ⟨j', ej⟩ : ∃ j', (app S.1 S.2 (x.puts.map imOf)).2.1 = j' := ⟨_, rfl⟩
  obtain ⟨no, eno⟩ : ∃ n, (app S.1 S.2 (x.puts.map imOf)).2.2 = n := ⟨_, rfl⟩
  rw [ed] at e9 e10b t1 t2 es
  rw [ej] at e9 e10b t1 t3 es
  rw [eno] at e9 e11
  obtain ⟨K2', eK⟩ : ∃ X, (K2.set w (.cells (rc vs rw' d') true)).set v (.cells (jr j') true) = X := ⟨_, rfl⟩
  have q3 : K2'.obj q = some (.cells (ac x) true) := by rw [← eK, set_obj, if_neg hqv, set_obj, if_neg hqw]; exact q2
  have nvw : (v = w) = False := by simp; exact Ne.symm T.ne
  rw [eK] at e10b
  have p2' : (K2.set w (.cells (rc vs rw' d') true)).obj v = some (.cells (jr S.2) true) := by rw [set_obj, if_neg (Ne.symm T.ne)]; exact p2
  have oH := T.ow.o
  have pH := T.ov.o
  rw [hk] at h104
  unfold rc at e9 eK o1 o2 oH p2'
  unfold jr at e9 eK p1 p2 pH p2'
  unfold ac at hq q1 q3
  simp only [sw3, h9, h11, h13, h15, h17, h104, oH, pH, o1, p1, o2, p2, p2', hq, q1, q3, e10, e9, e10b, e12, e11, eK, nvw, rwA, rwB, Nat.reduceAdd, Nat.reduceMul, Nat.reduceLeDiff, Int.reduceEq, Int.reduceLT, Int.reduceLE, Int.reduceAdd, Int.reduceSub, Int.reduceMul, ↓reduceIte, Nat.reduceEqDiff, reduceCtorEq, ↓cnd_true, ↓cnd_false]
  rw [outs_some]
  refine ⟨rfl, ⟨by simp [Env.set], by simp [Env.set], by simp [Env.set], by simp [Env.set], by simp [Env.set], by simp [Env.set], by simp [Env.set]⟩, jp, vw', vs, rw', no, 0, by simp [Env.set, h13], by simp [Env.set], by simp [Env.set], by simp [Env.set, h20], by simp [Env.set, h21], ?_⟩
  rw [es]
  exact ⟨t1, t2, t3, T.ne⟩

theorem kindx (T : St B H p a g jp vw vs rw S w v) (c0 : x.kind ≠ 0) (c1 : x.kind ≠ 1) (c2 : x.kind ≠ 2) (c3 : x.kind ≠ 3) (c4 : x.kind ≠ 4) (c5 : x.kind ≠ 5) (h13 : env 13 = .ptr jp 0) (h18 : env 18 = .int .i64 0) (h19 : env 19 = .int .i64 0) (h20 : env 20 = .int .i64 0) (h21 : env 21 = .int .i64 0) (h104 : env 104 = .int .i64 x.kind) :
    Outs (AX A sw3 env H) (Post B p a g (eff S x) w v env) := by
  have d0 : decide (x.kind = 0) = false := decide_eq_false c0
  have d1 : decide (x.kind = 1) = false := decide_eq_false c1
  have d2 : decide (x.kind = 2) = false := decide_eq_false c2
  have d3 : decide (x.kind = 3) = false := decide_eq_false c3
  have d4 : decide (x.kind = 4) = false := decide_eq_false c4
  have d5 : decide (x.kind = 5) = false := decide_eq_false c5
  have es : eff S x = S := by unfold eff; rw [if_neg c0, if_neg c1, if_neg c2, if_neg c3, if_neg c4, if_neg c5]
  simp only [sw3, h104, d0, d1, d2, d3, d4, d5, rwA, rwB, Nat.reduceAdd, Nat.reduceMul, Nat.reduceLeDiff, Int.reduceEq, Int.reduceLT, Int.reduceLE, Int.reduceAdd, Int.reduceSub, Int.reduceMul, ↓reduceIte, Nat.reduceEqDiff, reduceCtorEq, ↓cnd_true, ↓cnd_false]
  rw [outs_some]
  refine ⟨rfl, ⟨by simp [Env.set], by simp [Env.set], by simp [Env.set], by simp [Env.set], by simp [Env.set], by simp [Env.set], by simp [Env.set]⟩, jp, vw, vs, rw, 0, 0, by simp [Env.set, h13], by simp [Env.set, h18], by simp [Env.set, h19], by simp [Env.set, h20], by simp [Env.set, h21], ?_⟩
  rw [es]
  exact T
end

end Go.Proofs.YtilhjcnkaelheaaGreat.Dk
end

section
/- The great seat: the acts, one behind the other, checked each time. -/
set_option maxRecDepth 100000
set_option linter.unusedSimpArgs false
set_option linter.unusedVariables false
set_option maxHeartbeats 8000000
namespace Go.Proofs.YtilhjcnkaelheaaGreat.Dk
open Go Go.Proofs.YtilhjcnkaelheaaGreat.Am DnFns Go.RowKit
open Sd (Sec noughts home homeno ofHome ofNo opened unfit pad)

theorem sw_all {B H : AHeap} {p a : Nat} {g : Option Nat} {jp : Nat} {vw vs rw : AVal} {S : DS × JS} {w v : Nat} {x : Act} {q size n i : Nat} {env : Env} (T : St B H p a g jp vw vs rw S w v) (F : Fits n size i S) (hi : i ≤ 40) (s1 : 4 ≤ size) (s2 : size ≤ 1024) (s3 : size < n) (hx : x.mem B) (hpl : x.puts.length ≤ 60) (hq : H.obj q = some (.cells (ac x) true)) (hqw : q ≠ w) (hqv : q ≠ v) (hqn : q < H.next) (h1 : env 1 = .int .i64 (size : Int)) (h9 : env 9 = .ptr p 0) (h11 : env 11 = .ptr w 0) (h13 : env 13 = .ptr jp 0) (h15 : env 15 = .ptr v 0) (h17 : env 17 = .ptr q 0) (h18 : env 18 = .int .i64 0) (h19 : env 19 = .int .i64 0) (h20 : env 20 = .int .i64 0) (h21 : env 21 = .int .i64 0) (h104 : env 104 = .int .i64 x.kind) :
    Outs (AX A sw3 env H) (Post B p a g (eff S x) w v env) := by
  have hw := F.w
  by_cases c0 : x.kind = 0
  · exact kind0 T c0 hx (F.wf hi s1 s2) hpl (by omega) hq hqw hqv hqn h9 h11 h13 h15 h17 h20 h21 h104
  by_cases c1 : x.kind = 1
  · exact kind1 T c1 (by omega) h9 h11 h13 h18 h19 h20 h21 h104
  by_cases c2 : x.kind = 2
  · exact kind2 T c2 hx.2.2.2.2.2 hq hqw h9 h11 h13 h17 h18 h19 h20 h21 h104
  by_cases c3 : x.kind = 3
  · exact kind3 T c3 hx (by omega) hq hqw hqn h9 h11 h13 h17 h18 h19 h104
  by_cases c4 : x.kind = 4
  · exact kind4 T c4 (by omega) hq hqw hqn h9 h11 h13 h17 h20 h21 h104
  by_cases c5 : x.kind = 5
  · exact kind5 T c5 s1 s2 (by rw [F.s]; exact s3) F.z h1 h9 h15 h18 h20 h21 h104
  exact kindx T c0 c1 c2 c3 c4 c5 h13 h18 h19 h20 h21 h104

theorem ok_3_4 (st : List AHeap) (o : AOp) (env : Env) (v : AVal) : ARead.ok st ⟨o, env, v, 3, 4⟩ = (okAt o env v st[3]? && okAt o env v st[4]?) := by rw [ok_lohi]; simp [List.range_succ]
theorem ok_5_6 (st : List AHeap) (o : AOp) (env : Env) (v : AVal) : ARead.ok st ⟨o, env, v, 5, 6⟩ = (okAt o env v st[5]? && okAt o env v st[6]?) := by rw [ok_lohi]; simp [List.range_succ]

def b3 : ACode := (.seq (.region [⟨(some 96), (.bin .lss (.tmp 95) (.tmp 94)), none, none⟩]) (.seq (.cond (.tmp 96) .skip (.exit 0)) (.seq (.block 1 (.seq (.region [⟨(some 97), (.idxASl 5 (.tmp 93) (.tmp 95)), none, none⟩, ⟨(some 98), (.load true 5 (.tmp 97)), none, none⟩, ⟨(some 17), (.new [(.int .i64 0), .nils, (.int .i64 0), (.int .u8 0), .nils]), none, none⟩, ⟨none, (.store 5 (.tmp 17) (.tmp 98)), none, none⟩]) (.seq (.seq (.region [⟨(some 99), (.fieldA 1 (.tmp 17)), none, none⟩, ⟨(some 100), (.load false 1 (.tmp 99)), none, none⟩, ⟨(some 101), (.len false (.tmp 100)), none, none⟩, ⟨(some 102), (.bin .gtr (.tmp 101) (.con (.int .i64 60))), none, none⟩]) (.cond (.tmp 102) (.seq (.region [⟨(some 8), (.mv (.con (.bool true))), none, none⟩]) .ret) .skip)) (.seq (.region [⟨(some 18), (.mv (.con (.int .i64 0))), none, none⟩, ⟨(some 19), (.mv (.con (.int .i64 0))), none, none⟩]) (.seq (.region [⟨(some 20), (.mv (.con (.int .i64 0))), none, none⟩, ⟨(some 21), (.mv (.con (.int .i64 0))), none, none⟩]) (.seq (.seq (.region [⟨(some 103), (.fieldA 0 (.tmp 17)), none, none⟩, ⟨(some 104), (.load false 1 (.tmp 103)), none, none⟩]) sw3) (.seq (.draw [⟨(some 189), (.mv (.tmp 18)), none, none⟩, ⟨(some 190), (.mv (.tmp 19)), none, none⟩, ⟨(some 191), (.bin .neq (.tmp 189) (.tmp 190)), none, none⟩, ⟨(some 192), (.mv (.tmp 191)), none, none⟩, ⟨(some 193), (.mv (.tmp 20)), (some (192, false)), none⟩, ⟨(some 194), (.mv (.tmp 21)), (some (192, false)), none⟩, ⟨(some 195), (.bin .neq (.tmp 193) (.tmp 194)), (some (192, false)), none⟩, ⟨(some 196), (.pick (.tmp 192) (.con (.bool true)) (.tmp 195)), none, none⟩, ⟨(some 197), (.mv (.tmp 196)), none, none⟩, ⟨(some 198), (.mv (.tmp 13)), (some (197, false)), none⟩, ⟨(some 199), (.call (.con (.func 21 [] [])) [(.tmp 198)]), (some (197, false)), none⟩, ⟨(some 200), (.fieldA 0 (.tmp 15)), (some (197, false)), none⟩, ⟨(some 201), (.load false 1 (.tmp 200)), (some (197, false)), (some (0, 1))⟩, ⟨(some 202), (.fieldA 2 (.tmp 15)), (some (197, false)), none⟩, ⟨(some 203), (.load false 1 (.tmp 202)), (some (197, false)), (some (0, 1))⟩, ⟨(some 204), (.bin .sub (.tmp 201) (.tmp 203)), (some (197, false)), none⟩, ⟨(some 205), (.bin .neq (.tmp 199) (.tmp 204)), (some (197, false)), none⟩, ⟨(some 206), (.pick (.tmp 197) (.con (.bool true)) (.tmp 205)), none, none⟩, ⟨(some 207), (.mv (.tmp 206)), none, none⟩, ⟨(some 208), (.mv (.tmp 13)), (some (207, false)), none⟩, ⟨(some 209), (.call (.con (.func 22 [] [])) [(.tmp 208)]), (some (207, false)), none⟩, ⟨(some 210), (.fieldA 3 (.tmp 15)), (some (207, false)), none⟩, ⟨(some 211), (.load false 1 (.tmp 210)), (some (207, false)), (some (1, 2))⟩, ⟨(some 212), (.bin .neq (.tmp 209) (.tmp 211)), (some (207, false)), none⟩, ⟨(some 213), (.pick (.tmp 207) (.con (.bool true)) (.tmp 212)), none, none⟩, ⟨(some 214), (.mv (.tmp 213)), none, none⟩, ⟨(some 215), (.mv (.tmp 13)), (some (214, false)), none⟩, ⟨(some 216), (.call (.con (.func 23 [] [])) [(.tmp 215)]), (some (214, false)), none⟩, ⟨(some 217), (.fieldA 1 (.tmp 15)), (some (214, false)), none⟩, ⟨(some 218), (.load false 1 (.tmp 217)), (some (214, false)), (some (2, 3))⟩, ⟨(some 219), (.bin .neq (.tmp 216) (.tmp 218)), (some (214, false)), none⟩, ⟨(some 220), (.pick (.tmp 214) (.con (.bool true)) (.tmp 219)), none, none⟩, ⟨(some 221), (.mv (.tmp 220)), none, none⟩, ⟨(some 222), (.mv (.tmp 9)), (some (221, false)), none⟩, ⟨(some 223), (.call (.con (.func 25 [] [])) [(.tmp 222)]), (some (221, false)), none⟩, ⟨(some 224), (.fieldA 0 (.tmp 11)), (some (221, false)), none⟩, ⟨(some 225), (.load false 1 (.tmp 224)), (some (221, false)), (some (3, 4))⟩, ⟨(some 226), (.call (.con (.func 24 [] [])) [(.tmp 223), (.tmp 225)]), (some (221, false)), none⟩, ⟨(some 227), (.un .not (.tmp 226)), (some (221, false)), none⟩, ⟨(some 228), (.pick (.tmp 221) (.con (.bool true)) (.tmp 227)), none, none⟩, ⟨(some 229), (.mv (.tmp 228)), none, none⟩, ⟨(some 230), (.mv (.tmp 9)), (some (229, false)), none⟩, ⟨(some 231), (.call (.con (.func 26 [] [])) [(.tmp 230)]), (some (229, false)), none⟩, ⟨(some 232), (.fieldA 4 (.tmp 11)), (some (229, false)), none⟩, ⟨(some 233), (.load false 1 (.tmp 232)), (some (229, false)), (some (5, 6))⟩, ⟨(some 234), (.bin .neq (.tmp 231) (.tmp 233)), (some (229, false)), none⟩, ⟨(some 235), (.pick (.tmp 229) (.con (.bool true)) (.tmp 234)), none, none⟩, ⟨(some 236), (.mv (.tmp 235)), none, none⟩, ⟨(some 237), (.mv (.tmp 9)), (some (236, false)), none⟩, ⟨(some 238), (.load true 5 (.tmp 11)), (some (236, false)), none⟩, ⟨(some 239), (.mv (.tmp 1)), (some (236, false)), none⟩, ⟨(some 240), (.fieldA 1 (.tmp 15)), (some (236, false)), none⟩, ⟨(some 241), (.load false 1 (.tmp 240)), (some (236, false)), none⟩, ⟨(some 242), (.call (.con (.func 27 [] [])) [(.tmp 237), (.tmp 238), (.tmp 239), (.tmp 241)]), (some (236, false)), none⟩, ⟨(some 243), (.un .not (.tmp 242)), (some (236, false)), none⟩, ⟨(some 244), (.pick (.tmp 236) (.con (.bool true)) (.tmp 243)), none, none⟩]) (.cond (.tmp 244) (.seq (.region [⟨(some 8), (.mv (.con (.bool false))), none, none⟩]) .ret) .skip)))))))) (.region [⟨(some 245), (.bin .add (.tmp 95) (.con (.int .i64 1))), none, none⟩, ⟨(some 95), (.mv (.tmp 245)), none, none⟩]))))

theorem loop3 {B H : AHeap} {n size : Nat} {lv : AVal} {l : List Act} (hl : Sl B 5 lv (l.flatMap ac)) (hli : ∀ i, i ∈ lv.ids → i < B.next) (hln : l.length ≤ 40) (hmem : ∀ a, a ∈ l → a.mem B) (s1 : 4 ≤ size) (s2 : size ≤ 1024) (s3 : size < n)
    {p a : Nat} {g : Option Nat} {jp : Nat} {vw vs rw : AVal} {S : DS × JS} {w v : Nat} (T : St B H p a g jp vw vs rw S w v) (F : Fits n size 0 S) {env : Env}
    (h1 : env 1 = .int .i64 (size : Int)) (h9 : env 9 = .ptr p 0) (h11 : env 11 = .ptr w 0) (h13 : env 13 = .ptr jp 0) (h15 : env 15 = .ptr v 0) (h93 : env 93 = lv) (h94 : env 94 = .int .i64 (l.length : Int)) (h95 : env 95 = .int .i64 0) :
    Outs (AX A (.loop b3) env H) fun e env' K => e = .exit 0 ∨ (e = .ret ∧ env' 8 = .bool true) := by
  refine loop_ends (I := fun (j : Nat) env' K => j ≤ l.length ∧ env' 1 = .int .i64 (size : Int) ∧ env' 9 = .ptr p 0 ∧ env' 11 = .ptr w 0 ∧ env' 15 = .ptr v 0 ∧ env' 93 = lv ∧ env' 94 = .int .i64 (l.length : Int) ∧ env' 95 = .int .i64 (j : Int) ∧
    ∃ jp vw vs rw S, env' 13 = .ptr jp 0 ∧ St B K p a g jp vw vs rw S w v ∧ Fits n size j S) (fun j => l.length - j) ?_ 0 env H
    ⟨Nat.zero_le _, h1, h9, h11, h15, h93, h94, h95, jp, vw, vs, rw, S, h13, T, F⟩
  rintro j env1 K ⟨hj, h1, h9, h11, h15, h93, h94, h95, jp, vw, vs, rw, S, h13, T, F⟩
  by_cases c : j < l.length
  · have c1 : decide ((j : Int) < (l.length : Int)) = true := by simp; omega
    have w1 : IntKind.i64.wrap ((j : Int) + 1) = ((j + 1 : Nat) : Int) := by rw [wrap_i64]; omega
    obtain ⟨id, off, cp, g', k, own, rfl, ho, hk, hall, _⟩ := (hl.keep hli T.T.base).elem ac_len (by decide) c
    have ha : aidx l.length (.int .i64 (j : Int)) = some j := by simp [aidx]; omega
    have ld : apart true (off + j * 5) 5 k = some (.agg (ac l[j])) := by rw [apart_agg _ _ _ (elem_room (es := 5) c hk), hall]
    have hx := hmem l[j] (List.getElem_mem c)
    obtain ⟨x, ex⟩ : ∃ x, l[j] = x := ⟨_, rfl⟩
    rw [ex] at ld hx
    obtain ⟨K1, eK1⟩ : ∃ K1, (K.new (.cells [.int .i64 0, .nils, .int .i64 0, .int .u8 0, .nils] true)).set K.next (.cells (ac x) true) = K1 := ⟨_, rfl⟩
    have k1 : Keeps K K1 := by rw [← eK1]; exact Keeps.set' (Nat.le_refl _) (Keeps.new' (Keeps.refl _))
    have oN : K1.obj K.next = some (.cells (ac x) true) := by rw [← eK1, set_obj, if_pos rfl]
    have n1 : K1.next = K.next + 1 := by rw [← eK1, set_next, new_next]
    have pl := hx.1.alen
    rw [slen_fm pc_len (by decide) hx.1] at pl
    have shp := sl_shape' hx.1
    have shk := sl_shape' hx.2.2.1
    by_cases c2 : 60 < x.puts.length
    · have c2' : decide ((60 : Int) < (x.puts.length : Int)) = true := by simp; omega
      unfold ac at ld eK1 oN
      simp only [b3, h1, h93, h94, h95, c1, ha, ho, ld, eK1, oN, pl, c2', rwA, rwB, Nat.reduceAdd, Nat.reduceMul, Nat.reduceLeDiff, Int.reduceEq, Int.reduceLT, Int.reduceLE, Int.reduceAdd, Int.reduceSub, Int.reduceMul, ↓reduceIte, Nat.reduceEqDiff, reduceCtorEq, ↓cnd_true, ↓cnd_false]
      rw [outs_some]
      exact .inr ⟨by simp, .inr ⟨rfl, by simp [Env.set]⟩⟩
    · have c2' : decide ((60 : Int) < (x.puts.length : Int)) = false := by simp; omega
      have T1 := T.keeps k1
      have wn := T.ow.n
      have vn := T.ov.n
      have oN' := oN
      have X := fun env => sw_all (env := env) (q := K.next) T1 F (by omega) s1 s2 s3 hx (by omega) oN (by omega) (by omega) (by omega)
      unfold ac at ld eK1 oN'
      simp only [b3, h1, h93, h94, h95, c1, ha, ho, ld, eK1, oN', pl, c2', rwA, rwB, Nat.reduceAdd, Nat.reduceMul, Nat.reduceLeDiff, Int.reduceEq, Int.reduceLT, Int.reduceLE, Int.reduceAdd, Int.reduceSub, Int.reduceMul, ↓reduceIte, Nat.reduceEqDiff, reduceCtorEq, ↓cnd_true, ↓cnd_false]
      repeat (first | refine outs_seq ?_ | refine outs_block ?_ | refine outs_step ?_ | refine outs_stepD ?_ | refine rets_end ?_ | refine ans_end ?_)
      refine (X _ ?_ ?_ ?_ ?_ ?_ ?_ ?_ ?_ ?_ ?_ ?_).mono ?_
      · simp [Env.set, h1]
      · simp [Env.set, h9]
      · simp [Env.set, h11]
      · simp [Env.set, h13]
      · simp [Env.set, h15]
      · simp [Env.set]
      · simp [Env.set]
      · simp [Env.set]
      · simp [Env.set]
      · simp [Env.set]
      · simp [Env.set]
      rintro e env' K2 ⟨rfl, ⟨g1, g9, g11, g15, g93, g94, g95⟩, jp', vw', vs', rw', nn, mm, g13, g18, g19, g20, g21, T2⟩
      have g1 : env' 1 = .int .i64 (size : Int) := by rw [g1]; simp [Env.set, h1]
      have g9 : env' 9 = .ptr p 0 := by rw [g9]; simp [Env.set, h9]
      have g11 : env' 11 = .ptr w 0 := by rw [g11]; simp [Env.set, h11]
      have g15 : env' 15 = .ptr v 0 := by rw [g15]; simp [Env.set, h15]
      have g93 := g93.trans (show _ = AVal.slice id off l.length cp g' by simp [Env.set, h93])
      have g94 : env' 94 = .int .i64 (l.length : Int) := by rw [g94]; simp [Env.set, h94]
      have g95 : env' 95 = .int .i64 (j : Int) := by rw [g95]; simp [Env.set, h95]
      have F2 := F.eff x (by omega)
      obtain ⟨S2, eS2⟩ : ∃ S2, eff S x = S2 := ⟨_, rfl⟩
      rw [eS2] at T2 F2
      have wf2 := F2.wf (by omega) s1 s2
      have hw2 : S2.1.w.length < 1000000 := by have := F2.w; omega
      have u21 := U21 T2.T.hj wf2
      have u22 := U22 T2.T.hj
      have u23 := U23 T2.T.hj
      have u25 := U25 T2.T.hd.look T2.T.hd.n1 T2.T.hd.n2
      obtain ⟨K3, eK3⟩ : ∃ K3, K2.new (.cells (S2.1.s.map .str) true) = K3 := ⟨_, rfl⟩
      have k3 : Keeps K2 K3 := by rw [← eK3]; exact Keeps.new _ _
      have T3 := T2.keeps k3
      have oS : K3.obj K2.next = some (.cells (S2.1.s.map .str) true) := by rw [← eK3, new_obj, if_pos rfl]
      rw [eK3] at u25
      have u24 := U24 (safe_sl (g := some 1) oS) T3.T.hr.ss (by have := T3.T.hd.n2; omega)
      have dz : decide (S2.1.s = S2.1.s) = true := by simp
      rw [dz] at u24
      have u26 := U26 T3.T.hd.look
      obtain ⟨K4, u27, k4⟩ := U27r T3.T.hd T3.T.hr hw2 s1 s2 (by rw [F2.s]; exact s3) S2.2.epoch
      have T4 := T3.keeps k4
      have a2 : IntKind.i64.wrap ((S2.2.size : Int) - (S2.2.at' : Int)) = (S2.2.size : Int) - (S2.2.at' : Int) := by rw [wrap_i64]; have := wf2.s2; have := wf2.a1; omega
      have ow2 := T2.ow.o
      have ov2 := T2.ov.o
      have ow3 := T3.ow.o
      have ov3 := T3.ov.o
      have ow4 := T4.ow.o
      have ov4 := T4.ov.o
      have sz1 := sl_shape' T2.T.hr.ss
      have sz2 := sl_shape' T2.T.hr.sw
      have F2' : Fits n size (j + 1) S2 := F2
      unfold rc at ow2 ow3 ow4 u27
      unfold jr at ov2 ov3 ov4
      have u24' := u24
      simp only [outs_some, g1, g9, g11, g13, g15, g18, g19, g20, g21, g95, w1, a2, u21, u22, u23, u25, u24, u26, u27, ow2, ov2, ow3, ov3, ow4, ov4, ok_3_4, ok_5_6, rwA, rwB, Nat.reduceAdd, Nat.reduceMul, Nat.reduceLeDiff, Int.reduceEq, Int.reduceLT, Int.reduceLE, Int.reduceAdd, Int.reduceSub, Int.reduceMul, ↓reduceIte, Nat.reduceEqDiff, reduceCtorEq, ↓cnd_true, ↓cnd_false]
      refine .inl ⟨trivial, j + 1, by omega, by omega, by simp [Env.set, g1], by simp [Env.set, g9], by simp [Env.set, g11], by simp [Env.set, g15], by simp [Env.set, g93], by simp [Env.set, g94], by simp [Env.set], jp', vw', vs', rw', S2, by simp [Env.set, g13], T4, F2'⟩
  · have e : j = l.length := by omega
    subst e
    have c1 : decide ((l.length : Int) < (l.length : Int)) = false := by simp
    simp only [b3, h94, h95, c1, rwA, rwB, Nat.reduceAdd, Nat.reduceMul, Nat.reduceLeDiff, Int.reduceEq, Int.reduceLT, Int.reduceLE, Int.reduceAdd, Int.reduceSub, Int.reduceMul, ↓reduceIte, Nat.reduceEqDiff, reduceCtorEq, ↓cnd_true, ↓cnd_false]
    rw [outs_some]
    exact .inr ⟨by simp, .inl rfl⟩

end Go.Proofs.YtilhjcnkaelheaaGreat.Dk
end

section
/- JournalPlays: the law. -/
set_option maxRecDepth 100000
set_option linter.unusedSimpArgs false
set_option linter.unusedVariables false
set_option maxHeartbeats 8000000
namespace Go.Proofs.YtilhjcnkaelheaaGreat.Dk
open Go Go.Proofs.YtilhjcnkaelheaaGreat.Am DnFns Go.RowKit
open Sd (Sec noughts home homeno ofHome ofNo opened unfit pad)

theorem U7x {H : AHeap} {p a : Nat} {g : Option Nat} {vw : AVal} {d : DS} (h : D H p a g vw d) {size : Int} (epoch : Int) (hs : ¬ (4 ≤ size ∧ size ≤ 1024 ∧ size < (d.s.length : Int))) :
    AC A 7 [.ptr p 0, .int .i64 size, .int .u64 epoch] H = some (.tuple [.nilp, .int .i64 18], H) := by
  rw [s_fn (A := A) (f := 7) (x := DnFns.c7) rfl rfl rfl]
  have u := U34 h.look
  cases c1 : decide (size < 4)
  · cases c2 : decide ((1024 : Int) < size)
    · have c3 : decide ((d.s.length : Int) ≤ size) = true := by simp at c1 c2; simp; omega
      simp only [c7, u, c1, c2, c3, e_nilp0, rwA, rwB, Nat.reduceAdd, Nat.reduceMul, Nat.reduceLeDiff, Int.reduceEq, Int.reduceLT, Int.reduceLE, Int.reduceAdd, Int.reduceSub, Int.reduceMul, ↓reduceIte, Nat.reduceEqDiff, reduceCtorEq, ↓cnd_true, ↓cnd_false]
    · simp only [c7, u, c1, c2, e_nilp0, rwA, rwB, Nat.reduceAdd, Nat.reduceMul, Nat.reduceLeDiff, Int.reduceEq, Int.reduceLT, Int.reduceLE, Int.reduceAdd, Int.reduceSub, Int.reduceMul, ↓reduceIte, Nat.reduceEqDiff, reduceCtorEq, ↓cnd_true, ↓cnd_false]
  · simp only [c7, u, c1, e_nilp0, rwA, rwB, Nat.reduceAdd, Nat.reduceMul, Nat.reduceLeDiff, Int.reduceEq, Int.reduceLT, Int.reduceLE, Int.reduceAdd, Int.reduceSub, Int.reduceMul, ↓reduceIte, Nat.reduceEqDiff, reduceCtorEq, ↓cnd_true, ↓cnd_false]

theorem run3 {H : AHeap} {n sz ep : Int} {lv : AVal} {l : List Act} (hep : 0 ≤ ep ∧ ep < 18446744073709551616) (hl : Sl H 5 lv (l.flatMap ac)) (hli : ∀ i, i ∈ lv.ids → i < H.next) (hmem : ∀ a, a ∈ l → a.mem H) :
    Ans (AC A 3 [.int .i64 n, .int .i64 sz, .int .u64 ep, lv] H) (.bool true) := by
  rw [s_fn (A := A) (f := 3) (x := DnFns.c3) rfl rfl rfl]
  have ll := hl.alen
  rw [slen_fm ac_len (by decide) hl] at ll
  by_cases hn : 1 ≤ n ∧ n ≤ 4865
  rotate_left
  · obtain ⟨H2, e6, k2⟩ := U6x hn H
    simp only [c3, U4, U5x hn, e6, e_nilp1, rwA, rwB, Nat.reduceAdd, Nat.reduceMul, Nat.reduceLeDiff, Int.reduceEq, Int.reduceLT, Int.reduceLE, Int.reduceAdd, Int.reduceSub, Int.reduceMul, ↓reduceIte, Nat.reduceEqDiff, reduceCtorEq, ↓cnd_true, ↓cnd_false]
  obtain ⟨m, rfl⟩ : ∃ m : Nat, n = (m : Int) := ⟨n.toNat, by omega⟩
  obtain ⟨H1, eN, hD, k1⟩ := U5 (n := m) (by omega) (by omega) H
  obtain ⟨H2, vs, e6, hR, k2, hv⟩ := U6 (n := m) (by omega) (by omega) H1
  obtain ⟨H3, eH3⟩ : ∃ H3, (H2.new (.cells [.nils, .nils, .int .i64 0, .bool false, .int .i64 0] true)).set H2.next (.cells (rc vs .nils (fresh m)) true) = H3 := ⟨_, rfl⟩
  have k3 : Keeps H2 H3 := by rw [← eH3]; exact Keeps.set' (Nat.le_refl _) (Keeps.new' (Keeps.refl _))
  have oq : H3.obj H2.next = some (.cells (rc vs .nils (fresh m)) true) := by rw [← eH3, set_obj, if_pos rfl]
  have n3 : H3.next = H2.next + 1 := by rw [← eH3, set_next, new_next]
  have x1 := k1.1
  have x2 := k2.1
  have pn := hD.pn
  have si := hR.si
  have s1 := sl_shape' hR.ss
  have D3 := (hD.keeps k2).keeps k3
  have R3 := hR.keeps k3
  have e6' := e6
  have oq' := oq
  unfold rc at eH3
  unfold rc at e6'
  cases c1 : decide (60 < (m : Int))
  rotate_left
  · simp only [c3, U4, c1, eN, e6', eH3, e_nilp0, rwA, rwB, Nat.reduceAdd, Nat.reduceMul, Nat.reduceLeDiff, Int.reduceEq, Int.reduceLT, Int.reduceLE, Int.reduceAdd, Int.reduceSub, Int.reduceMul, ↓reduceIte, Nat.reduceEqDiff, reduceCtorEq, ↓cnd_true, ↓cnd_false]
  cases c2 : decide ((40 : Int) < (l.length : Int))
  rotate_left
  · simp only [c3, U4, c1, c2, ll, eN, e6', eH3, e_nilp0, rwA, rwB, Nat.reduceAdd, Nat.reduceMul, Nat.reduceLeDiff, Int.reduceEq, Int.reduceLT, Int.reduceLE, Int.reduceAdd, Int.reduceSub, Int.reduceMul, ↓reduceIte, Nat.reduceEqDiff, reduceCtorEq, ↓cnd_true, ↓cnd_false]
  have hm : m ≤ 60 := by simp at c1; omega
  have hln : l.length ≤ 40 := by simp at c2; omega
  have fl : (fresh m).s.length = m := by simp [fresh]
  by_cases hs : 4 ≤ sz ∧ sz ≤ 1024 ∧ sz < (m : Int)
  · obtain ⟨size, rfl⟩ : ∃ s : Nat, sz = (s : Int) := ⟨sz.toNat, by omega⟩
    obtain ⟨e0, rfl⟩ : ∃ e : Nat, ep = (e : Int) := ⟨ep.toNat, by omega⟩
    obtain ⟨j0, ej0⟩ : ∃ j, (⟨size, e0, 0, 0⟩ : JS) = j := ⟨_, rfl⟩
    have e7 := U7 D3 (size := size) (epoch := e0) (by omega) (by omega) (by rw [fl]; omega)
    rw [ej0] at e7
    obtain ⟨H4, eH4⟩ : ∃ K, H3.new (.cells (jc (H.next + 2) j0) true) = K := ⟨_, rfl⟩
    rw [eH4] at e7
    have k4 : Keeps H3 H4 := by rw [← eH4]; exact Keeps.new _ _
    have n4 : H4.next = H3.next + 1 := by rw [← eH4, new_next]
    obtain ⟨H5, eH5⟩ : ∃ K, (H4.new (.cells [.int .i64 0, .int .u64 0, .int .i64 0, .int .u64 0] true)).set H4.next (.cells (jr j0) true) = K := ⟨_, rfl⟩
    have k5 : Keeps H4 H5 := by rw [← eH5]; exact Keeps.set' (Nat.le_refl _) (Keeps.new' (Keeps.refl _))
    have n5 : H5.next = H4.next + 1 := by rw [← eH5, set_next, new_next]
    have o5 : H5.obj H2.next = some (.cells (rc vs .nils (fresh m)) true) := by rw [k5.2 _ (by omega), k4.2 _ (by omega)]; exact oq
    have u8 := U8 ((R3.keeps k4).keeps k5) (size : Int)
    have hmay : may (fresh m) (size : Int) = true := by unfold may; rw [fl]; simp; omega
    rw [hmay] at u8
    have T : PT H H5 (H.next + 2) (H.next + 1) none H3.next .nils vs .nils (fresh m) j0 :=
      ⟨(D3.keeps k4).keeps k5, (R3.keeps k4).keeps k5, ⟨by rw [k5.2 _ (by omega), ← eH4, new_obj, if_pos rfl], by omega, by omega, by omega, by simp [AVal.ids]⟩,
        fun i hi => ⟨by have := hv i hi; omega, by have := hv i hi; omega, by have := si i hi; omega, by simp [AVal.ids]⟩, by simp [AVal.ids], (((k1.trans k2).trans k3).trans k4).trans k5, by omega, by omega, by omega, by simp [AVal.ids]⟩
    have ow : Own H H5 (H.next + 2) (H.next + 1) H3.next .nils vs .nils H2.next (rc vs .nils (fresh m)) :=
      ⟨o5, by omega, by omega, by omega, by omega, by omega, by simp [AVal.ids], fun hx => by have := si _ hx; omega, by simp [AVal.ids]⟩
    have ov : Own H H5 (H.next + 2) (H.next + 1) H3.next .nils vs .nils H4.next (jr j0) :=
      ⟨by rw [← eH5, set_obj, if_pos rfl], by omega, by omega, by omega, by omega, by omega, by simp [AVal.ids], fun hx => by have := si _ hx; omega, by simp [AVal.ids]⟩
    have S0 : St H H5 (H.next + 2) (H.next + 1) none H3.next .nils vs .nils (fresh m, j0) H2.next H4.next := ⟨T, ow, ov, by omega⟩
    have F0 : Fits m size 0 (fresh m, j0) := by rw [← ej0]; exact ⟨fl, Nat.le_refl _, rfl, Nat.zero_le _, Nat.le_refl _, by show e0 < _; omega⟩
    have L := fun env => loop3 (env := env) hl hli hln hmem (by omega) (by omega) (by omega) S0 F0
    have hjr : jr j0 = [.int .i64 (size : Int), .int .u64 (e0 : Int), .int .i64 0, .int .u64 0] := by rw [← ej0]; rfl
    rw [hjr] at eH5
    unfold rc at u8 o5
    simp only [c3, U4, c1, c2, ll, eN, e6', eH3, e7, eH5, o5, u8, e_nilp0, rwA, rwB, Nat.reduceAdd, Nat.reduceMul, Nat.reduceLeDiff, Int.reduceEq, Int.reduceLT, Int.reduceLE, Int.reduceAdd, Int.reduceSub, Int.reduceMul, ↓reduceIte, Nat.reduceEqDiff, reduceCtorEq, ↓cnd_true, ↓cnd_false]
    repeat (first | refine outs_seq ?_ | refine outs_block ?_ | refine outs_step ?_ | refine outs_stepD ?_ | refine rets_end ?_ | refine ans_end ?_)
    refine (L _ ?_ ?_ ?_ ?_ ?_ ?_ ?_ ?_).mono ?_
    · simp [Env.set, ainit]
    · simp [Env.set]
    · simp [Env.set]
    · simp [Env.set]
    · simp [Env.set]
    · simp [Env.set, ainit]
    · simp [Env.set]
    · simp [Env.set]
    rintro e env K (rfl | ⟨rfl, h8⟩)
    · simp only [outs_some, rwA, rwB, Nat.reduceAdd, Nat.reduceMul, Nat.reduceLeDiff, Int.reduceEq, Int.reduceLT, Int.reduceLE, Int.reduceAdd, Int.reduceSub, Int.reduceMul, ↓reduceIte, Nat.reduceEqDiff, reduceCtorEq, ↓cnd_true, ↓cnd_false]
    · simp only [outs_some, h8, rwA, rwB, Nat.reduceAdd, Nat.reduceMul, Nat.reduceLeDiff, Int.reduceEq, Int.reduceLT, Int.reduceLE, Int.reduceAdd, Int.reduceSub, Int.reduceMul, ↓reduceIte, Nat.reduceEqDiff, reduceCtorEq, ↓cnd_true, ↓cnd_false]
  · have e7 := U7x D3 (size := sz) ep (by rw [fl]; exact hs)
    obtain ⟨H5, eH5⟩ : ∃ K, (H3.new (.cells [.int .i64 0, .int .u64 0, .int .i64 0, .int .u64 0] true)).set H3.next (.cells [.int .i64 sz, .int .u64 ep, .int .i64 0, .int .u64 0] true) = K := ⟨_, rfl⟩
    have k5 : Keeps H3 H5 := by rw [← eH5]; exact Keeps.set' (Nat.le_refl _) (Keeps.new' (Keeps.refl _))
    have o5 : H5.obj H2.next = some (.cells (rc vs .nils (fresh m)) true) := by rw [k5.2 _ (by omega)]; exact oq
    have u8 := U8 (R3.keeps k5) sz
    have hmay : may (fresh m) sz = false := by
      unfold may; rw [fl]
      cases h1 : decide (4 ≤ sz) <;> cases h2 : decide (sz ≤ 1024) <;> cases h3 : decide (sz < (m : Int)) <;> first | rfl | (exfalso; simp at h1 h2 h3; exact hs ⟨h1, h2, h3⟩)
    rw [hmay] at u8
    unfold rc at u8 o5
    simp only [c3, U4, c1, c2, ll, eN, e6', eH3, e7, eH5, o5, u8, e_nilp0, e_nilp1, rwA, rwB, Nat.reduceAdd, Nat.reduceMul, Nat.reduceLeDiff, Int.reduceEq, Int.reduceLT, Int.reduceLE, Int.reduceAdd, Int.reduceSub, Int.reduceMul, ↓reduceIte, Nat.reduceEqDiff, reduceCtorEq, ↓cnd_true, ↓cnd_false]

theorem law3 (H : AHeap) (args : List AVal) (dats : List Dat) (h : AArgs Tryz.prog H [3, 3, 22, 23] args dats) : ∃ k H', acall A k 3 args H = some (.bool true, H') := by
  obtain ⟨v0, r, d0, ds, rfl, rfl, h0, h⟩ := args_cons h
  obtain ⟨v1, r, d1, ds, rfl, rfl, h1, h⟩ := args_cons h
  obtain ⟨v2, r, d2, ds, rfl, rfl, h2, h⟩ := args_cons h
  obtain ⟨v3, r, d3, ds, rfl, rfl, h3, h⟩ := args_cons h
  obtain rfl := args_nil h
  obtain ⟨n, rfl, _⟩ := arg_int Tryz.underlying3 h0
  obtain ⟨sz, rfl, _⟩ := arg_int Tryz.underlying3 h1
  obtain ⟨ep, rfl, he⟩ := arg_int Tryz.underlying22 h2
  obtain ⟨l, hl, hli, _, hm⟩ := arg_acts h3
  have he' : (0 : Int) ≤ ep ∧ ep ≤ 18446744073709551615 := he.2
  obtain ⟨H', hr⟩ := run3 (n := n) (sz := sz) (ep := ep) ⟨he'.1, by omega⟩ hl hli hm
  obtain ⟨k, hk⟩ := AC_iff.1 hr
  exact ⟨k, H', hk⟩

end Go.Proofs.YtilhjcnkaelheaaGreat.Dk
end
