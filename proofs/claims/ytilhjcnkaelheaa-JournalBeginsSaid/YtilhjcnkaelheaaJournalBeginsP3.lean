/- Texts put together by program: YtilhjcnkaelheaaJe, YtilhjcnkaelheaaJf, YtilhjcnkaelheaaDh, YtilhjcnkaelheaaJg, YtilhjcnkaelheaaJh, YtilhjcnkaelheaaJi, YtilhjcnkaelheaaJj. -/
import Derived.Test.YtilhjcnkaelheaaJournalBeginsP2
section
/- Journals told: lists of lists; Scan. -/
set_option maxRecDepth 100000
set_option linter.unusedSimpArgs false
set_option linter.unusedVariables false
set_option maxHeartbeats 4000000
namespace Go.Proofs.Ytilhjcnkaelheaa.Dk
open Go Go.Proofs.Ytilhjcnkaelheaa.Am DnFns Go.RowKit
open Sd (Sec noughts home homeno ofHome ofNo opened unfit pad)

/-- Lists in memory: each with what it holds. -/
structure LL (K : AHeap) (pl : List (AVal × List Im)) : Prop where
  s : ∀ x, x ∈ pl → Sl K 2 x.1 (x.2.flatMap ic)
  lt : ∀ x, x ∈ pl → ∀ j, j ∈ x.1.ids → j < K.next
theorem LL.fr {L : List Nat} {K K' : AHeap} {pl : List (AVal × List Im)} (h : LL K pl) (f : Fr L K K') (hL : ∀ x, x ∈ pl → ∀ j, j ∈ x.1.ids → j ∉ L) : LL K' pl :=
  ⟨fun x hx => (h.s x hx).fr f (fun j hj => ⟨h.lt x hx j hj, hL x hx j hj⟩), fun x hx j hj => Nat.lt_of_lt_of_le (h.lt x hx j hj) f.1⟩
theorem LL.keeps {K K' : AHeap} {pl : List (AVal × List Im)} (h : LL K pl) (f : Keeps K K') : LL K' pl := h.fr (L := []) (Fr.of f) (by simp)
/-- A list of lists that grows, in memory made since B. -/
structure NL (B : Nat) (K : AHeap) (v : AVal) (pl : List (AVal × List Im)) : Prop where
  g : Gr K 1 v (pl.map (·.1))
  l : LL K pl
  fr : ∀ x, x ∈ pl → ∀ j, j ∈ x.1.ids → B ≤ j ∧ j ∉ v.ids
  vf : ∀ j, j ∈ v.ids → B ≤ j
theorem NL.nil (B : Nat) (K : AHeap) : NL B K .nils [] := ⟨Gr.nil _ _, ⟨by simp, by simp⟩, by simp, by simp [AVal.ids]⟩
theorem NL.fr' {L : List Nat} {B : Nat} {K K' : AHeap} {v : AVal} {pl : List (AVal × List Im)} (h : NL B K v pl) (f : Fr L K K') (hv : ∀ j, j ∈ L → j < B) : NL B K' v pl :=
  ⟨h.g.fr f (fun i hi hx => by have := h.vf i hi; have := hv i hx; omega), h.l.fr f (fun x hx j hj hL => by have := (h.fr x hx j hj).1; have := hv j hL; omega), h.fr, h.vf⟩
theorem NL.sz {B : Nat} {K : AHeap} {v : AVal} {pl : List (AVal × List Im)} (h : NL B K v pl) : slen v = pl.length := by
  have := h.g.sl.length
  simp at this; omega
theorem NL.push {B : Nat} {K : AHeap} {v u : AVal} {pl : List (AVal × List Im)} {l : List Im} (h : NL B K v pl) (hu : Sl K 2 u (l.flatMap ic)) (hi : ∀ j, j ∈ u.ids → B ≤ j ∧ j < K.next ∧ j ∉ v.ids) (hB : B ≤ K.next) (hn : pl.length ≤ 100000) :
    ∃ v' K', aappend (K.new (.cells [u] true)) 1 24 v (.slice K.next 0 1 1 none) = some (v', K') ∧ NL B K' v' (pl ++ [(u, l)]) ∧ Fr v.ids K K' ∧ (∀ i, i ∈ v'.ids → K.next ≤ i) ∧ ∃ a, v' = .slice a 0 (slen v + 1) (slen v + 1) (some 1) := by
  obtain ⟨v', K', e, g', i', f', s', ea⟩ := h.g.push (by' := 24) (by decide) (x := [u]) rfl (by rw [h.sz]; omega)
  refine ⟨v', K', e, ⟨by simpa using g', ?_, ?_, fun j hj => by have := i' j hj; omega⟩, f', i', ea⟩
  · refine LL.fr (L := v.ids) ?_ f' ?_
    · refine ⟨fun x hx => ?_, fun x hx => ?_⟩
      · rcases List.mem_append.1 hx with hx | hx
        · exact h.l.s x hx
        · simp at hx; subst hx; exact hu
      · rcases List.mem_append.1 hx with hx | hx
        · exact h.l.lt x hx
        · simp at hx; subst hx; exact fun j hj => (hi j hj).2.1
    · intro x hx
      rcases List.mem_append.1 hx with hx | hx
      · exact fun j hj => (h.fr x hx j hj).2
      · simp at hx; subst hx; exact fun j hj => (hi j hj).2.2
  · intro x hx j hj
    have : B ≤ j ∧ j < K.next := by
      rcases List.mem_append.1 hx with hx | hx
      · exact ⟨(h.fr x hx j hj).1, h.l.lt x hx j hj⟩
      · simp at hx; subst hx; exact ⟨(hi j hj).1, (hi j hj).2.1⟩
    exact ⟨this.1, fun hv => by have := i' j hv; omega⟩

def sn (d : DS) (ep size : Nat) : Nat → Nat → Nat → List (List Im) → List (List Im) × Int
  | 0, _, _, out => (out, 0)
  | f + 1, num, at0, out =>
    if (nx d ep num size at0 1025 at0 []).no ≠ 0 then ([], (nx d ep num size at0 1025 at0 []).no)
    else if (nx d ep num size at0 1025 at0 []).l.length = 0 then (out, 0)
    else sn d ep size f (num + 1) (nx d ep num size at0 1025 at0 []).at' (out ++ [(nx d ep num size at0 1025 at0 []).l])
theorem nx_at (d : DS) (ep num size at0 : Nat) : ∀ (f i : Nat) (out : List Im), at0 ≤ i → i ≤ size → (nx d ep num size at0 f i out).at' = at0 ∧ (nx d ep num size at0 f i out).l = [] ∨ at0 < (nx d ep num size at0 f i out).at' ∧ (nx d ep num size at0 f i out).at' ≤ size
  | 0, _, _, _, _ => .inl ⟨rfl, rfl⟩
  | f + 1, i, out, h1, h2 => by
    unfold nx
    split
    · split
      · exact .inl ⟨rfl, rfl⟩
      · split
        · exact nx_at d ep num size at0 f (i + 1) _ (by omega) (by omega)
        · split
          · refine .inr ⟨?_, ?_⟩ <;> simp only <;> omega
          · exact .inl ⟨rfl, rfl⟩
    · exact .inl ⟨rfl, rfl⟩

def b28 : ACode := (.seq (.block 1 (.seq (.region [⟨(some 33), (.mv (.tmp 10)), none, none⟩, ⟨(some 34), (.mv (.tmp 12)), none, none⟩, ⟨(some 35), (.call (.con (.func 57 [] [])) [(.tmp 33), (.tmp 34)]), none, none⟩, ⟨(some 32), (.mv (.tmp 35)), none, none⟩, ⟨(some 36), (.extract (.tmp 32) 0), none, none⟩, ⟨(some 37), (.extract (.tmp 32) 1), none, none⟩, ⟨(some 13), (.mv (.tmp 36)), none, none⟩, ⟨(some 14), (.mv (.tmp 37)), none, none⟩]) (.seq (.seq (.region [⟨(some 38), (.mv (.tmp 14)), none, none⟩, ⟨(some 39), (.bin .neq (.tmp 38) (.con (.int .i64 0))), none, none⟩]) (.cond (.tmp 39) (.seq (.region [⟨(some 40), (.mv (.tmp 14)), none, none⟩, ⟨(some 6), (.mv (.con .nils)), none, none⟩, ⟨(some 7), (.mv (.tmp 40)), none, none⟩]) .ret) .skip)) (.seq (.seq (.region [⟨(some 41), (.mv (.tmp 13)), none, none⟩, ⟨(some 42), (.len false (.tmp 41)), none, none⟩, ⟨(some 43), (.bin .eql (.tmp 42) (.con (.int .i64 0))), none, none⟩]) (.cond (.tmp 43) (.seq (.region [⟨(some 44), (.mv (.tmp 11)), none, none⟩, ⟨(some 6), (.mv (.tmp 44)), none, none⟩, ⟨(some 7), (.mv (.con (.int .i64 0))), none, none⟩]) .ret) .skip)) (.region [⟨(some 45), (.mv (.tmp 11)), none, none⟩, ⟨(some 46), (.mv (.tmp 13)), none, none⟩, ⟨(some 47), (.buildS 1 [.nils] [(0, (1, (.tmp 46)))]), none, none⟩, ⟨(some 48), (.append 1 24 (.tmp 45) (.tmp 47)), none, none⟩, ⟨(some 11), (.mv (.tmp 48)), none, none⟩]))))) (.region [⟨(some 30), (.mv (.tmp 12)), none, none⟩, ⟨(some 31), (.bin .add (.tmp 30) (.con (.int .u64 1))), none, none⟩, ⟨(some 12), (.mv (.tmp 31)), none, none⟩]))
theorem loop28 {H : AHeap} {p a : Nat} {g : Option Nat} {vw : AVal} {d : DS} (h : DL H p a g vw d) (hw : d.w.length < 1000000) {sp size ep : Nat} (ho : H.obj sp = some (.cells (sc p size ep 0) true)) (hsn : sp < H.next) (hsp : sp ≠ p ∧ sp ≠ a ∧ sp ∉ vw.ids) (hs : size ≤ 1024) {env : Env}
    (h10 : env 10 = .ptr sp 0) (h11 : env 11 = .nils) (h12 : env 12 = .int .u64 1) :
    Outs (AX A (.loop b28) env H) fun e env' K => e = .ret ∧ ∃ v pl, env' 6 = v ∧ env' 7 = .int .i64 (sn d ep size 1025 1 0 []).2 ∧ Fr [sp] H K ∧ NL H.next K v pl ∧ pl.map (·.2) = (sn d ep size 1025 1 0 []).1 := by
  obtain ⟨R, hR⟩ : ∃ R, sn d ep size 1025 1 0 [] = R := ⟨_, rfl⟩
  rw [hR]
  refine loop_ends (I := fun (at0 : Nat) env' K => at0 ≤ size ∧ env' 10 = .ptr sp 0 ∧ Fr [sp] H K ∧ K.obj sp = some (.cells (sc p size ep at0) true) ∧ ∃ v pl n, env' 11 = v ∧ env' 12 = .int .u64 ((n + 1 : Nat) : Int) ∧ NL H.next K v pl ∧ n ≤ at0 ∧ pl.length = n ∧ sn d ep size (1025 - n) (n + 1) at0 (pl.map (·.2)) = R) (fun at0 => size - at0) ?_ 0 env H
    ⟨Nat.zero_le _, h10, Fr.refl _ _, ho, .nils, [], 0, h11, h12, NL.nil _ _, Nat.le_refl _, rfl, hR⟩
  rintro at0 env1 K ⟨hi, h10, hF, hO, v, pl, n, h11, h12, hN, hna, hpl, hE⟩
  obtain ⟨fu, efu⟩ : ∃ fu, 1025 - n = fu + 1 := ⟨1024 - n, by omega⟩
  rw [efu] at hE
  unfold sn at hE
  have hD := h.fr hF (by simp; exact Ne.symm hsp.1) (by simp; exact Ne.symm hsp.2.1) (fun i hi => by simp; rintro rfl; exact hsp.2.2 hi)
  have hF1 := hF.1
  have hsK := Nat.lt_of_lt_of_le hsn hF1
  obtain ⟨u, K1, e57, F1, O1, G1, I1⟩ := U57 hD hw hO hsK hs hi (n + 1)
  have hat := nx_at d ep (n + 1) size at0 1025 at0 [] (Nat.le_refl _) hi
  obtain ⟨q, hq⟩ : ∃ q, nx d ep (n + 1) size at0 1025 at0 [] = q := ⟨_, rfl⟩
  rw [hq] at e57 O1 G1 hE hat
  have F2 : Fr [sp] H K1 := hF.trans F1 (fun i hi => .inl hi)
  have N1 := hN.fr' F1 (by simp; exact hsn)
  have w1 : IntKind.u64.wrap (((n + 1 : Nat) : Int) + 1) = ((n + 1 + 1 : Nat) : Int) := by rw [wrapU64]; omega
  have ll := G1.sl.alen
  have sl : slen u = q.l.length := slen_fm ic_len (by decide) G1.sl
  rw [sl] at ll
  obtain ⟨m, hm⟩ : ∃ m, n + 1 = m := ⟨_, rfl⟩
  rw [hm] at h12 e57 w1
  rw [hm] at hE
  cases c1 : decide (q.no = 0)
  · rw [if_pos (by simpa using c1)] at hE
    simp only [b28, h10, h11, h12, e57, c1, rwA, rwB, Nat.reduceAdd, Nat.reduceMul, Nat.reduceLeDiff, Int.reduceEq, Int.reduceLT, Int.reduceLE, Int.reduceAdd, Int.reduceSub, Int.reduceMul, ↓reduceIte, Nat.reduceEqDiff, reduceCtorEq, ↓cnd_true, ↓cnd_false]
    rw [outs_some, ← hE]
    exact .inr ⟨by simp, rfl, .nils, [], by simp [Env.set], by simp [Env.set], F2, NL.nil _ _, rfl⟩
  have c1' : q.no = 0 := by simpa using c1
  rw [if_neg (by simpa using c1')] at hE
  cases c2 : decide ((q.l.length : Int) = 0)
  rotate_left
  · rw [if_pos (by simp at c2; rw [c2]; rfl)] at hE
    have sh : v = .nils ∨ ∃ a n g, v = .slice a 0 n n g := hN.g.shape
    rcases sh with e | ⟨_, _, _, e⟩
    all_goals
      rw [e] at h11 N1
      simp only [b28, h10, h11, h12, e57, c1, ll, c2, rwA, rwB, Nat.reduceAdd, Nat.reduceMul, Nat.reduceLeDiff, Int.reduceEq, Int.reduceLT, Int.reduceLE, Int.reduceAdd, Int.reduceSub, Int.reduceMul, ↓reduceIte, Nat.reduceEqDiff, reduceCtorEq, ↓cnd_true, ↓cnd_false]
      rw [outs_some, ← hE]
      exact .inr ⟨by simp, rfl, _, pl, by simp [Env.set], by simp [Env.set], F2, N1, rfl⟩
  have hne : ¬ q.l.length = 0 := by simp at c2; intro hx; rw [List.length_eq_zero_iff] at hx; exact c2 hx
  rw [if_neg hne] at hE
  have hat' : at0 < q.at' ∧ q.at' ≤ size := by
    rcases hat with ⟨_, h2⟩ | h2
    · rw [h2] at hne; simp at hne
    · exact h2
  have gi := G1.lt
  obtain ⟨v2, K2, e2, N2, f2, i2, a2, ea2⟩ := N1.push (u := u) (l := q.l) G1.sl (fun j hj => ⟨by have := I1 j hj; omega, gi j hj, fun hv => by have := hN.g.lt j hv; have := I1 j hj; omega⟩) F2.1 (by omega)
  rw [ea2] at e2
  have O2 : K2.obj sp = some (.cells (sc p size ep q.at') true) := by rw [f2.2 sp (Nat.lt_of_lt_of_le hsn F2.1) (fun hx => by have := hN.vf sp hx; omega)]; exact O1
  have F3 : Fr [sp] H K2 := F2.trans f2 (fun i hi => .inr (hN.vf i hi))
  rcases G1.shape with e | ⟨_, _, _, e⟩
  all_goals
    rw [e] at e57 ll e2 N2
    simp only [b28, h10, h11, h12, e57, c1, ll, c2, e2, w1, rwA, rwB, Nat.reduceAdd, Nat.reduceMul, Nat.reduceLeDiff, Int.reduceEq, Int.reduceLT, Int.reduceLE, Int.reduceAdd, Int.reduceSub, Int.reduceMul, ↓reduceIte, Nat.reduceEqDiff, reduceCtorEq, ↓cnd_true, ↓cnd_false]
    rw [outs_some]
    refine .inl ⟨rfl, q.at', by omega, hat'.2, by simp [Env.set, h10], F3, O2, v2, _, m, by rw [ea2]; simp [Env.set], by simp [Env.set], N2, by omega, by simp; omega, ?_⟩
    rw [← hE]
    have : 1025 - m = fu := by omega
    rw [this]
    simp

theorem U28 {H : AHeap} {p a : Nat} {g : Option Nat} {vw : AVal} {d : DS} (h : D H p a g vw d) (hw : d.w.length < 1000000) {size ep : Nat} (s1 : 4 ≤ size) (s2 : size ≤ 1024) (s3 : size < d.s.length) :
    ∃ v K pl, AC A 28 [.ptr p 0, .int .i64 (size : Int), .int .u64 (ep : Int)] H = some (.tuple [v, .int .i64 (sn d ep size 1025 1 0 []).2], K) ∧ Keeps H K ∧ NL H.next K v pl ∧ pl.map (·.2) = (sn d ep size 1025 1 0 []).1 := by
  have key : Rets (AC A 28 [.ptr p 0, .int .i64 (size : Int), .int .u64 (ep : Int)] H) fun u K => ∃ v pl, u = .tuple [v, .int .i64 (sn d ep size 1025 1 0 []).2] ∧ Keeps H K ∧ NL H.next K v pl ∧ pl.map (·.2) = (sn d ep size 1025 1 0 []).1 := by
    rw [s_fn (A := A) (f := 28) (x := DnFns.c28) rfl rfl rfl]
    have u27 := U27 h s1 s2 s3 (epoch := ep)
    obtain ⟨K0, e0⟩ : ∃ X, H.new (.cells (jc p ⟨size, ep, 0, 0⟩) true) = X := ⟨_, rfl⟩
    have k0 : Keeps H K0 := by rw [← e0]; exact Keeps.new _ _
    have n0 : K0.next = H.next + 1 := by rw [← e0, new_next]
    rw [e0] at u27
    obtain ⟨K1, e1⟩ : ∃ X, K0.new (.cells [.ptr p 0, .int .i64 (size : Int), .int .u64 (ep : Int), .int .i64 0] true) = X := ⟨_, rfl⟩
    have k1 : Keeps K0 K1 := by rw [← e1]; exact Keeps.new _ _
    have o1 : K1.obj K0.next = some (.cells (sc p size ep 0) true) := by rw [← e1, new_obj, if_pos rfl]; rfl
    have n1 : K1.next = K0.next + 1 := by rw [← e1, new_next]
    have hp := h.pn
    have han := h.an
    have hwl := h.ow.lt
    simp only [c28, u27, e1, rwA, rwB, Nat.reduceAdd, Nat.reduceMul, Nat.reduceLeDiff, Int.reduceEq, Int.reduceLT, Int.reduceLE, Int.reduceAdd, Int.reduceSub, Int.reduceMul, ↓reduceIte, Nat.reduceEqDiff, reduceCtorEq, ↓cnd_true, ↓cnd_false]
    repeat (first | refine outs_seq ?_ | refine outs_block ?_ | refine outs_step ?_ | refine outs_stepD ?_ | refine rets_end ?_ | refine ans_end ?_)
    refine (loop28 ((h.keeps k0).keeps k1).look hw o1 (by omega) ⟨by omega, by omega, fun hx => by have := hwl _ hx; omega⟩ s2 ?_ ?_ ?_).mono ?_
    · simp [Env.set]
    · simp [Env.set]
    · simp [Env.set]
    rintro e env K ⟨rfl, v, pl, h6, h7, hF, hN, hpl⟩
    have hk : Keeps H K := ⟨by have := hF.1; omega, fun i hi => by rw [hF.2 i (by omega) (by simp; omega), k1.2 i (by omega), k0.2 i hi]⟩
    have hN' : NL H.next K v pl := ⟨hN.g, hN.l, fun x hx j hj => ⟨by have := (hN.fr x hx j hj).1; omega, (hN.fr x hx j hj).2⟩, fun j hj => by have := hN.vf j hj; omega⟩
    rcases hN.g.shape with e | ⟨_, _, _, e⟩
    all_goals
      rw [e] at h6 hN'
      simp only [outs_some, h6, h7, rwA, rwB, Nat.reduceAdd, Nat.reduceMul, Nat.reduceLeDiff, Int.reduceEq, Int.reduceLT, Int.reduceLE, Int.reduceAdd, Int.reduceSub, Int.reduceMul, ↓reduceIte, Nat.reduceEqDiff, reduceCtorEq, ↓cnd_true, ↓cnd_false]
      rw [rets_some]
      exact ⟨_, pl, rfl, hk, hN', hpl⟩
  obtain ⟨u, K, e, v, pl, rfl, h1, h2, h3⟩ := key
  exact ⟨v, K, pl, e, h1, h2, h3⟩

end Go.Proofs.Ytilhjcnkaelheaa.Dk
end

section
/- Journals: what is told as the document's; compared; right. -/
set_option maxRecDepth 100000
set_option linter.unusedSimpArgs false
set_option linter.unusedVariables false
set_option maxHeartbeats 4000000
namespace Go.Proofs.Ytilhjcnkaelheaa.Dk
open Go Go.Proofs.Ytilhjcnkaelheaa.Am DnFns Go.RowKit
open Sd (Sec noughts home homeno ofHome ofNo opened unfit pad)

theorem im_eq {x y : Im} (h1 : x.page = y.page) (h2 : x.text = y.text) : x = y := by cases x; cases y; cases h1; cases h2; rfl
instance : DecidableEq Im := fun x y =>
  if h : x.page = y.page ∧ x.text = y.text then isTrue (im_eq h.1 h.2) else isFalse (fun e => h (by rw [e]; exact ⟨rfl, rfl⟩))

def b38i : ACode := (.seq (.region [⟨(some 18), (.bin .lss (.tmp 17) (.tmp 16)), none, none⟩]) (.seq (.cond (.tmp 18) .skip (.exit 2)) (.seq (.block 3 (.seq (.region [⟨(some 19), (.idxASl 2 (.tmp 15) (.tmp 17)), none, none⟩, ⟨(some 20), (.load true 2 (.tmp 19)), none, none⟩, ⟨(some 8), (.new [(.int .i64 0), (.str [])]), none, none⟩, ⟨none, (.store 2 (.tmp 8) (.tmp 20)), none, none⟩]) (.region [⟨(some 21), (.mv (.tmp 6)), none, none⟩, ⟨(some 22), (.fieldA 0 (.tmp 8)), none, none⟩, ⟨(some 23), (.load false 1 (.tmp 22)), none, none⟩, ⟨(some 24), (.fieldA 1 (.tmp 8)), none, none⟩, ⟨(some 25), (.load false 1 (.tmp 24)), none, none⟩, ⟨(some 26), (.build [(.int .i64 0), (.str [])] [(0, (1, (.tmp 23))), (1, (1, (.tmp 25)))]), none, none⟩, ⟨(some 27), (.buildS 1 [(.int .i64 0), (.str [])] [(0, (2, (.tmp 26)))]), none, none⟩, ⟨(some 28), (.append 2 24 (.tmp 21) (.tmp 27)), none, none⟩, ⟨(some 6), (.mv (.tmp 28)), none, none⟩]))) (.region [⟨(some 29), (.bin .add (.tmp 17) (.con (.int .i64 1))), none, none⟩, ⟨(some 17), (.mv (.tmp 29)), none, none⟩]))))
theorem loop38i {H : AHeap} {lv : AVal} {l : List Im} (hl : Sl H 2 lv (l.flatMap ic)) (hid : ∀ i, i ∈ lv.ids → i < H.next) (hn : l.length ≤ 8796093022208) {env : Env}
    (h3 : env 6 = .nils) (h7 : env 15 = lv) (h8 : env 16 = .int .i64 (l.length : Int)) (h9 : env 17 = .int .i64 0) :
    Outs (AX A (.loop b38i) env H) fun e env' K => e = .exit 2 ∧ Keeps H K ∧ env' 3 = env 3 ∧ env' 9 = env 9 ∧ env' 10 = env 10 ∧ env' 11 = env 11 ∧ ∃ v, env' 6 = v ∧ Gr K 2 v (l.flatMap ic) ∧ ∀ i, i ∈ v.ids → H.next ≤ i := by
  refine loop_ends (I := fun (j : Nat) env' K => j ≤ l.length ∧ env' 15 = lv ∧ env' 16 = .int .i64 (l.length : Int) ∧ env' 17 = .int .i64 (j : Int) ∧ Keeps H K ∧ env' 3 = env 3 ∧ env' 9 = env 9 ∧ env' 10 = env 10 ∧ env' 11 = env 11 ∧ ∃ v, env' 6 = v ∧ Gr K 2 v ((l.take j).flatMap ic) ∧ ∀ i, i ∈ v.ids → H.next ≤ i) (fun j => l.length - j) ?_ 0 env H
    ⟨Nat.zero_le _, h7, h8, h9, Keeps.refl _, rfl, rfl, rfl, rfl, .nils, h3, Gr.nil _ _, by simp [AVal.ids]⟩
  rintro j env1 K ⟨hj, h7, h8, h9, hK, q3, q9, q10, q11, v, h3, hg, hgi⟩
  by_cases c : j < l.length
  · have c1 : decide ((j : Int) < (l.length : Int)) = true := by simp; omega
    have w1 : IntKind.i64.wrap ((j : Int) + 1) = ((j + 1 : Nat) : Int) := by rw [wrap_i64]; omega
    obtain ⟨id, off, cp, g, k, own, rfl, ho, hk, hall, _⟩ := (hl.keep hid hK).elem ic_len (by decide) c
    have ha : aidx l.length (.int .i64 (j : Int)) = some j := by simp [aidx]; omega
    have ld : apart true (off + j * 2) 2 k = some (.agg (ic l[j])) := by rw [apart_agg _ _ _ (elem_room (es := 2) c hk), hall]
    have ht : l.take (j + 1) = l.take j ++ [l[j]] := by rw [List.take_add_one, List.getElem?_eq_getElem c, Option.toList_some]
    obtain ⟨x, ex⟩ : ∃ x, l[j] = x := ⟨_, rfl⟩
    rw [ex] at ld ht
    obtain ⟨K1, eK1⟩ : ∃ K1, (K.new (.cells [.int .i64 0, .str []] true)).set K.next (.cells [.int .i64 x.page, .str x.text] true) = K1 := ⟨_, rfl⟩
    have k1 : Keeps K K1 := by rw [← eK1]; exact Keeps.set' (Nat.le_refl _) (Keeps.new' (Keeps.refl _))
    have oN : K1.obj K.next = some (.cells [.int .i64 x.page, .str x.text] true) := by rw [← eK1, set_obj, if_pos rfl]
    have g1 := hg.fr (L := []) (Fr.of k1) (by simp)
    have sl : slen v = j := by
      have := slen_fm ic_len (by decide) hg.sl
      simp at this; omega
    obtain ⟨v2, K2, e2, g2, i2, f2, s2, a2, ea2⟩ := g1.push (by' := 24) (by decide) (x := ic x) rfl (by rw [sl]; omega)
    have xK := hK.1
    have x1 := k1.1
    have x2 := f2.1
    have kf : Keeps H K2 := ⟨by omega, fun i hi => by rw [f2.2 i (by omega) (fun hx => by have := hgi i hx; omega), k1.2 i (by omega), hK.2 i hi]⟩
    have gf : Gr K2 2 v2 ((l.take (j + 1)).flatMap ic) := by
      rw [ht]; simpa using g2
    rw [ea2] at e2
    unfold ic at ld e2
    simp only [b38i, h3, h7, h8, h9, c1, ha, ho, ld, eK1, oN, e2, w1, rwA, rwB, Nat.reduceAdd, Nat.reduceMul, Nat.reduceLeDiff, Int.reduceEq, Int.reduceLT, Int.reduceLE, Int.reduceAdd, Int.reduceSub, Int.reduceMul, ↓reduceIte, Nat.reduceEqDiff, reduceCtorEq, ↓cnd_true, ↓cnd_false]
    rw [outs_some]
    exact .inl ⟨rfl, j + 1, by omega, by omega, by simp [Env.set, h7], by simp [Env.set, h8], by simp [Env.set], kf, by simp [Env.set, q3], by simp [Env.set, q9], by simp [Env.set, q10], by simp [Env.set, q11], v2, by rw [ea2]; simp [Env.set], gf, fun i hi => by have := i2 i hi; omega⟩
  · have e : j = l.length := by omega
    subst e
    have c1 : decide ((l.length : Int) < (l.length : Int)) = false := by simp
    simp only [b38i, h8, h9, c1, rwA, rwB, Nat.reduceAdd, Nat.reduceMul, Nat.reduceLeDiff, Int.reduceEq, Int.reduceLT, Int.reduceLE, Int.reduceAdd, Int.reduceSub, Int.reduceMul, ↓reduceIte, Nat.reduceEqDiff, reduceCtorEq, ↓cnd_true, ↓cnd_false]
    rw [outs_some]
    rw [List.take_length] at hg
    exact .inr ⟨by simp, rfl, hK, by simp [Env.set, q3], by simp [Env.set, q9], by simp [Env.set, q10], by simp [Env.set, q11], v, by simp [Env.set, h3], hg, hgi⟩

def b38 : ACode := (.seq (.region [⟨(some 12), (.bin .lss (.tmp 11) (.tmp 10)), none, none⟩]) (.seq (.cond (.tmp 12) .skip (.exit 0)) (.seq (.block 1 (.seq (.region [⟨(some 13), (.idxASl 1 (.tmp 9) (.tmp 11)), none, none⟩, ⟨(some 14), (.load false 1 (.tmp 13)), none, none⟩, ⟨(some 5), (.mv (.tmp 14)), none, none⟩]) (.seq (.region [⟨(some 6), (.mv (.con .nils)), none, none⟩]) (.seq (.seq (.region [⟨(some 15), (.mv (.tmp 5)), none, none⟩, ⟨(some 16), (.len false (.tmp 15)), none, none⟩, ⟨(some 17), (.mv (.con (.int .i64 0))), none, none⟩]) (.block 2 (.loop (.seq (.region [⟨(some 18), (.bin .lss (.tmp 17) (.tmp 16)), none, none⟩]) (.seq (.cond (.tmp 18) .skip (.exit 2)) (.seq (.block 3 (.seq (.region [⟨(some 19), (.idxASl 2 (.tmp 15) (.tmp 17)), none, none⟩, ⟨(some 20), (.load true 2 (.tmp 19)), none, none⟩, ⟨(some 8), (.new [(.int .i64 0), (.str [])]), none, none⟩, ⟨none, (.store 2 (.tmp 8) (.tmp 20)), none, none⟩]) (.region [⟨(some 21), (.mv (.tmp 6)), none, none⟩, ⟨(some 22), (.fieldA 0 (.tmp 8)), none, none⟩, ⟨(some 23), (.load false 1 (.tmp 22)), none, none⟩, ⟨(some 24), (.fieldA 1 (.tmp 8)), none, none⟩, ⟨(some 25), (.load false 1 (.tmp 24)), none, none⟩, ⟨(some 26), (.build [(.int .i64 0), (.str [])] [(0, (1, (.tmp 23))), (1, (1, (.tmp 25)))]), none, none⟩, ⟨(some 27), (.buildS 1 [(.int .i64 0), (.str [])] [(0, (2, (.tmp 26)))]), none, none⟩, ⟨(some 28), (.append 2 24 (.tmp 21) (.tmp 27)), none, none⟩, ⟨(some 6), (.mv (.tmp 28)), none, none⟩]))) (.region [⟨(some 29), (.bin .add (.tmp 17) (.con (.int .i64 1))), none, none⟩, ⟨(some 17), (.mv (.tmp 29)), none, none⟩]))))))) (.region [⟨(some 30), (.mv (.tmp 3)), none, none⟩, ⟨(some 31), (.mv (.tmp 6)), none, none⟩, ⟨(some 32), (.buildS 1 [.nils] [(0, (1, (.tmp 31)))]), none, none⟩, ⟨(some 33), (.append 1 24 (.tmp 30) (.tmp 32)), none, none⟩, ⟨(some 3), (.mv (.tmp 33)), none, none⟩]))))) (.region [⟨(some 34), (.bin .add (.tmp 11) (.con (.int .i64 1))), none, none⟩, ⟨(some 11), (.mv (.tmp 34)), none, none⟩]))))
theorem loop38 {H : AHeap} {lv : AVal} {pl : List (AVal × List Im)} (hl : Sl H 1 lv (pl.map (·.1))) (hid : ∀ i, i ∈ lv.ids → i < H.next) (hp : LL H pl) (hn : pl.length ≤ 10000) (hm : ∀ x, x ∈ pl → x.2.length ≤ 8796093022208) {env : Env}
    (h3 : env 3 = .nils) (h9 : env 9 = lv) (h10 : env 10 = .int .i64 (pl.length : Int)) (h11 : env 11 = .int .i64 0) :
    Outs (AX A (.loop b38) env H) fun e env' K => e = .exit 0 ∧ Keeps H K ∧ ∃ v ql, env' 3 = v ∧ NL H.next K v ql ∧ ql.map (·.2) = pl.map (·.2) := by
  refine loop_ends (I := fun (j : Nat) env' K => j ≤ pl.length ∧ env' 9 = lv ∧ env' 10 = .int .i64 (pl.length : Int) ∧ env' 11 = .int .i64 (j : Int) ∧ Keeps H K ∧ ∃ v ql, env' 3 = v ∧ NL H.next K v ql ∧ ql.map (·.2) = (pl.take j).map (·.2)) (fun j => pl.length - j) ?_ 0 env H
    ⟨Nat.zero_le _, h9, h10, h11, Keeps.refl _, .nils, [], h3, NL.nil _ _, rfl⟩
  rintro j env1 K ⟨hj, h9, h10, h11, hK, v, ql, h3, hN, hq⟩
  by_cases c : j < pl.length
  · have c1 : decide ((j : Int) < (pl.length : Int)) = true := by simp; omega
    have w1 : IntKind.i64.wrap ((j : Int) + 1) = ((j + 1 : Nat) : Int) := by rw [wrap_i64]; omega
    obtain ⟨id, off, cp, g, k, own, rfl, ho, _, hc⟩ := (hl.keep hid hK).elem1 c
    have ha : aidx pl.length (.int .i64 (j : Int)) = some j := by simp [aidx]; omega
    have ht : pl.take (j + 1) = pl.take j ++ [pl[j]] := by rw [List.take_add_one, List.getElem?_eq_getElem c, Option.toList_some]
    have hpK := hp.keeps hK
    have hs := hpK.s _ (List.getElem_mem c)
    have hlt := hpK.lt _ (List.getElem_mem c)
    have hmm := hm _ (List.getElem_mem c)
    have hql : ql.length = j := by have := congrArg List.length hq; simp at this; omega
    obtain ⟨⟨u, l⟩, ex⟩ : ∃ x, pl[j] = x := ⟨_, rfl⟩
    rw [ex] at hc hs hlt ht hmm
    simp only at hc hs hlt hmm
    have lu := hs.alen
    rw [slen_fm ic_len (by decide) hs] at lu
    simp only [b38, h9, h10, h11, c1, ha, ho, hc, lu, rwA, rwB, Nat.reduceAdd, Nat.reduceMul, Nat.reduceLeDiff, Int.reduceEq, Int.reduceLT, Int.reduceLE, Int.reduceAdd, Int.reduceSub, Int.reduceMul, ↓reduceIte, Nat.reduceEqDiff, reduceCtorEq, ↓cnd_true, ↓cnd_false]
    repeat (first | refine outs_seq ?_ | refine outs_block ?_ | refine outs_step ?_ | refine outs_stepD ?_ | refine rets_end ?_ | refine ans_end ?_)
    refine (loop38i hs hlt hmm ?_ ?_ ?_ ?_).mono ?_
    · simp [Env.set]
    · simp [Env.set]
    · simp [Env.set]
    · simp [Env.set]
    rintro e env2 K1 ⟨rfl, k1, q3, q9, q10, q11, w, q6, hg, hgi⟩
    have r3 : env2 3 = v := by rw [q3]; simp [Env.set, h3]
    have r9 := q9.trans (show _ = AVal.slice id off pl.length cp g by simp [Env.set, h9])
    have r10 := q10.trans (show _ = AVal.int .i64 (pl.length : Int) by simp [Env.set, h10])
    have r11 := q11.trans (show _ = AVal.int .i64 (j : Int) by simp [Env.set, h11])
    have hk1 := k1.1
    have hKn := hK.1
    have N1 := hN.fr' (L := []) (Fr.of k1) (by simp)
    obtain ⟨v2, K2, e2, N2, f2, i2, a2, ea2⟩ := N1.push (u := w) (l := l) hg.sl (fun j hj => ⟨by have := hgi j hj; omega, hg.lt j hj, fun hv => by have := hN.g.lt j hv; have := hgi j hj; omega⟩) (by omega) (by omega)
    rw [ea2] at e2
    have kf : Keeps H K2 := ⟨by have := f2.1; omega, fun i hi => by rw [f2.2 i (by omega) (fun hx => by have := hN.vf i hx; omega), k1.2 i (by omega), hK.2 i hi]⟩
    rcases hg.shape with e | ⟨_, _, _, e⟩
    all_goals
     rw [e] at q6 e2 N2
     simp only [outs_some, r3, r9, r10, r11, q6, e2, w1, rwA, rwB, Nat.reduceAdd, Nat.reduceMul, Nat.reduceLeDiff, Int.reduceEq, Int.reduceLT, Int.reduceLE, Int.reduceAdd, Int.reduceSub, Int.reduceMul, ↓reduceIte, Nat.reduceEqDiff, reduceCtorEq, ↓cnd_true, ↓cnd_false]
     refine .inl ⟨trivial, j + 1, by omega, by omega, by simp [Env.set, r9], by simp [Env.set, r10], by simp [Env.set], kf, v2, _, by rw [ea2]; try simp [Env.set], N2, ?_⟩
     rw [ht]; simp [hq]
  · have e : j = pl.length := by omega
    subst e
    have c1 : decide ((pl.length : Int) < (pl.length : Int)) = false := by simp
    simp only [b38, h10, h11, c1, rwA, rwB, Nat.reduceAdd, Nat.reduceMul, Nat.reduceLeDiff, Int.reduceEq, Int.reduceLT, Int.reduceLE, Int.reduceAdd, Int.reduceSub, Int.reduceMul, ↓reduceIte, Nat.reduceEqDiff, reduceCtorEq, ↓cnd_true, ↓cnd_false]
    rw [outs_some]
    rw [List.take_length] at hq
    exact .inr ⟨by simp, rfl, hK, v, ql, by simp [Env.set, h3], hN, hq⟩

theorem U38 {H : AHeap} {lv : AVal} {pl : List (AVal × List Im)} (hl : Sl H 1 lv (pl.map (·.1))) (hid : ∀ i, i ∈ lv.ids → i < H.next) (hp : LL H pl) (hn : pl.length ≤ 10000) (hm : ∀ x, x ∈ pl → x.2.length ≤ 8796093022208) :
    ∃ v K ql, AC A 38 [lv] H = some (v, K) ∧ Keeps H K ∧ NL H.next K v ql ∧ ql.map (·.2) = pl.map (·.2) := by
  have key : Rets (AC A 38 [lv] H) fun v K => ∃ ql, Keeps H K ∧ NL H.next K v ql ∧ ql.map (·.2) = pl.map (·.2) := by
    rw [s_fn (A := A) (f := 38) (x := DnFns.c38) rfl rfl rfl]
    have ll := hl.alen
    have sl : slen lv = pl.length := by have := hl.length; simp at this; omega
    rw [sl] at ll
    simp only [c38, ll, rwA, rwB, Nat.reduceAdd, Nat.reduceMul, Nat.reduceLeDiff, Int.reduceEq, Int.reduceLT, Int.reduceLE, Int.reduceAdd, Int.reduceSub, Int.reduceMul, ↓reduceIte, Nat.reduceEqDiff, reduceCtorEq, ↓cnd_true, ↓cnd_false]
    repeat (first | refine outs_seq ?_ | refine outs_block ?_ | refine outs_step ?_ | refine outs_stepD ?_ | refine rets_end ?_ | refine ans_end ?_)
    refine (loop38 hl hid hp hn hm ?_ ?_ ?_ ?_).mono ?_
    · simp [Env.set]
    · simp [Env.set, ainit]
    · simp [Env.set]
    · simp [Env.set]
    rintro e env K ⟨rfl, hK, v, ql, h3, hN, hq⟩
    rcases hN.g.shape with e | ⟨_, _, _, e⟩
    all_goals
      rw [e] at h3 hN
      simp only [outs_some, h3, rwA, rwB, Nat.reduceAdd, Nat.reduceMul, Nat.reduceLeDiff, Int.reduceEq, Int.reduceLT, Int.reduceLE, Int.reduceAdd, Int.reduceSub, Int.reduceMul, ↓reduceIte, Nat.reduceEqDiff, reduceCtorEq, ↓cnd_true, ↓cnd_false]
      rw [rets_some]
      exact ⟨ql, hK, hN, hq⟩
  obtain ⟨v, K, e, ql, h1, h2, h3⟩ := key
  exact ⟨v, K, ql, e, h1, h2, h3⟩

/-! ### Same -/
def b37i : ACode := (.seq (.seq (.region [⟨(some 29), (.mv (.tmp 6)), none, none⟩, ⟨(some 30), (.mv (.tmp 0)), none, none⟩, ⟨(some 31), (.mv (.tmp 5)), none, none⟩, ⟨(some 32), (.idxASl 1 (.tmp 30) (.tmp 31)), none, none⟩, ⟨(some 33), (.load false 1 (.tmp 32)), none, none⟩, ⟨(some 34), (.len false (.tmp 33)), none, none⟩, ⟨(some 35), (.bin .lss (.tmp 29) (.tmp 34)), none, none⟩]) (.cond (.tmp 35) .skip (.exit 2))) (.seq (.block 3 (.seq (.draw [⟨(some 38), (.mv (.tmp 0)), none, none⟩, ⟨(some 39), (.mv (.tmp 5)), none, none⟩, ⟨(some 40), (.idxASl 1 (.tmp 38) (.tmp 39)), none, none⟩, ⟨(some 41), (.load false 1 (.tmp 40)), none, none⟩, ⟨(some 42), (.mv (.tmp 6)), none, none⟩, ⟨(some 43), (.idxASl 2 (.tmp 41) (.tmp 42)), none, none⟩, ⟨(some 44), (.load true 2 (.tmp 43)), none, none⟩, ⟨(some 45), (.mv (.tmp 1)), none, none⟩, ⟨(some 46), (.mv (.tmp 5)), none, none⟩, ⟨(some 47), (.idxASl 1 (.tmp 45) (.tmp 46)), none, none⟩, ⟨(some 48), (.load false 1 (.tmp 47)), none, none⟩, ⟨(some 49), (.mv (.tmp 6)), none, none⟩, ⟨(some 50), (.idxASl 2 (.tmp 48) (.tmp 49)), none, none⟩, ⟨(some 51), (.load true 2 (.tmp 50)), none, none⟩, ⟨(some 52), (.eq true (.fld 0 1 false (.int .i64) (.fld 1 1 false .str .fend)) (.tmp 44) (.tmp 51)), none, none⟩]) (.cond (.tmp 52) (.seq (.region [⟨(some 4), (.mv (.con (.bool false))), none, none⟩]) .ret) .skip))) (.region [⟨(some 36), (.mv (.tmp 6)), none, none⟩, ⟨(some 37), (.bin .add (.tmp 36) (.con (.int .i64 1))), none, none⟩, ⟨(some 6), (.mv (.tmp 37)), none, none⟩])))
theorem loop37i {H : AHeap} {ia oa na ca ib ob nb cb i : Nat} {ga gb : Option Nat} {ka kb : List AVal} {wa wb : Bool} {u w : AVal} {x y : List Im}
    (oa' : H.obj ia = some (.cells ka wa)) (ob' : H.obj ib = some (.cells kb wb)) (la : ka[oa + i]? = some u) (lb : kb[ob + i]? = some w) (xa : aidx na (.int .i64 (i : Int)) = some i) (xb : aidx nb (.int .i64 (i : Int)) = some i)
    (hx : Sl H 2 u (x.flatMap ic)) (hy : Sl H 2 w (y.flatMap ic)) (he : x.length = y.length) (hn : x.length ≤ 8796093022208) {env : Env}
    (h0 : env 0 = .slice ia oa na ca ga) (h1 : env 1 = .slice ib ob nb cb gb) (h5 : env 5 = .int .i64 (i : Int)) (h6 : env 6 = .int .i64 0) :
    Outs (AX A (.loop b37i) env H) fun e env' K => K = H ∧ ((e = .exit 2 ∧ x = y ∧ env' 0 = env 0 ∧ env' 1 = env 1 ∧ env' 5 = env 5) ∨ (e = .ret ∧ env' 4 = .bool false ∧ x ≠ y)) := by
  refine loop_ends (I := fun (j : Nat) env' K => j ≤ x.length ∧ K = H ∧ env' 0 = .slice ia oa na ca ga ∧ env' 1 = .slice ib ob nb cb gb ∧ env' 5 = .int .i64 (i : Int) ∧ env' 6 = .int .i64 (j : Int) ∧ x.take j = y.take j) (fun j => x.length - j) ?_ 0 env H
    ⟨Nat.zero_le _, rfl, h0, h1, h5, h6, by simp⟩
  have E0 := h0
  have E1 := h1
  have E5 := h5
  rintro j env1 _ ⟨hj, rfl, h0, h1, h5, h6, hp⟩
  have lu := hx.alen
  rw [slen_fm ic_len (by decide) hx] at lu
  by_cases c : j < x.length
  · have c1 : decide ((j : Int) < (x.length : Int)) = true := by simp; omega
    have w1 : IntKind.i64.wrap ((j : Int) + 1) = ((j + 1 : Nat) : Int) := by rw [wrap_i64]; omega
    obtain ⟨id, off, cp, g, k, own, rfl, ho, hk, hall, _⟩ := hx.elem ic_len (by decide) c
    obtain ⟨id2, off2, cp2, g2, k2, own2, rfl, ho2, hk2, hall2, _⟩ := hy.elem (i := j) ic_len (by decide) (by omega)
    have ha : aidx x.length (.int .i64 (j : Int)) = some j := by simp [aidx]; omega
    have ha2 : aidx y.length (.int .i64 (j : Int)) = some j := by simp [aidx]; omega
    have ld : apart true (off + j * 2) 2 k = some (.agg (ic x[j])) := by rw [apart_agg _ _ _ (elem_room (es := 2) c hk), hall]
    have ld2 : apart true (off2 + j * 2) 2 k2 = some (.agg (ic y[j])) := by rw [apart_agg _ _ _ (elem_room (es := 2) (by omega) hk2), hall2]
    have ge : ∀ (l : List Im) (h : j < l.length), l.take (j + 1) = l.take j ++ [l[j]] := fun l h => by
      rw [List.take_add_one, List.getElem?_eq_getElem h]; rfl
    have gx := ge x c
    have gy := ge y (by omega)
    obtain ⟨s, es⟩ : ∃ s, x[j] = s := ⟨_, rfl⟩
    obtain ⟨t, et⟩ : ∃ t, y[j]'(by omega) = t := ⟨_, rfl⟩
    rw [es] at ld gx
    rw [et] at ld2 gy
    have bad : s ≠ t → x ≠ y := by rintro h rfl; exact h (es.symm.trans et)
    unfold ic at ld ld2
    cases d1 : decide (s.page = t.page)
    · simp only [b37i, h0, h1, h5, h6, oa', ob', la, lb, xa, xb, lu, c1, ha, ha2, ho, ho2, ld, ld2, d1, Bool.false_and, Bool.not_false, rwA, rwB, Nat.reduceAdd, Nat.reduceMul, Nat.reduceLeDiff, Int.reduceEq, Int.reduceLT, Int.reduceLE, Int.reduceAdd, Int.reduceSub, Int.reduceMul, ↓reduceIte, Nat.reduceEqDiff, reduceCtorEq, ↓cnd_true, ↓cnd_false]
      rw [outs_some]
      exact .inr ⟨by simp, rfl, .inr ⟨rfl, by simp [Env.set], bad (fun h => by rw [h] at d1; simp at d1)⟩⟩
    · cases d2 : (s.text == t.text)
      · simp only [b37i, h0, h1, h5, h6, oa', ob', la, lb, xa, xb, lu, c1, ha, ha2, ho, ho2, ld, ld2, d1, d2, Bool.true_and, Bool.not_false, rwA, rwB, Nat.reduceAdd, Nat.reduceMul, Nat.reduceLeDiff, Int.reduceEq, Int.reduceLT, Int.reduceLE, Int.reduceAdd, Int.reduceSub, Int.reduceMul, ↓reduceIte, Nat.reduceEqDiff, reduceCtorEq, ↓cnd_true, ↓cnd_false]
        rw [outs_some]
        exact .inr ⟨by simp, rfl, .inr ⟨rfl, by simp [Env.set], bad (fun h => by rw [h] at d2; simp at d2)⟩⟩
      · simp only [b37i, h0, h1, h5, h6, oa', ob', la, lb, xa, xb, lu, c1, ha, ha2, ho, ho2, ld, ld2, d1, d2, w1, Bool.true_and, Bool.not_true, rwA, rwB, Nat.reduceAdd, Nat.reduceMul, Nat.reduceLeDiff, Int.reduceEq, Int.reduceLT, Int.reduceLE, Int.reduceAdd, Int.reduceSub, Int.reduceMul, ↓reduceIte, Nat.reduceEqDiff, reduceCtorEq, ↓cnd_true, ↓cnd_false]
        rw [outs_some]
        refine .inl ⟨rfl, j + 1, by omega, by omega, rfl, by simp [Env.set, h0], by simp [Env.set, h1], by simp [Env.set, h5], by simp [Env.set], ?_⟩
        rw [gx, gy, hp, im_eq (of_decide_eq_true d1) (eq_of_beq d2)]
  · have e : j = x.length := by omega
    subst e
    have c1 : decide ((x.length : Int) < (x.length : Int)) = false := by simp
    simp only [b37i, h0, h1, h5, h6, oa', ob', la, lb, xa, xb, lu, c1, rwA, rwB, Nat.reduceAdd, Nat.reduceMul, Nat.reduceLeDiff, Int.reduceEq, Int.reduceLT, Int.reduceLE, Int.reduceAdd, Int.reduceSub, Int.reduceMul, ↓reduceIte, Nat.reduceEqDiff, reduceCtorEq, ↓cnd_true, ↓cnd_false]
    rw [outs_some]
    rw [List.take_length, he, List.take_length] at hp
    exact .inr ⟨by simp, rfl, .inl ⟨rfl, hp, by simp [Env.set, h0, E0], by simp [Env.set, h1, E1], by simp [Env.set, h5, E5]⟩⟩

def b37 : ACode := (.seq (.seq (.region [⟨(some 12), (.mv (.tmp 5)), none, none⟩, ⟨(some 13), (.mv (.tmp 0)), none, none⟩, ⟨(some 14), (.len false (.tmp 13)), none, none⟩, ⟨(some 15), (.bin .lss (.tmp 12) (.tmp 14)), none, none⟩]) (.cond (.tmp 15) .skip (.exit 0))) (.seq (.block 1 (.seq (.seq (.draw [⟨(some 18), (.mv (.tmp 0)), none, none⟩, ⟨(some 19), (.mv (.tmp 5)), none, none⟩, ⟨(some 20), (.idxASl 1 (.tmp 18) (.tmp 19)), none, none⟩, ⟨(some 21), (.load false 1 (.tmp 20)), none, none⟩, ⟨(some 22), (.len false (.tmp 21)), none, none⟩, ⟨(some 23), (.mv (.tmp 1)), none, none⟩, ⟨(some 24), (.mv (.tmp 5)), none, none⟩, ⟨(some 25), (.idxASl 1 (.tmp 23) (.tmp 24)), none, none⟩, ⟨(some 26), (.load false 1 (.tmp 25)), none, none⟩, ⟨(some 27), (.len false (.tmp 26)), none, none⟩, ⟨(some 28), (.bin .neq (.tmp 22) (.tmp 27)), none, none⟩]) (.cond (.tmp 28) (.seq (.region [⟨(some 4), (.mv (.con (.bool false))), none, none⟩]) .ret) .skip)) (.seq (.region [⟨(some 6), (.mv (.con (.int .i64 0))), none, none⟩]) (.block 2 (.loop (.seq (.seq (.region [⟨(some 29), (.mv (.tmp 6)), none, none⟩, ⟨(some 30), (.mv (.tmp 0)), none, none⟩, ⟨(some 31), (.mv (.tmp 5)), none, none⟩, ⟨(some 32), (.idxASl 1 (.tmp 30) (.tmp 31)), none, none⟩, ⟨(some 33), (.load false 1 (.tmp 32)), none, none⟩, ⟨(some 34), (.len false (.tmp 33)), none, none⟩, ⟨(some 35), (.bin .lss (.tmp 29) (.tmp 34)), none, none⟩]) (.cond (.tmp 35) .skip (.exit 2))) (.seq (.block 3 (.seq (.draw [⟨(some 38), (.mv (.tmp 0)), none, none⟩, ⟨(some 39), (.mv (.tmp 5)), none, none⟩, ⟨(some 40), (.idxASl 1 (.tmp 38) (.tmp 39)), none, none⟩, ⟨(some 41), (.load false 1 (.tmp 40)), none, none⟩, ⟨(some 42), (.mv (.tmp 6)), none, none⟩, ⟨(some 43), (.idxASl 2 (.tmp 41) (.tmp 42)), none, none⟩, ⟨(some 44), (.load true 2 (.tmp 43)), none, none⟩, ⟨(some 45), (.mv (.tmp 1)), none, none⟩, ⟨(some 46), (.mv (.tmp 5)), none, none⟩, ⟨(some 47), (.idxASl 1 (.tmp 45) (.tmp 46)), none, none⟩, ⟨(some 48), (.load false 1 (.tmp 47)), none, none⟩, ⟨(some 49), (.mv (.tmp 6)), none, none⟩, ⟨(some 50), (.idxASl 2 (.tmp 48) (.tmp 49)), none, none⟩, ⟨(some 51), (.load true 2 (.tmp 50)), none, none⟩, ⟨(some 52), (.eq true (.fld 0 1 false (.int .i64) (.fld 1 1 false .str .fend)) (.tmp 44) (.tmp 51)), none, none⟩]) (.cond (.tmp 52) (.seq (.region [⟨(some 4), (.mv (.con (.bool false))), none, none⟩]) .ret) .skip))) (.region [⟨(some 36), (.mv (.tmp 6)), none, none⟩, ⟨(some 37), (.bin .add (.tmp 36) (.con (.int .i64 1))), none, none⟩, ⟨(some 6), (.mv (.tmp 37)), none, none⟩])))))))) (.region [⟨(some 16), (.mv (.tmp 5)), none, none⟩, ⟨(some 17), (.bin .add (.tmp 16) (.con (.int .i64 1))), none, none⟩, ⟨(some 5), (.mv (.tmp 17)), none, none⟩])))
theorem loop37 {H : AHeap} {av bv : AVal} {pl ql : List (AVal × List Im)} (ha : Sl H 1 av (pl.map (·.1))) (hb : Sl H 1 bv (ql.map (·.1))) (hp : LL H pl) (hq : LL H ql) (he : pl.length = ql.length) (hn : pl.length ≤ 10000) (hm : ∀ x, x ∈ pl → x.2.length ≤ 8796093022208) {env : Env}
    (h0 : env 0 = av) (h1 : env 1 = bv) (h5 : env 5 = .int .i64 0) :
    Outs (AX A (.loop b37) env H) fun e env' K => (e = .exit 0 ∧ pl.map (·.2) = ql.map (·.2)) ∨ (e = .ret ∧ env' 4 = .bool false ∧ pl.map (·.2) ≠ ql.map (·.2)) := by
  refine loop_ends (I := fun (j : Nat) env' K => j ≤ pl.length ∧ K = H ∧ env' 0 = av ∧ env' 1 = bv ∧ env' 5 = .int .i64 (j : Int) ∧ (pl.take j).map (·.2) = (ql.take j).map (·.2)) (fun j => pl.length - j) ?_ 0 env H
    ⟨Nat.zero_le _, rfl, h0, h1, h5, by simp⟩
  rintro j env1 _ ⟨hj, rfl, h0, h1, h5, hpq⟩
  have la := ha.alen
  have sa : slen av = pl.length := by have := ha.length; simp at this; omega
  rw [sa] at la
  by_cases c : j < pl.length
  · have c1 : decide ((j : Int) < (pl.length : Int)) = true := by simp; omega
    have w1 : IntKind.i64.wrap ((j : Int) + 1) = ((j + 1 : Nat) : Int) := by rw [wrap_i64]; omega
    obtain ⟨id, off, cp, g, k, own, rfl, ho, _, hc⟩ := ha.elem1 c
    obtain ⟨id2, off2, cp2, g2, k2, own2, rfl, ho2, _, hc2⟩ := hb.elem1 (i := j) (by omega)
    have xa : aidx pl.length (.int .i64 (j : Int)) = some j := by simp [aidx]; omega
    have xb : aidx ql.length (.int .i64 (j : Int)) = some j := by simp [aidx]; omega
    have ge : ∀ (l : List (AVal × List Im)) (h : j < l.length), l.take (j + 1) = l.take j ++ [l[j]] := fun l h => by
      rw [List.take_add_one, List.getElem?_eq_getElem h]; rfl
    have gp := ge pl c
    have gq := ge ql (by omega)
    have hs := hp.s _ (List.getElem_mem c)
    have hs2 := hq.s _ (List.getElem_mem (l := ql) (n := j) (by omega))
    have hmm := hm _ (List.getElem_mem c)
    have gne : ∀ {x y : List Im}, (pl[j]).2 = x → (ql[j]'(by omega)).2 = y → x ≠ y → pl.map (·.2) ≠ ql.map (·.2) := by
      intro x y e1 e2 hne h
      apply hne
      have := congrArg (fun l => l[j]?) h
      simp [c, show j < ql.length by omega, e1, e2] at this
      exact this
    obtain ⟨⟨u, x⟩, ex⟩ : ∃ x, pl[j] = x := ⟨_, rfl⟩
    obtain ⟨⟨w, y⟩, ey⟩ : ∃ x, ql[j]'(by omega) = x := ⟨_, rfl⟩
    have bad := gne (x := x) (y := y) (by rw [ex]) (by rw [ey])
    rw [ex] at hc hs gp hmm
    rw [ey] at hc2 hs2 gq
    simp only at hc hs hc2 hs2 hmm
    have lu := hs.alen
    rw [slen_fm ic_len (by decide) hs] at lu
    have lw := hs2.alen
    rw [slen_fm ic_len (by decide) hs2] at lw
    cases c2 : decide ((x.length : Int) = (y.length : Int))
    · simp only [b37, h0, h1, h5, la, c1, xa, xb, ho, ho2, hc, hc2, lu, lw, c2, rwA, rwB, Nat.reduceAdd, Nat.reduceMul, Nat.reduceLeDiff, Int.reduceEq, Int.reduceLT, Int.reduceLE, Int.reduceAdd, Int.reduceSub, Int.reduceMul, ↓reduceIte, Nat.reduceEqDiff, reduceCtorEq, ↓cnd_true, ↓cnd_false]
      rw [outs_some]
      exact .inr ⟨by simp, .inr ⟨rfl, by simp [Env.set], bad (fun h => by rw [h] at c2; simp at c2)⟩⟩
    · have hxy : x.length = y.length := by have := of_decide_eq_true c2; omega
      simp only [b37, h0, h1, h5, la, c1, xa, xb, ho, ho2, hc, hc2, lu, lw, c2, rwA, rwB, Nat.reduceAdd, Nat.reduceMul, Nat.reduceLeDiff, Int.reduceEq, Int.reduceLT, Int.reduceLE, Int.reduceAdd, Int.reduceSub, Int.reduceMul, ↓reduceIte, Nat.reduceEqDiff, reduceCtorEq, ↓cnd_true, ↓cnd_false]
      repeat (first | refine outs_seq ?_ | refine outs_block ?_ | refine outs_step ?_ | refine outs_stepD ?_ | refine rets_end ?_ | refine ans_end ?_)
      refine (loop37i (ga := g) (gb := g2) (ca := cp) (cb := cp2) ho ho2 hc hc2 xa xb hs hs2 hxy hmm ?_ ?_ ?_ ?_).mono ?_
      · simp [Env.set, h0]
      · simp [Env.set, h1]
      · simp [Env.set, h5]
      · simp [Env.set]
      rintro e env2 K1 ⟨rfl, (⟨rfl, hxy, q0, q1, q5⟩ | ⟨rfl, q4, hne⟩)⟩
      · have r0 := q0.trans (show _ = AVal.slice id off pl.length cp g by simp [Env.set, h0])
        have r1 := q1.trans (show _ = AVal.slice id2 off2 ql.length cp2 g2 by simp [Env.set, h1])
        have r5 := q5.trans (show _ = AVal.int .i64 (j : Int) by simp [Env.set, h5])
        simp only [outs_some, r0, r1, r5, w1, rwA, rwB, Nat.reduceAdd, Nat.reduceMul, Nat.reduceLeDiff, Int.reduceEq, Int.reduceLT, Int.reduceLE, Int.reduceAdd, Int.reduceSub, Int.reduceMul, ↓reduceIte, Nat.reduceEqDiff, reduceCtorEq, ↓cnd_true, ↓cnd_false]
        refine .inl ⟨trivial, j + 1, by omega, by omega, trivial, by simp [Env.set, r0], by simp [Env.set, r1], by simp [Env.set], ?_⟩
        rw [gp, gq, List.map_append, List.map_append, hpq, List.map_singleton, List.map_singleton, hxy]
      · simp only [outs_some, rwA, rwB, Nat.reduceAdd, Nat.reduceMul, Nat.reduceLeDiff, Int.reduceEq, Int.reduceLT, Int.reduceLE, Int.reduceAdd, Int.reduceSub, Int.reduceMul, ↓reduceIte, Nat.reduceEqDiff, reduceCtorEq, ↓cnd_true, ↓cnd_false]
        exact .inr ⟨by simp, .inr ⟨trivial, q4, bad hne⟩⟩
  · have e : j = pl.length := by omega
    subst e
    have c1 : decide ((pl.length : Int) < (pl.length : Int)) = false := by simp
    simp only [b37, h0, h1, h5, la, c1, rwA, rwB, Nat.reduceAdd, Nat.reduceMul, Nat.reduceLeDiff, Int.reduceEq, Int.reduceLT, Int.reduceLE, Int.reduceAdd, Int.reduceSub, Int.reduceMul, ↓reduceIte, Nat.reduceEqDiff, reduceCtorEq, ↓cnd_true, ↓cnd_false]
    rw [outs_some]
    rw [List.take_length, he, List.take_length] at hpq
    exact .inr ⟨by simp, .inl ⟨rfl, hpq⟩⟩

theorem U37 {H : AHeap} {av bv : AVal} {pl ql : List (AVal × List Im)} (ha : Sl H 1 av (pl.map (·.1))) (hb : Sl H 1 bv (ql.map (·.1))) (hp : LL H pl) (hq : LL H ql) (hn : pl.length ≤ 10000) (hm : ∀ x, x ∈ pl → x.2.length ≤ 8796093022208) :
    AC A 37 [av, bv] H = some (.bool (decide (pl.map (·.2) = ql.map (·.2))), H) := by
  refine look_val (x := DnFns.c37) rfl rfl rfl rfl ?_
  have fp : ∀ {l : List (AVal × List Im)}, LL H l → LL (frz H) l := fun h => ⟨fun x hx => (h.s x hx).frz, h.lt⟩
  have fa := ha.frz
  have fb := hb.frz
  have la := fa.alen
  have sa : slen av = pl.length := by have := ha.length; simp at this; omega
  rw [sa] at la
  have lb := fb.alen
  have sb : slen bv = ql.length := by have := hb.length; simp at this; omega
  rw [sb] at lb
  cases c1 : decide ((pl.length : Int) = (ql.length : Int))
  · have e : decide (pl.map (·.2) = ql.map (·.2)) = false := by
      refine decide_eq_false (fun h => ?_)
      have := congrArg List.length h
      simp at this c1; omega
    rw [e]
    simp only [c37, la, lb, c1, rwA, rwB, Nat.reduceAdd, Nat.reduceMul, Nat.reduceLeDiff, Int.reduceEq, Int.reduceLT, Int.reduceLE, Int.reduceAdd, Int.reduceSub, Int.reduceMul, ↓reduceIte, Nat.reduceEqDiff, reduceCtorEq, ↓cnd_true, ↓cnd_false]
  · have he : pl.length = ql.length := by have := of_decide_eq_true c1; omega
    simp only [c37, la, lb, c1, rwA, rwB, Nat.reduceAdd, Nat.reduceMul, Nat.reduceLeDiff, Int.reduceEq, Int.reduceLT, Int.reduceLE, Int.reduceAdd, Int.reduceSub, Int.reduceMul, ↓reduceIte, Nat.reduceEqDiff, reduceCtorEq, ↓cnd_true, ↓cnd_false]
    repeat (first | refine outs_seq ?_ | refine outs_block ?_ | refine outs_step ?_ | refine outs_stepD ?_ | refine rets_end ?_ | refine ans_end ?_)
    refine (loop37 fa fb (fp hp) (fp hq) he hn hm ?_ ?_ ?_).mono ?_
    · simp [Env.set, ainit]
    · simp [Env.set, ainit]
    · simp [Env.set]
    rintro e env K (⟨rfl, h⟩ | ⟨rfl, h4, h⟩)
    · rw [decide_eq_true h]
      simp only [outs_some, rwA, rwB, Nat.reduceAdd, Nat.reduceMul, Nat.reduceLeDiff, Int.reduceEq, Int.reduceLT, Int.reduceLE, Int.reduceAdd, Int.reduceSub, Int.reduceMul, ↓reduceIte, Nat.reduceEqDiff, reduceCtorEq, ↓cnd_true, ↓cnd_false]
    · rw [decide_eq_false h]
      simp only [outs_some, h4, rwA, rwB, Nat.reduceAdd, Nat.reduceMul, Nat.reduceLeDiff, Int.reduceEq, Int.reduceLT, Int.reduceLE, Int.reduceAdd, Int.reduceSub, Int.reduceMul, ↓reduceIte, Nat.reduceEqDiff, reduceCtorEq, ↓cnd_true, ↓cnd_false]

end Go.Proofs.Ytilhjcnkaelheaa.Dk
end

section
/- DiskWhole: behind a failure each sector is as it was, or as one of the writes left it. -/
set_option maxRecDepth 100000
set_option linter.unusedSimpArgs false
set_option linter.unusedVariables false
set_option maxHeartbeats 4000000
namespace Go.Proofs.Ytilhjcnkaelheaa.Dk
open Go Go.Proofs.Ytilhjcnkaelheaa.Am DnFns Go.RowKit
open Sd (Sec noughts home homeno ofHome ofNo opened unfit pad)

structure Act where
  kind : Int
  n : Int
  byte : UInt8
  short : Bool
  kv : AVal
  keep : List Bool
def ac (a : Act) : List AVal := [.int .i64 a.kind, .int .i64 a.n, by8 a.byte, .bool a.short, a.kv]
theorem ac_len (a : Act) : (ac a).length = 5 := rfl
def tx (b : UInt8) : List UInt8 := List.replicate 512 b
theorem tx_len (b : UInt8) : (tx b).length = 512 := by simp [tx]
/-- What an act is in memory. -/
def Act.mem (H : AHeap) (a : Act) : Prop := Sl H 1 a.kv (a.keep.map .bool) ∧ (∀ i, i ∈ a.kv.ids → i < H.next) ∧ -9223372036854775808 ≤ a.n ∧ a.n ≤ 9223372036854775807

theorem u8_of {n : Int} (h0 : 0 ≤ n) (h1 : n ≤ 255) : ∃ b : UInt8, AVal.int .u8 n = by8 b := ⟨_, by8_of ⟨h0, by omega⟩⟩

theorem arg_acts {H : AHeap} {v : AVal} {d : Dat} (h : AArg Try.prog H 22 v d) :
    ∃ l : List Act, Sl H 5 v (l.flatMap ac) ∧ (∀ i, i ∈ v.ids → i < H.next) ∧ slen v = l.length ∧ l.length ≤ maxLen ∧ ∀ a, a ∈ l → a.mem H := by
  obtain ⟨cs, hs, hv⟩ := arg_sh (f := 9) (sh := .slice 5 48 (.st 5 (.fld 0 1 (.int .i64) (.fld 1 1 (.int .i64) (.fld 2 1 (.int .u8) (.fld 3 1 .bool (.fld 4 1 (.slice 1 1 .bool) .fend))))))) (by kernel_rfl) h
  obtain ⟨v', l, h1, h2, h3, h4, h5, h6, h7, h8⟩ := shp_listP (enc := ac) (Pr := fun a => a.mem H) hs (fun c hc => by
    simp only [Shp] at hc
    obtain ⟨hl, ⟨k, e0, _⟩, ⟨n, e1, b1⟩, ⟨b, e2, b2⟩, ⟨s, e3⟩, ⟨kv, xs, e4, s1, s2, s3, s4, s5, s6, s7⟩, _⟩ := hc
    match c, hl with
    | [c0, c1, c2, c3, c4], _ =>
      simp at e0 e1 e2 e3 e4
      subst e0 e1 e2 e3 e4
      obtain ⟨l, hl, rfl⟩ := cells_of (enc := fun b => [AVal.bool b]) (slen c4) xs s4 (fun i hi => by obtain ⟨b, hb⟩ := s7 i hi; exact ⟨b, hb⟩)
      have b2' : (0 : Int) ≤ b ∧ b ≤ 255 := b2
      obtain ⟨b', eb⟩ := u8_of b2'.1 b2'.2
      refine ⟨⟨k, n, b', s, c4, l⟩, ⟨?_, s3, b1⟩, ?_⟩
      · rw [flatMap_one] at s1; exact s1
      · rw [eb]; rfl)
  have hv := hv.1 rfl
  rw [h1] at hv
  simp at hv
  subst hv
  exact ⟨l, h2, h4, h5, h6, h8⟩

theorem arg_keep {H : AHeap} {v : AVal} {d : Dat} (h : AArg Try.prog H 23 v d) : ∃ l : List Bool, Sl H 1 v (l.map .bool) ∧ (∀ i, i ∈ v.ids → i < H.next) ∧ l.length ≤ maxLen :=
  arg_bools (e := 4) (by kernel_rfl) (by kernel_rfl) (by kernel_rfl) h

/-! ### The law -/
def wr (d : DS) (a : Act) : DS := (d.write a.n (tx a.byte)).1
def wrs (d : DS) (l : List Act) : DS := l.foldl wr d
theorem wr_s (d : DS) (a : Act) : (wr d a).s = d.s := by
  unfold wr DS.write; split
  · split
    · exact step_s d
    · exact step_s d
  · rfl
theorem wrs_s (l : List Act) : ∀ d, (wrs d l).s = d.s := by
  induction l with
  | nil => intro d; rfl
  | cons a l ih => intro d; show (wrs (wr d a) l).s = _; rw [ih, wr_s]
/-- A write that is right is one more; another is none. -/
theorem wr_len (d : DS) (a : Act) : (wr d a).w.length = d.w.length + (if decide ((d.write a.n (tx a.byte)).2 = 0) then 1 else 0) := by
  unfold wr DS.write; split
  · split
    · simp
    · simp [step_w]
  · simp
theorem wr_mem (d : DS) (a : Act) {x : Nat × List UInt8} (h : x ∈ (wr d a).w) : x ∈ d.w ∨ (a.n = x.1 ∧ x.2 = tx a.byte) := by
  unfold wr DS.write at h
  split at h
  · rename_i c
    split at h
    · rcases List.mem_append.1 h with h | h
      · exact .inl h
      · simp at h; subst h; exact .inr ⟨by show a.n = ((a.n.toNat : Nat) : Int); omega, rfl⟩
    · rw [step_w] at h; exact .inl h
  · exact .inl h
theorem wrs_mem (l : List Act) : ∀ (d : DS) {x : Nat × List UInt8}, x ∈ (wrs d l).w → x ∈ d.w ∨ ∃ a, a ∈ l ∧ a.n = x.1 ∧ x.2 = tx a.byte := by
  induction l with
  | nil => intro d x h; exact .inl h
  | cons a l ih =>
    intro d x h
    rcases ih (wr d a) h with h | ⟨b, hb, h⟩
    · rcases wr_mem d a h with h | h
      · exact .inl h
      · exact .inr ⟨a, by simp, h⟩
    · exact .inr ⟨b, by simp [hb], h⟩
theorem wr_still {d : DS} (h : d.dead = false ∧ d.arm = 0) (a : Act) : (wr d a).dead = false ∧ (wr d a).arm = 0 := by
  have g : d.goes = true := by simp [DS.goes, h.1, h.2]
  have hs : d.step.dead = false ∧ d.step.arm = 0 := by rw [step_t g]; exact ⟨h.1, by show low (d.arm - 1) = 0; rw [h.2]; rfl⟩
  unfold wr DS.write; split
  · simp only [g, if_true]; exact hs
  · exact h
theorem wrs_still (l : List Act) : ∀ {d : DS}, d.dead = false ∧ d.arm = 0 → (wrs d l).dead = false ∧ (wrs d l).arm = 0 := by
  induction l with
  | nil => intro d h; exact h
  | cons a l ih => intro d h; exact ih (wr_still h a)
theorem wrs_len (l : List Act) : ∀ (d : DS), (wrs d l).w.length ≤ d.w.length + l.length := by
  induction l with
  | nil => intro d; exact Nat.le_refl _
  | cons a l ih =>
    intro d
    have h1 := ih (wr d a)
    have h2 := wr_len d a
    show (wrs (wr d a) l).w.length ≤ _
    rw [h2] at h1
    simp only [List.length_cons]
    split at h1 <;> omega
theorem wrs_take (d : DS) (l : List Act) {j : Nat} (h : j < l.length) : wrs d (l.take (j + 1)) = wr (wrs d (l.take j)) l[j] := by
  rw [List.take_add_one, List.getElem?_eq_getElem h, Option.toList_some]
  unfold wrs; rw [List.foldl_append]; rfl
theorem puts_get (l : List (Nat × List UInt8)) : ∀ (s : List (List UInt8)) (i : Nat), (puts s l).getD i [] = s.getD i [] ∨ ∃ x, x ∈ l ∧ x.1 = i ∧ (puts s l).getD i [] = x.2 := by
  induction l with
  | nil => intro s i; exact .inl rfl
  | cons x l ih =>
    intro s i
    show (puts (s.set x.1 x.2) l).getD i [] = _ ∨ _
    rcases ih (s.set x.1 x.2) i with h | ⟨y, hy, h1, h2⟩
    · by_cases c : x.1 = i
      · by_cases d : i < s.length
        · refine .inr ⟨x, by simp, c, ?_⟩
          show (puts (s.set x.1 x.2) l).getD i [] = _
          rw [h, c]; simp [d]
        · refine .inl ?_
          rw [h, List.getD_eq_getElem?_getD, List.getD_eq_getElem?_getD, List.getElem?_eq_none (by simp; omega), List.getElem?_eq_none (by omega)]
      · refine .inl ?_
        rw [h]
        simp [List.getD_eq_getElem?_getD, List.getElem?_set, c]
    · exact .inr ⟨y, by simp [hy], h1, h2⟩

/-- What the inner loop reckons. -/
def found (i : Nat) (s : List UInt8) (l : List Act) : Bool := l.any fun a => decide (a.n = (i : Int)) && decide (s = tx a.byte)

theorem any_take {α : Type} (f : α → Bool) (l : List α) {j : Nat} (h : j < l.length) : (l.take (j + 1)).any f = ((l.take j).any f || f l[j]) := by
  rw [List.take_add_one, List.getElem?_eq_getElem h, Option.toList_some, List.any_append]
  simp only [List.any_cons, List.any_nil, Bool.or_false]

theorem pk_none (w : List (Nat × List UInt8)) {P : Nat → Bool} (h : ∀ j, P j = false) : ∀ j, pk w P j = []
  | 0 => rfl
  | j + 1 => by
    rw [pk, pk_none w h j]
    split
    · simp [h]
    · rfl

/-- Each sector behind it. -/
theorem whole {n : Nat} {before behind : List Act} {step : Int} {keep : List Bool} {d1 d2 d3 d4 : DS} (h1 : d1 = wrs (fresh n) before) (h2 : d2 = d1.step.settle (fun _ => true)) (h3 : d3 = wrs { d2 with arm := low step } behind) (h4 : d4 = (d3.up keep).1) {i : Nat} (hi : i < n) :
    (decide (d4.s.getD i [] = d2.s.getD i []) || found i (d4.s.getD i []) behind) = true ∧ d4.read i = (d4.s.getD i [], 0) ∧ (keep = [] → d4.s = d2.s) := by
  have e4 : d4.s = puts d3.s (pk d3.w (fun i => keep.getD i false) d3.w.length) := by rw [h4]; rfl
  have e3 : d3.s = d2.s := by rw [h3, wrs_s]
  have w2 : d2.w = [] := by rw [h2]; rfl
  have hl : d4.s.length = n := by
    rw [e4, puts_len, e3, h2]
    show (puts d1.step.s _).length = n
    rw [puts_len, step_s, h1, wrs_s]
    simp [fresh]
  refine ⟨?_, ?_, ?_⟩
  · rw [Bool.or_eq_true]
    rcases puts_get (pk d3.w (fun i => keep.getD i false) d3.w.length) d3.s i with h | ⟨x, hx, hxi, hx2⟩
    · left
      rw [e4, h, e3]; simp
    · right
      rw [← e4] at hx2
      have hm := pk_mem hx
      rw [h3] at hm
      rcases wrs_mem behind _ hm with hm | ⟨a, ha, ha1, ha2⟩
      · have hm : x ∈ d2.w := hm
        rw [w2] at hm; simp at hm
      · unfold found
        rw [List.any_eq_true]
        refine ⟨a, ha, ?_⟩
        rw [hx2, ha2, ha1, hxi]; simp
  · have hd : d4.dead = false := by rw [h4]; rfl
    have hw : d4.w = [] := by rw [h4]; rfl
    have hi' : (0 : Int) ≤ (i : Int) ∧ (i : Int) < (d4.s.length : Int) := by omega
    unfold DS.read
    rw [hd, hw, if_pos hi']
    simp [lw]
  · intro hk
    rw [e4, pk_none _ (by intro j; rw [hk]; rfl), e3]
    rfl

end Go.Proofs.Ytilhjcnkaelheaa.Dk
end

section
/- Journals: the document's Right. -/
set_option maxRecDepth 100000
set_option linter.unusedSimpArgs false
set_option linter.unusedVariables false
set_option maxHeartbeats 4000000
namespace Go.Proofs.Ytilhjcnkaelheaa.Dk
open Go Go.Proofs.Ytilhjcnkaelheaa.Am DnFns Go.RowKit
open Sd (Sec noughts home homeno ofHome ofNo opened unfit pad)

def b36i : ACode := (.seq (.seq (.region [⟨(some 34), (.mv (.tmp 4)), none, none⟩, ⟨(some 35), (.mv (.tmp 3)), none, none⟩, ⟨(some 36), (.bin .lss (.tmp 34) (.tmp 35)), none, none⟩]) (.cond (.tmp 36) .skip (.exit 2))) (.seq (.block 3 (.seq (.draw [⟨(some 39), (.mv (.tmp 0)), none, none⟩, ⟨(some 40), (.mv (.tmp 4)), none, none⟩, ⟨(some 41), (.idxASl 2 (.tmp 39) (.tmp 40)), none, none⟩, ⟨(some 42), (.fieldA 0 (.tmp 41)), none, none⟩, ⟨(some 43), (.load false 1 (.tmp 42)), none, none⟩, ⟨(some 44), (.mv (.tmp 0)), none, none⟩, ⟨(some 45), (.mv (.tmp 3)), none, none⟩, ⟨(some 46), (.idxASl 2 (.tmp 44) (.tmp 45)), none, none⟩, ⟨(some 47), (.fieldA 0 (.tmp 46)), none, none⟩, ⟨(some 48), (.load false 1 (.tmp 47)), none, none⟩, ⟨(some 49), (.bin .eql (.tmp 43) (.tmp 48)), none, none⟩]) (.cond (.tmp 49) (.seq (.region [⟨(some 2), (.mv (.con (.bool false))), none, none⟩]) .ret) .skip))) (.region [⟨(some 37), (.mv (.tmp 4)), none, none⟩, ⟨(some 38), (.bin .add (.tmp 37) (.con (.int .i64 1))), none, none⟩, ⟨(some 4), (.mv (.tmp 38)), none, none⟩])))
theorem loop36i {H : AHeap} {lv : AVal} {l : List Im} (hl : Sl H 2 lv (l.flatMap ic)) (hn : l.length ≤ 8796093022208) {i : Nat} (hi : i < l.length) {env : Env}
    (h0 : env 0 = lv) (h3 : env 3 = .int .i64 (i : Int)) (h4 : env 4 = .int .i64 0) :
    Outs (AX A (.loop b36i) env H) fun e env' K => K = H ∧ ((e = .exit 2 ∧ env' 0 = lv ∧ env' 3 = .int .i64 (i : Int) ∧ ((l.take i).any fun y => decide (y.page = l[i].page)) = false) ∨ (e = .ret ∧ env' 2 = .bool false ∧ ((l.take i).any fun y => decide (y.page = l[i].page)) = true)) := by
  refine loop_ends (I := fun (j : Nat) env' K => j ≤ i ∧ K = H ∧ env' 0 = lv ∧ env' 3 = .int .i64 (i : Int) ∧ env' 4 = .int .i64 (j : Int) ∧ ((l.take j).any fun y => decide (y.page = l[i].page)) = false) (fun j => i - j) ?_ 0 env H
    ⟨Nat.zero_le _, rfl, h0, h3, h4, by simp⟩
  rintro j env1 _ ⟨hj, rfl, h0, h3, h4, hp⟩
  by_cases c : j < i
  · have c1 : decide ((j : Int) < (i : Int)) = true := by simp; omega
    have w1 : IntKind.i64.wrap ((j : Int) + 1) = ((j + 1 : Nat) : Int) := by rw [wrap_i64]; omega
    have hl2 := hl
    obtain ⟨id, off, cp, g, k, own, rfl, ho, _, _, hc⟩ := hl.elem (i := j) ic_len (by decide) (by omega)
    obtain ⟨id2, off2, cp2, g2, k2, own2, e2, ho2, _, _, hc2⟩ := hl2.elem ic_len (by decide) hi
    cases e2
    rw [ho] at ho2
    cases ho2
    have xa : aidx l.length (.int .i64 (j : Int)) = some j := by simp [aidx]; omega
    have xb : aidx l.length (.int .i64 (i : Int)) = some i := by simp [aidx]; omega
    have p0 := hc 0 (by decide)
    have q0 := hc2 0 (by decide)
    have ha := any_take (fun y : Im => decide (y.page = l[i].page)) l (j := j) (by omega)
    rw [hp, Bool.false_or] at ha
    have mo : ∀ {n : Nat}, n ≤ i → ((l.take n).any fun y => decide (y.page = l[i].page)) = true → ((l.take i).any fun y => decide (y.page = l[i].page)) = true := by
      intro n h1 h2
      rw [List.any_eq_true] at h2 ⊢
      obtain ⟨x, hx, h3⟩ := h2
      refine ⟨x, ?_, h3⟩
      have : l.take n = (l.take i).take n := by rw [List.take_take]; congr 1; omega
      rw [this] at hx
      exact List.mem_of_mem_take hx
    obtain ⟨x, ex⟩ : ∃ x, l[j]'(by omega) = x := ⟨_, rfl⟩
    obtain ⟨y, ey⟩ : ∃ x, l[i] = x := ⟨_, rfl⟩
    rw [ex] at p0 ha
    rw [ey] at q0 ha mo hp
    have p0 : k[off + j * 2]? = some (.int .i64 x.page) := p0
    have q0 : k[off + i * 2]? = some (.int .i64 y.page) := q0
    rw [ey]
    cases c2 : decide (x.page = y.page) <;> rw [c2] at ha
    · simp only [b36i, h0, h3, h4, c1, xa, xb, ho, p0, q0, c2, w1, rwA, rwB, Nat.reduceAdd, Nat.reduceMul, Nat.reduceLeDiff, Int.reduceEq, Int.reduceLT, Int.reduceLE, Int.reduceAdd, Int.reduceSub, Int.reduceMul, ↓reduceIte, Nat.reduceEqDiff, reduceCtorEq, ↓cnd_true, ↓cnd_false]
      rw [outs_some]
      exact .inl ⟨rfl, j + 1, by omega, by omega, rfl, by simp [Env.set, h0], by simp [Env.set, h3], by simp [Env.set], ha⟩
    · simp only [b36i, h0, h3, h4, c1, xa, xb, ho, p0, q0, c2, w1, rwA, rwB, Nat.reduceAdd, Nat.reduceMul, Nat.reduceLeDiff, Int.reduceEq, Int.reduceLT, Int.reduceLE, Int.reduceAdd, Int.reduceSub, Int.reduceMul, ↓reduceIte, Nat.reduceEqDiff, reduceCtorEq, ↓cnd_true, ↓cnd_false]
      rw [outs_some]
      exact .inr ⟨by simp, rfl, .inr ⟨rfl, by simp [Env.set], mo (by omega) ha⟩⟩
  · have e : j = i := by omega
    subst e
    have c1 : decide ((j : Int) < (j : Int)) = false := by simp
    simp only [b36i, h0, h3, h4, c1, rwA, rwB, Nat.reduceAdd, Nat.reduceMul, Nat.reduceLeDiff, Int.reduceEq, Int.reduceLT, Int.reduceLE, Int.reduceAdd, Int.reduceSub, Int.reduceMul, ↓reduceIte, Nat.reduceEqDiff, reduceCtorEq, ↓cnd_true, ↓cnd_false]
    rw [outs_some]
    exact .inr ⟨by simp, rfl, .inl ⟨rfl, by simp [Env.set, h0], by simp [Env.set, h3], hp⟩⟩

def b36 : ACode := (.seq (.seq (.region [⟨(some 5), (.mv (.tmp 3)), none, none⟩, ⟨(some 6), (.mv (.tmp 0)), none, none⟩, ⟨(some 7), (.len false (.tmp 6)), none, none⟩, ⟨(some 8), (.bin .lss (.tmp 5) (.tmp 7)), none, none⟩]) (.cond (.tmp 8) .skip (.exit 0))) (.seq (.block 1 (.seq (.seq (.region [⟨(some 11), (.mv (.tmp 0)), none, none⟩, ⟨(some 12), (.mv (.tmp 3)), none, none⟩, ⟨(some 13), (.idxASl 2 (.tmp 11) (.tmp 12)), none, none⟩, ⟨(some 14), (.fieldA 0 (.tmp 13)), none, none⟩, ⟨(some 15), (.load false 1 (.tmp 14)), none, none⟩, ⟨(some 16), (.bin .lss (.tmp 15) (.con (.int .i64 0))), none, none⟩, ⟨(some 17), (.mv (.tmp 16)), none, none⟩, ⟨(some 18), (.mv (.tmp 0)), (some (17, false)), none⟩, ⟨(some 19), (.mv (.tmp 3)), (some (17, false)), none⟩, ⟨(some 20), (.idxASl 2 (.tmp 18) (.tmp 19)), (some (17, false)), none⟩, ⟨(some 21), (.fieldA 0 (.tmp 20)), (some (17, false)), none⟩, ⟨(some 22), (.load false 1 (.tmp 21)), (some (17, false)), none⟩, ⟨(some 23), (.bin .gtr (.tmp 22) (.con (.int .i64 3839))), (some (17, false)), none⟩, ⟨(some 24), (.pick (.tmp 17) (.con (.bool true)) (.tmp 23)), none, none⟩, ⟨(some 25), (.mv (.tmp 24)), none, none⟩, ⟨(some 26), (.mv (.tmp 0)), (some (25, false)), none⟩, ⟨(some 27), (.mv (.tmp 3)), (some (25, false)), none⟩, ⟨(some 28), (.idxASl 2 (.tmp 26) (.tmp 27)), (some (25, false)), none⟩, ⟨(some 29), (.fieldA 1 (.tmp 28)), (some (25, false)), none⟩, ⟨(some 30), (.load false 1 (.tmp 29)), (some (25, false)), none⟩, ⟨(some 31), (.len true (.tmp 30)), (some (25, false)), none⟩, ⟨(some 32), (.bin .neq (.tmp 31) (.con (.int .i64 480))), (some (25, false)), none⟩, ⟨(some 33), (.pick (.tmp 25) (.con (.bool true)) (.tmp 32)), none, none⟩]) (.cond (.tmp 33) (.seq (.region [⟨(some 2), (.mv (.con (.bool false))), none, none⟩]) .ret) .skip)) (.seq (.region [⟨(some 4), (.mv (.con (.int .i64 0))), none, none⟩]) (.block 2 (.loop (.seq (.seq (.region [⟨(some 34), (.mv (.tmp 4)), none, none⟩, ⟨(some 35), (.mv (.tmp 3)), none, none⟩, ⟨(some 36), (.bin .lss (.tmp 34) (.tmp 35)), none, none⟩]) (.cond (.tmp 36) .skip (.exit 2))) (.seq (.block 3 (.seq (.draw [⟨(some 39), (.mv (.tmp 0)), none, none⟩, ⟨(some 40), (.mv (.tmp 4)), none, none⟩, ⟨(some 41), (.idxASl 2 (.tmp 39) (.tmp 40)), none, none⟩, ⟨(some 42), (.fieldA 0 (.tmp 41)), none, none⟩, ⟨(some 43), (.load false 1 (.tmp 42)), none, none⟩, ⟨(some 44), (.mv (.tmp 0)), none, none⟩, ⟨(some 45), (.mv (.tmp 3)), none, none⟩, ⟨(some 46), (.idxASl 2 (.tmp 44) (.tmp 45)), none, none⟩, ⟨(some 47), (.fieldA 0 (.tmp 46)), none, none⟩, ⟨(some 48), (.load false 1 (.tmp 47)), none, none⟩, ⟨(some 49), (.bin .eql (.tmp 43) (.tmp 48)), none, none⟩]) (.cond (.tmp 49) (.seq (.region [⟨(some 2), (.mv (.con (.bool false))), none, none⟩]) .ret) .skip))) (.region [⟨(some 37), (.mv (.tmp 4)), none, none⟩, ⟨(some 38), (.bin .add (.tmp 37) (.con (.int .i64 1))), none, none⟩, ⟨(some 4), (.mv (.tmp 38)), none, none⟩])))))))) (.region [⟨(some 9), (.mv (.tmp 3)), none, none⟩, ⟨(some 10), (.bin .add (.tmp 9) (.con (.int .i64 1))), none, none⟩, ⟨(some 3), (.mv (.tmp 10)), none, none⟩])))
theorem loop36 {H : AHeap} {lv : AVal} {l : List Im} (hl : Sl H 2 lv (l.flatMap ic)) (hn : l.length ≤ 8796093022208) {env : Env}
    (h0 : env 0 = lv) (h3 : env 3 = .int .i64 0) :
    Outs (AX A (.loop b36) env H) fun e env' K => K = H ∧ ((e = .exit 0 ∧ env' 0 = lv ∧ chkN l l.length = true) ∨ (e = .ret ∧ env' 2 = .bool false ∧ chkN l l.length = false)) := by
  refine loop_ends (I := fun (j : Nat) env' K => j ≤ l.length ∧ K = H ∧ env' 0 = lv ∧ env' 3 = .int .i64 (j : Int) ∧ chkN l j = true) (fun j => l.length - j) ?_ 0 env H
    ⟨Nat.zero_le _, rfl, h0, h3, rfl⟩
  rintro j env1 _ ⟨hj, rfl, h0, h3, hp⟩
  have ll := hl.alen
  rw [slen_fm ic_len (by decide) hl] at ll
  by_cases c : j < l.length
  · have c1 : decide ((j : Int) < (l.length : Int)) = true := by simp; omega
    have w1 : IntKind.i64.wrap ((j : Int) + 1) = ((j + 1 : Nat) : Int) := by rw [wrap_i64]; omega
    have hl2 := hl
    obtain ⟨id, off, cp, g, k, own, rfl, ho, _, _, hc⟩ := hl.elem ic_len (by decide) c
    have xa : aidx l.length (.int .i64 (j : Int)) = some j := by simp [aidx]; omega
    have p0 := hc 0 (by decide)
    have p1 := hc 1 (by decide)
    have hs : chkN l (j + 1) = (okI l[j] && !((l.take j).any fun y => decide (y.page = l[j].page))) := by
      rw [chkN, hp, List.getElem?_eq_getElem c, Bool.true_and]
    have fails : chkN l (j + 1) = false → chkN l l.length = false := chkN_mono l (by omega)
    have L := fun env h0 h3 h4 => loop36i (env := env) hl2 hn c h0 h3 h4
    obtain ⟨x, ex⟩ : ∃ x, l[j] = x := ⟨_, rfl⟩
    rw [ex] at p0 p1 hs L
    have p0 : k[off + j * 2]? = some (.int .i64 x.page) := p0
    have p1 : k[off + (j * 2 + 1)]? = some (.str x.text) := p1
    unfold okI pgok at hs
    cases d1 : decide (x.page < 0)
    rotate_left
    · have e1 : decide (0 ≤ x.page) = false := by simp at d1; simp; omega
      rw [e1] at hs
      simp only [b36, h0, h3, ll, c1, xa, ho, p0, p1, d1, rwA, rwB, Nat.reduceAdd, Nat.reduceMul, Nat.reduceLeDiff, Int.reduceEq, Int.reduceLT, Int.reduceLE, Int.reduceAdd, Int.reduceSub, Int.reduceMul, ↓reduceIte, Nat.reduceEqDiff, reduceCtorEq, ↓cnd_true, ↓cnd_false]
      rw [outs_some]
      exact .inr ⟨by simp, rfl, .inr ⟨rfl, by simp [Env.set], fails (by rw [hs]; rfl)⟩⟩
    have e1 : decide (0 ≤ x.page) = true := by simp at d1; simp; omega
    rw [e1] at hs
    cases d2 : decide (3839 < x.page)
    rotate_left
    · have e2 : decide (x.page < 3840) = false := by simp at d2; simp; omega
      rw [e2] at hs
      simp only [b36, h0, h3, ll, c1, xa, ho, p0, p1, d1, d2, rwA, rwB, Nat.reduceAdd, Nat.reduceMul, Nat.reduceLeDiff, Int.reduceEq, Int.reduceLT, Int.reduceLE, Int.reduceAdd, Int.reduceSub, Int.reduceMul, ↓reduceIte, Nat.reduceEqDiff, reduceCtorEq, ↓cnd_true, ↓cnd_false]
      rw [outs_some]
      exact .inr ⟨by simp, rfl, .inr ⟨rfl, by simp [Env.set], fails (by rw [hs]; rfl)⟩⟩
    have e2 : decide (x.page < 3840) = true := by simp at d2; simp; omega
    rw [e2] at hs
    cases d3 : decide ((x.text.length : Int) = 480)
    · have e3 : decide (x.text.length = 480) = false := by simp at d3; simp; omega
      rw [e3] at hs
      simp only [b36, h0, h3, ll, c1, xa, ho, p0, p1, d1, d2, d3, rwA, rwB, Nat.reduceAdd, Nat.reduceMul, Nat.reduceLeDiff, Int.reduceEq, Int.reduceLT, Int.reduceLE, Int.reduceAdd, Int.reduceSub, Int.reduceMul, ↓reduceIte, Nat.reduceEqDiff, reduceCtorEq, ↓cnd_true, ↓cnd_false]
      rw [outs_some]
      exact .inr ⟨by simp, rfl, .inr ⟨rfl, by simp [Env.set], fails (by rw [hs]; rfl)⟩⟩
    have e3 : decide (x.text.length = 480) = true := by simp at d3; simp; omega
    rw [e3] at hs
    simp only [b36, h0, h3, ll, c1, xa, ho, p0, p1, d1, d2, d3, rwA, rwB, Nat.reduceAdd, Nat.reduceMul, Nat.reduceLeDiff, Int.reduceEq, Int.reduceLT, Int.reduceLE, Int.reduceAdd, Int.reduceSub, Int.reduceMul, ↓reduceIte, Nat.reduceEqDiff, reduceCtorEq, ↓cnd_true, ↓cnd_false]
    repeat (first | refine outs_seq ?_ | refine outs_block ?_ | refine outs_step ?_ | refine outs_stepD ?_ | refine rets_end ?_ | refine ans_end ?_)
    refine (L _ ?_ ?_ ?_).mono ?_
    · simp [Env.set, h0]
    · simp [Env.set, h3]
    · simp [Env.set]
    rintro e env2 K1 ⟨rfl, (⟨rfl, q0, q3, hz⟩ | ⟨rfl, q2, hz⟩)⟩
    · simp only [outs_some, q0, q3, w1, rwA, rwB, Nat.reduceAdd, Nat.reduceMul, Nat.reduceLeDiff, Int.reduceEq, Int.reduceLT, Int.reduceLE, Int.reduceAdd, Int.reduceSub, Int.reduceMul, ↓reduceIte, Nat.reduceEqDiff, reduceCtorEq, ↓cnd_true, ↓cnd_false]
      refine .inl ⟨trivial, j + 1, by omega, by omega, trivial, by simp [Env.set, q0], by simp [Env.set], ?_⟩
      rw [hs, hz]; rfl
    · simp only [outs_some, rwA, rwB, Nat.reduceAdd, Nat.reduceMul, Nat.reduceLeDiff, Int.reduceEq, Int.reduceLT, Int.reduceLE, Int.reduceAdd, Int.reduceSub, Int.reduceMul, ↓reduceIte, Nat.reduceEqDiff, reduceCtorEq, ↓cnd_true, ↓cnd_false]
      exact .inr ⟨by simp, trivial, .inr ⟨trivial, q2, fails (by rw [hs, hz]; rfl)⟩⟩
  · have e : j = l.length := by omega
    subst e
    have c1 : decide ((l.length : Int) < (l.length : Int)) = false := by simp
    simp only [b36, h0, h3, ll, c1, rwA, rwB, Nat.reduceAdd, Nat.reduceMul, Nat.reduceLeDiff, Int.reduceEq, Int.reduceLT, Int.reduceLE, Int.reduceAdd, Int.reduceSub, Int.reduceMul, ↓reduceIte, Nat.reduceEqDiff, reduceCtorEq, ↓cnd_true, ↓cnd_false]
    rw [outs_some]
    exact .inr ⟨by simp, rfl, .inl ⟨rfl, by simp [Env.set, h0], hp⟩⟩

theorem U36 {H : AHeap} {lv : AVal} {l : List Im} (hl : Sl H 2 lv (l.flatMap ic)) (hn : l.length ≤ 8796093022208) : AC A 36 [lv] H = some (.bool (chk l), H) := by
  refine look_val (x := DnFns.c36) rfl rfl rfl rfl ?_
  have hf := hl.frz
  have ll := hf.alen
  rw [slen_fm ic_len (by decide) hf] at ll
  simp only [c36, rwA, rwB, Nat.reduceAdd, Nat.reduceMul, Nat.reduceLeDiff, Int.reduceEq, Int.reduceLT, Int.reduceLE, Int.reduceAdd, Int.reduceSub, Int.reduceMul, ↓reduceIte, Nat.reduceEqDiff, reduceCtorEq, ↓cnd_true, ↓cnd_false]
  repeat (first | refine outs_seq ?_ | refine outs_block ?_ | refine outs_step ?_ | refine outs_stepD ?_ | refine rets_end ?_ | refine ans_end ?_)
  refine (loop36 hf hn ?_ ?_).mono ?_
  · simp [Env.set, ainit]
  · simp [Env.set]
  rintro e env K ⟨rfl, (⟨rfl, h0, h⟩ | ⟨rfl, h2, h⟩)⟩
  · have e : chk l = decide (0 < (l.length : Int)) := by
      unfold chk; rw [h]
      cases l
      · rfl
      · simp
    rw [e]
    simp only [outs_some, h0, ll, rwA, rwB, Nat.reduceAdd, Nat.reduceMul, Nat.reduceLeDiff, Int.reduceEq, Int.reduceLT, Int.reduceLE, Int.reduceAdd, Int.reduceSub, Int.reduceMul, ↓reduceIte, Nat.reduceEqDiff, reduceCtorEq, ↓cnd_true, ↓cnd_false]
  · have e : chk l = false := by unfold chk; rw [h]; simp
    rw [e]
    simp only [outs_some, h2, rwA, rwB, Nat.reduceAdd, Nat.reduceMul, Nat.reduceLeDiff, Int.reduceEq, Int.reduceLT, Int.reduceLE, Int.reduceAdd, Int.reduceSub, Int.reduceMul, ↓reduceIte, Nat.reduceEqDiff, reduceCtorEq, ↓cnd_true, ↓cnd_false]

end Go.Proofs.Ytilhjcnkaelheaa.Dk
end

section
/- JournalBegins, the plain law: what is written, what stays, what is told. -/
set_option maxRecDepth 100000
set_option linter.unusedSimpArgs false
set_option linter.unusedVariables false
set_option maxHeartbeats 4000000
namespace Go.Proofs.Ytilhjcnkaelheaa.Dk
open Go Go.Proofs.Ytilhjcnkaelheaa.Am DnFns Go.RowKit
open Sd (Sec noughts home homeno ofHome ofNo opened unfit pad)

/-- A sector that the second epoch does not know. -/
def Old (b : List UInt8) : Prop := unfit b ≠ 0 ∨ (opened b).epoch ≠ 2
theorem old_isof {b : List UInt8} (h : Old b) (num n : Nat) : isof 2 num n b = 0 := by
  unfold isof
  rw [if_pos]
  rcases h with h | h
  · exact .inl h
  · exact .inr (.inl h)
theorem old_blank : Old (noughts 512) := by
  right
  unfold opened
  split
  · decide +kernel
  · decide +kernel

theorem img_ok (j : JS) {l : List Im} (hc : chk l = true) {i : Nat} (hi : i < l.length) (hn : l.length < 60000) : (sx j 2 l[i].page (i : Int) l[i].text).ok = true := by
  have hok := chk_at hc hi
  unfold okI pgok at hok
  simp only [Bool.and_eq_true, decide_eq_true_eq] at hok
  obtain ⟨⟨o1, o2⟩, o3⟩ := hok
  unfold Sec.ok Sd.short sx
  simp [o3]; omega
theorem end_ok (j : JS) (l : List Im) (hn : l.length < 60000) : (sx j 3 0 (l.length : Int) (noughts 480)).ok = true := by
  unfold Sec.ok Sd.short sx
  simp [noughts]; omega
theorem secs_len (j : JS) (l : List Im) : (secs j l).length = l.length + 1 := by simp [secs, imgSs_len]
theorem imgSs_get (j : JS) : ∀ (l : List Im) (k i : Nat) (h : i < l.length), (imgSs j k l)[i]? = some (imgS j (k + i) l[i])
  | x :: l, k, 0, h => by simp [imgSs]
  | x :: l, k, i + 1, h => by
    have := imgSs_get j l (k + 1) i (by simpa using h)
    rw [show k + 1 + i = k + (i + 1) by omega] at this
    simpa [imgSs] using this
theorem secs_at (j : JS) (l : List Im) {i : Nat} (h : i < l.length) : (secs j l)[i]? = some (imgS j i l[i]) := by
  unfold secs
  rw [List.getElem?_append_left (by rw [imgSs_len]; exact h), imgSs_get j l 0 i h, Nat.zero_add]
theorem secs_end (j : JS) (l : List Im) : (secs j l)[l.length]? = some (endS j l) := by
  unfold secs
  rw [List.getElem?_append_right (by rw [imgSs_len]; exact Nat.le_refl _), imgSs_len]; simp
theorem secs_mem {j : JS} {l : List Im} (hc : chk l = true) (hn : l.length < 60000) {b : List UInt8} (h : b ∈ secs j l) : ∃ k a m t, (sx j k a m t).ok = true ∧ b = (sx j k a m t).bytes := by
  obtain ⟨i, hi, e⟩ := List.getElem_of_mem h
  rw [secs_len] at hi
  have e' : (secs j l)[i]? = some b := by rw [List.getElem?_eq_getElem (by rw [secs_len]; exact hi), e]
  by_cases c : i < l.length
  · rw [secs_at j l c] at e'
    simp only [Option.some.injEq] at e'
    exact ⟨_, _, _, _, img_ok j hc c hn, e'.symm⟩
  · have : i = l.length := by omega
    subst this
    rw [secs_end] at e'
    simp only [Option.some.injEq] at e'
    exact ⟨_, _, _, _, end_ok j l hn, e'.symm⟩
theorem ok_len {s : Sec} (h : s.ok = true) : s.bytes.length = 512 := by
  rw [Sd.bytes_len]
  unfold Sec.ok at h
  simp only [Bool.and_eq_true, decide_eq_true_eq] at h
  omega

/-! ### Sectors written -/
def zipF : Nat → List (List UInt8) → List (Nat × List UInt8)
  | _, [] => []
  | k, b :: B => (k, b) :: zipF (k + 1) B
theorem zipF_len : ∀ (B : List (List UInt8)) (k : Nat), (zipF k B).length = B.length
  | [], _ => rfl
  | b :: B, k => by simp [zipF, zipF_len B]
theorem zipF_mem : ∀ {B : List (List UInt8)} {k : Nat} {x : Nat × List UInt8}, x ∈ zipF k B → ∃ t, B[t]? = some x.2 ∧ x.1 = k + t
  | [], _, _, h => by simp [zipF] at h
  | b :: B, k, x, h => by
    simp only [zipF, List.mem_cons] at h
    rcases h with rfl | h
    · exact ⟨0, rfl, rfl⟩
    · obtain ⟨t, h1, h2⟩ := zipF_mem h
      exact ⟨t + 1, by simpa using h1, by omega⟩
theorem zipF_has : ∀ {B : List (List UInt8)} {k t : Nat}, t < B.length → ∃ x, x ∈ zipF k B ∧ x.1 = k + t
  | b :: B, k, 0, h => ⟨(k, b), by simp [zipF], rfl⟩
  | b :: B, k, t + 1, h => by
    obtain ⟨x, h1, h2⟩ := zipF_has (B := B) (k := k + 1) (t := t) (by simpa using h)
    exact ⟨x, by simp [zipF, h1], by omega⟩
theorem wseq_is : ∀ (B : List (List UInt8)) (d : DS) (k : Nat), (∀ b, b ∈ B → b.length = 512) → k + B.length ≤ d.s.length →
    ∃ m, m ≤ B.length ∧ (wseq d k B).1.s = d.s ∧ (wseq d k B).1.w = d.w ++ zipF k (B.take m) ∧ ((wseq d k B).2 = 0 ∧ m = B.length ∨ (wseq d k B).2 = 17) ∧
      (d.dead = false ∧ d.arm = 0 → (wseq d k B).2 = 0 ∧ (wseq d k B).1.dead = false ∧ (wseq d k B).1.arm = 0)
  | [], d, k, _, _ => ⟨0, Nat.le_refl _, rfl, by simp [zipF, wseq], .inl ⟨rfl, rfl⟩, fun h => ⟨rfl, h⟩⟩
  | b :: B, d, k, hb, hk => by
    have h512 := hb b (by simp)
    have hk' : k + B.length + 1 ≤ d.s.length := by simpa [Nat.add_assoc] using hk
    have hw : d.write (k : Int) b = if d.goes then ({ d.step with w := d.w ++ [(k, b)] }, 0) else (d.step, 17) := by
      unfold DS.write
      rw [if_pos ⟨⟨by omega, by omega⟩, h512⟩]
      rfl
    unfold wseq
    rw [hw]
    cases hg : d.goes
    · simp only [Bool.false_eq_true, if_false, show ((17 : Int) = 0) = False by decide]
      refine ⟨0, Nat.zero_le _, step_s d, ?_, .inr trivial, ?_⟩
      · rw [List.take_zero]; simp [zipF, step_w]
      · rintro ⟨h1, h2⟩
        simp [DS.goes, h1, h2] at hg
    · rw [if_pos rfl, if_pos rfl]
      obtain ⟨m, h1, h2, h3, h4, h5⟩ := wseq_is B { d.step with w := d.w ++ [(k, b)] } (k + 1) (fun b h => hb b (by simp [h])) (by show k + 1 + B.length ≤ d.step.s.length; rw [step_s]; omega)
      refine ⟨m + 1, by simp; exact h1, by rw [h2]; exact step_s d, ?_, ?_, ?_⟩
      · rw [h3, List.take_succ_cons]; simp [zipF]
      · rcases h4 with ⟨e, rfl⟩ | e
        · exact .inl ⟨e, by simp⟩
        · exact .inr e
      · rintro ⟨e1, e2⟩
        refine h5 ⟨?_, ?_⟩
        · show d.step.dead = false
          rw [step_t hg]; exact e1
        · show d.step.arm = 0
          rw [step_t hg, e2]; rfl

theorem app_cases {d : DS} {j : JS} {l : List Im} {size : Nat} (hs : d.s.length = size + 1) (hj : j.size = size) (hz : size ≤ 1024) (ha : j.at' ≤ size) :
    ((app d j l).1 = d ∧ (app d j l).2.1 = j ∧ ((app d j l).2.2 = 18 ∨ (app d j l).2.2 = 14)) ∨
    (chk l = true ∧ j.at' + (l.length + 1) ≤ size ∧ ∃ m, m ≤ l.length + 1 ∧ (app d j l).1.s = d.s ∧ (app d j l).1.w = d.w ++ zipF (1 + j.at') ((secs j l).take m) ∧
      (((app d j l).2.2 = 0 ∧ m = l.length + 1 ∧ (app d j l).2.1 = { j with at' := j.at' + (l.length + 1), number := j.number + 1 }) ∨ ((app d j l).2.2 = 17 ∧ (app d j l).2.1 = j)) ∧
      (d.dead = false ∧ d.arm = 0 → (app d j l).2.2 = 0 ∧ (app d j l).1.dead = false ∧ (app d j l).1.arm = 0)) := by
  unfold app
  cases hc : chk l
  · rw [if_pos rfl]; exact .inl ⟨rfl, rfl, .inl rfl⟩
  rw [if_neg (by decide)]
  by_cases hr : j.size - j.at' ≤ l.length
  · rw [if_pos hr]; exact .inl ⟨rfl, rfl, .inr rfl⟩
  rw [if_neg hr]
  right
  refine ⟨rfl, by omega, ?_⟩
  obtain ⟨m, h1, h2, h3, h4, h5⟩ := wseq_is (secs j l) d (1 + j.at') (fun b hb => by obtain ⟨k, a, m, t, h, rfl⟩ := secs_mem hc (by omega) hb; exact ok_len h) (by rw [secs_len]; omega)
  rw [secs_len] at h1 h4
  refine ⟨m, h1, ?_⟩
  by_cases e : (wseq d (1 + j.at') (secs j l)).2 = 0
  · rw [if_pos e]
    refine ⟨h2, h3, .inl ⟨rfl, ?_, rfl⟩, fun h => ⟨rfl, (h5 h).2⟩⟩
    rcases h4 with h4 | h4
    · exact h4.2
    · rw [e] at h4; exact absurd h4 (by decide)
  · rw [if_neg e]
    refine ⟨h2, h3, .inr ⟨?_, rfl⟩, fun h => absurd (h5 h).1 e⟩
    rcases h4 with h4 | h4
    · exact absurd h4.1 e
    · exact h4

/-! ### The elder epoch -/
structure OI (size : Nat) (d : DS) (j : JS) : Prop where
  sl : d.s.length = size + 1
  dd : d.dead = false
  ar : d.arm = 0
  os : ∀ i, i < size → Old (d.s.getD (i + 1) [])
  ow : ∀ x, x ∈ d.w → Old x.2
  wl : d.w.length ≤ j.at'
  ja : j.at' ≤ size
  jz : j.size = size
  je : j.epoch = 1
  jn : j.number ≤ j.at'
theorem old_one {j : JS} (he : j.epoch = 1) (hn : j.number < 1000000) {k a m : Int} {t : List UInt8} (h : (sx j k a m t).ok = true) : Old (sx j k a m t).bytes := by
  right
  rw [(Sd.opened_bytes h ⟨by show j.epoch < _; omega, by show j.number + 1 < _; omega⟩).1]
  show j.epoch ≠ 2
  omega
theorem OI.app {size : Nat} {d : DS} {j : JS} (h : OI size d j) (hz : size ≤ 1024) (l : List Im) : OI size (app d j l).1 (app d j l).2.1 := by
  rcases app_cases (l := l) h.sl h.jz hz h.ja with ⟨e1, e2, _⟩ | ⟨hc, hr, m, hm, hs, hw, hno, hlive⟩
  · rw [e1, e2]; exact h
  · obtain ⟨l0, l1, l2⟩ := hlive ⟨h.dd, h.ar⟩
    rcases hno with ⟨e0, em, ej⟩ | ⟨e0, _⟩
    · rw [ej]
      have hjn := h.jn
      have hwl := h.wl
      refine ⟨by rw [hs]; exact h.sl, l1, l2, by rw [hs]; exact h.os, ?_, ?_, hr, h.jz, h.je, by show j.number + 1 ≤ j.at' + (l.length + 1); omega⟩
      · intro x hx
        rw [hw] at hx
        rcases List.mem_append.1 hx with hx | hx
        · exact h.ow x hx
        · obtain ⟨t, ht, _⟩ := zipF_mem hx
          have := List.mem_of_mem_take (List.mem_of_getElem? ht)
          obtain ⟨k, a, m, t, hok, e⟩ := secs_mem hc (by omega) this
          rw [e]
          exact old_one h.je (by omega) hok
      · rw [hw, List.length_append, zipF_len, List.length_take, secs_len]
        show _ ≤ j.at' + (l.length + 1)
        omega
    · rw [l0] at e0; exact absurd e0 (by decide)

/-! ### The second epoch -/
def flat : Nat → List (List Im) → List (List UInt8)
  | _, [] => []
  | n, l :: r => secs ⟨0, 2, 0, n⟩ l ++ flat (n + 1) r
theorem flat_app : ∀ (a : List (List Im)) (n : Nat) (l : List Im), flat n (a ++ [l]) = flat n a ++ secs ⟨0, 2, 0, n + a.length⟩ l
  | [], n, l => by simp [flat]
  | x :: a, n, l => by
    have := flat_app a (n + 1) l
    rw [show n + 1 + a.length = n + (a.length + 1) by omega] at this
    simp only [List.cons_append, flat, this, List.append_assoc, List.length_cons]
theorem flat_app2 : ∀ (a : List (List Im)) (n : Nat) (b : List (List Im)), flat n (a ++ b) = flat n a ++ flat (n + a.length) b
  | [], n, l => by simp [flat]
  | x :: a, n, l => by
    have := flat_app2 a (n + 1) l
    rw [show n + 1 + a.length = n + (a.length + 1) by omega] at this
    simp only [List.cons_append, flat, this, List.append_assoc, List.length_cons]
theorem flat_len : ∀ (a : List (List Im)) (n : Nat), a.length ≤ (flat n a).length
  | [], _ => Nat.le_refl _
  | x :: a, n => by
    have := flat_len a (n + 1)
    simp only [flat, List.length_append, secs_len, List.length_cons]; omega
theorem secs_two {j : JS} (h : j.epoch = 2) (l : List Im) : secs j l = secs ⟨0, 2, 0, j.number⟩ l := by
  have hx : ∀ k a m t, sx j k a m t = sx ⟨0, 2, 0, j.number⟩ k a m t := by intro k a m t; unfold sx; rw [h]
  have hi : ∀ (l : List Im) (i : Nat), imgSs j i l = imgSs ⟨0, 2, 0, j.number⟩ i l := by
    intro l
    induction l with
    | nil => intro i; rfl
    | cons x l ih => intro i; simp only [imgSs, imgS, hx, ih]
  unfold secs endS
  rw [hi, hx]

structure Fi (size : Nat) (d : DS) (F : List (List UInt8)) (P : Nat) : Prop where
  sl : d.s.length = size + 1
  fl : F.length ≤ size
  w : ∀ x, x ∈ d.w → 1 ≤ x.1 ∧ F[x.1 - 1]? = some x.2
  s : ∀ i, i < size → Old (d.s.getD (i + 1) []) ∨ F[i]? = some (d.s.getD (i + 1) [])
  p : ∀ i, i < P → F[i]? = some (d.s.getD (i + 1) [])
  wl : d.w.length ≤ F.length
structure Inv (size : Nat) (d : DS) (j : JS) (all : List (List Im)) (safe : Nat) : Prop where
  f : Fi size d (flat 0 all) (flat 0 (all.take safe)).length
  jz : j.size = size
  je : j.epoch = 2
  ja : j.at' = (flat 0 all).length
  jn : j.number = all.length
  sf : safe ≤ all.length
  pr : ∀ i, i < (flat 0 all).length → (flat 0 all)[i]? = some (d.s.getD (i + 1) []) ∨ ∃ x, x ∈ d.w ∧ x.1 = i + 1
  ok : ∀ l, l ∈ all → chk l = true

theorem Inv.grow {size : Nat} {d : DS} {j : JS} {all : List (List Im)} {safe : Nat} (h : Inv size d j all safe) {l : List Im} {d' : DS} {m : Nat} (hr : j.at' + (l.length + 1) ≤ size) (hm : m ≤ l.length + 1) (hs : d'.s = d.s) (hw : d'.w = d.w ++ zipF (1 + j.at') ((secs j l).take m)) :
    Fi size d' (flat 0 (all ++ [l])) (flat 0 ((all ++ [l]).take safe)).length := by
  have e : flat 0 (all ++ [l]) = flat 0 all ++ secs j l := by rw [flat_app, secs_two h.je, h.jn, Nat.zero_add]
  have et : (all ++ [l]).take safe = all.take safe := List.take_append_of_le_length h.sf
  have hF := h.f.fl
  have hja := h.ja
  have left : ∀ {i : Nat} {b : List UInt8}, (flat 0 all)[i]? = some b → (flat 0 all ++ secs j l)[i]? = some b := by
    intro i b hb
    have hi : i < (flat 0 all).length := by
      rcases Nat.lt_or_ge i (flat 0 all).length with hi | hi
      · exact hi
      · rw [List.getElem?_eq_none hi] at hb; cases hb
    rw [List.getElem?_append_left hi]; exact hb
  rw [e, et]
  refine ⟨by rw [hs]; exact h.f.sl, by rw [List.length_append, secs_len]; omega, ?_, ?_, ?_, ?_⟩
  · intro x hx
    rw [hw] at hx
    rcases List.mem_append.1 hx with hx | hx
    · exact ⟨(h.f.w x hx).1, left (h.f.w x hx).2⟩
    · obtain ⟨t, ht, hx1⟩ := zipF_mem hx
      refine ⟨by omega, ?_⟩
      rw [hx1, hja, show 1 + (flat 0 all).length + t - 1 = (flat 0 all).length + t by omega, List.getElem?_append_right (by omega), show (flat 0 all).length + t - (flat 0 all).length = t by omega]
      rw [List.getElem?_take] at ht
      split at ht
      · exact ht
      · cases ht
  · intro i hi
    rw [hs]
    exact (h.f.s i hi).imp_right left
  · intro i hi
    rw [hs]
    exact left (h.f.p i hi)
  · rw [hw, List.length_append, zipF_len, List.length_take, List.length_append]
    have := h.f.wl
    omega

theorem Inv.app {size : Nat} {d : DS} {j : JS} {all : List (List Im)} {safe : Nat} (h : Inv size d j all safe) (hz : size ≤ 1024) (l : List Im) :
    ((app d j l).2.2 = 0 ∧ Inv size (app d j l).1 (app d j l).2.1 (all ++ [l]) safe) ∨
    ((app d j l).2.2 = 17 ∧ chk l = true ∧ Fi size (app d j l).1 (flat 0 (all ++ [l])) (flat 0 ((all ++ [l]).take safe)).length) ∨
    (((app d j l).2.2 = 18 ∨ (app d j l).2.2 = 14) ∧ (app d j l).1 = d ∧ (app d j l).2.1 = j) := by
  have hja := h.ja
  have hF := h.f.fl
  rcases app_cases (l := l) h.f.sl h.jz hz (by omega) with ⟨e1, e2, e3⟩ | ⟨hc, hr, m, hm, hs, hw, hno, hlive⟩
  · exact .inr (.inr ⟨e3, e1, e2⟩)
  · have G := h.grow hr hm hs hw
    rcases hno with ⟨e0, em, ej⟩ | ⟨e0, _⟩
    · refine .inl ⟨e0, ?_⟩
      have e : flat 0 (all ++ [l]) = flat 0 all ++ secs j l := by rw [flat_app, secs_two h.je, h.jn, Nat.zero_add]
      rw [ej]
      refine ⟨G, h.jz, h.je, ?_, ?_, ?_, ?_, ?_⟩
      · show j.at' + (l.length + 1) = _
        rw [e, List.length_append, secs_len]; omega
      · show j.number + 1 = _
        rw [h.jn]; simp
      · have := h.sf
        simp; omega
      · intro i hi
        rw [hs, hw, e]
        rw [e, List.length_append, secs_len] at hi
        rcases Nat.lt_or_ge i (flat 0 all).length with hl | hl
        · rw [List.getElem?_append_left hl]
          exact (h.pr i hl).imp_right (fun ⟨x, h1, h2⟩ => ⟨x, by simp [h1], h2⟩)
        · right
          obtain ⟨x, h1, h2⟩ := zipF_has (B := (secs j l).take m) (k := 1 + j.at') (t := i - (flat 0 all).length) (by rw [List.length_take, secs_len]; omega)
          exact ⟨x, by simp [h1], by omega⟩
      · intro x hx
        rcases List.mem_append.1 hx with hx | hx
        · exact h.ok x hx
        · simp at hx; subst hx; exact hc
    · exact .inr (.inl ⟨e0, hc, G⟩)

theorem puts_in (l : List (Nat × List UInt8)) : ∀ (s : List (List UInt8)) (i : Nat), i < s.length → (∃ x, x ∈ l ∧ x.1 = i) → ∃ x, x ∈ l ∧ x.1 = i ∧ (puts s l).getD i [] = x.2 := by
  induction l with
  | nil => rintro s i _ ⟨x, h, _⟩; simp at h
  | cons y l ih =>
    rintro s i hi ⟨x, hx, e⟩
    show ∃ x, x ∈ y :: l ∧ x.1 = i ∧ (puts (s.set y.1 y.2) l).getD i [] = x.2
    by_cases c : ∃ x, x ∈ l ∧ x.1 = i
    · obtain ⟨z, h1, h2, h3⟩ := ih (s.set y.1 y.2) i (by simpa using hi) c
      exact ⟨z, by simp [h1], h2, h3⟩
    · rcases List.mem_cons.1 hx with rfl | hx
      · rcases puts_get l (s.set x.1 x.2) i with h | ⟨z, h1, h2, _⟩
        · refine ⟨x, by simp, e, ?_⟩
          rw [h, e]; simp [hi]
        · exact absurd ⟨z, h1, h2⟩ c
      · exact absurd ⟨x, hx, e⟩ c
theorem pk_allm (w : List (Nat × List UInt8)) : pk w (fun _ => true) w.length = w := by
  have : ∀ j, j ≤ w.length → pk w (fun _ => true) j = w.take j := by
    intro j
    induction j with
    | zero => intro _; simp [pk]
    | succ j ih =>
      intro hj
      rw [pk, ih (by omega), List.getElem?_eq_getElem (by omega), List.take_add_one, List.getElem?_eq_getElem (by omega)]
      rfl
  rw [this _ (Nat.le_refl _), List.take_length]

theorem Fi.put {size : Nat} {d : DS} {F : List (List UInt8)} {P : Nat} (h : Fi size d F P) {l : List (Nat × List UInt8)} (hl : ∀ x, x ∈ l → x ∈ d.w) :
    (puts d.s l).length = size + 1 ∧ (∀ i, i < size → Old ((puts d.s l).getD (i + 1) []) ∨ F[i]? = some ((puts d.s l).getD (i + 1) [])) ∧ (∀ i, i < P → F[i]? = some ((puts d.s l).getD (i + 1) [])) := by
  refine ⟨by rw [puts_len]; exact h.sl, ?_, ?_⟩
  · intro i hi
    rcases puts_get l d.s (i + 1) with e | ⟨x, hx, e1, e2⟩
    · rw [e]; exact h.s i hi
    · have := (h.w x (hl x hx)).2
      rw [e1, Nat.add_sub_cancel] at this
      rw [e2]; exact .inr this
  · intro i hi
    rcases puts_get l d.s (i + 1) with e | ⟨x, hx, e1, e2⟩
    · rw [e]; exact h.p i hi
    · have := (h.w x (hl x hx)).2
      rw [e1, Nat.add_sub_cancel] at this
      rw [e2]; exact this

theorem Inv.flush {size : Nat} {d : DS} {j : JS} {all : List (List Im)} {safe : Nat} (h : Inv size d j all safe) :
    (d.flush.2 = 0 ∧ Inv size d.flush.1 j all all.length) ∨ (d.flush.2 = 17 ∧ Inv size d.flush.1 j all safe) := by
  unfold DS.flush
  cases hg : d.goes
  · right
    rw [if_neg (by decide)]
    have hs := step_s d
    have hw := step_w d
    refine ⟨rfl, ⟨⟨?_, h.f.fl, ?_, ?_, ?_, ?_⟩, h.jz, h.je, h.ja, h.jn, h.sf, ?_, h.ok⟩⟩
    · show d.step.s.length = _; rw [hs]; exact h.f.sl
    · show ∀ x, x ∈ d.step.w → _; rw [hw]; exact h.f.w
    · show ∀ i, i < size → Old (d.step.s.getD _ _) ∨ _ = some (d.step.s.getD _ _); rw [hs]; exact h.f.s
    · show ∀ i, i < _ → _ = some (d.step.s.getD _ _); rw [hs]; exact h.f.p
    · show d.step.w.length ≤ _; rw [hw]; exact h.f.wl
    · show ∀ i, i < _ → _ = some (d.step.s.getD _ _) ∨ ∃ x, x ∈ d.step.w ∧ _; rw [hs, hw]; exact h.pr
  · left
    rw [if_pos rfl]
    have hs : (d.step.settle fun _ => true).s = puts d.s d.w := by
      show puts d.step.s (pk d.step.w _ d.step.w.length) = _
      rw [step_s, step_w, pk_allm]
    have hw : (d.step.settle fun _ => true).w = [] := rfl
    obtain ⟨g1, g2, g3⟩ := h.f.put (l := d.w) (fun x hx => hx)
    have full : ∀ i, i < (flat 0 all).length → (flat 0 all)[i]? = some ((puts d.s d.w).getD (i + 1) []) := by
      intro i hi
      by_cases c : ∃ x, x ∈ d.w ∧ x.1 = i + 1
      · obtain ⟨x, h1, h2, h3⟩ := puts_in d.w d.s (i + 1) (by have := h.f.sl; have := h.f.fl; omega) c
        have := (h.f.w x h1).2
        rw [h2, Nat.add_sub_cancel] at this
        rw [h3]; exact this
      · rcases puts_get d.w d.s (i + 1) with e | ⟨x, hx, e1, _⟩
        · rw [e]
          exact (h.pr i hi).elim id (fun hh => absurd hh c)
        · exact absurd ⟨x, hx, e1⟩ c
    refine ⟨rfl, ⟨⟨?_, h.f.fl, ?_, ?_, ?_, ?_⟩, h.jz, h.je, h.ja, h.jn, Nat.le_refl _, ?_, h.ok⟩⟩
    · show (d.step.settle fun _ => true).s.length = _; rw [hs]; exact g1
    · show ∀ x, x ∈ (d.step.settle fun _ => true).w → _; rw [hw]; simp
    · show ∀ i, i < size → Old ((d.step.settle fun _ => true).s.getD _ _) ∨ _ = some ((d.step.settle fun _ => true).s.getD _ _); rw [hs]; exact g2
    · show ∀ i, i < _ → _ = some ((d.step.settle fun _ => true).s.getD _ _); rw [hs, List.take_length]; exact full
    · show (d.step.settle fun _ => true).w.length ≤ _; rw [hw]; simp
    · show ∀ i, i < _ → _ = some ((d.step.settle fun _ => true).s.getD _ _) ∨ _; rw [hs]; exact fun i hi => .inl (full i hi)

theorem OI.flush {size : Nat} {d : DS} {j : JS} (h : OI size d j) : d.flush.2 = 0 ∧ d.flush.1.dead = false ∧ Inv size d.flush.1 ⟨size, 2, 0, 0⟩ [] 0 := by
  have hg : d.goes = true := by simp [DS.goes, h.dd, h.ar]
  unfold DS.flush
  rw [if_pos hg]
  have hs : (d.step.settle fun _ => true).s = puts d.s d.w := by
    show puts d.step.s (pk d.step.w _ d.step.w.length) = _
    rw [step_s, step_w, pk_allm]
  have hw : (d.step.settle fun _ => true).w = [] := rfl
  refine ⟨rfl, ?_, ⟨⟨?_, by simp [flat], ?_, ?_, ?_, ?_⟩, rfl, rfl, rfl, rfl, Nat.le_refl _, ?_, by simp⟩⟩
  · show d.step.dead = false
    rw [step_t hg]; exact h.dd
  · show (d.step.settle fun _ => true).s.length = _; rw [hs, puts_len]; exact h.sl
  · show ∀ x, x ∈ (d.step.settle fun _ => true).w → _; rw [hw]; simp
  · show ∀ i, i < size → Old ((d.step.settle fun _ => true).s.getD _ _) ∨ _ = some ((d.step.settle fun _ => true).s.getD _ _)
    rw [hs]
    intro i hi
    left
    rcases puts_get d.w d.s (i + 1) with e | ⟨x, hx, e1, e2⟩
    · rw [e]; exact h.os i hi
    · rw [e2]; exact h.ow x hx
  · simp [flat]
  · show (d.step.settle fun _ => true).w.length ≤ _; rw [hw]; simp
  · simp [flat]

theorem Inv.like {size : Nat} {d e : DS} {j : JS} {all : List (List Im)} {safe : Nat} (h : Inv size d j all safe) (hs : e.s = d.s) (hw : e.w = d.w) : Inv size e j all safe :=
  ⟨⟨by rw [hs]; exact h.f.sl, h.f.fl, by rw [hw]; exact h.f.w, by rw [hs]; exact h.f.s, by rw [hs]; exact h.f.p, by rw [hw]; exact h.f.wl⟩, h.jz, h.je, h.ja, h.jn, h.sf, by rw [hs, hw]; exact h.pr, h.ok⟩

/-! ### Told -/
structure Upd (size : Nat) (d : DS) (F : List (List UInt8)) (P : Nat) : Prop where
  sl : d.s.length = size + 1
  fl : F.length ≤ size
  dd : d.dead = false
  w : d.w = []
  s : ∀ i, i < size → Old (d.s.getD (i + 1) []) ∨ F[i]? = some (d.s.getD (i + 1) [])
  p : ∀ i, i < P → F[i]? = some (d.s.getD (i + 1) [])
theorem Fi.up {size : Nat} {d : DS} {F : List (List UInt8)} {P : Nat} (h : Fi size d F P) (keep : List Bool) : Upd size (d.up keep).1 F P := by
  obtain ⟨g1, g2, g3⟩ := h.put (l := pk d.w (fun i => keep.getD i false) d.w.length) (fun x hx => pk_mem hx)
  exact ⟨g1, h.fl, rfl, rfl, g2, g3⟩

theorem read_up {d : DS} {size : Nat} (sl : d.s.length = size + 1) (dd : d.dead = false) (w : d.w = []) {i : Nat} (hi : i < size) : d.read ((1 + i : Nat) : Int) = (d.s.getD (i + 1) [], 0) := by
  unfold DS.read
  rw [dd, if_neg (by decide), if_pos ⟨by omega, by omega⟩, w]
  rw [show (((1 + i : Nat) : Int)).toNat = i + 1 by omega]
  rfl

theorem img_is (n : Nat) (hn : n < 1000000) {l : List Im} (hc : chk l = true) {i : Nat} (hi : i < l.length) (hl : l.length < 60000) : isof 2 (n + 1) i (imgS ⟨0, 2, 0, n⟩ i l[i]) = 1 ∧ (⟨(opened (imgS ⟨0, 2, 0, n⟩ i l[i])).at', (opened (imgS ⟨0, 2, 0, n⟩ i l[i])).page⟩ : Im) = l[i] := by
  have h := Sd.opened_bytes (img_ok ⟨0, 2, 0, n⟩ hc hi hl) ⟨by show (2 : Nat) < _; omega, by show n + 1 < _; omega⟩
  have hok := chk_at hc hi
  unfold okI at hok
  rw [Bool.and_eq_true] at hok
  unfold imgS isof
  rw [h.1, h.2]
  rw [if_neg (by simp [sx]), if_pos ⟨⟨rfl, rfl⟩, hok.1⟩]
  exact ⟨rfl, rfl⟩
theorem end_is (n : Nat) (hn : n < 1000000) (l : List Im) (hl : l.length < 60000) : isof 2 (n + 1) l.length (endS ⟨0, 2, 0, n⟩ l) = 2 := by
  have h := Sd.opened_bytes (end_ok ⟨0, 2, 0, n⟩ l hl) ⟨by show (2 : Nat) < _; omega, by show n + 1 < _; omega⟩
  unfold endS isof
  rw [h.1, h.2]
  rw [if_neg (by simp [sx]), if_neg (by simp [sx]), if_pos ⟨⟨⟨rfl, rfl⟩, rfl⟩, by simp [sx, noughts]⟩]

theorem nx_one {size : Nat} {d : DS} {F : List (List UInt8)} {P : Nat} (U : Upd size d F P) {n at0 : Nat} (hn : n < 1000000) {l : List Im} (hc : chk l = true) (hl : l.length < 60000) (hb : at0 + (l.length + 1) ≤ F.length) (hF : ∀ i, i ≤ l.length → F[at0 + i]? = (secs ⟨0, 2, 0, n⟩ l)[i]?) :
    ∀ (f i : Nat), i ≤ l.length → l.length - i < f →
      nx d 2 (n + 1) size at0 f (at0 + i) (l.take i) = ⟨l, 0, at0 + (l.length + 1)⟩ ∨ (nx d 2 (n + 1) size at0 f (at0 + i) (l.take i) = ⟨[], 0, at0⟩ ∧ P < at0 + (l.length + 1))
  | 0, i, h1, h2 => by omega
  | f + 1, i, h1, h2 => by
    have hfl := U.fl
    have hi : at0 + i < size := by omega
    unfold nx
    rw [if_pos hi, read_up U.sl U.dd U.w hi]
    simp only
    rw [if_neg (by simp)]
    have hlen : (l.take i).length = i := by rw [List.length_take]; omega
    rw [hlen]
    by_cases old : F[at0 + i]? = some (d.s.getD (at0 + i + 1) [])
    · rw [hF i h1] at old
      by_cases c : i < l.length
      · rw [secs_at _ _ c] at old
        simp only [Option.some.injEq] at old
        obtain ⟨e1, e2⟩ := img_is n hn hc c hl
        rw [← old, e1, if_pos rfl, e2]
        have := nx_one U hn hc hl hb hF f (i + 1) (by omega) (by omega)
        rw [show l.take i ++ [l[i]] = l.take (i + 1) by rw [List.take_add_one, List.getElem?_eq_getElem c, Option.toList_some]]
        exact this
      · have : i = l.length := by omega
        subst this
        rw [secs_end] at old
        simp only [Option.some.injEq] at old
        rw [← old, end_is n hn l hl, if_neg (by decide), if_pos rfl, List.take_length]
        exact .inl rfl
    · have ho : Old (d.s.getD (at0 + i + 1) []) := (U.s _ hi).elim id (fun h => absurd h old)
      rw [old_isof ho, if_neg (by decide), if_neg (by decide)]
      refine .inr ⟨rfl, ?_⟩
      rcases Nat.lt_or_ge (at0 + i) P with hp | hp
      · exact absurd (U.p _ hp) old
      · omega

theorem scan_is {size : Nat} {d : DS} {all : List (List Im)} {safe : Nat} (U : Upd size d (flat 0 all) (flat 0 (all.take safe)).length) (hz : size ≤ 1024) (sf : safe ≤ all.length) (ok : ∀ l, l ∈ all → chk l = true) :
    ∃ g, safe ≤ g ∧ g ≤ all.length ∧ sn d 2 size 1025 1 0 [] = (all.take g, 0) := by
  have hal := flat_len all 0
  have hfl := U.fl
  have gen : ∀ (f k : Nat), k ≤ all.length → all.length - k < f → ∃ g, safe ≤ g ∧ g ≤ all.length ∧ sn d 2 size f (k + 1) (flat 0 (all.take k)).length (all.take k) = (all.take g, 0) := by
    intro f
    induction f with
    | zero => intro k h1 h2; omega
    | succ f ih =>
      intro k h1 h2
      unfold sn
      by_cases c : k < all.length
      · have es : all = all.take k ++ (all[k] :: all.drop (k + 1)) := by rw [List.getElem_cons_drop, List.take_append_drop]
        have ef : flat 0 all = flat 0 (all.take k) ++ (secs ⟨0, 2, 0, k⟩ all[k] ++ flat (k + 1) (all.drop (k + 1))) := by
          have := flat_app2 (all.take k) 0 (all[k] :: all.drop (k + 1))
          rw [← es] at this
          rw [this, List.length_take, show min k all.length = k by omega, Nat.zero_add]
          rfl
        have hc := ok _ (List.getElem_mem c)
        have hlen := congrArg List.length ef
        simp only [List.length_append, secs_len] at hlen
        have et : all.take (k + 1) = all.take k ++ [all[k]] := by rw [List.take_add_one, List.getElem?_eq_getElem c, Option.toList_some]
        have el : (flat 0 (all.take (k + 1))).length = (flat 0 (all.take k)).length + (all[k].length + 1) := by
          rw [et, flat_app, List.length_append, secs_len]
        have hp : 0 < all[k].length := by
          cases hx : all[k] with
          | nil => rw [hx] at hc; simp [chk] at hc
          | cons => simp
        have := nx_one U (n := k) (at0 := (flat 0 (all.take k)).length) (by omega) hc (by omega) (by omega) (by
          intro i hi
          rw [ef, List.getElem?_append_right (by omega), show (flat 0 (all.take k)).length + i - (flat 0 (all.take k)).length = i by omega, List.getElem?_append_left (by rw [secs_len]; omega)]) 1025 0 (Nat.zero_le _) (by omega)
        simp only [Nat.add_zero, List.take_zero] at this
        rcases this with e | ⟨e, hP⟩
        · rw [e]
          simp only
          rw [if_neg (by simp), if_neg (by omega), ← el, ← et]
          exact ih (k + 1) c (by omega)
        · rw [e]
          simp only [List.length_nil, ne_eq, not_true_eq_false, if_false, if_true]
          refine ⟨k, ?_, h1, rfl⟩
          rcases Nat.lt_or_ge k safe with hk | hk
          · exfalso
            have e1 : all.take safe = all.take (k + 1) ++ (all.take safe).drop (k + 1) := by
              have := (List.take_append_drop (k + 1) (all.take safe)).symm
              rw [List.take_take, show min (k + 1) safe = k + 1 by omega] at this
              exact this
            rw [e1, flat_app2, List.length_append] at hP
            omega
          · exact hk
      · have hk : k = all.length := by omega
        subst hk
        rw [List.take_length]
        have e : nx d 2 (all.length + 1) size (flat 0 all).length 1025 (flat 0 all).length [] = ⟨[], 0, (flat 0 all).length⟩ := by
          unfold nx
          by_cases hi : (flat 0 all).length < size
          · rw [if_pos hi, read_up U.sl U.dd U.w hi]
            simp only
            rw [if_neg (by simp)]
            have ho : Old (d.s.getD ((flat 0 all).length + 1) []) := (U.s _ hi).elim id (fun h => by rw [List.getElem?_eq_none (Nat.le_refl _)] at h; cases h)
            rw [old_isof ho, if_neg (by decide), if_neg (by decide)]
          · rw [if_neg hi]
        rw [e]
        simp only [List.length_nil, ne_eq, not_true_eq_false, if_false, if_true]
        exact ⟨all.length, sf, Nat.le_refl _, by rw [List.take_length]⟩
  have := gen 1025 0 (Nat.zero_le _) (by omega)
  simpa [flat] using this

end Go.Proofs.Ytilhjcnkaelheaa.Dk
end

section
/- JournalBegins: the walk's loops. -/
set_option maxRecDepth 100000
set_option linter.unusedSimpArgs false
set_option linter.unusedVariables false
set_option maxHeartbeats 8000000
namespace Go.Proofs.Ytilhjcnkaelheaa.Dk
open Go Go.Proofs.Ytilhjcnkaelheaa.Am DnFns Go.RowKit
open Sd (Sec noughts home homeno ofHome ofNo opened unfit pad)

/-- A disk and its journal, in memory made since a call began. -/
structure W (H0 K : AHeap) (p a : Nat) (g : Option Nat) (jp : Nat) (vw : AVal) (d : DS) (j : JS) : Prop where
  hd : D K p a g vw d
  hj : J K jp p a vw j
  k : Keeps H0 K
  pB : H0.next ≤ p
  aB : H0.next ≤ a
  jB : H0.next ≤ jp
  wB : ∀ i, i ∈ vw.ids → H0.next ≤ i
theorem W.fr {H0 K K' : AHeap} {p a : Nat} {g : Option Nat} {jp : Nat} {vw : AVal} {d : DS} {j : JS} {L : List Nat} (w : W H0 K p a g jp vw d j) (f : Fr L K K') (hp : p ∉ L) (ha : a ∉ L) (hj : jp ∉ L) (hw : ∀ i, i ∈ vw.ids → i ∉ L) (hL : ∀ i, i ∈ L → H0.next ≤ i) : W H0 K' p a g jp vw d j :=
  ⟨w.hd.fr f hp ha hw, w.hj.fr f hj (fun i hi => .inl hi), ⟨by have := w.k.1; have := f.1; omega, fun i hi => by rw [f.2 i (by have := w.k.1; omega) (fun hx => by have := hL i hx; omega), w.k.2 i hi]⟩, w.pB, w.aB, w.jB, w.wB⟩

theorem W.app {H0 K : AHeap} {p a : Nat} {g : Option Nat} {jp : Nat} {vw : AVal} {d : DS} {j : JS} (w : W H0 K p a g jp vw d j) (hw : j.wf) (hwl : d.w.length < 400000) {u : AVal} {ps : List Pt} (hu : Sl H0 3 u (ps.flatMap pc)) (hi : ∀ i, i ∈ u.ids → i < H0.next) (hn : ps.length ≤ 8796093022208) :
    ∃ v1 K1 v2 K2 K3 vw', AC A 31 [u] K = some (v1, K1) ∧ AC A 30 [v1] K1 = some (v2, K2) ∧ AC A 29 [.ptr jp 0, v2] K2 = some (.int .i64 (app d j (ps.map imOf)).2.2, K3) ∧
      W H0 K3 p a g jp vw' (app d j (ps.map imOf)).1 (app d j (ps.map imOf)).2.1 ∧ Fr (p :: jp :: vw.ids) K K3 ∧ (∀ i, i ∈ vw'.ids → i ∈ vw.ids ∨ K2.next ≤ i) ∧ Sl K3 2 v1 ((ps.map imOf).flatMap ic) ∧ (∀ i, i ∈ v1.ids → K.next ≤ i ∧ i < K2.next) ∧ (K.next ≤ K2.next ∧ K2.next ≤ K3.next) ∧
      (v1 = .nils ∨ ∃ a n g, v1 = .slice a 0 n n g) ∧ (v2 = .nils ∨ ∃ a n g, v2 = .slice a 0 n n g) := by
  have wk := w.k.1
  obtain ⟨v1, K1, e31, g1, k1, i1⟩ := U31 (hu.keep hi w.k) (fun i h => by have := hi i h; omega) hn
  obtain ⟨v2, K2, e30, g2, k2, i2⟩ := U30 g1.sl g1.lt (by simpa using hn)
  have n1 := k1.1
  have n2 := k2.1
  have hwl2 := w.hd.ow.lt
  have hD2 := (w.hd.keeps k1).keeps k2
  have hJ2 := (w.hj.fr (L := []) (vw' := vw) (Fr.of k1) (by simp) (fun i hi => .inl hi)).fr (L := []) (vw' := vw) (Fr.of k2) (by simp) (fun i hi => .inl hi)
  have hpn := w.hd.pn
  obtain ⟨K3, vw', e29, hD3, hJ3, f3, i3⟩ := U29 hD2 hJ2 hw hwl g2.sl (fun i hi => ⟨g2.lt i hi, by have := i2 i hi; omega, fun hv => by have := i2 i hi; have := hwl2 i hv; omega⟩) (by simpa using hn)
  have F : Fr (p :: jp :: vw.ids) K K3 := (Fr.of (L := p :: jp :: vw.ids) (k1.trans k2)).trans f3 (fun i hi => .inl hi)
  refine ⟨v1, K1, v2, K2, K3, vw', e31, e30, e29, ⟨hD3, hJ3, ?_, w.pB, w.aB, w.jB, ?_⟩, F, i3, ?_, fun i hi => ⟨i1 i hi, by have := g1.lt i hi; omega⟩, ⟨by omega, f3.1⟩, g1.shape, g2.shape⟩
  · refine ⟨by have := F.1; omega, fun i hi => ?_⟩
    rw [F.2 i (by omega) ?_, w.k.2 i hi]
    simp only [List.mem_cons, not_or]
    exact ⟨by have := w.pB; omega, by have := w.jB; omega, fun hx => by have := w.wB i hx; omega⟩
  · intro i hi
    rcases i3 i hi with h | h
    · exact w.wB i h
    · omega
  · have hjn := w.hj.jn
    refine (g1.sl.keep g1.lt k2).fr f3 (fun i hi => ⟨by have := g1.lt i hi; omega, ?_⟩)
    have := i1 i hi
    simp only [List.mem_cons, not_or]
    exact ⟨by omega, by omega, fun hx => by have := hwl2 i hx; omega⟩

/-- Lists of puts in memory. -/
structure PL (H0 : AHeap) (lv : AVal) (pl : List (AVal × List Pt)) : Prop where
  s : Sl H0 1 lv (pl.map (·.1))
  i : ∀ i, i ∈ lv.ids → i < H0.next
  e : ∀ x, x ∈ pl → Sl H0 3 x.1 (x.2.flatMap pc) ∧ (∀ i, i ∈ x.1.ids → i < H0.next) ∧ x.2.length ≤ 8796093022208

theorem OI.wf {size : Nat} {d : DS} {j : JS} (h : OI size d j) (h4 : 4 ≤ size) (hz : size ≤ 1024) : j.wf :=
  ⟨by rw [h.jz]; exact h4, by rw [h.jz]; exact hz, by rw [h.jz]; exact h.ja, by rw [h.je]; omega, by have := h.jn; have := h.ja; omega⟩
theorem Inv.wf {size : Nat} {d : DS} {j : JS} {all : List (List Im)} {safe : Nat} (h : Inv size d j all safe) (h4 : 4 ≤ size) (hz : size ≤ 1024) : j.wf :=
  ⟨by rw [h.jz]; exact h4, by rw [h.jz]; exact hz, by rw [h.jz, h.ja]; exact h.f.fl, by rw [h.je]; omega, by rw [h.jn]; have := flat_len all 0; have := h.f.fl; omega⟩

def b70 : ACode := (.seq (.region [⟨(some 72), (.bin .lss (.tmp 71) (.tmp 70)), none, none⟩]) (.seq (.cond (.tmp 72) .skip (.exit 0)) (.seq (.block 1 (.seq (.region [⟨(some 73), (.idxASl 1 (.tmp 69) (.tmp 71)), none, none⟩, ⟨(some 74), (.load false 1 (.tmp 73)), none, none⟩, ⟨(some 18), (.mv (.tmp 74)), none, none⟩]) (.region [⟨(some 75), (.mv (.tmp 15)), none, none⟩, ⟨(some 76), (.mv (.tmp 18)), none, none⟩, ⟨(some 77), (.call (.con (.func 31 [] [])) [(.tmp 76)]), none, none⟩, ⟨(some 78), (.call (.con (.func 30 [] [])) [(.tmp 77)]), none, none⟩, ⟨(some 79), (.call (.con (.func 29 [] [])) [(.tmp 75), (.tmp 78)]), none, none⟩]))) (.region [⟨(some 80), (.bin .add (.tmp 71) (.con (.int .i64 1))), none, none⟩, ⟨(some 71), (.mv (.tmp 80)), none, none⟩]))))
theorem loop70 {H0 H : AHeap} {p a : Nat} {g : Option Nat} {jp : Nat} {vw : AVal} {d : DS} {j : JS} {size : Nat} (w : W H0 H p a g jp vw d j) (o : OI size d j) (h4 : 4 ≤ size) (hz : size ≤ 1024) {lv : AVal} {pl : List (AVal × List Pt)} (hp : PL H0 lv pl) (hn : pl.length ≤ 12) {env : Env}
    (h15 : env 15 = .ptr jp 0) (h69 : env 69 = lv) (h70 : env 70 = .int .i64 (pl.length : Int)) (h71 : env 71 = .int .i64 0) :
    Outs (AX A (.loop b70) env H) fun e env' K => e = .exit 0 ∧ (∀ i, i < 16 → env' i = env i) ∧ ∃ vw' d' j', W H0 K p a g jp vw' d' j' ∧ OI size d' j' := by
  refine loop_ends (I := fun (i : Nat) env' K => i ≤ pl.length ∧ (∀ i, i < 16 → env' i = env i) ∧ env' 69 = lv ∧ env' 70 = .int .i64 (pl.length : Int) ∧ env' 71 = .int .i64 (i : Int) ∧ ∃ vw' d' j', W H0 K p a g jp vw' d' j' ∧ OI size d' j') (fun i => pl.length - i) ?_ 0 env H
    ⟨Nat.zero_le _, fun _ _ => rfl, h69, h70, h71, vw, d, j, w, o⟩
  rintro i env1 K ⟨hi, hE, h69, h70, h71, vw, d, j, w, o⟩
  have g15 := (hE 15 (by decide)).trans h15
  by_cases c : i < pl.length
  · have c1 : decide ((i : Int) < (pl.length : Int)) = true := by simp; omega
    have w1 : IntKind.i64.wrap ((i : Int) + 1) = ((i + 1 : Nat) : Int) := by rw [wrap_i64]; omega
    obtain ⟨id, off, cp, g', k, own, rfl, ho, _, hc⟩ := (hp.s.keep hp.i w.k).elem1 c
    have ha : aidx pl.length (.int .i64 (i : Int)) = some i := by simp [aidx]; omega
    obtain ⟨e1, e2, e3⟩ := hp.e _ (List.getElem_mem c)
    obtain ⟨⟨u, ps⟩, ex⟩ : ∃ x, pl[i] = x := ⟨_, rfl⟩
    rw [ex] at hc e1 e2 e3
    simp only at hc e1 e2 e3
    have owl := o.wl
    have oja := o.ja
    obtain ⟨v1, K1, v2, K2, K3, vw', a31, a30, a29, w3, _, _, _, _, _, sh1, sh2⟩ := w.app (o.wf h4 hz) (by omega) e1 e2 e3
    rcases sh1 with e | ⟨_, _, _, e⟩ <;> rcases sh2 with e' | ⟨_, _, _, e'⟩
    all_goals
      rw [e] at a31 a30
      rw [e'] at a30 a29
      simp only [b70, g15, h69, h70, h71, c1, ha, ho, hc, a31, a30, a29, w1, rwA, rwB, Nat.reduceAdd, Nat.reduceMul, Nat.reduceLeDiff, Int.reduceEq, Int.reduceLT, Int.reduceLE, Int.reduceAdd, Int.reduceSub, Int.reduceMul, ↓reduceIte, Nat.reduceEqDiff, reduceCtorEq, ↓cnd_true, ↓cnd_false]
      rw [outs_some]
      refine .inl ⟨rfl, i + 1, by omega, by omega, ?_, by simp [Env.set, h69], by simp [Env.set, h70], by simp [Env.set], vw', _, _, w3, o.app hz _⟩
      intro i hi
      (try simp only [Env.set])
      repeat rw [if_neg (by omega)]
      exact hE i hi
  · have e : i = pl.length := by omega
    subst e
    have c1 : decide ((pl.length : Int) < (pl.length : Int)) = false := by simp
    simp only [b70, h70, h71, c1, rwA, rwB, Nat.reduceAdd, Nat.reduceMul, Nat.reduceLeDiff, Int.reduceEq, Int.reduceLT, Int.reduceLE, Int.reduceAdd, Int.reduceSub, Int.reduceMul, ↓reduceIte, Nat.reduceEqDiff, reduceCtorEq, ↓cnd_true, ↓cnd_false]
    rw [outs_some]
    refine .inr ⟨by simp, rfl, ?_, vw, d, j, w, o⟩
    intro i hi
    (try simp only [Env.set])
    repeat rw [if_neg (by omega)]
    exact hE i hi

/-! ### The second loop -/
theorem NL.fr2 {L : List Nat} {B : Nat} {K K' : AHeap} {v : AVal} {pl : List (AVal × List Im)} (h : NL B K v pl) (f : Fr L K K') (hv : ∀ i, (i ∈ v.ids ∨ ∃ x, x ∈ pl ∧ i ∈ x.1.ids) → i ∉ L) : NL B K' v pl :=
  ⟨h.g.fr f (fun i hi => hv i (.inl hi)), h.l.fr f (fun x hx j hj => hv j (.inr ⟨x, hx, hj⟩)), h.fr, h.vf⟩
/-- A list's memory is no part of a disk's and its journal's. -/
def Away (p a jp : Nat) (vw v : AVal) (pl : List (AVal × List Im)) : Prop := ∀ i, (i ∈ v.ids ∨ ∃ x, x ∈ pl ∧ i ∈ x.1.ids) → i ≠ p ∧ i ≠ a ∧ i ≠ jp ∧ i ∉ vw.ids
theorem NL.low {B : Nat} {K : AHeap} {v : AVal} {pl : List (AVal × List Im)} (h : NL B K v pl) : ∀ i, (i ∈ v.ids ∨ ∃ x, x ∈ pl ∧ i ∈ x.1.ids) → i < K.next := by
  rintro i (hi | ⟨x, hx, hi⟩)
  · exact h.g.lt i hi
  · exact h.l.lt x hx i hi

theorem W.flush {H0 K : AHeap} {p a : Nat} {g : Option Nat} {jp : Nat} {vw : AVal} {d : DS} {j : JS} (w : W H0 K p a g jp vw d j) (hwl : d.w.length < 400000) :
    ∃ K' vw', AC A 13 [.ptr p 0] K = some (.int .i64 d.flush.2, K') ∧ W H0 K' p a g jp vw' d.flush.1 j ∧ Fr [p, a] K K' ∧ ∀ i, i ∈ vw'.ids → i ∈ vw.ids := by
  obtain ⟨K', vw', e, hD, f, i'⟩ := U13 w.hd (by omega)
  refine ⟨K', vw', e, ⟨hD, w.hj.fr f (by simp; exact ⟨w.hj.jd.1, w.hj.jd.2.1⟩) (fun i hi => .inl (i' i hi)), ⟨by have := w.k.1; have := f.1; omega, fun i hi => ?_⟩, w.pB, w.aB, w.jB, fun i hi => w.wB i (i' i hi)⟩, f, i'⟩
  rw [f.2 i (by have := w.k.1; omega) (by simp; exact ⟨by have := w.pB; omega, by have := w.aB; omega⟩), w.k.2 i hi]

/-- What the second loop keeps. -/
def LB (H0 : AHeap) (p a : Nat) (g : Option Nat) (jp size n : Nat) (env : Env) (K : AHeap) : Prop :=
  ∃ vw d j v pl safe, env 19 = v ∧ env 20 = .int .i64 ((safe : Nat) : Int) ∧ W H0 K p a g jp vw d j ∧ Inv size d j (pl.map (·.2)) safe ∧ NL H0.next K v pl ∧ Away p a jp vw v pl ∧ pl.length ≤ n
def LF (H0 : AHeap) (p a : Nat) (g : Option Nat) (jp size n : Nat) (env : Env) (K : AHeap) : Prop :=
  ∃ vw d j v pl safe, env 19 = v ∧ env 20 = .int .i64 ((safe : Nat) : Int) ∧ W H0 K p a g jp vw d j ∧ Fi size d (flat 0 (pl.map (·.2))) (flat 0 ((pl.map (·.2)).take safe)).length ∧ safe ≤ pl.length ∧ (∀ l, l ∈ pl.map (·.2) → chk l = true) ∧ NL H0.next K v pl ∧ Away p a jp vw v pl ∧ pl.length ≤ n

def b72 : ACode := (.seq (.region [⟨(some 102), (.bin .lss (.tmp 101) (.tmp 100)), none, none⟩]) (.seq (.cond (.tmp 102) .skip (.exit 2)) (.seq (.block 3 (.seq (.region [⟨(some 103), (.mv (.tmp 101)), none, none⟩, ⟨(some 104), (.idxASl 1 (.tmp 99) (.tmp 101)), none, none⟩, ⟨(some 105), (.load false 1 (.tmp 104)), none, none⟩, ⟨(some 21), (.mv (.tmp 103)), none, none⟩, ⟨(some 22), (.mv (.tmp 105)), none, none⟩]) (.seq (.region [⟨(some 106), (.mv (.tmp 22)), none, none⟩, ⟨(some 107), (.call (.con (.func 31 [] [])) [(.tmp 106)]), none, none⟩, ⟨(some 23), (.mv (.tmp 107)), none, none⟩]) (.seq (.region [⟨(some 108), (.mv (.tmp 15)), none, none⟩, ⟨(some 109), (.mv (.tmp 23)), none, none⟩, ⟨(some 110), (.call (.con (.func 30 [] [])) [(.tmp 109)]), none, none⟩, ⟨(some 111), (.call (.con (.func 29 [] [])) [(.tmp 108), (.tmp 110)]), none, none⟩, ⟨(some 24), (.mv (.tmp 111)), none, none⟩]) (.seq (.seq (.region [⟨(some 112), (.mv (.tmp 24)), none, none⟩, ⟨(some 113), (.bin .eql (.tmp 112) (.con (.int .i64 0))), none, none⟩, ⟨(some 114), (.mv (.tmp 113)), none, none⟩, ⟨(some 115), (.mv (.tmp 24)), (some (114, false)), none⟩, ⟨(some 116), (.bin .eql (.tmp 115) (.con (.int .i64 17))), (some (114, false)), none⟩, ⟨(some 117), (.mv (.tmp 116)), (some (114, false)), none⟩, ⟨(some 118), (.mv (.tmp 23)), (some (117, true)), none⟩, ⟨(some 119), (.call (.con (.func 36 [] [])) [(.tmp 118)]), (some (117, true)), none⟩, ⟨(some 120), (.pick (.tmp 117) (.tmp 119) (.con (.bool false))), (some (114, false)), none⟩, ⟨(some 121), (.pick (.tmp 114) (.con (.bool true)) (.tmp 120)), none, none⟩]) (.cond (.tmp 121) (.region [⟨(some 122), (.mv (.tmp 19)), none, none⟩, ⟨(some 123), (.mv (.tmp 23)), none, none⟩, ⟨(some 124), (.buildS 1 [.nils] [(0, (1, (.tmp 123)))]), none, none⟩, ⟨(some 125), (.append 1 24 (.tmp 122) (.tmp 124)), none, none⟩, ⟨(some 19), (.mv (.tmp 125)), none, none⟩]) .skip)) (.seq (.seq (.region [⟨(some 126), (.mv (.tmp 24)), none, none⟩, ⟨(some 127), (.bin .eql (.tmp 126) (.con (.int .i64 17))), none, none⟩]) (.cond (.tmp 127) (.exit 2) .skip)) (.seq (.region [⟨(some 128), (.mv (.tmp 21)), none, none⟩, ⟨(some 129), (.mv (.tmp 3)), none, none⟩, ⟨(some 130), (.len false (.tmp 129)), none, none⟩, ⟨(some 131), (.bin .lss (.tmp 128) (.tmp 130)), none, none⟩, ⟨(some 132), (.mv (.tmp 131)), none, none⟩, ⟨(some 133), (.mv (.tmp 3)), (some (132, true)), none⟩, ⟨(some 134), (.mv (.tmp 21)), (some (132, true)), none⟩, ⟨(some 135), (.idxASl 1 (.tmp 133) (.tmp 134)), (some (132, true)), none⟩, ⟨(some 136), (.load false 1 (.tmp 135)), (some (132, true)), none⟩, ⟨(some 137), (.pick (.tmp 132) (.tmp 136) (.con (.bool false))), none, none⟩, ⟨(some 138), (.mv (.tmp 137)), none, none⟩, ⟨(some 139), (.mv (.tmp 13)), (some (138, true)), none⟩, ⟨(some 140), (.call (.con (.func 13 [] [])) [(.tmp 139)]), (some (138, true)), none⟩, ⟨(some 141), (.bin .eql (.tmp 140) (.con (.int .i64 0))), (some (138, true)), none⟩, ⟨(some 142), (.pick (.tmp 138) (.tmp 141) (.con (.bool false))), none, none⟩]) (.cond (.tmp 142) (.region [⟨(some 143), (.mv (.tmp 19)), none, none⟩, ⟨(some 144), (.len false (.tmp 143)), none, none⟩, ⟨(some 20), (.mv (.tmp 144)), none, none⟩]) .skip)))))))) (.region [⟨(some 145), (.bin .add (.tmp 101) (.con (.int .i64 1))), none, none⟩, ⟨(some 101), (.mv (.tmp 145)), none, none⟩]))))
theorem loop72 {H0 H : AHeap} {p a : Nat} {g : Option Nat} {jp size : Nat} (h4 : 4 ≤ size) (hz : size ≤ 1024) {lv fv : AVal} {pl0 : List (AVal × List Pt)} (hp : PL H0 lv pl0) (hn : pl0.length ≤ 12) {fl : List Bool} (hf : Sl H0 1 fv (fl.map .bool)) (hfi : ∀ i, i ∈ fv.ids → i < H0.next) {env : Env}
    (h3 : env 3 = fv) (h13 : env 13 = .ptr p 0) (h15 : env 15 = .ptr jp 0) (h99 : env 99 = lv) (h100 : env 100 = .int .i64 (pl0.length : Int)) (h101 : env 101 = .int .i64 0) (hL : LB H0 p a g jp size 0 env H) :
    Outs (AX A (.loop b72) env H) fun e env' K => e = .exit 2 ∧ (∀ i, i < 16 → env' i = env i) ∧ LF H0 p a g jp size 12 env' K := by
  refine loop_ends (I := fun (i : Nat) env' K => i ≤ pl0.length ∧ (∀ i, i < 16 → env' i = env i) ∧ env' 99 = lv ∧ env' 100 = .int .i64 (pl0.length : Int) ∧ env' 101 = .int .i64 (i : Int) ∧ LB H0 p a g jp size i env' K) (fun i => pl0.length - i) ?_ 0 env H
    ⟨Nat.zero_le _, fun _ _ => rfl, h99, h100, h101, hL⟩
  rintro i env1 K ⟨hi, hE, h99, h100, h101, vw, d, j, v, pl, safe, h19, h20, w, I, N, Aw, hpl⟩
  have g3 := (hE 3 (by decide)).trans h3
  have g13 := (hE 13 (by decide)).trans h13
  have g15 := (hE 15 (by decide)).trans h15
  by_cases c : i < pl0.length
  · have c1 : decide ((i : Int) < (pl0.length : Int)) = true := by simp; omega
    have w1 : IntKind.i64.wrap ((i : Int) + 1) = ((i + 1 : Nat) : Int) := by rw [wrap_i64]; omega
    obtain ⟨id, off, cp, g', k, own, rfl, ho, _, hc⟩ := (hp.s.keep hp.i w.k).elem1 c
    have ha : aidx pl0.length (.int .i64 (i : Int)) = some i := by simp [aidx]; omega
    obtain ⟨e1, e2, e3⟩ := hp.e _ (List.getElem_mem c)
    obtain ⟨⟨u, ps⟩, ex⟩ : ∃ x, pl0[i] = x := ⟨_, rfl⟩
    rw [ex] at hc e1 e2 e3
    simp only at hc e1 e2 e3
    have owl := I.f.wl
    have oja := I.f.fl
    have wk := w.k.1
    have hvl := w.hd.ow.lt
    have hpn := w.hd.pn
    have han := w.hd.an
    have hjn := w.hj.jn
    obtain ⟨v1, K1, v2, K2, K3, vw', a31, a30, a29, w3, f3, i3, s1, i1, n3, sh1, sh2⟩ := w.app (I.wf h4 hz) (by omega) e1 e2 e3
    obtain ⟨im, eim⟩ : ∃ im, ps.map imOf = im := ⟨_, rfl⟩
    rw [eim] at a29 w3 s1
    have hA := I.app hz im
    obtain ⟨d3, ed3⟩ : ∃ d3, (app d j im).1 = d3 := ⟨_, rfl⟩
    obtain ⟨j3, ej3⟩ : ∃ j3, (app d j im).2.1 = j3 := ⟨_, rfl⟩
    obtain ⟨no, eno⟩ : ∃ no, (app d j im).2.2 = no := ⟨_, rfl⟩
    rw [ed3, ej3] at w3
    rw [eno] at a29
    rw [ed3, ej3, eno] at hA
    have lowN := N.low
    have F1 := f3.1
    have N3 := N.fr2 f3 (fun i hi => by
      have := Aw i hi
      simp only [List.mem_cons, not_or]
      exact ⟨this.1, this.2.2.1, this.2.2.2⟩)
    have Aw3 : Away p a jp vw' v pl := fun i hi => ⟨(Aw i hi).1, (Aw i hi).2.1, (Aw i hi).2.2.1, fun hx => (i3 i hx).elim (Aw i hi).2.2.2 (fun h => by have := lowN i hi; omega)⟩
    have lf := (hf.keep hfi w3.k).alen
    rw [slen1 hf] at lf
    -- the list with one more
    have push : chk im = true ∨ True → ∃ v4 K4, aappend (K3.new (.cells [v1] true)) 1 24 v (.slice K3.next 0 1 1 none) = some (v4, K4) ∧ W H0 K4 p a g jp vw' d3 j3 ∧ NL H0.next K4 v4 (pl ++ [(v1, im)]) ∧ Away p a jp vw' v4 (pl ++ [(v1, im)]) ∧ (∃ q, v4 = .slice q 0 (pl.length + 1) (pl.length + 1) (some 1)) ∧ Sl K4 2 v1 (im.flatMap ic) := by
      intro _
      obtain ⟨v4, K4, e4, N4, f4, i4, q, eq⟩ := N3.push (u := v1) (l := im) s1 (fun jj hj => ⟨by have := (i1 jj hj).1; omega, by have := (i1 jj hj).2; omega, fun hv => by have := lowN jj (.inl hv); have := (i1 jj hj).1; omega⟩) (by omega) (by omega)
      rw [N3.sz] at eq
      have hvB := N.vf
      refine ⟨v4, K4, e4, ?_, N4, ?_, ⟨q, eq⟩, ?_⟩
      · refine w3.fr f4 (fun hx => (Aw3 p (.inl hx)).1 rfl) (fun hx => (Aw3 a (.inl hx)).2.1 rfl) (fun hx => (Aw3 jp (.inl hx)).2.2.1 rfl) (fun jj hj hx => (Aw3 jj (.inl hx)).2.2.2 hj) hvB
      · have hvl3 := w3.hd.ow.lt
        rintro jj (hj | ⟨x, hx, hj⟩)
        · have := i4 jj hj
          exact ⟨by omega, by omega, by omega, fun hx => by have := hvl3 jj hx; omega⟩
        · rcases List.mem_append.1 hx with hx | hx
          · exact Aw3 jj (.inr ⟨x, hx, hj⟩)
          · simp at hx; subst hx
            have := i1 jj hj
            exact ⟨by omega, by omega, by omega, fun hx => (i3 jj hx).elim (fun h => by have := hvl jj h; omega) (fun h => by omega)⟩
      · exact s1.fr f4 (fun jj hj => ⟨by have := (i1 jj hj).2; omega, fun hv => by have := lowN jj (.inl hv); have := (i1 jj hj).1; omega⟩)
    have em : ∀ im : List Im, (pl ++ [(v1, im)]).map (·.2) = pl.map (·.2) ++ [im] := fun im => by simp
    -- the round's end
    have fin : ∀ (env' : Env) (K' : AHeap), (∀ i, i < 16 → env' i = env1 i) → env' 99 = .slice id off pl0.length cp g' → env' 100 = .int .i64 (pl0.length : Int) → env' 101 = .int .i64 ((i + 1 : Nat) : Int) → LB H0 p a g jp size (i + 1) env' K' →
        ∃ a', pl0.length - a' < pl0.length - i ∧ a' ≤ pl0.length ∧ (∀ i, i < 16 → env' i = env i) ∧ env' 99 = .slice id off pl0.length cp g' ∧ env' 100 = .int .i64 (pl0.length : Int) ∧ env' 101 = .int .i64 (a' : Int) ∧ LB H0 p a g jp size a' env' K' :=
      fun env' K' h1 h2 h3 h4 h5 => ⟨i + 1, by omega, by omega, fun i hi => (h1 i hi).trans (hE i hi), h2, h3, h4, h5⟩
    rcases hA with ⟨e0, I3⟩ | ⟨e0, hck, F3⟩ | ⟨e0, ed, ej⟩
    · obtain ⟨v4, K4, e4, w4, N4, Aw4, ⟨q, eq⟩, _⟩ := push (.inr trivial)
      rw [eq] at e4
      have hv4 : alenT false v4 = some (pl.length + 1) := by rw [eq]; rfl
      have cz : decide ((0 : Int) = 0) = true := rfl
      have cs : decide ((0 : Int) = 17) = false := rfl
      subst e0
      have lf4 := (hf.keep hfi w4.k)
      have I4 : Inv size d3 j3 ((pl ++ [(v1, im)]).map (·.2)) safe := by rw [em]; exact I3
      rcases sh1 with e | ⟨_, _, _, e⟩ <;> rcases sh2 with e' | ⟨_, _, _, e'⟩
      all_goals
        rw [e] at a31 a30 e4 N4 Aw4 I4
        rw [e'] at a30 a29
        cases f1 : decide ((i : Int) < (fl.length : Int))
        · simp only [b72, g3, g13, g15, h19, h20, h99, h100, h101, c1, ha, ho, hc, a31, a30, a29, e4, lf, f1, w1, rwA, rwB, Nat.reduceAdd, Nat.reduceMul, Nat.reduceLeDiff, Int.reduceEq, Int.reduceLT, Int.reduceLE, Int.reduceAdd, Int.reduceSub, Int.reduceMul, ↓reduceIte, Nat.reduceEqDiff, reduceCtorEq, ↓cnd_true, ↓cnd_false]
          rw [outs_some]
          refine .inl ⟨rfl, fin _ _ ?_ (by simp [Env.set, h99]) (by simp [Env.set, h100]) (by simp [Env.set]) ⟨_, _, _, _, _, safe, by simp [Env.set], by simp [Env.set, h20], w4, I4, eq ▸ N4, eq ▸ Aw4, by simp; omega⟩⟩
          intro i hi
          (try simp only [Env.set])
          repeat rw [if_neg (by omega)]
        · obtain ⟨id2, off2, cp2, g2, k2, own2, ef, ho2, _, hc2⟩ := lf4.elem1 (i := i) (by simp at f1; omega)
          have ha2 : aidx fl.length (.int .i64 (i : Int)) = some i := by simp [aidx]; simp at f1; omega
          rw [ef] at lf
          have g3' := g3
          rw [ef] at g3'
          cases fb : fl[i]'(by simp at f1; omega) <;> rw [fb] at hc2
          · simp only [b72, g3', g13, g15, h19, h20, h99, h100, h101, c1, ha, ho, hc, a31, a30, a29, e4, lf, f1, ha2, ho2, hc2, w1, rwA, rwB, Nat.reduceAdd, Nat.reduceMul, Nat.reduceLeDiff, Int.reduceEq, Int.reduceLT, Int.reduceLE, Int.reduceAdd, Int.reduceSub, Int.reduceMul, ↓reduceIte, Nat.reduceEqDiff, reduceCtorEq, ↓cnd_true, ↓cnd_false]
            rw [outs_some]
            refine .inl ⟨rfl, fin _ _ ?_ (by simp [Env.set, h99]) (by simp [Env.set, h100]) (by simp [Env.set]) ⟨_, _, _, _, _, safe, by simp [Env.set], by simp [Env.set, h20], w4, I4, eq ▸ N4, eq ▸ Aw4, by simp; omega⟩⟩
            intro i hi
            (try simp only [Env.set])
            repeat rw [if_neg (by omega)]
          · have owl4 := I3.f.wl
            have oja4 := I3.f.fl
            obtain ⟨K5, vw5, e13, w5, f5, i5⟩ := w4.flush (by omega)
            have N5 := N4.fr2 f5 (fun i hi => by simp; exact ⟨(Aw4 i hi).1, (Aw4 i hi).2.1⟩)
            have Aw5 : Away p a jp vw5 v4 _ := fun i hi => ⟨(Aw4 i hi).1, (Aw4 i hi).2.1, (Aw4 i hi).2.2.1, fun hx => (Aw4 i hi).2.2.2 (i5 i hx)⟩
            rcases I4.flush with ⟨ee, I5⟩ | ⟨ee, I5⟩ <;> rw [ee] at e13
            · simp only [b72, g3', g13, g15, h19, h20, h99, h100, h101, c1, ha, ho, hc, a31, a30, a29, e4, lf, f1, ha2, ho2, hc2, e13, w1, rwA, rwB, Nat.reduceAdd, Nat.reduceMul, Nat.reduceLeDiff, Int.reduceEq, Int.reduceLT, Int.reduceLE, Int.reduceAdd, Int.reduceSub, Int.reduceMul, ↓reduceIte, Nat.reduceEqDiff, reduceCtorEq, ↓cnd_true, ↓cnd_false]
              rw [outs_some]
              refine .inl ⟨rfl, fin _ _ ?_ (by simp [Env.set, h99]) (by simp [Env.set, h100]) (by simp [Env.set]) ⟨_, _, _, _, _, _, by simp [Env.set], by simp [Env.set], w5, I5, eq ▸ N5, eq ▸ Aw5, by simp; omega⟩⟩
              intro i hi
              (try simp only [Env.set])
              repeat rw [if_neg (by omega)]
            · simp only [b72, g3', g13, g15, h19, h20, h99, h100, h101, c1, ha, ho, hc, a31, a30, a29, e4, lf, f1, ha2, ho2, hc2, e13, w1, rwA, rwB, Nat.reduceAdd, Nat.reduceMul, Nat.reduceLeDiff, Int.reduceEq, Int.reduceLT, Int.reduceLE, Int.reduceAdd, Int.reduceSub, Int.reduceMul, ↓reduceIte, Nat.reduceEqDiff, reduceCtorEq, ↓cnd_true, ↓cnd_false]
              rw [outs_some]
              refine .inl ⟨rfl, fin _ _ ?_ (by simp [Env.set, h99]) (by simp [Env.set, h100]) (by simp [Env.set]) ⟨_, _, _, _, _, _, by simp [Env.set], by simp [Env.set]; exact h20, w5, I5, eq ▸ N5, eq ▸ Aw5, by simp; omega⟩⟩
              intro i hi
              (try simp only [Env.set])
              repeat rw [if_neg (by omega)]
    · obtain ⟨v4, K4, e4, w4, N4, Aw4, ⟨q, eq⟩, _⟩ := push (.inr trivial)
      rw [eq] at e4
      subst e0
      have u36 := U36 s1 (by rw [← eim]; simpa using e3)
      rw [hck] at u36
      have F4 : Fi size d3 (flat 0 ((pl ++ [(v1, im)]).map (·.2))) (flat 0 (((pl ++ [(v1, im)]).map (·.2)).take safe)).length := by rw [em]; exact F3
      have ck4 : ∀ l, l ∈ (pl ++ [(v1, im)]).map (·.2) → chk l = true := by
        intro l hl
        rw [em] at hl
        rcases List.mem_append.1 hl with hl | hl
        · exact I.ok l hl
        · simp at hl; subst hl; exact hck
      have sf4 : safe ≤ (pl ++ [(v1, im)]).length := by have := I.sf; simp at this ⊢; omega
      have le4 : (pl ++ [(v1, im)]).length ≤ 12 := by simp; omega
      rcases sh1 with e | ⟨_, _, _, e⟩ <;> rcases sh2 with e' | ⟨_, _, _, e'⟩
      all_goals
        rw [e] at a31 a30 e4 N4 Aw4 F4 u36 ck4 sf4 le4
        rw [e'] at a30 a29
        simp only [b72, g3, g13, g15, h19, h20, h99, h100, h101, c1, ha, ho, hc, a31, a30, a29, u36, e4, w1, rwA, rwB, Nat.reduceAdd, Nat.reduceMul, Nat.reduceLeDiff, Int.reduceEq, Int.reduceLT, Int.reduceLE, Int.reduceAdd, Int.reduceSub, Int.reduceMul, ↓reduceIte, Nat.reduceEqDiff, reduceCtorEq, ↓cnd_true, ↓cnd_false]
        rw [outs_some]
        refine .inr ⟨by simp, rfl, ?_, ⟨_, _, _, _, _, safe, by simp [Env.set], by simp [Env.set, h20], w4, F4, sf4, ck4, eq ▸ N4, eq ▸ Aw4, le4⟩⟩
        intro i hi
        (try simp only [Env.set])
        repeat rw [if_neg (by omega)]
        exact hE i hi
    · subst ed ej
      rcases e0 with e0 | e0 <;> subst e0
      all_goals
      rcases sh1 with e | ⟨_, _, _, e⟩ <;> rcases sh2 with e' | ⟨_, _, _, e'⟩
      all_goals
        rw [e] at a31 a30
        rw [e'] at a30 a29
        cases f1 : decide ((i : Int) < (fl.length : Int))
        · simp only [b72, g3, g13, g15, h19, h20, h99, h100, h101, c1, ha, ho, hc, a31, a30, a29, lf, f1, w1, rwA, rwB, Nat.reduceAdd, Nat.reduceMul, Nat.reduceLeDiff, Int.reduceEq, Int.reduceLT, Int.reduceLE, Int.reduceAdd, Int.reduceSub, Int.reduceMul, ↓reduceIte, Nat.reduceEqDiff, reduceCtorEq, ↓cnd_true, ↓cnd_false]
          rw [outs_some]
          refine .inl ⟨rfl, fin _ _ ?_ (by simp [Env.set, h99]) (by simp [Env.set, h100]) (by simp [Env.set]) ⟨_, _, _, v, pl, safe, by simp [Env.set, h19], by simp [Env.set, h20], w3, I, N3, Aw3, by omega⟩⟩
          intro i hi
          (try simp only [Env.set])
          repeat rw [if_neg (by omega)]
        · obtain ⟨id2, off2, cp2, g2, k2, own2, ef, ho2, _, hc2⟩ := (hf.keep hfi w3.k).elem1 (i := i) (by simp at f1; omega)
          have ha2 : aidx fl.length (.int .i64 (i : Int)) = some i := by simp [aidx]; simp at f1; omega
          rw [ef] at lf
          have g3' := g3
          rw [ef] at g3'
          cases fb : fl[i]'(by simp at f1; omega) <;> rw [fb] at hc2
          · simp only [b72, g3', g13, g15, h19, h20, h99, h100, h101, c1, ha, ho, hc, a31, a30, a29, lf, f1, ha2, ho2, hc2, w1, rwA, rwB, Nat.reduceAdd, Nat.reduceMul, Nat.reduceLeDiff, Int.reduceEq, Int.reduceLT, Int.reduceLE, Int.reduceAdd, Int.reduceSub, Int.reduceMul, ↓reduceIte, Nat.reduceEqDiff, reduceCtorEq, ↓cnd_true, ↓cnd_false]
            rw [outs_some]
            refine .inl ⟨rfl, fin _ _ ?_ (by simp [Env.set, h99]) (by simp [Env.set, h100]) (by simp [Env.set]) ⟨_, _, _, v, pl, safe, by simp [Env.set, h19], by simp [Env.set, h20], w3, I, N3, Aw3, by omega⟩⟩
            intro i hi
            (try simp only [Env.set])
            repeat rw [if_neg (by omega)]
          · obtain ⟨K5, vw5, e13, w5, f5, i5⟩ := w3.flush (by omega)
            have N5 := N3.fr2 f5 (fun i hi => by simp; exact ⟨(Aw3 i hi).1, (Aw3 i hi).2.1⟩)
            have Aw5 : Away p a jp vw5 v _ := fun i hi => ⟨(Aw3 i hi).1, (Aw3 i hi).2.1, (Aw3 i hi).2.2.1, fun hx => (Aw3 i hi).2.2.2 (i5 i hx)⟩
            have hvl := N3.g.sl.alen
            rw [N3.sz] at hvl
            rcases I.flush with ⟨ee, I5⟩ | ⟨ee, I5⟩ <;> rw [ee] at e13
            · simp only [b72, g3', g13, g15, h19, h20, h99, h100, h101, c1, ha, ho, hc, a31, a30, a29, hvl, lf, f1, ha2, ho2, hc2, e13, w1, rwA, rwB, Nat.reduceAdd, Nat.reduceMul, Nat.reduceLeDiff, Int.reduceEq, Int.reduceLT, Int.reduceLE, Int.reduceAdd, Int.reduceSub, Int.reduceMul, ↓reduceIte, Nat.reduceEqDiff, reduceCtorEq, ↓cnd_true, ↓cnd_false]
              rw [outs_some]
              refine .inl ⟨rfl, fin _ _ ?_ (by simp [Env.set, h99]) (by simp [Env.set, h100]) (by simp [Env.set]) ⟨_, _, _, v, pl, _, by simp [Env.set, h19], by simp [Env.set], w5, I5, N5, Aw5, by omega⟩⟩
              intro i hi
              (try simp only [Env.set])
              repeat rw [if_neg (by omega)]
            · simp only [b72, g3', g13, g15, h19, h20, h99, h100, h101, c1, ha, ho, hc, a31, a30, a29, lf, f1, ha2, ho2, hc2, e13, w1, rwA, rwB, Nat.reduceAdd, Nat.reduceMul, Nat.reduceLeDiff, Int.reduceEq, Int.reduceLT, Int.reduceLE, Int.reduceAdd, Int.reduceSub, Int.reduceMul, ↓reduceIte, Nat.reduceEqDiff, reduceCtorEq, ↓cnd_true, ↓cnd_false]
              rw [outs_some]
              refine .inl ⟨rfl, fin _ _ ?_ (by simp [Env.set, h99]) (by simp [Env.set, h100]) (by simp [Env.set]) ⟨_, _, _, v, pl, _, by simp [Env.set, h19], by simp [Env.set]; exact h20, w5, I5, N5, Aw5, by omega⟩⟩
              intro i hi
              (try simp only [Env.set])
              repeat rw [if_neg (by omega)]
  · have e : i = pl0.length := by omega
    subst e
    have c1 : decide ((pl0.length : Int) < (pl0.length : Int)) = false := by simp
    simp only [b72, h100, h101, c1, rwA, rwB, Nat.reduceAdd, Nat.reduceMul, Nat.reduceLeDiff, Int.reduceEq, Int.reduceLT, Int.reduceLE, Int.reduceAdd, Int.reduceSub, Int.reduceMul, ↓reduceIte, Nat.reduceEqDiff, reduceCtorEq, ↓cnd_true, ↓cnd_false]
    rw [outs_some]
    refine .inr ⟨by simp, rfl, ?_, vw, d, j, v, pl, safe, by simp [Env.set, h19], by simp [Env.set, h20], w, I.f, by have := I.sf; simpa using this, I.ok, N, Aw, by omega⟩
    intro i hi
    (try simp only [Env.set])
    repeat rw [if_neg (by omega)]
    exact hE i hi

end Go.Proofs.Ytilhjcnkaelheaa.Dk
end

section
/- JournalBegins: the law. -/
set_option maxRecDepth 100000
set_option linter.unusedSimpArgs false
set_option linter.unusedVariables false
set_option maxHeartbeats 8000000
namespace Go.Proofs.Ytilhjcnkaelheaa.Dk
open Go Go.Proofs.Ytilhjcnkaelheaa.Am DnFns Go.RowKit
open Sd (Sec noughts home homeno ofHome ofNo opened unfit pad)

theorem arg_puts {H : AHeap} {v : AVal} {d : Dat} (h : AArg Try.prog H 71 v d) : ∃ pl : List (AVal × List Pt), PL H v pl := by
  obtain ⟨cs, hs, hv⟩ := arg_sh (f := 9) (sh := .slice 1 24 (.slice 3 16 (.st 3 (.fld 0 1 (.int .i64) (.fld 1 1 (.int .u8) (.fld 2 1 .bool .fend)))))) (by kernel_rfl) h
  obtain ⟨v', l, h1, h2, h3, h4, h5, h6, h7, h8⟩ := shp_listP (α := AVal × List Pt) (enc := fun x => [x.1]) (Pr := fun x => Sl H 3 x.1 (x.2.flatMap pc) ∧ (∀ i, i ∈ x.1.ids → i < H.next) ∧ x.2.length ≤ 8796093022208) hs (fun c hc => by
    obtain ⟨u, ps, rfl, q2, q3, q4, q5, q6, q7⟩ := shp_list (α := Pt) (enc := pc) hc (fun c hc => by
      simp only [Shp] at hc
      obtain ⟨hl, ⟨n, e1, b1⟩, ⟨b, e2, b2⟩, ⟨s, e3⟩, _⟩ := hc
      match c, hl with
      | [c0, c1, c2], _ =>
        simp at e1 e2 e3
        subst e1 e2 e3
        have b2' : (0 : Int) ≤ b ∧ b ≤ 255 := b2
        obtain ⟨b', eb⟩ := u8_of b2'.1 b2'.2
        exact ⟨⟨n, b', s⟩, by rw [eb]; rfl⟩)
    exact ⟨(u, ps), ⟨q2, q4, by show ps.length ≤ _; simp only [reachBytes] at q7; omega⟩, rfl⟩)
  have hv := hv.1 rfl
  rw [h1] at hv
  simp at hv
  subst hv
  rw [flatMap_one] at h2
  exact ⟨l, h2, h4, h8⟩

theorem flat_mem : ∀ {a : List (List Im)} {n : Nat} {l : List Im}, l ∈ a → l.length ≤ (flat n a).length
  | x :: a, n, l, h => by
    simp only [flat, List.length_append, secs_len]
    rcases List.mem_cons.1 h with rfl | h
    · omega
    · have := flat_mem (n := n + 1) h; omega

theorem PL.len {H : AHeap} {v : AVal} {pl : List (AVal × List Pt)} (h : PL H v pl) : slen v = pl.length := by
  have := h.s.length; simp at this; omega

theorem run7 {H : AHeap} {size step : Int} {ov lv fv kv : AVal} {old l : List (AVal × List Pt)} {fl keep : List Bool} (hs1 : step ≤ 9223372036854775807) (ho : PL H ov old) (hl : PL H lv l)
    (hf : Sl H 1 fv (fl.map .bool)) (hfi : ∀ i, i ∈ fv.ids → i < H.next) (hk : Sl H 1 kv (keep.map .bool)) (hki : ∀ i, i ∈ kv.ids → i < H.next) :
    Ans (AC A 7 [.int .i64 size, ov, lv, fv, .int .i64 step, kv] H) (.bool true) := by
  rw [s_fn (A := A) (f := 7) (x := DnFns.c7) rfl rfl rfl]
  have lo := ho.s.alen
  rw [ho.len] at lo
  have ll := hl.s.alen
  rw [hl.len] at ll
  cases c1 : decide (size < 4)
  rotate_left
  · simp only [c7, U35, c1, rwA, rwB, Nat.reduceAdd, Nat.reduceMul, Nat.reduceLeDiff, Int.reduceEq, Int.reduceLT, Int.reduceLE, Int.reduceAdd, Int.reduceSub, Int.reduceMul, ↓reduceIte, Nat.reduceEqDiff, reduceCtorEq, ↓cnd_true, ↓cnd_false]
  cases c2 : decide (40 < size)
  rotate_left
  · simp only [c7, U35, c1, c2, rwA, rwB, Nat.reduceAdd, Nat.reduceMul, Nat.reduceLeDiff, Int.reduceEq, Int.reduceLT, Int.reduceLE, Int.reduceAdd, Int.reduceSub, Int.reduceMul, ↓reduceIte, Nat.reduceEqDiff, reduceCtorEq, ↓cnd_true, ↓cnd_false]
  cases c3 : decide ((12 : Int) < (old.length : Int))
  rotate_left
  · simp only [c7, U35, c1, c2, lo, c3, rwA, rwB, Nat.reduceAdd, Nat.reduceMul, Nat.reduceLeDiff, Int.reduceEq, Int.reduceLT, Int.reduceLE, Int.reduceAdd, Int.reduceSub, Int.reduceMul, ↓reduceIte, Nat.reduceEqDiff, reduceCtorEq, ↓cnd_true, ↓cnd_false]
  cases c4 : decide ((12 : Int) < (l.length : Int))
  rotate_left
  · simp only [c7, U35, c1, c2, lo, ll, c3, c4, rwA, rwB, Nat.reduceAdd, Nat.reduceMul, Nat.reduceLeDiff, Int.reduceEq, Int.reduceLT, Int.reduceLE, Int.reduceAdd, Int.reduceSub, Int.reduceMul, ↓reduceIte, Nat.reduceEqDiff, reduceCtorEq, ↓cnd_true, ↓cnd_false]
  obtain ⟨n, rfl⟩ : ∃ n : Nat, size = (n : Int) := ⟨size.toNat, by simp at c1; omega⟩
  have n4 : 4 ≤ n := by simp at c1; omega
  have n40 : n ≤ 40 := by simp at c2; omega
  have lo12 : old.length ≤ 12 := by simp at c3; omega
  have ll12 : l.length ≤ 12 := by simp at c4; omega
  have w1 : IntKind.i64.wrap ((n : Int) + 1) = ((n + 1 : Nat) : Int) := by rw [wrap_i64]; omega
  obtain ⟨m, hm⟩ : ∃ m, n + 1 = m := ⟨_, rfl⟩
  rw [hm] at w1
  obtain ⟨H1, eNew, hD, kN⟩ := U10 (n := m) (by omega) (by omega) H
  have fs : (fresh m).s.length = m := by simp [fresh]
  have u27 := U27 hD (size := n) (epoch := 1) n4 (by omega) (by rw [fs]; omega)
  have c11 : ((1 : Nat) : Int) = 1 := rfl
  rw [c11] at u27
  have kn := kN.1
  have hpn := hD.pn
  obtain ⟨H2, eH2⟩ : ∃ X, H1.new (.cells (jc (H.next + 2) ⟨n, 1, 0, 0⟩) true) = X := ⟨_, rfl⟩
  have k2 : Keeps H1 H2 := by rw [← eH2]; exact Keeps.new _ _
  rw [eH2] at u27
  have W0 : W H H2 (H.next + 2) (H.next + 1) none H1.next .nils (fresh m) ⟨n, 1, 0, 0⟩ :=
    ⟨hD.keeps k2, ⟨by rw [← eH2, new_obj, if_pos rfl], by rw [← eH2, new_next]; omega, by omega, by omega, by simp [AVal.ids]⟩, kN.trans k2, by omega, by omega, kn, by simp [AVal.ids]⟩
  have O0 : OI n (fresh m) ⟨n, 1, 0, 0⟩ := by
    refine ⟨by rw [fs]; exact hm.symm, rfl, rfl, ?_, by simp [fresh], by simp [fresh], Nat.zero_le _, rfl, rfl, Nat.le_refl _⟩
    intro i hi
    have : (fresh m).s.getD (i + 1) [] = noughts 512 := by simp [fresh, show i + 1 < m by omega]
    rw [this]; exact old_blank
  simp only [c7, U35, c1, c2, lo, ll, c3, c4, w1, eNew, u27, e_nilp0, rwA, rwB, Nat.reduceAdd, Nat.reduceMul, Nat.reduceLeDiff, Int.reduceEq, Int.reduceLT, Int.reduceLE, Int.reduceAdd, Int.reduceSub, Int.reduceMul, ↓reduceIte, Nat.reduceEqDiff, reduceCtorEq, ↓cnd_true, ↓cnd_false]
  repeat (first | refine outs_seq ?_ | refine outs_block ?_ | refine outs_step ?_ | refine outs_stepD ?_ | refine rets_end ?_ | refine ans_end ?_)
  refine outs_gen (fun env => env 0 = .int .i64 (n : Int) ∧ env 2 = lv ∧ env 3 = fv ∧ env 4 = .int .i64 step ∧ env 5 = kv ∧ env 13 = .ptr (H.next + 2) 0 ∧ env 15 = .ptr H1.next 0 ∧ env 69 = ov ∧ env 70 = .int .i64 (old.length : Int) ∧ env 71 = .int .i64 0) ⟨by simp [Env.set, ainit], by simp [Env.set, ainit], by simp [Env.set, ainit], by simp [Env.set, ainit], by simp [Env.set, ainit], by simp [Env.set], by simp [Env.set], by simp [Env.set], by simp [Env.set], by simp [Env.set]⟩ ?_
  rintro env1 ⟨a0, a2, a3, a4, a5, a13, a15, a69, a70, a71⟩
  refine (loop70 W0 O0 n4 (by omega) ho lo12 a15 a69 a70 a71).mono ?_
  rintro e env2 K1 ⟨rfl, hE, vw1, d1, j1, W1, O1⟩
  have b0 := (hE 0 (by decide)).trans a0
  have b2 := (hE 2 (by decide)).trans a2
  have b3 := (hE 3 (by decide)).trans a3
  have b4 := (hE 4 (by decide)).trans a4
  have b5 := (hE 5 (by decide)).trans a5
  have b13 := (hE 13 (by decide)).trans a13
  have O1w := O1.wl
  have O1a := O1.ja
  obtain ⟨K2, vw2, e13, W2, f2, i2⟩ := W1.flush (by omega)
  obtain ⟨fl0, fl1, I2⟩ := O1.flush
  rw [fl0] at e13
  obtain ⟨d2, ed2⟩ : ∃ d2, d1.flush.1 = d2 := ⟨_, rfl⟩
  rw [ed2] at W2 I2
  have c22 : ((2 : Nat) : Int) = 2 := rfl
  have u27b := U27 W2.hd (size := n) (epoch := 2) n4 (by omega) (by rw [I2.f.sl]; omega)
  rw [c22] at u27b
  obtain ⟨K3, eK3⟩ : ∃ X, K2.new (.cells (jc (H.next + 2) ⟨n, 2, 0, 0⟩) true) = X := ⟨_, rfl⟩
  have k3 : Keeps K2 K3 := by rw [← eK3]; exact Keeps.new _ _
  rw [eK3] at u27b
  have W2k := W2.k.1
  have W2p := W2.hd.pn
  have W2a := W2.hd.an
  have W2w := W2.hd.ow.lt
  have W3 : W H K3 (H.next + 2) (H.next + 1) none K2.next vw2 d2 ⟨n, 2, 0, 0⟩ :=
    ⟨W2.hd.keeps k3, ⟨by rw [← eK3, new_obj, if_pos rfl], by rw [← eK3, new_next]; omega, by omega, by omega, fun hx => by have := W2w _ hx; omega⟩, W2.k.trans k3, W2.pB, W2.aB, W2k, W2.wB⟩
  obtain ⟨K4, e15, hD4, f4⟩ := U15 W3.hd hs1
  have W4 : W H K4 (H.next + 2) (H.next + 1) none K2.next vw2 { d2 with arm := low step } ⟨n, 2, 0, 0⟩ :=
    ⟨hD4, W3.hj.fr f4 (by simp; omega) (fun i hi => .inl hi), ⟨by have := W3.k.1; have := f4.1; omega, fun i hi => by rw [f4.2 i (by have := W3.k.1; omega) (by simp; omega), W3.k.2 i hi]⟩, W3.pB, W3.aB, W3.jB, W3.wB⟩
  have I4 : Inv n { d2 with arm := low step } ⟨n, 2, 0, 0⟩ [] 0 := I2.like rfl rfl
  simp only [outs_some, b0, b2, b3, b4, b5, b13, e13, u27b, e15, ll, e_nilp0, rwA, rwB, Nat.reduceAdd, Nat.reduceMul, Nat.reduceLeDiff, Int.reduceEq, Int.reduceLT, Int.reduceLE, Int.reduceAdd, Int.reduceSub, Int.reduceMul, ↓reduceIte, Nat.reduceEqDiff, reduceCtorEq, ↓cnd_true, ↓cnd_false]
  repeat (first | refine outs_seq ?_ | refine outs_block ?_ | refine outs_step ?_ | refine outs_stepD ?_ | refine rets_end ?_ | refine ans_end ?_)
  refine outs_gen (fun env => env 0 = .int .i64 (n : Int) ∧ env 3 = fv ∧ env 5 = kv ∧ env 13 = .ptr (H.next + 2) 0 ∧ env 15 = .ptr K2.next 0 ∧ env 19 = .nils ∧ env 20 = .int .i64 0 ∧ env 99 = lv ∧ env 100 = .int .i64 (l.length : Int) ∧ env 101 = .int .i64 0) ⟨by simp [Env.set, b0], by simp [Env.set, b3], by simp [Env.set, b5], by simp [Env.set, b13], by simp [Env.set], by simp [Env.set], by simp [Env.set], by simp [Env.set], by simp [Env.set], by simp [Env.set]⟩ ?_
  rintro env3 ⟨a0, a3, a5, a13, a15, a19, a20, a99, a100, a101⟩
  refine (loop72 (g := none) n4 (show n ≤ 1024 by omega) hl ll12 hf hfi a3 a13 a15 a99 a100 a101 ⟨vw2, _, _, .nils, [], 0, a19, a20, W4, I4, NL.nil _ _, by rintro i (h | ⟨x, hx, _⟩) <;> simp [AVal.ids] at *, Nat.le_refl _⟩).mono ?_
  rintro e env4 K5 ⟨rfl, hE, vw5, d5, j5, v, pl, safe, q19, q20, W5, F5, sf5, ck5, N5, Aw5, pl12⟩
  have b0 := (hE 0 (by decide)).trans a0
  have b5 := (hE 5 (by decide)).trans a5
  have b13 := (hE 13 (by decide)).trans a13
  have W5k := W5.k.1
  have F5w := F5.wl
  have F5f := F5.fl
  obtain ⟨K6, e17, hD6, f6⟩ := U17 W5.hd (by omega) (hk.keep hki W5.k) (fun i hi => by have := hki i hi; omega)
  have U6 := F5.up keep
  obtain ⟨d6, ed6⟩ : ∃ d6, (d5.up keep).1 = d6 := ⟨_, rfl⟩
  rw [ed6] at hD6 U6
  obtain ⟨g, g1, g2, eg⟩ := scan_is U6 (by omega) (by simpa using sf5) ck5
  obtain ⟨v7, K7, p7, e28, k7, N7, ep7⟩ := U28 hD6 (by rw [U6.w]; simp) (size := n) (ep := 2) n4 (by omega) (by rw [U6.sl]; omega)
  rw [eg] at e28 ep7
  rw [c22] at e28
  simp only at ep7
  have g2' : g ≤ pl.length := by simpa using g2
  have l7 : p7.length = g := by
    have := congrArg List.length ep7
    simp at this g2; omega
  have hm7 : ∀ x, x ∈ p7 → x.2.length ≤ 8796093022208 := by
    intro x hx
    have : x.2 ∈ p7.map (·.2) := List.mem_map_of_mem hx
    rw [ep7] at this
    have := flat_mem (n := 0) (List.mem_of_mem_take this)
    omega
  obtain ⟨v8, K8, p8, e38, k8, N8, ep8⟩ := U38 N7.g.sl N7.g.lt N7.l (by omega) hm7
  have N56 := N5.fr2 f6 (fun i hi => by simp; exact ⟨(Aw5 i hi).1, (Aw5 i hi).2.1⟩)
  have N58 := (N56.fr2 (L := []) (Fr.of k7) (by simp)).fr2 (L := []) (Fr.of k8) (by simp)
  obtain ⟨v9, es9, s9, _, _, _⟩ := N58.g.sl.cut (lo := 0) (hi := g) (lv := none) (hv := some (.int .i64 (g : Int))) (by decide) N58.g.cuts (Nat.zero_le _) (by rw [N58.sz]; exact g2') (.inl ⟨rfl, rfl⟩) (.inr ⟨_, rfl⟩)
  have s9 : Sl K8 1 v9 ((pl.take g).map (·.1)) := by
    simp only [Nat.mul_one, Nat.zero_mul, List.drop_zero] at s9
    rw [List.map_take]; exact s9
  have l8 : p8.length = g := by
    have := congrArg List.length ep8
    simp at this; omega
  have e37 := U37 N8.g.sl s9 N8.l (ql := pl.take g) ⟨fun x hx => N58.l.s x (List.mem_of_mem_take hx), fun x hx => N58.l.lt x (List.mem_of_mem_take hx)⟩ (by omega) (fun x hx => by
    have : x.2 ∈ p8.map (·.2) := List.mem_map_of_mem hx
    rw [ep8] at this
    obtain ⟨y, hy, e⟩ := List.mem_map.1 this
    rw [← e]; exact hm7 y hy)
  have same : decide (p8.map (·.2) = (pl.take g).map (·.2)) = true := decide_eq_true (by rw [ep8, ep7, List.map_take])
  rw [same] at e37
  have lv7 := N7.g.sl.alen
  rw [N7.sz, l7] at lv7
  have lv5 := N5.g.sl.alen
  rw [N5.sz] at lv5
  have z1 : decide ((g : Int) ≥ (safe : Int)) = true := by simp; exact g1
  have z1' : decide ((safe : Int) ≤ (g : Int)) = true := by simp; exact g1
  have z2 : decide ((g : Int) ≤ (pl.length : Int)) = true := by simp; exact g2'
  rcases N7.g.shape with e | ⟨_, _, _, e⟩ <;> rcases N8.g.shape with e' | ⟨_, _, _, e'⟩
  all_goals
    rw [e] at e28 e38 lv7
    rw [e'] at e38 e37
    simp only [outs_some, b0, b5, b13, q19, q20, e17, e28, e38, e37, lv7, lv5, es9, z1, z1', z2, rwA, rwB, Nat.reduceAdd, Nat.reduceMul, Nat.reduceLeDiff, Int.reduceEq, Int.reduceLT, Int.reduceLE, Int.reduceAdd, Int.reduceSub, Int.reduceMul, ↓reduceIte, Nat.reduceEqDiff, reduceCtorEq, ↓cnd_true, ↓cnd_false]

theorem law7 (H : AHeap) (args : List AVal) (dats : List Dat) (h : AArgs Try.prog H [3, 71, 71, 23, 3, 23] args dats) : ∃ k H', acall A k 7 args H = some (.bool true, H') := by
  obtain ⟨v0, r, d0, ds, rfl, rfl, h0, h⟩ := args_cons h
  obtain ⟨v1, r, d1, ds, rfl, rfl, h1, h⟩ := args_cons h
  obtain ⟨v2, r, d2, ds, rfl, rfl, h2, h⟩ := args_cons h
  obtain ⟨v3, r, d3, ds, rfl, rfl, h3, h⟩ := args_cons h
  obtain ⟨v4, r, d4, ds, rfl, rfl, h4, h⟩ := args_cons h
  obtain ⟨v5, r, d5, ds, rfl, rfl, h5, h⟩ := args_cons h
  obtain rfl := args_nil h
  obtain ⟨n, rfl, _⟩ := arg_int Try.underlying3 h0
  obtain ⟨old, ho⟩ := arg_puts h1
  obtain ⟨l, hl⟩ := arg_puts h2
  obtain ⟨fl, hf, hfi, _⟩ := arg_keep h3
  obtain ⟨step, rfl, _, _, hs⟩ := arg_int Try.underlying3 h4
  obtain ⟨keep, hk, hki, _⟩ := arg_keep h5
  obtain ⟨H', hr⟩ := run7 (size := n) hs ho hl hf hfi hk hki
  obtain ⟨k, hk⟩ := AC_iff.1 hr
  exact ⟨k, H', hk⟩

end Go.Proofs.Ytilhjcnkaelheaa.Dk
end
