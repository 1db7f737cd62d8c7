/- Disks: told whole, copied, made. -/
import Derived.Test.YtilhjcnkaelheaaDf
set_option maxRecDepth 100000
set_option linter.unusedSimpArgs false
set_option linter.unusedVariables false
set_option maxHeartbeats 2000000
namespace Go.Proofs.Ytilhjcnkaelheaa.Dk
open Go Go.Proofs.Ytilhjcnkaelheaa.Am DnFns Go.RowKit
open Sd (Sec noughts home homeno ofHome ofNo opened unfit pad)

theorem oldl_str (n : Nat) (l : List (List UInt8)) : oldl n (l.map AVal.str) = true := by
  induction l with
  | nil => rfl
  | cons a l ih => simp [oldl, AVal.old, ih]
theorem oldl_wc (n : Nat) (l : List (Nat × List UInt8)) : oldl n (l.flatMap wc) = true := by
  induction l with
  | nil => rfl
  | cons a l ih => simp [oldl, AVal.old, wc, ih]

theorem U49 {H : AHeap} {s : AVal} {l : List (List UInt8)} (h : Sl H 1 s (l.map .str)) (hid : ∀ i, i ∈ s.ids → i < H.next) (h0 : l ≠ []) (hl : l.length < 1000000) :
    AC A 49 [s] H = some (.slice H.next 0 l.length l.length (some 1), H.new (.cells (l.map .str) true)) := by
  refine look_new (x := DnFns.c49) rfl rfl rfl ?_
  have hf := h.frz
  have hn : (frz H).next = H.next := rfl
  have hs := slen1 hf
  have hpos : 0 < l.length := List.length_pos_iff.2 h0
  have hne : (frz H).next ∉ s.ids := fun hx => by have := hid _ hx; omega
  have ap := app_all (by' := 16) (id := H.next) (by decide) ((Sl_new (o := .cells [] true) hne).2 hf) (by rw [hs]; exact hpos) (by rw [hs]; omega)
  rw [hs] at ap
  rcases sl_shape' h with rfl | ⟨_, _, _, _, _, rfl⟩
  · exact absurd hs (by simp [slen]; omega)
  · simp only [c49, hn, ap, e_nils0, rwA, rwB, Nat.reduceAdd, Nat.reduceMul, Nat.reduceLeDiff, Int.reduceEq, Int.reduceLT, Int.reduceLE, Int.reduceAdd, Int.reduceSub, Int.reduceMul, ↓reduceIte, Nat.reduceEqDiff, reduceCtorEq, ↓cnd_true, ↓cnd_false]
    rw [rets_some]
    exact one_slice (Nat.le_succ _) (by rw [new_obj, if_pos (by rw [new_next, hn])]) (oldl_str _ _)

theorem U56n (H : AHeap) : AC A 56 [.nils] H = some (.nils, H) := by
  refine look_val (x := DnFns.c56) rfl rfl rfl rfl ?_
  simp only [c56, e_nils1, rwA, rwB, Nat.reduceAdd, Nat.reduceMul, Nat.reduceLeDiff, Int.reduceEq, Int.reduceLT, Int.reduceLE, Int.reduceAdd, Int.reduceSub, Int.reduceMul, ↓reduceIte, Nat.reduceEqDiff, reduceCtorEq, ↓cnd_true, ↓cnd_false]
theorem U56 {H : AHeap} {s : AVal} {l : List (Nat × List UInt8)} (h : Sl H 2 s (l.flatMap wc)) (hid : ∀ i, i ∈ s.ids → i < H.next) (h0 : l ≠ []) (hl : l.length < 1000000) :
    AC A 56 [s] H = some (.slice H.next 0 l.length l.length (some 2), H.new (.cells (l.flatMap wc) true)) := by
  refine look_new (x := DnFns.c56) rfl rfl rfl ?_
  have hf := h.frz
  have hn : (frz H).next = H.next := rfl
  have hs := slen_fm wc_len (by decide) hf
  have hpos : 0 < l.length := List.length_pos_iff.2 h0
  have hne : (frz H).next ∉ s.ids := fun hx => by have := hid _ hx; omega
  have ap := app_all (by' := 24) (id := H.next) (by decide) ((Sl_new (o := .cells [] true) hne).2 hf) (by rw [hs]; exact hpos) (by rw [hs]; omega)
  rw [hs] at ap
  rcases sl_shape' h with rfl | ⟨_, _, _, _, _, rfl⟩
  · exact absurd hs (by simp [slen]; omega)
  · simp only [c56, hn, ap, e_nils0, rwA, rwB, Nat.reduceAdd, Nat.reduceMul, Nat.reduceLeDiff, Int.reduceEq, Int.reduceLT, Int.reduceLE, Int.reduceAdd, Int.reduceSub, Int.reduceMul, ↓reduceIte, Nat.reduceEqDiff, reduceCtorEq, ↓cnd_true, ↓cnd_false]
    rw [rets_some]
    exact one_slice (Nat.le_succ _) (by rw [new_obj, if_pos (by rw [new_next, hn])]) (oldl_wc _ _)

theorem safe_sl {H : AHeap} {a : Nat} {o : Bool} {g : Option Nat} {l : List (List UInt8)} (h : H.obj a = some (.cells (l.map .str) o)) : Sl H 1 (.slice a 0 l.length l.length g) (l.map .str) :=
  .inr ⟨a, 0, l.length, l.length, g, rfl, by simp, .inr ⟨_, o, h, by simp, by rw [List.drop_zero, List.take_of_length_le (by simp)]⟩⟩

theorem U14 {H : AHeap} {p a : Nat} {g : Option Nat} {vw : AVal} {d : DS} (h : DL H p a g vw d) (n1 : 1 ≤ d.s.length) (n2 : d.s.length ≤ 4865) :
    AC A 14 [.ptr p 0] H = some (.slice H.next 0 d.s.length d.s.length (some 1), H.new (.cells (d.s.map .str) true)) := by
  refine look_new (x := DnFns.c14) rfl rfl rfl ?_
  have hf := h.frz
  have hn : (frz H).next = H.next := rfl
  obtain ⟨o, op⟩ := hf.op
  obtain ⟨o', oa⟩ := hf.oa
  have u := U49 (safe_sl (g := g) oa) (by simp [AVal.ids]; exact hf.an) (by intro e; rw [e] at n1; simp at n1) (by omega)
  simp only [c14, op, u, e_nilp0, rwA, rwB, Nat.reduceAdd, Nat.reduceMul, Nat.reduceLeDiff, Int.reduceEq, Int.reduceLT, Int.reduceLE, Int.reduceAdd, Int.reduceSub, Int.reduceMul, ↓reduceIte, Nat.reduceEqDiff, reduceCtorEq, ↓cnd_true, ↓cnd_false]
  rw [rets_some]
  exact one_slice (by rw [hn]; omega) (by rw [new_obj, if_pos rfl]) (oldl_str _ _)

theorem U26 {H : AHeap} {p a : Nat} {g : Option Nat} {vw : AVal} {d : DS} (h : D H p a g vw d) (hw : d.w.length < 1000000) :
    ∃ H' vw', AC A 26 [.ptr p 0] H = some (.ptr H.next 0, H') ∧ D H' H.next (H.next + 1) (some 1) vw' d ∧ Keeps H H' ∧ (∀ j, j ∈ vw'.ids → H.next ≤ j) := by
  obtain ⟨q, eq⟩ : ∃ q, H.next = q := ⟨_, rfl⟩
  obtain ⟨K0, eK0⟩ : ∃ K, (H.new (.cells [.nils, .nils, .int .i64 0, .bool false, .int .i64 0] true)).set H.next (.cells (dcells a g vw d) true) = K := ⟨_, rfl⟩
  have k0 : Keeps H K0 := by rw [← eK0]; exact Keeps.set' (Nat.le_refl _) (Keeps.new' (Keeps.refl _))
  have n0 : K0.next = q + 1 := by rw [← eK0]; simp [set_next, new_next, eq]
  have oq0 : K0.obj q = some (.cells (dcells a g vw d) true) := by rw [← eK0, set_obj, if_pos eq.symm]
  have h0 := h.keeps k0
  have hne : d.s ≠ [] := by intro e; have := h.n1; rw [e] at this; simp at this
  have u49 := U49 (safe_sl (g := g) h0.oa) (by simp [AVal.ids]; exact h0.an) hne (by have := h.n2; omega)
  obtain ⟨K1, eK1⟩ : ∃ K, K0.new (.cells (d.s.map .str) true) = K := ⟨_, rfl⟩
  have k1 : Keeps K0 K1 := by rw [← eK1]; exact Keeps.new _ _
  have n1 : K1.next = q + 2 := by rw [← eK1, new_next, n0]
  have os1 : K1.obj (q + 1) = some (.cells (d.s.map .str) true) := by rw [← eK1, new_obj, if_pos n0.symm]
  have oq1 : K1.obj q = some (.cells (dcells a g vw d) true) := by rw [k1.2 q (by omega)]; exact oq0
  rw [eK1, n0] at u49
  have h1 := h0.keeps k1
  have hpq : p < q := by rw [← eq]; exact h.pn
  have fin : ∀ (K2 : AHeap) (vw' : AVal), Keeps K1 K2 → Ow K2 2 vw' (d.w.flatMap wc) → (∀ j, j ∈ vw'.ids → q + 2 ≤ j) →
      AC A 56 [vw] K1 = some (vw', K2) → (∃ H' vw', AC A 26 [.ptr p 0] H = some (.ptr q 0, H') ∧ D H' q (q + 1) (some 1) vw' d ∧ Keeps H H' ∧ (∀ j, j ∈ vw'.ids → q ≤ j)) := by
    intro K2 vw' k2 ow hj u56
    have n2 := k2.1
    have oq2 : K2.obj q = some (.cells (dcells a g vw d) true) := by rw [k2.2 q (by omega)]; exact oq1
    have os2 : K2.obj (q + 1) = some (.cells (d.s.map .str) true) := by rw [k2.2 _ (by omega)]; exact os1
    have kf : Keeps H (K2.set q (.cells (dcells (q + 1) (some 1) vw' d) true)) := Keeps.set' (by omega) ((k0.trans k1).trans k2)
    refine ⟨K2.set q (.cells (dcells (q + 1) (some 1) vw' d) true), vw', ?_, ?_, kf, fun j hj' => by have := hj j hj'; omega⟩
    · have op := h.op
      have op0 := h0.op
      have op1 := h1.op
      unfold dcells at eK0 oq2
      rw [eq] at eK0
      rw [s_fn (A := A) (f := 26) (x := DnFns.c26) rfl rfl rfl]
      rcases sl_shape' h.ow.sl with hv | ⟨_, _, _, _, _, hv⟩ <;> rcases sl_shape' ow.sl with hv' | ⟨_, _, _, _, _, hv'⟩ <;> subst hv hv'
      all_goals simp only [c26, dcells, eq, e_nilp0, op, op0, op1, eK0, u49, u56, oq2, oldne hpq, AHeap.set_set, rwA, rwB, Nat.reduceAdd, Nat.reduceMul, Nat.reduceLeDiff, Int.reduceEq, Int.reduceLT, Int.reduceLE, Int.reduceAdd, Int.reduceSub, Int.reduceMul, ↓reduceIte, Nat.reduceEqDiff, reduceCtorEq, ↓cnd_true, ↓cnd_false]
    · exact { op := by rw [set_obj, if_pos rfl]; rfl, oa := by rw [set_obj, if_neg (by omega)]; exact os2, ow := (Ow_set (by intro hx; have := hj _ hx; omega)).2 ow, pa := by omega, pw := by intro hx; have := hj _ hx; omega, aw := by intro hx; have := hj _ hx; omega, pn := by rw [set_next]; omega, an := by rw [set_next]; omega, gs := .inr rfl, n1 := h.n1, n2 := h.n2, hat := h.hat, a0 := h.a0, a1 := h.a1 }
  rw [eq]
  rcases h1.ow with ⟨hv, he⟩ | ⟨id, n, hv, hl, hid, ho, hn⟩
  · have hv0 := hv
    refine fin K1 .nils (Keeps.refl _) (by rw [he]; exact Ow.nil _ _) (by simp [AVal.ids]) ?_
    rw [hv]; exact U56n K1
  · have hw0 : d.w ≠ [] := by
      intro e; rw [e] at hl; simp at hl; omega
    have u := U56 h1.ow.sl (fun i hi => h1.ow.lt i hi) hw0 hw
    refine fin _ _ (Keeps.new _ _) ?_ ?_ u
    · have := Ow.made (K := K1) (es := 2) (n := d.w.length) (cs := d.w.flatMap wc) (List.length_pos_iff.2 hw0) (fm_len wc_len _)
      exact this
    · simp [AVal.ids, n1]

/-! ### A new one -/
theorem and32 (n : Nat) (h : n < 4294967296) : abin .and (.int .u64 (n : Int)) (.int .u64 4294967295) = some (.int .u64 (n : Int)) := by
  show aint .and .u64 (n : Int) 4294967295 = _
  have e : (BitVec.ofInt IntKind.u64.bits (n : Int) &&& BitVec.ofInt IntKind.u64.bits 4294967295).toNat = n := by
    show (BitVec.ofInt 64 (n : Int) &&& BitVec.ofInt 64 4294967295).toNat = n
    rw [BitVec.toNat_and, BitVec.ofInt_natCast, BitVec.toNat_ofNat]
    have : (BitVec.ofInt 64 4294967295).toNat = 2 ^ 32 - 1 := by decide
    rw [this, Nat.mod_eq_of_lt (by omega), Nat.and_two_pow_sub_one_eq_mod, Nat.mod_eq_of_lt (by omega)]
  show some (AVal.int .u64 (IntKind.u64.wrap _)) = _
  rw [e, Sd.wrap_u64 n (by omega)]
theorem shr32 (n : Nat) (h : n < 4294967296) : abin .shr (.int .u64 (n : Int)) (.int .u64 32) = some (.int .u64 0) := by
  show ashift .shr .u64 (n : Int) 32 = _
  have : (min (32 : Int).toNat IntKind.u64.bits) = 32 := rfl
  simp only [ashift]
  rw [if_neg (by decide), this]
  congr 2
  rw [Int.fdiv_eq_ediv_of_nonneg _ (by decide)]
  omega

theorem U81 (n : Nat) (hn : n < 4294967296) (H : AHeap) : AC A 81 [.int .u64 1, .int .u64 (n : Int)] H = some (.tuple [.int .u64 0, .int .u64 (n : Int)], H) := by
  refine one_val (x := DnFns.c81) rfl rfl rfl rfl rfl ?_ H
  have a1 := and32 1 (by decide)
  have s1 := shr32 1 (by decide)
  have a0 := and32 0 (by decide)
  have s0 := shr32 0 (by decide)
  have e1 : ((1 : Nat) : Int) = 1 := rfl
  have e0 : ((0 : Nat) : Int) = 0 := rfl
  rw [e1] at a1 s1
  rw [e0] at a0 s0
  have w : IntKind.u64.wrap (n : Int) = (n : Int) := Sd.wrap_u64 n (by omega)
  have w0 : IntKind.u64.wrap 0 = 0 := rfl
  simp only [c81, a1, s1, a0, s0, and32 n hn, shr32 n hn, w, w0, Int.one_mul, Int.zero_mul, Int.mul_zero, Int.mul_one, Int.add_zero, Int.zero_add, rwA, rwB, Nat.reduceAdd, Nat.reduceMul, Nat.reduceLeDiff, Int.reduceEq, Int.reduceLT, Int.reduceLE, Int.reduceAdd, Int.reduceSub, Int.reduceMul, ↓reduceIte, Nat.reduceEqDiff, reduceCtorEq, ↓cnd_true, ↓cnd_false]
theorem U65 (n : Nat) (hn : n < 4294967296) (H : AHeap) : AC A 65 [.int .u64 1, .int .u64 (n : Int)] H = some (.tuple [.int .u64 0, .int .u64 (n : Int)], H) := by
  refine one_val (x := DnFns.c65) rfl rfl rfl rfl rfl ?_ H
  simp only [c65, U81 n hn, rwA, rwB, Nat.reduceAdd, Nat.reduceMul, Nat.reduceLeDiff, Int.reduceEq, Int.reduceLT, Int.reduceLE, Int.reduceAdd, Int.reduceSub, Int.reduceMul, ↓reduceIte, Nat.reduceEqDiff, reduceCtorEq, ↓cnd_true, ↓cnd_false]

/-- The first m are x. -/
def upx (N : Nat) (x : List UInt8) (m : Nat) : List AVal := List.replicate m (.str x) ++ List.replicate (N - m) (.str [])
theorem upx_len {N : Nat} {x : List UInt8} {m : Nat} (h : m ≤ N) : (upx N x m).length = N := by simp [upx]; omega
theorem upx_set {N : Nat} {x : List UInt8} {m : Nat} (h : m < N) : (upx N x m).set m (.str x) = upx N x (m + 1) := by
  unfold upx
  rw [List.set_append_right _ _ (by simp), show N - m = (N - (m + 1)) + 1 by omega]
  simp only [List.length_replicate, Nat.sub_self, List.replicate_succ (n := N - (m + 1)), List.set_cons_zero]
  rw [List.replicate_succ']
  simp
theorem lput_upx {N : Nat} {x : List UInt8} : ∀ (k m : Nat), m + k ≤ N → lput (upx N x m) m (List.replicate k (.str x)) = upx N x (m + k)
  | 0, m, h => by simp [lput]
  | k + 1, m, h => by
    rw [List.replicate_succ]
    simp only [lput]
    rw [upx_set (by omega), lput_upx k (m + 1) (by omega)]
    congr 1; omega
theorem upx_take {N : Nat} {x : List UInt8} {m k : Nat} (h : k ≤ m) : ((upx N x m).drop 0).take k = List.replicate k (.str x) := by
  unfold upx
  rw [List.drop_zero, List.take_append_of_le_length (by simp; omega), List.take_replicate, Nat.min_eq_left h]

def b43 : ACode := (.seq (.seq (.region [⟨(some 34), (.mv (.tmp 8)), none, none⟩, ⟨(some 35), (.mv (.tmp 7)), none, none⟩, ⟨(some 36), (.len false (.tmp 35)), none, none⟩, ⟨(some 37), (.bin .lss (.tmp 34) (.tmp 36)), none, none⟩]) (.cond (.tmp 37) .skip (.exit 0))) (.block 1 (.draw [⟨(some 38), (.mv (.tmp 8)), none, none⟩, ⟨(some 39), (.mv (.tmp 7)), none, none⟩, ⟨(some 40), (.mv (.tmp 8)), none, none⟩, ⟨(some 41), (.slc 1 (.tmp 39) (some (.tmp 40)) none none), none, none⟩, ⟨(some 42), (.mv (.tmp 7)), none, none⟩, ⟨(some 43), (.mv (.tmp 8)), none, none⟩, ⟨(some 44), (.slc 1 (.tmp 42) none (some (.tmp 43)) none), none, none⟩, ⟨(some 45), (.copy 1 (.tmp 41) (.tmp 44)), none, none⟩, ⟨(some 46), (.bin .add (.tmp 38) (.tmp 45)), none, none⟩, ⟨(some 8), (.mv (.tmp 46)), none, none⟩])))
theorem loop43 {K : AHeap} {b N : Nat} {x : List UInt8} (hN : N < 1000000) {env : Env} (h7 : env 7 = .slice b 0 N N none) (h8 : env 8 = .int .i64 1) (hb : K.obj b = some (.cells (upx N x 1) true)) (h1 : 1 ≤ N) :
    Outs (AX A (.loop b43) env K) fun e env' K' => e = .exit 0 ∧ env' 7 = .slice b 0 N N none ∧ K'.obj b = some (.cells (upx N x N) true) := by
  refine loop_ends (I := fun (m : Nat) env' K' => 1 ≤ m ∧ m ≤ N ∧ env' 7 = .slice b 0 N N none ∧ env' 8 = .int .i64 (m : Int) ∧ K'.obj b = some (.cells (upx N x m) true)) (fun m => N - m) ?_ 1 env K ⟨Nat.le_refl _, h1, h7, h8, hb⟩
  rintro m env K ⟨h1, hm, h7, h8, hb⟩
  by_cases c : m < N
  · have c1 : decide ((m : Int) < (N : Int)) = true := by simp; omega
    have sl1 : aslc 1 (.slice b 0 N N none) (some (.int .i64 (m : Int))) none none = some (.slice b m (N - m) (N - m) none) := by
      simp only [aslc, abounds, abound, Option.isSome_none, Bool.false_eq_true, if_false, Option.bind_some]
      rw [if_pos ⟨by omega, by omega⟩]
      simp only [Option.bind_some, false_and, if_false]
      rw [if_neg (by omega)]
      simp
    have sl2 : aslc 1 (.slice b 0 N N none) none (some (.int .i64 (m : Int))) none = some (.slice b 0 m N none) := by
      simp only [aslc, abounds, abound, Option.isSome_none, Bool.false_eq_true, if_false, Option.bind_some]
      rw [if_pos ⟨by omega, by omega⟩]
      simp
    obtain ⟨k, ek⟩ : ∃ k, Nat.min m (N - m) = k := ⟨_, rfl⟩
    have ek' : min m (N - m) = k := ek
    have hk : k ≤ m ∧ k ≤ N - m ∧ 0 < k := by omega
    have cp : acopy K 1 (.slice b m (N - m) (N - m) none) (.slice b 0 m N none) = some (.int .i64 (k : Int), K.set b (.cells (upx N x (m + k)) true)) := by
      have hl := upx_len (x := x) hm
      have ac : acells K 1 k (.slice b 0 m N none) = some (List.replicate k (.str x)) := by
        simp only [acells]
        rw [if_neg (by omega), hb]
        simp only
        rw [if_pos ⟨by omega, by omega⟩, Nat.mul_one, upx_take hk.1]
      simp only [acopy, alen, Option.bind_some, ek, ac, hb]
      rw [if_neg (by omega), if_pos (by omega), lput_upx k m (by omega)]
    have w1 : IntKind.i64.wrap ((m : Int) + (k : Int)) = ((m + k : Nat) : Int) := by rw [wrap_i64]; omega
    simp only [b43, h7, h8, c1, sl1, sl2, cp, w1, rwA, rwB, Nat.reduceAdd, Nat.reduceMul, Nat.reduceLeDiff, Int.reduceEq, Int.reduceLT, Int.reduceLE, Int.reduceAdd, Int.reduceSub, Int.reduceMul, ↓reduceIte, Nat.reduceEqDiff, reduceCtorEq, ↓cnd_true, ↓cnd_false]
    rw [outs_some]
    exact .inl ⟨rfl, m + k, by omega, by omega, by omega, by simp [Env.set, h7], by simp [Env.set], by rw [set_obj, if_pos rfl]⟩
  · have e : m = N := by omega
    subst e
    have c1 : decide ((m : Int) < (m : Int)) = false := by simp
    simp only [b43, h7, h8, c1, rwA, rwB, Nat.reduceAdd, Nat.reduceMul, Nat.reduceLeDiff, Int.reduceEq, Int.reduceLT, Int.reduceLE, Int.reduceAdd, Int.reduceSub, Int.reduceMul, ↓reduceIte, Nat.reduceEqDiff, reduceCtorEq, ↓cnd_true, ↓cnd_false]
    rw [outs_some]
    exact .inr ⟨by simp, rfl, by simp [Env.set, h7], hb⟩

theorem upx_all (N : Nat) (x : List UInt8) : upx N x N = (List.replicate N x).map .str := by simp [upx]
theorem arep_str (n : Nat) : arep [AVal.str []] n = List.replicate n (.str []) := by
  induction n with
  | zero => rfl
  | succ n ih => rw [arep, ih, List.replicate_succ]; rfl

theorem U43 {H : AHeap} {b : Nat} {x : List UInt8} {N : Nat} (hb : H.obj b = some (.cells [.str x] true)) (hbn : b < H.next) (h1 : 1 ≤ N) (hN : N < 1000000) :
    AC A 43 [.slice b 0 1 1 none, .int .i64 (N : Int)] H = some (.slice H.next 0 N N none, H.new (.cells ((List.replicate N x).map .str) true)) := by
  refine look_new (x := DnFns.c43) rfl rfl rfl ?_
  have ho := frz_obj hb
  have hn : (frz H).next = H.next := rfl
  have c1 : decide ((N : Int) < 0) = false := by simp
  have w1 : IntKind.u64.wrap (N : Int) = (N : Int) := Sd.wrap_u64 N (by omega)
  have w2 : IntKind.i64.wrap (N : Int) = (N : Int) := by rw [wrap_i64]; omega
  have w3 : IntKind.u64.wrap ((1 : Nat) : Int) = 1 := rfl
  have c2 : decide ((9223372036854775807 : Int) < (N : Int)) = false := by simp; omega
  have mk : amkS (frz H) 1 16 [.str []] (.int .i64 (N : Int)) (.int .i64 (N : Int)) = some (.slice (frz H).next 0 N N none, (frz H).new (.cells (List.replicate N (.str [])) true)) := by
    simp only [amkS]
    rw [if_pos ⟨by omega, by omega, by omega, by omega, rfl⟩, Int.toNat_natCast, arep_str]
  have cp : acopy ((frz H).new (.cells (List.replicate N (.str [])) true)) 1 (.slice (frz H).next 0 N N none) (.slice b 0 1 1 none) = some (.int .i64 1, ((frz H).new (.cells (List.replicate N (.str [])) true)).set (frz H).next (.cells (upx N x 1) true)) := by
    have hm : Nat.min 1 N = 1 := by show min 1 N = 1; omega
    have ac : acells ((frz H).new (.cells (List.replicate N (.str [])) true)) 1 1 (.slice b 0 1 1 none) = some [.str x] := by
      simp only [acells]
      rw [if_neg (by omega), new_obj, if_neg (by rw [hn]; omega), ho]
      simp
    have hx : lput (List.replicate N (AVal.str [])) 0 [.str x] = upx N x 1 := by
      have := lput_upx (N := N) (x := x) 1 0 (by omega)
      simpa [upx] using this
    simp only [acopy, alen, Option.bind_some, hm, ac]
    rw [if_neg (by omega), new_obj, if_pos rfl]
    simp only
    rw [if_pos (by simp; omega), hx]
    rfl
  obtain ⟨K, eK⟩ : ∃ K, ((frz H).new (.cells (List.replicate N (.str [])) true)).set (frz H).next (.cells (upx N x 1) true) = K := ⟨_, rfl⟩
  have oK : K.obj H.next = some (.cells (upx N x 1) true) := by rw [← eK, set_obj, if_pos hn.symm]
  rw [eK, hn] at cp
  rw [hn] at mk
  have c0 : decide ((0 : Int) < 0) = false := by decide
  simp only [c43, c1, w1, w2, w3, c2, c0, U65 N (by omega), mk, cp, rwA, rwB, Nat.reduceAdd, Nat.reduceMul, Nat.reduceLeDiff, Int.reduceEq, Int.reduceLT, Int.reduceLE, Int.reduceAdd, Int.reduceSub, Int.reduceMul, ↓reduceIte, Nat.reduceEqDiff, reduceCtorEq, ↓cnd_true, ↓cnd_false]
  repeat (first | refine outs_seq ?_ | refine outs_block ?_ | refine outs_step ?_ | refine outs_stepD ?_ | refine rets_end ?_ | refine ans_end ?_)
  refine (loop43 (b := H.next) (N := N) (x := x) hN ?_ ?_ oK h1).mono ?_
  · simp [Env.set]
  · simp [Env.set]
  rintro e env K' ⟨rfl, h7, ho'⟩
  simp only [outs_some, h7, rwA, rwB, Nat.reduceAdd, Nat.reduceMul, Nat.reduceLeDiff, Int.reduceEq, Int.reduceLT, Int.reduceLE, Int.reduceAdd, Int.reduceSub, Int.reduceMul, ↓reduceIte, Nat.reduceEqDiff, reduceCtorEq, ↓cnd_true, ↓cnd_false]
  rw [rets_some]
  rw [upx_all] at ho'
  exact one_slice (Nat.le_refl _) ho' (oldl_str _ _)

theorem U10x {n : Int} (h : ¬ (1 ≤ n ∧ n ≤ 4865)) (H : AHeap) : AC A 10 [.int .i64 n] H = some (.tuple [.nilp, .int .i64 18], H) := by
  rw [s_fn (A := A) (f := 10) (x := DnFns.c10) rfl rfl rfl]
  cases c : decide (n < 1)
  · have c2 : decide (4865 < n) = true := by simp at c; simp; omega
    simp only [c10, c, c2, rwA, rwB, Nat.reduceAdd, Nat.reduceMul, Nat.reduceLeDiff, Int.reduceEq, Int.reduceLT, Int.reduceLE, Int.reduceAdd, Int.reduceSub, Int.reduceMul, ↓reduceIte, Nat.reduceEqDiff, reduceCtorEq, ↓cnd_true, ↓cnd_false]
  · simp only [c10, c, rwA, rwB, Nat.reduceAdd, Nat.reduceMul, Nat.reduceLeDiff, Int.reduceEq, Int.reduceLT, Int.reduceLE, Int.reduceAdd, Int.reduceSub, Int.reduceMul, ↓reduceIte, Nat.reduceEqDiff, reduceCtorEq, ↓cnd_true, ↓cnd_false]
def fresh (n : Nat) : DS := ⟨List.replicate n (noughts 512), [], 0, false, 0⟩
theorem U10 {n : Nat} (h1 : 1 ≤ n) (h2 : n ≤ 4865) (H : AHeap) : ∃ H', AC A 10 [.int .i64 (n : Int)] H = some (.tuple [.ptr (H.next + 2) 0, .int .i64 0], H') ∧ D H' (H.next + 2) (H.next + 1) none .nils (fresh n) ∧ Keeps H H' := by
  have c : decide ((n : Int) < 1) = false := by simp; omega
  have c2 : decide (4865 < (n : Int)) = false := by simp; omega
  have u := U43 (H := H.new (.cells [.str (noughts 512)] true)) (b := H.next) (x := noughts 512) (N := n) (by rw [new_obj, if_pos rfl]) (by rw [new_next]; omega) h1 (by omega)
  rw [new_next] at u
  refine ⟨((H.new (.cells [.str (noughts 512)] true)).new (.cells ((List.replicate n (noughts 512)).map .str) true)).new (.cells (dcells (H.next + 1) none .nils (fresh n)) true), ?_, ?_, Keeps.new' (Keeps.new' (Keeps.new' (Keeps.refl _)))⟩
  · have e : (fresh n).s.length = n := by simp [fresh]
    rw [s_fn (A := A) (f := 10) (x := DnFns.c10) rfl rfl rfl]
    simp only [c10, c, c2, U44, u, dcells, e, rwA, rwB, Nat.reduceAdd, Nat.reduceMul, Nat.reduceLeDiff, Int.reduceEq, Int.reduceLT, Int.reduceLE, Int.reduceAdd, Int.reduceSub, Int.reduceMul, ↓reduceIte, Nat.reduceEqDiff, reduceCtorEq, ↓cnd_true, ↓cnd_false]
    rfl
  · exact { op := by rw [new_obj, if_pos (by simp [new_next])]; rfl, oa := by rw [new_obj, if_neg (by simp [new_next]), new_obj, if_pos (by simp [new_next])]; rfl, ow := Ow.nil _ _, pa := by omega, pw := by simp [AVal.ids], aw := by simp [AVal.ids], pn := by simp [new_next], an := by simp [new_next], gs := .inl rfl, n1 := by simp [fresh]; omega, n2 := by simp [fresh]; omega, hat := by intro x hx; simp [fresh] at hx, a0 := Int.le_refl _, a1 := by show (0 : Int) ≤ _; decide }

end Go.Proofs.Ytilhjcnkaelheaa.Dk
