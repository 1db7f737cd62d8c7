/- HistoryTells: At, a range over slices.Backward. -/
import Derived.Test.YtfpbmoiconopcaaGhW
import Derived.Test.YtfpbmoiconopcaaAmRng
set_option maxRecDepth 100000
set_option linter.unusedSimpArgs false
set_option linter.unusedVariables false
set_option maxHeartbeats 4000000
namespace Go.Proofs.Ytfpbmoiconopcaa.Gh
open Go Go.Proofs.Ytfpbmoiconopcaa.Am GaFns Go.RowKit

section
variable {call : ACall} {tok : Nat} {yl : AYield}
theorem y_mv (x : AOpd) (ρ : AOpd → AVal) (st : APend) (H : AHeap) : ady call tok yl (.mv x) ρ st H = liftY st (ado call (.mv x) ρ H) := y_plain _ rfl ρ st H
theorem y_load (g : Bool) (n : Nat) (x : AOpd) (ρ : AOpd → AVal) (st : APend) (H : AHeap) : ady call tok yl (.load g n x) ρ st H = liftY st (ado call (.load g n x) ρ H) := y_plain _ rfl ρ st H
theorem y_len (g : Bool) (x : AOpd) (ρ : AOpd → AVal) (st : APend) (H : AHeap) : ady call tok yl (.len g x) ρ st H = liftY st (ado call (.len g x) ρ H) := y_plain _ rfl ρ st H
theorem y_bin (o : BinOp) (x y : AOpd) (ρ : AOpd → AVal) (st : APend) (H : AHeap) : ady call tok yl (.bin o x y) ρ st H = liftY st (ado call (.bin o x y) ρ H) := y_plain _ rfl ρ st H
theorem y_idxASl (n : Nat) (x y : AOpd) (ρ : AOpd → AVal) (st : APend) (H : AHeap) : ady call tok yl (.idxASl n x y) ρ st H = liftY st (ado call (.idxASl n x y) ρ H) := y_plain _ rfl ρ st H
theorem y_un (o : UnOp) (x : AOpd) (ρ : AOpd → AVal) (st : APend) (H : AHeap) : ady call tok yl (.un o x) ρ st H = liftY st (ado call (.un o x) ρ H) := y_plain _ rfl ρ st H
end

theorem U72 {s : AVal} (hsc : s = .nils ∨ ∃ a b c d e, s = .slice a b c d e) (H : AHeap) : AC A 72 [s] H = some (.func 91 [] [.ptr H.next 0], H.new (.cells [s] true)) := by
  rw [s_fn (A := A) (f := 72) (x := GaFns.c72) rfl rfl rfl]
  rcases hsc with rfl | ⟨_, _, _, _, _, rfl⟩ <;> simp only [c72, rwA, rwB, Nat.reduceAdd, Nat.reduceMul, Nat.reduceLeDiff, Int.reduceEq, Int.reduceLT, Int.reduceLE, Int.reduceAdd, Int.reduceSub, Int.reduceMul, ↓reduceIte, Nat.reduceEqDiff, reduceCtorEq, ↓cnd_true, ↓cnd_false]

def b91 : ACode := (.seq (.seq (.region [⟨(some 7), (.mv (.tmp 3)), none, none⟩, ⟨(some 8), (.bin .geq (.tmp 7) (.con (.int .i64 0))), none, none⟩]) (.cond (.tmp 8) .skip (.exit 0))) (.seq (.block 1 (.seq (.region [⟨(some 11), (.mv (.tmp 0)), none, none⟩, ⟨(some 12), (.mv (.tmp 3)), none, none⟩, ⟨(some 13), (.load false 1 (.tmp 1)), none, none⟩, ⟨(some 14), (.mv (.tmp 3)), none, none⟩, ⟨(some 15), (.idxASl 2 (.tmp 13) (.tmp 14)), none, none⟩, ⟨(some 16), (.load true 2 (.tmp 15)), none, none⟩, ⟨(some 17), (.call (.tmp 11) [(.tmp 12), (.tmp 16)]), none, none⟩, ⟨(some 18), (.un .not (.tmp 17)), none, none⟩]) (.cond (.tmp 18) .ret .skip))) (.region [⟨(some 9), (.mv (.tmp 3)), none, none⟩, ⟨(some 10), (.bin .sub (.tmp 9) (.con (.int .i64 1))), none, none⟩, ⟨(some 3), (.mv (.tmp 10)), none, none⟩])))
def as38 : ACode := .region [⟨(some 7), (.new [(.int .i64 0), (.int .i64 0)]), none, none⟩, ⟨none, (.store 2 (.tmp 7) (.tmp 15)), none, none⟩]
def bd38 : ACode := .block 1 (.seq (.region [⟨(some 16), (.fieldA 0 (.tmp 7)), none, none⟩, ⟨(some 17), (.load false 1 (.tmp 16)), none, none⟩, ⟨(some 18), (.load false 1 (.tmp 3)), none, none⟩, ⟨(some 19), (.bin .leq (.tmp 17) (.tmp 18)), none, none⟩]) (.cond (.tmp 19) (.seq (.region [⟨(some 20), (.fieldA 1 (.tmp 7)), none, none⟩, ⟨(some 21), (.load false 1 (.tmp 20)), none, none⟩, ⟨none, (.store 1 (.tmp 4) (.tmp 21)), none, none⟩, ⟨none, (.store 1 (.tmp 5) (.con (.bool true))), none, none⟩]) .ret) .skip))

/-- One round of At's body. -/
theorem yield38 {K H : AHeap} {env : Env} {q : Nat} {tk x y i : Int} {a b : AVal} (hk : Keeps K H) (hq : q + 3 < K.next) (h3 : env 3 = .ptr (q + 1) 0) (h4 : env 4 = .ptr (q + 2) 0) (h5 : env 5 = .ptr (q + 3) 0)
    (o3 : K.obj (q + 1) = some (.cells [.int .i64 tk] true)) (o4 : K.obj (q + 2) = some (.cells [a] true)) (o5 : K.obj (q + 3) = some (.cells [b] true)) :
    ∃ H', ((x ≤ tk → ayield (AX A as38) (AX A bd38) [14, 15] env none [.int .i64 i, .agg [.int .i64 x, .int .i64 y]] H = some (false, some .ret, H') ∧ H'.obj (q + 2) = some (.cells [.int .i64 y] true) ∧ H'.obj (q + 3) = some (.cells [.bool true] true)) ∧
      (¬ x ≤ tk → ayield (AX A as38) (AX A bd38) [14, 15] env none [.int .i64 i, .agg [.int .i64 x, .int .i64 y]] H = some (true, none, H') ∧ Keeps K H')) := by
  have hn := hk.1
  have o3' : H.obj (q + 1) = some (.cells [.int .i64 tk] true) := by rw [hk.2 _ (by omega)]; exact o3
  have o4' : H.obj (q + 2) = some (.cells [a] true) := by rw [hk.2 _ (by omega)]; exact o4
  have o5' : H.obj (q + 3) = some (.cells [b] true) := by rw [hk.2 _ (by omega)]; exact o5
  obtain ⟨H1, eH1⟩ : ∃ X, (H.new (.cells [.int .i64 0, .int .i64 0] true)).set H.next (.cells [.int .i64 x, .int .i64 y] true) = X := ⟨_, rfl⟩
  have oH1 : H1.obj H.next = some (.cells [.int .i64 x, .int .i64 y] true) := by rw [← eH1]; simp [AHeap.set]
  have kH1 : Keeps H H1 := ⟨by rw [← eH1]; simp [set_next, new_next], fun i hi => by rw [← eH1]; simp only [set_obj, new_obj]; rw [if_neg (by omega), if_neg (by omega)]⟩
  have p3 : H1.obj (q + 1) = some (.cells [.int .i64 tk] true) := by rw [kH1.2 _ (by omega)]; exact o3'
  have p4 : H1.obj (q + 2) = some (.cells [a] true) := by rw [kH1.2 _ (by omega)]; exact o4'
  have p5 : H1.obj (q + 3) = some (.cells [b] true) := by rw [kH1.2 _ (by omega)]; exact o5'
  have n32 : (q + 3 = q + 2) = False := by simp
  have n23 : (q + 2 = q + 3) = False := by simp
  by_cases c : x ≤ tk
  · refine ⟨(H1.set (q + 2) (.cells [.int .i64 y] true)).set (q + 3) (.cells [.bool true] true), fun _ => ⟨?_, by simp [AHeap.set], by simp [AHeap.set]⟩, fun h => absurd c h⟩
    rw [r_yield _ _ _ _ _ _ rfl]
    simp only [as38, bd38, r_ps, r_ps0, h3, h4, h5, eH1, oH1, p3, p4, p5, n32, n23, c, decide_true, if_false, r_round, r_normal, r_ret, rwA, rwB, Nat.reduceAdd, Nat.reduceMul, Nat.reduceLeDiff, Int.reduceEq, Int.reduceLT, Int.reduceLE, Int.reduceAdd, Int.reduceSub, Int.reduceMul, ↓reduceIte, Nat.reduceEqDiff, reduceCtorEq, ↓cnd_true, ↓cnd_false]
  · refine ⟨H1, fun h => absurd h c, fun _ => ⟨?_, hk.trans kH1⟩⟩
    rw [r_yield _ _ _ _ _ _ rfl]
    simp only [as38, bd38, r_ps, r_ps0, h3, h4, h5, eH1, oH1, p3, p4, p5, n32, n23, c, decide_false, if_false, r_round, r_normal, r_ret, rwA, rwB, Nat.reduceAdd, Nat.reduceMul, Nat.reduceLeDiff, Int.reduceEq, Int.reduceLT, Int.reduceLE, Int.reduceAdd, Int.reduceSub, Int.reduceMul, ↓reduceIte, Nat.reduceEqDiff, reduceCtorEq, ↓cnd_true, ↓cnd_false]

/-- From the last one to the first. -/
theorem back38 {K : AHeap} {env : Env} {q c tok : Nat} {tk : Int} {a b s : AVal} {ps : List (Int × Int)} (hs : Sl K 2 s (PS ps)) (hid : ∀ i, i ∈ s.ids → i < K.next) (hl : ps.length < 9223372036854775807)
    (oc : K.obj c = some (.cells [s] true)) (hc : c < K.next) (hq : q + 3 < K.next) (h3 : env 3 = .ptr (q + 1) 0) (h4 : env 4 = .ptr (q + 2) 0) (h5 : env 5 = .ptr (q + 3) 0)
    (o3 : K.obj (q + 1) = some (.cells [.int .i64 tk] true)) (o4 : K.obj (q + 2) = some (.cells [a] true)) (o5 : K.obj (q + 3) = some (.cells [b] true)) {env0 : Env} (e0 : env0 0 = .yield tok) (e1 : env0 1 = .ptr c 0) (e3 : env0 3 = .int .i64 ((ps.length : Int) - 1)) :
    OutsY (AXY A tok (ayield (AX A as38) (AX A bd38) [14, 15] env) (.loop b91) none env0 K) fun e st _ H' =>
      (e = .exit 0 ∧ st = none ∧ Keeps K H' ∧ atN ps tk ps.length = (0, false)) ∨ (e = .ret ∧ st = some .ret ∧ ∃ y, H'.obj (q + 2) = some (.cells [.int .i64 y] true) ∧ H'.obj (q + 3) = some (.cells [.bool true] true) ∧ atN ps tk ps.length = (y, true)) := by
  refine loopY_ends (I := fun (i : Nat) st env1 H' => st = none ∧ i ≤ ps.length ∧ Keeps K H' ∧ env1 0 = .yield tok ∧ env1 1 = .ptr c 0 ∧ env1 3 = .int .i64 ((i : Int) - 1) ∧ atN ps tk ps.length = atN ps tk i) (fun i => i) ?_ ps.length none env0 K ⟨rfl, Nat.le_refl _, Keeps.refl _, e0, e1, e3, rfl⟩
  rintro i st env1 H' ⟨rfl, hi, hk, e0, e1, e3, hE⟩
  cases i with
  | zero =>
    have d0 : decide ((0 : Int) ≤ -1) = false := by decide
    have e3 : env1 3 = .int .i64 (-1) := e3
    simp only [b91, y_seq, y_region, y_op, y_mv, y_load, y_len, y_bin, y_idxASl, y_un, e3, d0, y_lift, y_stepO, y_nil, y_out, y_normal, y_cond, y_bool, y_exits, AXY_exit, rwA, rwB, Nat.reduceAdd, Nat.reduceMul, Nat.reduceLeDiff, Int.reduceEq, Int.reduceLT, Int.reduceLE, Int.reduceAdd, Int.reduceSub, Int.reduceMul, ↓reduceIte, Nat.reduceEqDiff, reduceCtorEq, ↓cnd_true, ↓cnd_false]
    exact ⟨_, _, _, _, rfl, .inr ⟨by simp, .inl ⟨rfl, rfl, hk, hE⟩⟩⟩
  | succ i =>
    have hlt : i < ps.length := by omega
    have hsK := hs.keep hid hk
    obtain ⟨id, off, cap, g, l, own, et, ho, hkk, hall⟩ := pts_at hsK (by omega)
    have d0 : decide ((0 : Int) ≤ (i : Int)) = true := decide_eq_true (by omega)
    have ei : ((i + 1 : Nat) : Int) - 1 = (i : Int) := by omega
    have w1 : IntKind.i64.wrap ((i : Int) - 1) = (i : Int) - 1 := by rw [wrap_i64]; omega
    have ha : aidx ps.length (.int .i64 (i : Int)) = some i := by simp [aidx]; omega
    obtain ⟨g1, _, _⟩ := hall i hlt
    have ej := at0_get hlt
    obtain ⟨⟨x, y⟩, exy⟩ : ∃ q, ps[i] = q := ⟨_, rfl⟩
    rw [exy] at g1 ej
    have oc' : H'.obj c = some (.cells [s] true) := by rw [hk.2 c hc]; exact oc
    obtain ⟨H2, hT, hF⟩ := yield38 (x := x) (y := y) (i := i) hk hq h3 h4 h5 o3 o4 o5
    rw [ei] at e3
    subst et
    by_cases cx : x ≤ tk
    · obtain ⟨hy, r4, r5⟩ := hT cx
      simp only [b91, y_seq, y_region, y_op, y_mv, y_load, y_len, y_bin, y_idxASl, y_un, y_call, e0, e1, e3, oc', d0, ha, ho, g1, hy, y_lift, y_stepO, y_nil, y_out, y_normal, y_cond, y_bool, y_exits, y_block, y_bret, y_yield, y_yX, AXY_exit, AXY_skip, AXY_ret, y_rets, Bool.not_false, Bool.not_true, rwA, rwB, Nat.reduceAdd, Nat.reduceMul, Nat.reduceLeDiff, Int.reduceEq, Int.reduceLT, Int.reduceLE, Int.reduceAdd, Int.reduceSub, Int.reduceMul, ↓reduceIte, Nat.reduceEqDiff, reduceCtorEq, ↓cnd_true, ↓cnd_false]
      exact ⟨_, _, _, _, rfl, .inr ⟨by simp, .inr ⟨rfl, rfl, y, r4, r5, by rw [hE]; simp [atN, ej, cx]⟩⟩⟩
    · obtain ⟨hy, kH⟩ := hF cx
      simp only [b91, y_seq, y_region, y_op, y_mv, y_load, y_len, y_bin, y_idxASl, y_un, y_call, e0, e1, e3, oc', d0, ha, ho, g1, hy, w1, y_lift, y_stepO, y_nil, y_out, y_normal, y_cond, y_bool, y_exits, y_block, y_bret, y_bnormal, y_yield, y_yX, AXY_exit, AXY_skip, AXY_ret, y_rets, Bool.not_false, Bool.not_true, rwA, rwB, Nat.reduceAdd, Nat.reduceMul, Nat.reduceLeDiff, Int.reduceEq, Int.reduceLT, Int.reduceLE, Int.reduceAdd, Int.reduceSub, Int.reduceMul, ↓reduceIte, Nat.reduceEqDiff, reduceCtorEq, ↓cnd_true, ↓cnd_false]
      exact ⟨_, _, _, _, rfl, .inl ⟨rfl, i, by omega, rfl, by omega, kH, by simp [Env.set, e0], by simp [Env.set, e1], by simp [Env.set], by rw [hE]; simp [atN, ej, cx]⟩⟩

end Go.Proofs.Ytfpbmoiconopcaa.Gh
