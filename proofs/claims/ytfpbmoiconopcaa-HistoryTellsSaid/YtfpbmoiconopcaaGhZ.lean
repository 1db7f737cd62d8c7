/- HistoryTells: At's contract. -/
import Derived.Test.YtfpbmoiconopcaaGhY
set_option maxRecDepth 100000
set_option linter.unusedSimpArgs false
set_option linter.unusedVariables false
set_option maxHeartbeats 4000000
namespace Go.Proofs.Ytfpbmoiconopcaa.Gh
open Go Go.Proofs.Ytfpbmoiconopcaa.Am GaFns Go.RowKit

theorem outs_range {f : AOpd} {ps : List Nat} {ac bd : ACode} {env : Env} {H : AHeap} {g : FuncId} {first captured : List AVal} {fn : AFn} {Q : AExit → Env → AHeap → Prop} (hf : aev env f = .func g first captured) (hfn : A.fn g = some fn) (hres : fn.results = [])
    (h : OutsY (AXY A H.next (ayield (AX A ac) (AX A bd) ps env) fn.body none (ainit (first ++ [.yield H.next] ++ captured)) H.skip) fun e st _ H1 => (∀ id, e ≠ .exit id) ∧ Q (st.getD .normal) env H1) :
    Outs (AX A (.range f ps ac bd) env H) Q := by
  obtain ⟨st, H1, h1, h2⟩ := s_range (Q := fun st H1 => Q (st.getD .normal) env H1) hf hfn hres h
  exact ⟨_, _, _, h1, h2⟩
theorem outs_gen {c : ACode} {env : Env} {H : AHeap} {Q : AExit → Env → AHeap → Prop} (P : Env → Prop) (hp : P env) (h : ∀ env, P env → Outs (AX A c env H) Q) : Outs (AX A c env H) Q := h env hp

theorem outsY_gen {tok id : Nat} {yl : AYield} {b : ACode} {env : Env} {H : AHeap} {Q : AExit → APend → Env → AHeap → Prop} (P : Env → Prop) (hp : P env) (h : ∀ env, P env → OutsY (blockY id (AXY A tok yl b none env H)) Q) : OutsY (blockY id (AXY A tok yl b none env H)) Q := h env hp

theorem range38 {K : AHeap} {env : Env} {q : Nat} {tk : Int} {a b s : AVal} {ps : List (Int × Int)} (hs : Sl K 2 s (PS ps)) (hid : ∀ i, i ∈ s.ids → i < K.next) (hl : ps.length < 9223372036854775807)
    (oc : K.obj (q + 4) = some (.cells [s] true)) (hq : q + 5 = K.next) (h13 : env 13 = .func 91 [] [.ptr (q + 4) 0]) (h3 : env 3 = .ptr (q + 1) 0) (h4 : env 4 = .ptr (q + 2) 0) (h5 : env 5 = .ptr (q + 3) 0)
    (o3 : K.obj (q + 1) = some (.cells [.int .i64 tk] true)) (o4 : K.obj (q + 2) = some (.cells [a] true)) (o5 : K.obj (q + 3) = some (.cells [b] true)) :
    Outs (AX A (.range (.tmp 13) [14, 15] as38 bd38) env K) fun e env' H' => env' = env ∧
      ((e = .normal ∧ H'.obj (q + 2) = some (.cells [a] true) ∧ H'.obj (q + 3) = some (.cells [b] true) ∧ atN ps tk ps.length = (0, false)) ∨ (e = .ret ∧ ∃ y, H'.obj (q + 2) = some (.cells [.int .i64 y] true) ∧ H'.obj (q + 3) = some (.cells [.bool true] true) ∧ atN ps tk ps.length = (y, true))) := by
  refine outs_range (g := 91) (first := []) (captured := [.ptr (q + 4) 0]) (fn := GaFns.c91) h13 rfl rfl ?_
  have kS : Keeps K K.skip := ⟨by simp [AHeap.skip], fun _ _ => rfl⟩
  have hsS := hs.keep hid kS
  have oc' : K.skip.obj (q + 4) = some (.cells [s] true) := oc
  have hlen := PS_alen hs
  have w1 : IntKind.i64.wrap ((ps.length : Int) - 1) = (ps.length : Int) - 1 := by rw [wrap_i64]; omega
  have nS : K.skip.next = q + 6 := by simp [AHeap.skip]; omega
  have key : ∀ env0 : Env, env0 0 = .yield K.next → env0 1 = .ptr (q + 4) 0 → env0 3 = .int .i64 ((ps.length : Int) - 1) → _ := fun env0 => back38 (K := K.skip) (env := env) (tok := K.next) (env0 := env0) hsS (fun i hi => by have := hid i hi; omega) hl oc' (by omega) (by omega) h3 h4 h5 o3 o4 o5
  have i0 : ainit ([] ++ [AVal.yield K.next] ++ [.ptr (q + 4) 0]) 0 = .yield K.next := rfl
  have i1 : ainit ([] ++ [AVal.yield K.next] ++ [.ptr (q + 4) 0]) 1 = .ptr (q + 4) 0 := rfl
  rcases sl_shape hs with rfl | ⟨_, _, _, _, _, rfl⟩
  all_goals
    simp only [c91, y_seq, y_region, y_op, y_mv, y_load, y_len, y_bin, i0, i1, oc', hlen, w1, y_lift, y_stepO, y_nil, y_out, y_normal, y_block, rwA, rwB, Nat.reduceAdd, Nat.reduceMul, Nat.reduceLeDiff, Int.reduceEq, Int.reduceLT, Int.reduceLE, Int.reduceAdd, Int.reduceSub, Int.reduceMul, ↓reduceIte, Nat.reduceEqDiff, reduceCtorEq, ↓cnd_true, ↓cnd_false]
    refine outsY_gen (fun e0 => e0 0 = .yield K.next ∧ e0 1 = .ptr (q + 4) 0 ∧ e0 3 = .int .i64 ((ps.length : Int) - 1)) ⟨by simp [Env.set, ainit], by simp [Env.set, ainit], by simp [Env.set]⟩ ?_
    rintro env0 ⟨a0, a1, a3⟩
    obtain ⟨e, st, env', H', hx, hc⟩ := key env0 a0 a1 a3
    rcases hc with ⟨rfl, rfl, hk, hE⟩ | ⟨rfl, rfl, y, r4, r5, hE⟩
    · refine ⟨_, _, _, _, (congrArg (blockY 0) hx).trans (by rw [y_bexit, if_pos rfl]), by simp, ?_⟩
      exact ⟨trivial, .inl ⟨rfl, by rw [hk.2 _ (by omega)]; exact o4, by rw [hk.2 _ (by omega)]; exact o5, hE⟩⟩
    · refine ⟨_, _, _, _, (congrArg (blockY 0) hx).trans (by rw [y_bret]), by simp, ?_⟩
      exact ⟨trivial, .inr ⟨rfl, y, r4, r5, hE⟩⟩

theorem U38 {H : AHeap} {r : Int} {s : AVal} {ps : List (Int × Int)} (hs : Sl H 2 s (PS ps)) (hid : ∀ i, i ∈ s.ids → i < H.next) (hl : ps.length < 9223372036854775807) (tk : Int) :
    AC A 38 [.agg [.int .i64 r, s], .int .i64 tk] H = some (.tuple [.int .i64 (atH r ps tk).1, .bool (atH r ps tk).2], H) := by
  refine look_val (x := GaFns.c38) rfl rfl rfl rfl ?_
  have hsf := hs.frz
  have hn : (frz H).next = H.next := rfl
  obtain ⟨q, eq⟩ : ∃ q, H.next = q := ⟨_, rfl⟩
  rw [eq] at hn
  obtain ⟨K, eK⟩ : ∃ K, ((((frz H).new (.cells [.int .i64 r, s] true)).new (.cells [.int .i64 tk] true)).new (.cells [.int .i64 0] true)).new (.cells [.bool false] true) = K := ⟨_, rfl⟩
  have kK : Keeps (frz H) K := by rw [← eK]; exact (((Keeps.new _ _).trans (Keeps.new _ _)).trans (Keeps.new _ _)).trans (Keeps.new _ _)
  have nK : K.next = q + 4 := by rw [← eK]; simp [new_next, hn]
  have hsK := hsf.keep hid kK
  have hidK : ∀ i, i ∈ s.ids → i < K.next := fun i hi => by have := hid i hi; omega
  have o2 : K.obj q = some (.cells [.int .i64 r, s] true) := by rw [← eK]; simp only [new_obj, new_next, hn]; repeat (first | rw [if_pos trivial] | rw [if_pos (by omega)] | rw [if_neg (by omega)])
  have o3 : K.obj (q + 1) = some (.cells [.int .i64 tk] true) := by rw [← eK]; simp only [new_obj, new_next, hn]; repeat (first | rw [if_pos trivial] | rw [if_pos (by omega)] | rw [if_neg (by omega)])
  have o4 : K.obj (q + 2) = some (.cells [.int .i64 0] true) := by rw [← eK]; simp only [new_obj, new_next, hn]; repeat (first | rw [if_pos trivial] | rw [if_pos (by omega)] | rw [if_neg (by omega)])
  have o5 : K.obj (q + 3) = some (.cells [.bool false] true) := by rw [← eK]; simp only [new_obj, new_next, hn]; repeat (first | rw [if_pos trivial] | rw [if_pos (by omega)] | rw [if_neg (by omega)])
  have u35 := U35 (r := r) hsK hidK hl
  have u72 := U72 (sl_shape hsK) K
  have c0 := chk0 r ps
  have n32 : (q + 3 = q + 2) = False := by simp
  have n23 : (q + 2 = q + 3) = False := by simp
  cases hr : right r ps <;> rw [hr] at c0
  · have ea : atH r ps tk = (0, false) := by simp [atH, hr]
    rw [ea]
    rcases sl_shape hsK with rfl | ⟨_, _, _, _, _, rfl⟩ <;> simp only [c38, hn, eK, nK, o2, o3, o4, o5, u35, c0, n32, n23, if_false, Bool.not_false, Bool.not_true, rwA, rwB, Nat.reduceAdd, Nat.reduceMul, Nat.reduceLeDiff, Int.reduceEq, Int.reduceLT, Int.reduceLE, Int.reduceAdd, Int.reduceSub, Int.reduceMul, ↓reduceIte, Nat.reduceEqDiff, reduceCtorEq, ↓cnd_true, ↓cnd_false]
  · have ea : atH r ps tk = atN ps tk ps.length := by simp [atH, hr]
    rw [ea]
    obtain ⟨K5, eK5⟩ : ∃ K5, K.new (.cells [s] true) = K5 := ⟨_, rfl⟩
    have kK5 : Keeps K K5 := by rw [← eK5]; exact Keeps.new _ _
    have nK5 : K5.next = q + 5 := by rw [← eK5]; simp [new_next, nK]
    have oc : K5.obj (q + 4) = some (.cells [s] true) := by rw [← eK5, new_obj, if_pos (by omega)]
    have key : ∀ env : Env, env 13 = .func 91 [] [.ptr (q + 4) 0] → env 3 = .ptr (q + 1) 0 → env 4 = .ptr (q + 2) 0 → env 5 = .ptr (q + 3) 0 → _ := fun env a1 a2 a3 a4 =>
      range38 (K := K5) (env := env) (q := q) (tk := tk) (hsK.keep hidK kK5) (fun i hi => by have := hidK i hi; omega) hl oc (by omega) a1 a2 a3 a4 (by rw [kK5.2 _ (by omega)]; exact o3) (by rw [kK5.2 _ (by omega)]; exact o4) (by rw [kK5.2 _ (by omega)]; exact o5)
    rcases sl_shape hsK with rfl | ⟨_, _, _, _, _, rfl⟩
    all_goals
      simp only [c38, hn, eK, nK, o2, o3, o4, o5, u35, c0, u72, eK5, if_false, Bool.not_false, Bool.not_true, rwA, rwB, Nat.reduceAdd, Nat.reduceMul, Nat.reduceLeDiff, Int.reduceEq, Int.reduceLT, Int.reduceLE, Int.reduceAdd, Int.reduceSub, Int.reduceMul, ↓reduceIte, Nat.reduceEqDiff, reduceCtorEq, ↓cnd_true, ↓cnd_false]
      repeat (first | refine outs_seq ?_ | refine outs_block ?_ | refine outs_step ?_ | refine outs_stepD ?_ | refine rets_end ?_ | refine ans_end ?_)
      refine outs_gen (fun env => env 13 = .func 91 [] [.ptr (q + 4) 0] ∧ env 3 = .ptr (q + 1) 0 ∧ env 4 = .ptr (q + 2) 0 ∧ env 5 = .ptr (q + 3) 0) ⟨by simp [Env.set], by simp [Env.set], by simp [Env.set], by simp [Env.set]⟩ ?_
      rintro env ⟨a1, a2, a3, a4⟩
      refine (key env a1 a2 a3 a4).mono ?_
      rintro e env' H' ⟨rfl, (⟨rfl, p4, p5, hE⟩ | ⟨rfl, y, p4, p5, hE⟩)⟩
      · rw [hE]
        simp only [outs_some, a2, a3, a4, p4, p5, n32, n23, if_false, rwA, rwB, Nat.reduceAdd, Nat.reduceMul, Nat.reduceLeDiff, Int.reduceEq, Int.reduceLT, Int.reduceLE, Int.reduceAdd, Int.reduceSub, Int.reduceMul, ↓reduceIte, Nat.reduceEqDiff, reduceCtorEq, ↓cnd_true, ↓cnd_false]
      · rw [hE]
        simp only [outs_some, a2, a3, a4, p4, p5, n32, n23, if_false, rwA, rwB, Nat.reduceAdd, Nat.reduceMul, Nat.reduceLeDiff, Int.reduceEq, Int.reduceLT, Int.reduceLE, Int.reduceAdd, Int.reduceSub, Int.reduceMul, ↓reduceIte, Nat.reduceEqDiff, reduceCtorEq, ↓cnd_true, ↓cnd_false]

end Go.Proofs.Ytfpbmoiconopcaa.Gh
