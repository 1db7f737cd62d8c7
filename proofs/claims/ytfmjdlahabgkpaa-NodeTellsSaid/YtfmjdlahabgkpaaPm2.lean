/- Texts put together by program: YtfmjdlahabgkpaaAmFlt, YtfmjdlahabgkpaaAmSound7, YtfmjdlahabgkpaaAmSound8, YtfmjdlahabgkpaaAmDraw, YtfmjdlahabgkpaaAmDraw2, YtfmjdlahabgkpaaAmRange, YtfmjdlahabgkpaaAmFn. -/
import Derived.Lib.UnsafeStr
import Derived.Lib.Overlaps
import Derived.Lib.Builder
import Derived.CallsIn
import Derived.OrdersIn
import Derived.LoopNIn
import Derived.RangeFuncRecord
import Derived.RangeFuncLeaves
import Derived.LoopN
import Derived.Test.YtfmjdlahabgkpaaPm1
section
/- What the abstract machine's floats answer, the model's do: any number that is none stands for each of them. -/
set_option linter.unusedSimpArgs false
set_option linter.unusedVariables false
namespace Go.Proofs.Ytfmjdlahabgkpaa.Am
open Go Go.RowKit Ieee

variable {P : Program} {w0 w : World} {B : Nat → Bool} {m : Inj} {H H' : AHeap}

theorem fnan_iff (b : Nat) : fnan .f64 b = true ↔ ¬ Fl.num b := by
  have e : FloatKind.format .f64 = double := rfl
  unfold fnan
  rw [e]
  by_cases h : Fl.num b
  · rw [Fl.order_eq h h]; simp [h]
  · rw [Fl.order_nan (.inl h)]; simp [h]

theorem read_isnan {b : Nat} (h : ¬ Fl.num b) : ∃ s f, double.read b = .nan s f := ⟨_, _, Fl.read_nan (by unfold Fl.num at h; omega)⟩

theorem add_nan {a b : Nat} (h : ¬ Fl.num a ∨ ¬ Fl.num b) : double.add a b = none := by
  unfold Format.add
  rcases h with h | h
  · obtain ⟨s, f, e⟩ := read_isnan h; rw [e]; rfl
  · obtain ⟨s, f, e⟩ := read_isnan h; rw [e]; cases double.read a <;> rfl
theorem sub_nan {a b : Nat} (h : ¬ Fl.num a ∨ ¬ Fl.num b) : double.sub a b = none := by
  unfold Format.sub
  rcases h with h | h
  · obtain ⟨s, f, e⟩ := read_isnan h; rw [e]; rfl
  · obtain ⟨s, f, e⟩ := read_isnan h; rw [e]; cases double.read a <;> rfl
theorem mul_nan {a b : Nat} (h : ¬ Fl.num a ∨ ¬ Fl.num b) : double.mul a b = none := by
  unfold Format.mul
  rcases h with h | h
  · obtain ⟨s, f, e⟩ := read_isnan h; rw [e]; rfl
  · obtain ⟨s, f, e⟩ := read_isnan h; rw [e]; cases double.read a <;> rfl
theorem div_nan {a b : Nat} (h : ¬ Fl.num a ∨ ¬ Fl.num b) : double.div a b = none := by
  unfold Format.div
  rcases h with h | h
  · obtain ⟨s, f, e⟩ := read_isnan h; rw [e]; rfl
  · obtain ⟨s, f, e⟩ := read_isnan h; rw [e]; cases double.read a <;> rfl

def FR (a b : Nat) : Prop := a = b ∨ (¬ Fl.num a ∧ ¬ Fl.num b)

theorem flt_rel {a : Nat} {x' : Value} (h : VRel m (.flt .f64 a) x') : ∃ b, x' = .float .f64 b ∧ FR a b := by
  cases h with
  | flt => exact ⟨_, rfl, .inl rfl⟩
  | fltNan _ _ _ h1 h2 => exact ⟨_, rfl, .inr ⟨(fnan_iff _).1 h1, (fnan_iff _).1 h2⟩⟩

theorem rel_flt {a b : Nat} (h : FR a b) : VRel m (.flt .f64 a) (.float .f64 b) := by
  rcases h with rfl | ⟨h1, h2⟩
  · exact .flt _ _
  · exact .fltNan _ _ _ ((fnan_iff _).2 h1) ((fnan_iff _).2 h2)

theorem fr_two {α : Type} {f : Nat → Nat → Option α} (hf : ∀ a b, (¬ Fl.num a ∨ ¬ Fl.num b) → f a b = none) {a a' b b' : Nat} (ha : FR a a') (hb : FR b b') : f a' b' = f a b := by
  rcases ha with rfl | ⟨h1, h2⟩
  · rcases hb with rfl | ⟨h3, h4⟩
    · rfl
    · rw [hf _ _ (.inr h3), hf _ _ (.inr h4)]
  · rw [hf _ _ (.inl h1), hf _ _ (.inl h2)]

theorem cut_nan (x y t : Nat) : ¬ Fl.num ((Question.nanBits .f64 x y).cut t) := by
  simp only [Question.cut, Fl.num, Fl.rg]
  have h1 : t % 2 < 2 := Nat.mod_lt _ (by decide)
  have h2 : t / 2 % (2 ^ 52 - 1) < 2 ^ 52 - 1 := Nat.mod_lt _ (by decide)
  generalize t / 2 % (2 ^ 52 - 1) = r at *
  generalize t % 2 = q at *
  rw [show (2:Nat) ^ 63 = 9223372036854775808 by decide]
  rw [show (2:Nat) ^ 52 - 1 = 4503599627370495 by decide] at h2
  omega

theorem s_arith (hS : SRel w0 B m H w) {f : Nat → Nat → Option Nat} (hf : ∀ a b, (¬ Fl.num a ∨ ¬ Fl.num b) → f a b = none) {a a' b b' : Nat} (ha : FR a a') (hb : FR b b') {s : Sem Value}
    (hs1 : ∀ r, f a' b' = some r → s.run P w = .ok (.float .f64 r) w) (hs2 : f a' b' = none → s.run P w = ((do pure (.float .f64 (← choose (.nanBits .f64 a' b'))) : Sem Value)).run P w) :
    DoneV w0 B m H (.flt .f64 ((f a b).getD qnan)) (s.run P w) := by
  have he := fr_two hf ha hb
  cases hr : f a b with
  | some r => rw [hs1 r (he.trans hr)]; exact DoneV.same hS (.flt _ _)
  | none =>
    rw [hs2 (he.trans hr)]
    simp only [Sem.run_bind, run_choose, Question.forced, Bool.false_eq_true, if_false, Result.andThen_ok, Sem.run_pure, Option.getD_none]
    exact ⟨_, _, m, rfl, m.les_refl, hS.drew, .fltNan _ _ _ (by decide) ((fnan_iff _).2 (cut_nan _ _ _))⟩

theorem order_none (a b : Nat) (h : ¬ Fl.num a ∨ ¬ Fl.num b) : double.order a b = none := Fl.order_nan h

theorem s_flt (hS : SRel w0 B m H w) {op : BinOp} {t : TypeId} {xo yo : Operand} {a b : Nat} {v : AVal} {x' y' : Value} (hx : VRel m (.flt .f64 a) x') (hy : VRel m (.flt .f64 b) y') (h : aflt op a b = some v) :
    DoneV w0 B m H v (((do eqGuard op t xo yo x' y'; binOp op t x' y') : Sem Value).run P w) := by
  obtain ⟨a', rfl, ha⟩ := flt_rel hx
  obtain ⟨b', rfl, hb⟩ := flt_rel hy
  have hg : (eqGuard op t xo yo (.float .f64 a') (.float .f64 b')).run P w = .ok () w := by
    unfold eqGuard; cases op <;> rfl
  simp only [Sem.run_bind, hg, Result.andThen_ok]
  have e : FloatKind.format .f64 = double := rfl
  have ho := fr_two order_none ha hb
  cases op with
  | add => simp only [aflt, Option.some.injEq] at h; subst h; exact s_arith hS (fun _ _ => add_nan) ha hb (fun r hr => by simp [binOp, Op.floatArith, e, hr]) (fun hr => by simp [binOp, Op.floatArith, e, hr])
  | sub => simp only [aflt, Option.some.injEq] at h; subst h; exact s_arith hS (fun _ _ => sub_nan) ha hb (fun r hr => by simp [binOp, Op.floatArith, e, hr]) (fun hr => by simp [binOp, Op.floatArith, e, hr])
  | mul => simp only [aflt, Option.some.injEq] at h; subst h; exact s_arith hS (fun _ _ => mul_nan) ha hb (fun r hr => by simp [binOp, Op.floatArith, e, hr]) (fun hr => by simp [binOp, Op.floatArith, e, hr])
  | quo => simp only [aflt, Option.some.injEq] at h; subst h; exact s_arith hS (fun _ _ => div_nan) ha hb (fun r hr => by simp [binOp, Op.floatArith, e, hr]) (fun hr => by simp [binOp, Op.floatArith, e, hr])
  | eql => simp only [aflt, Option.some.injEq] at h; subst h; have hr : (binOp .eql t (.float .f64 a') (.float .f64 b')).run P w = .ok (.bool (double.order a b == some .eq)) w := by simp [binOp, Op.floatCmp, e, ho]
           rw [hr]; exact DoneV.same hS (.bool _)
  | neq => simp only [aflt, Option.some.injEq] at h; subst h; have hr : (binOp .neq t (.float .f64 a') (.float .f64 b')).run P w = .ok (.bool (double.order a b != some .eq)) w := by simp [binOp, Op.floatCmp, e, ho]
           rw [hr]; exact DoneV.same hS (.bool _)
  | lss => simp only [aflt, Option.some.injEq] at h; subst h; have hr : (binOp .lss t (.float .f64 a') (.float .f64 b')).run P w = .ok (.bool (double.order a b == some .lt)) w := by simp [binOp, Op.floatCmp, e, ho]
           rw [hr]; exact DoneV.same hS (.bool _)
  | leq => simp only [aflt, Option.some.injEq] at h; subst h; have hr : (binOp .leq t (.float .f64 a') (.float .f64 b')).run P w = .ok (.bool (double.order a b == some .lt || double.order a b == some .eq)) w := by simp [binOp, Op.floatCmp, e, ho]
           rw [hr]; exact DoneV.same hS (.bool _)
  | gtr => simp only [aflt, Option.some.injEq] at h; subst h; have hr : (binOp .gtr t (.float .f64 a') (.float .f64 b')).run P w = .ok (.bool (double.order a b == some .gt)) w := by simp [binOp, Op.floatCmp, e, ho]
           rw [hr]; exact DoneV.same hS (.bool _)
  | geq => simp only [aflt, Option.some.injEq] at h; subst h; have hr : (binOp .geq t (.float .f64 a') (.float .f64 b')).run P w = .ok (.bool (double.order a b == some .gt || double.order a b == some .eq)) w := by simp [binOp, Op.floatCmp, e, ho]
           rw [hr]; exact DoneV.same hS (.bool _)
  | _ => simp [aflt] at h

theorem neg_rg (a : Nat) : Fl.rg (Op.negFloat .f64 a) = Fl.rg a := by
  have e : Op.negFloat .f64 a = a ^^^ 2 ^ 63 := rfl
  rw [e]
  unfold Fl.rg
  rw [show (9223372036854775808 : Nat) = 2 ^ 63 by decide, Nat.xor_mod_two_pow, Nat.mod_self, Nat.xor_zero]
theorem neg_num (a : Nat) : Fl.num (Op.negFloat .f64 a) ↔ Fl.num a := by
  unfold Fl.num; rw [neg_rg]

theorem s_neg {a : Nat} {x' : Value} (w : World) (hx : VRel m (.flt .f64 a) x') : ∃ v', (Op.unary .neg x').run P w = .ok v' w ∧ VRel m (.flt .f64 (Op.negFloat .f64 a)) v' := by
  obtain ⟨a', rfl, ha⟩ := flt_rel hx
  refine ⟨.float .f64 (Op.negFloat .f64 a'), by simp [Op.unary], ?_⟩
  rcases ha with rfl | ⟨h1, h2⟩
  · exact .flt _ _
  · exact rel_flt (.inr ⟨fun h => h1 ((neg_num _).1 h), fun h => h2 ((neg_num _).1 h)⟩)

theorem toInt_nan {a : Nat} (h : ¬ Fl.num a) (k : IntKind) : floatToIntVal .f64 a k = none := by
  obtain ⟨s, f, e⟩ := read_isnan h
  have e1 : FloatKind.decode .f64 a = .nan s f := e
  simp [floatToIntVal, e1, Datum.toInt, Datum.integral]

theorem s_fToI {a : Nat} {k : IntKind} {n : Int} {x' : Value} (w : World) (hx : VRel m (.flt .f64 a) x') (h : floatToIntVal .f64 a k = some n) {src dst : TypeId} {u : TypeDesc} (hs : P.underlying src = some u) (hd : P.underlying dst = some (.int k)) :
    (convert src dst x').run P w = .ok (.int k n) w := by
  obtain ⟨a', rfl, ha⟩ := flt_rel hx
  rcases ha with rfl | ⟨h1, h2⟩
  · exact run_convert_float_int w src dst .f64 k _ n (by rw [hs]; rfl) hd h
  · rw [toInt_nan h1] at h; cases h

end Go.Proofs.Ytfmjdlahabgkpaa.Am
end

section
/- What the abstract machine's operations answer, the model's do: each operation but a call. -/
set_option linter.unusedSimpArgs false
set_option linter.unusedVariables false
namespace Go.Proofs.Ytfmjdlahabgkpaa.Am
open Go Go.RowKit

variable {P : Program} {w0 w : World} {B : Nat → Bool} {m : Inj} {H H' : AHeap} {nt : Nat} {env : Env} {a : Act}

theorem DoneN.valueOf (hS : SRel w0 B m H w) {v : AVal} {v' : Value} (hv : VRel m v v') {s : Sem Value} (h : s.run P w = .ok v' w) : DoneN w0 B m H v ((do pure (.value (← s)) : Sem Next).run P w) :=
  DoneV.next (by rw [h]; exact .same hS hv)

theorem DoneN.ofEx (hS : SRel w0 B m H w) {v : AVal} {s : Sem Value} (h : ∃ v', s.run P w = .ok v' w ∧ VRel m v v') : DoneN w0 B m H v ((do pure (.value (← s)) : Sem Next).run P w) := by
  obtain ⟨v', h1, h2⟩ := h
  exact .valueOf hS h2 h1

theorem cparts_rel (hE : ERel m nt env a) {place : Nat → Option (Nat × Nat)} : ∀ {l : List (Nat × Operand)} {q : List (Nat × Nat × AOpd)}, cparts nt place l = some q →
    All2 (fun (p : Nat × Nat × AVal) (r : Nat × Value) => place r.1 = some (p.1, p.2.1) ∧ VRel m p.2.2 r.2) (q.map fun (o, n, x) => (o, n, aev env x)) (l.map fun (i, x) => (i, a.eval x))
  | [], q, h => by simp [cparts] at h; subst h; exact .nil
  | (i, x) :: l, q, h => by
    simp only [cparts, Option.bind_eq_some_iff, Option.map_eq_some_iff] at h
    obtain ⟨⟨o, n⟩, hp, y, hy, r, hr, rfl⟩ := h
    exact .cons ⟨hp, copd_rel hE hy⟩ (cparts_rel hE hr)

theorem cplaces_run : ∀ {fs : List Field} {ps : List (Nat × Nat)}, cplaces P fs = some ps → ∀ w, (fs.mapM (fun f => do pure (f.offset, ← sizeOf f.type) : Field → Sem (Nat × Nat))).run P w = .ok ps w
  | [], ps, h, w => by simp [cplaces] at h; subst h; rfl
  | f :: fs, ps, h, w => by
    simp only [cplaces, Option.bind_eq_some_iff, Option.map_eq_some_iff] at h
    obtain ⟨n, hn, r, hr, rfl⟩ := h
    simp only [List.mapM_cons, Sem.run_bind, run_sizeOf' hn, Result.andThen_ok, Sem.run_pure, cplaces_run hr w]

theorem run_mapM_toList (f : Field → Sem (Nat × Nat)) (fs : Array Field) {ps : List (Nat × Nat)} {w : World} (h : (fs.toList.mapM f).run P w = .ok ps w) : (fs.mapM f).run P w = .ok ps.toArray w := by
  rw [Array.mapM_eq_mapM_toList]
  simp only [map_eq_pure_bind, Sem.run_bind, h, Result.andThen_ok, Sem.run_pure]

theorem s_build (hS : SRel w0 B m H w) {t : TypeId} {z : List AVal} (hz : tzero P t = some z) {place : Nat → Option (Nat × Nat)} {parts : List (Nat × Nat × AVal)} {parts' : Array (Nat × Value)} {r : List AVal}
    (hp : All2 (fun (p : Nat × Nat × AVal) (q : Nat × Value) => place q.1 = some (p.1, p.2.1) ∧ VRel m p.2.2 q.2) parts parts'.toList) (h : afill z parts = some r)
    (hpl : (∃ fs ps, P.underlying t = some (.struct fs) ∧ cplaces P fs.toList = some ps ∧ place = fun (i : Nat) => ps[i]?) ∨ (∃ n e es, P.underlying t = some (.array n e) ∧ tsize P e = some es ∧ place = fun (i : Nat) => some (i * es, es))) :
    ∃ v', (Instr.build t parts').run P w = .ok v' w ∧ VRel m (.agg r) v' := by
  obtain ⟨zv, hzr, hzc⟩ := run_zero hz w
  obtain ⟨hza, hz1⟩ := cvals_rel (m := m) hzc
  obtain ⟨r', hr, har, hr1⟩ := s_fill parts parts'.toList z zv.cells.toList r hza hz1 hp h
  refine ⟨.agg r'.toArray, ?_, .agg _ _ har hr1⟩
  rw [Array.toArray_toList] at hr
  rcases hpl with ⟨fs, ps, ht, hps, rfl⟩ | ⟨n, e, es, ht, hes, rfl⟩
  · simp only [Instr.build, Sem.run_bind, hzr, run_underlying ht, Result.andThen_ok, run_mapM_toList _ _ (cplaces_run hps w)]
    have : (fun (i : Nat) => (ps.toArray)[i]?) = fun (i : Nat) => ps[i]? := by funext i; simp
    simp only [this, hr]
    rfl
  · simp only [Instr.build, Sem.run_bind, hzr, run_underlying ht, Result.andThen_ok, run_sizeOf' hes, hr]
    rfl

theorem s_buildS (hS : SRel w0 B m H w) {t e : TypeId} {len es : Nat} {z : List AVal} (ht : P.underlying t = some (.slice e)) (hes : tsize P e = some es) (hz : tzero P e = some z) (hzl : z.length = es) (hpos : 0 < es) (hlim : len * es ≤ 16777216)
    {parts : List (Nat × Nat × AVal)} {parts' : Array (Nat × Value)} {r : List AVal}
    (hp : All2 (fun (p : Nat × Nat × AVal) (q : Nat × Value) => some (q.1 * es, es) = some (p.1, p.2.1) ∧ VRel m p.2.2 q.2) parts parts'.toList) (h : afill (arep z len) parts = some r) :
    DoneV w0 B m (H.new (.cells r true)) (.slice H.next 0 len len none) ((Instr.buildSlice t len parts').run P w) := by
  obtain ⟨zv, hzr, hzc⟩ := run_zero hz w
  obtain ⟨hza, hz1⟩ := cvals_rel (m := m) hzc
  have hzvl : zv.cells.toList.length = es := by rw [← forall2_length hza]; exact hzl
  have hn : len * es = len * zv.cells.toList.length := by rw [hzvl]
  have hA := all2_zeros hza len hn
  have h1c := zeros_cells hz1 hn
  obtain ⟨r', hr, har, hr1⟩ := s_fill (place := fun (i : Nat) => some (i * es, es)) parts parts'.toList _ _ r hA h1c hp h
  obtain ⟨m', hm, hloc, hn', hS'⟩ := s_new hS e har hr1
  refine ⟨.slice (some ⟨w.heap.size, 0, none⟩) len len, _, m', ?_, hm, hS', ?_⟩
  · have hlim' : ¬ (len * es > 2 ^ 24) := by rw [show (2:Nat)^24 = 16777216 by decide]; omega
    simp only [Array.toArray_toList] at hr
    simp only [Instr.buildSlice, Sem.run_bind, run_underlying ht, Result.andThen_ok, run_sizeOf' hes, hlim', if_false, Sem.run_pure]
    by_cases h0 : len * es = 0
    · have hl0 : len = 0 := by
        rcases Nat.mul_eq_zero.1 h0 with h | h
        · exact h
        · omega
      subst hl0
      simp only [h0, if_true, Sem.run_bind, Sem.run_pure, Result.andThen_ok, Array.range_zero', Array.map_empty] at hr ⊢
      simp only [hr, Sem.run_bind, run_newRow, Result.andThen_ok]
      simp
    · simp only [h0, if_false, Sem.run_bind, Sem.run_pure, Result.andThen_ok, hzr, hr, run_newRow]
  · rw [hS.next]
    have := VRel.slice (m := m') m.n 0 len len none ⟨w.heap.size, 0, none⟩ len hn' (Nat.le_refl _) (Nat.le_refl _) (fun _ => rfl) (by simp) (.inl (by rw [hloc]))
    exact this

theorem s_buildT (hS : SRel w0 B m H w) {t e : TypeId} {len es : Nat} {z : List AVal} (ht : P.underlying t = some (.slice e)) (hes : tsize P e = some es) (hz : tzero P e = some z) (hzl : z.length = es) (hpos : 0 < es) (hlim : len * es ≤ 16777216)
    {parts : List (Nat × Nat × AVal)} {parts' : Array (Nat × Value)} {r : List AVal}
    (hp : All2 (fun (p : Nat × Nat × AVal) (q : Nat × Value) => some (q.1 * es, es) = some (p.1, p.2.1) ∧ VRel m p.2.2 q.2) parts parts'.toList) (h : afill (arep z len) parts = some r) :
    DoneV w0 B m ((H.new (.cells r true)).tag H.next (e, none)) (.slice H.next 0 len len none) ((Instr.buildSlice t len parts').run P w) := by
  obtain ⟨zv, hzr, hzc⟩ := run_zero hz w
  obtain ⟨hza, hz1⟩ := cvals_rel (m := m) hzc
  have hzvl : zv.cells.toList.length = es := by rw [← forall2_length hza]; exact hzl
  have hn : len * es = len * zv.cells.toList.length := by rw [hzvl]
  have hA := all2_zeros hza len hn
  have h1c := zeros_cells hz1 hn
  obtain ⟨r', hr, har, hr1⟩ := s_fill (place := fun (i : Nat) => some (i * es, es)) parts parts'.toList _ _ r hA h1c hp h
  obtain ⟨m', hm, hloc, hn', hS'⟩ := s_newT hS e har hr1 (n := none) (fun k hk => by cases hk)
  refine ⟨.slice (some ⟨w.heap.size, 0, none⟩) len len, _, m', ?_, hm, hS', ?_⟩
  · have hlim' : ¬ (len * es > 2 ^ 24) := by rw [show (2:Nat)^24 = 16777216 by decide]; omega
    simp only [Array.toArray_toList] at hr
    simp only [Instr.buildSlice, Sem.run_bind, run_underlying ht, Result.andThen_ok, run_sizeOf' hes, hlim', if_false, Sem.run_pure]
    by_cases h0 : len * es = 0
    · have hl0 : len = 0 := by
        rcases Nat.mul_eq_zero.1 h0 with h | h
        · exact h
        · omega
      subst hl0
      simp only [h0, if_true, Sem.run_bind, Sem.run_pure, Result.andThen_ok, Array.range_zero', Array.map_empty] at hr ⊢
      simp only [hr, Sem.run_bind, run_newRow, Result.andThen_ok]
      simp
    · simp only [h0, if_false, Sem.run_bind, Sem.run_pure, Result.andThen_ok, hzr, hr, run_newRow]
  · rw [hS.next]
    have := VRel.slice (m := m') m.n 0 len len none ⟨w.heap.size, 0, none⟩ len hn' (Nat.le_refl _) (Nat.le_refl _) (fun _ => rfl) (by simp) (.inl (by rw [hloc]))
    exact this


theorem byte_rel {k : Int} {v : Value} (h : VRel m (.int .u8 k) v) : v = .int .u8 k := by cases h; rfl
theorem bytesOf_get : ∀ {l : List AVal} {s : List UInt8}, bytesOf l = some s → s.length = l.length ∧ ∀ (j : Nat) (b : UInt8), s[j]? = some b → l[j]? = some (.int .u8 (b.toNat : Int))
  | [], s, h => by simp only [bytesOf, Option.some.injEq] at h; subst h; exact ⟨rfl, fun j b h => by simp at h⟩
  | x :: l, s, h => by
    cases x with
    | int k n =>
      cases k <;> simp only [bytesOf] at h <;> try cases h
      split at h
      · rename_i hn
        simp only [Option.map_eq_some_iff] at h
        obtain ⟨r, hr, rfl⟩ := h
        obtain ⟨h1, h2⟩ := bytesOf_get hr
        refine ⟨by simp [h1], fun j b hj => ?_⟩
        cases j with
        | zero =>
          simp only [List.getElem?_cons_zero, Option.some.injEq] at hj ⊢
          subst hj
          have : (UInt8.ofNat n.toNat).toNat = n.toNat := by
            rw [UInt8.toNat_ofNat']
            exact Nat.mod_eq_of_lt (by omega)
          rw [this, Int.toNat_of_nonneg hn.1]
        | succ j => simpa using h2 j b (by simpa using hj)
      · cases h
    | _ => simp [bytesOf] at h
theorem SRel.freezeDel (hS : SRel w0 B m H w) {id : Nat} {l : List AVal} (ho : H.obj id = some (.cells l true)) (n : Nat) : SRel w0 B m (H.cut id) (w.freeze ⟨(m.loc id).block, 0, none⟩ n) := by
  obtain ⟨_, c, e, fz, hb, _, hown⟩ := hS.obj id _ ho
  have hB := (hown rfl).1
  have hoth : ∀ k, k ≠ (m.loc id).block → (w.freeze ⟨(m.loc id).block, 0, none⟩ n).heap[k]? = w.heap[k]? := by
    intro k hk
    unfold World.freeze
    split
    · rfl
    · simp only [Array.getElem?_modify]
      rw [if_neg (Ne.symm hk)]
  have hne : ∀ k, (∃ o, H.obj k = some o) → k ≠ id → (m.loc k).block ≠ (m.loc id).block := fun k ⟨o, hk⟩ hi => Ne.symm (hS.apart id k _ _ ho hk rfl (Ne.symm hi))
  have hS' := hS.del id
  refine ⟨hS.below.trans ?_, hS.size, hS.next, fun k o (hk : (H.del id).obj k = some o) => ?_, hS'.apart, fun k t hk => ?_⟩
  · unfold World.freeze
    split
    · exact Keep.refl _ _
    · exact ⟨rfl, rfl, rfl, by simp, fun k hk => by
        simp only [Array.getElem?_modify]
        rw [if_neg (fun e => by rw [← e, hB] at hk; cases hk)]⟩
  · obtain ⟨h1, h2⟩ := hS'.obj k o hk
    refine ⟨h1, ?_⟩
    have hki : k ≠ id := fun e => by subst e; simp [AHeap.del] at hk
    have hk' : H.obj k = some o := by simpa [AHeap.del, hki] using hk
    have := hne k ⟨o, hk'⟩ hki
    cases o with
    | cells l' own' =>
      obtain ⟨c', e', fz', hb', hc', ho''⟩ := h2
      exact ⟨c', e', fz', by rw [hoth _ this]; exact hb', hc', ho''⟩
    | map l' =>
      obtain ⟨es', ck', hb', hc', ho''⟩ := h2
      exact ⟨es', ck', by rw [hoth _ this]; exact hb', hc', ho''⟩
  · simp only [AHeap.cut] at hk
    split at hk
    · cases hk
    rename_i hki
    split at hk
    rotate_left
    · cases hk
    rename_i l' hl'
    obtain ⟨h1, h2⟩ := hS.ty k t hk
    have hbk := hne k ⟨_, hl'⟩ hki
    refine ⟨h1, ?_⟩
    exact h2.same (hoth _ hbk)
theorem s_sdata {x v : AVal} {x' : Value} (ts : Array TypeId) (ty : TypeId) (hx : VRel m x x') (h : asdata x = some v) (w : World) : ∃ v', (Builtin.unsafeSliceData_ ts ty #[x']).run P w = .ok v' w ∧ VRel m v v' := by
  cases hx with
  | nils => cases h; exact ⟨_, Lib.run_unsafeSliceData_nil w ts ty 0 0, .nilp⟩
  | slice id off len cap g a' c' hid hlc hcc hg hge ho =>
    simp only [asdata] at h
    split at h
    · rename_i hl
      cases h
      have ha : a' = ⟨(m.loc id).block, (m.loc id).off + off, none⟩ := ho.elim (fun x => x) (fun h => by omega)
      subst ha
      exact ⟨_, Lib.run_unsafeSliceData_row w ts ty _ _ _ (by omega), .ptr _ _ hid⟩
    · cases h
  | _ => simp [asdata] at h
theorem s_ustr (hS : SRel w0 B m H w) {pt it ty e : TypeId} (hp : P.underlying pt = some (.pointer e)) (hc : P.cellsOf e = 1) {x n v : AVal} {x' n' : Value} (hx : VRel m x x') (hn : VRel m n n') (h : austr H e x n = some (v, H')) :
    DoneV w0 B m H' v ((Builtin.unsafeString_ #[pt, it] ty #[x', n']).run P w) := by
  unfold austr at h
  split at h
  · rename_i k
    cases hx
    cases hn
    split at h
    · rename_i hk
      subst hk
      cases h
      exact ⟨_, w, m, Lib.run_unsafeString_none w pt it ty none, m.les_refl, hS, .str []⟩
    · cases h
  · rename_i id k
    cases hn
    cases hx with
    | ptr _ _ hid =>
    split at h
    · rename_i hk
      split at h
      · rename_i l u t hob hty
        split at h
        · rename_i hue
          obtain ⟨rfl, hlen⟩ := hue
          simp only [Option.map_eq_some_iff, Prod.mk.injEq] at h
          obtain ⟨s, hs, rfl, rfl⟩ := h
          obtain ⟨hs1, hs2⟩ := bytesOf_get hs
          have hsl : s.length = k.toNat := by rw [hs1, List.length_take]; omega
          obtain ⟨_, c, e1, fz, hb, hcell, hown⟩ := hS.obj id _ hob
          obtain ⟨_, hoff, c0, hb0, _⟩ := hS.ty id _ hty
          rw [hb] at hb0
          obtain ⟨_, he1, _⟩ : c = c0 ∧ e1 = u ∧ fz = (0, 0) := by simpa using hb0
          have hsz : k.toNat ≤ c.size := by
            rcases Nat.lt_or_ge (k.toNat - 1) l.length with h' | h'
            · obtain ⟨v1, hv1, _⟩ := hcell (k.toNat - 1) (l[k.toNat - 1]) (List.getElem?_eq_getElem h')
              have := (Array.getElem?_eq_some_iff.1 hv1).1
              omega
            · omega
          have e0 : (m.loc id).off + 0 = 0 := by omega
          rw [e0]
          have hkk : k = (s.length : Int) := by omega
          rw [hkk]
          have hrun := Lib.run_unsafeString_row (P := P) w pt it ty u hp hc (m.loc id).block c.size (by simp [World.shape?, hb, he1]) s (by intro h0; subst h0; simp at hsl; omega) (by omega) (by omega) (fun j b hj => by
            have hj1 := hs2 j b hj
            rw [List.getElem?_take] at hj1
            split at hj1
            · obtain ⟨v1, hv1, hr1, _⟩ := hcell j _ hj1
              rw [addr_add, cell_of_heap hb]
              have := byte_rel hr1
              subst this
              rw [show 0 + j = (m.loc id).off + j by omega]
              exact hv1
            · cases hj1)
          exact ⟨_, _, m, hrun, m.les_refl, hS.freezeDel hob _, .str s⟩
        · cases h
      · cases h
    · cases h
  · cases h

theorem sound_aop {o : Oper} {ao : AOp} (hc : cop P nt o.op = some ao) (hcall : ∀ f l, ao ≠ .call f l) (hE : ERel m nt env a) (hS : SRel w0 B m H w) {v : AVal} (h : aop ao (aev env) H = some (v, H')) :
    DoneN w0 B m H' v ((execOp a.eval o).run P w) := by
  obtain ⟨dst, op, type, pos, after, guard⟩ := o
  simp only at hc
  cases op with
  | move x =>
    simp only [cop, Option.map_eq_some_iff] at hc
    obtain ⟨x', hx, rfl⟩ := hc
    simp only [aop, Option.some.injEq, Prod.mk.injEq] at h
    obtain ⟨rfl, rfl⟩ := h
    exact DoneV.value (.same hS (copd_rel hE hx))
  | assign x =>
    simp only [cop, Option.map_eq_some_iff] at hc
    obtain ⟨x', hx, rfl⟩ := hc
    simp only [aop, Option.some.injEq, Prod.mk.injEq] at h
    obtain ⟨rfl, rfl⟩ := h
    exact DoneV.value (.same hS (copd_rel hE hx))
  | pick c x y =>
    simp only [cop, Option.bind_eq_some_iff, Option.map_eq_some_iff] at hc
    obtain ⟨c', hc', x', hx, y', hy, rfl⟩ := hc
    have hcr := copd_rel hE hc'
    simp only [aop] at h
    split at h
    · rename_i t ht
      rw [ht] at hcr
      simp only [Option.some.injEq, Prod.mk.injEq] at h
      obtain ⟨rfl, rfl⟩ := h
      generalize hcv : a.eval c = cv at hcr
      cases hcr
      simp only [execOp, hcv, asBool, Sem.run_bind, Sem.run_pure, Result.andThen_ok]
      refine DoneV.value (.same hS ?_)
      cases t
      · exact copd_rel hE hy
      · exact copd_rel hE hx
    · simp at h
  | makeMap t r =>
    cases r with
    | some _ => simp [cop] at hc
    | none =>
      simp only [cop, Option.some.injEq] at hc
      subst hc
      simp only [aop, Option.some.injEq, Prod.mk.injEq] at h
      obtain ⟨rfl, rfl⟩ := h
      exact DoneV.next (s_mkMap hS)
  | lookup t x k ok =>
    simp only [cop, Option.bind_eq_some_iff] at hc
    obtain ⟨u, hu, hc⟩ := hc
    cases u with
    | map kty e =>
      simp only [Option.bind_eq_some_iff] at hc
      obtain ⟨ku, hku, kt, hkt, z, hz, hc⟩ := hc
      split at hc
      · cases hc
      · simp only [Option.bind_eq_some_iff, Option.map_eq_some_iff] at hc
        obtain ⟨x', hx, k', hk, rfl⟩ := hc
        simp only [aop] at h
        exact DoneV.next (s_mapGet hS hu hku hkt hz (copd_rel hE hx) (copd_rel hE hk) h)
    | _ => simp at hc
  | mapUpdate t x k y =>
    simp only [cop, Option.bind_eq_some_iff] at hc
    obtain ⟨u, hu, hc⟩ := hc
    cases u with
    | map kty e =>
      simp only [Option.bind_eq_some_iff, Option.map_eq_some_iff] at hc
      obtain ⟨ku, hku, kt, hkt, x', hx, k', hk, v', hv, rfl⟩ := hc
      simp only [aop, Option.map_eq_some_iff, Prod.mk.injEq] at h
      obtain ⟨H1, hH, rfl, rfl⟩ := h
      obtain ⟨w', hr, hS'⟩ := s_mapSet (P := P) hS hu hku hkt (copd_rel hE hx) (copd_rel hE hk) (copd_rel hE hv) hH
      refine ⟨undef, w', m, .inr ⟨?_, rfl⟩, m.les_refl, hS', .tuple [] [] .nil⟩
      simp only [execOp, Sem.run_bind, hr, Result.andThen_ok, Sem.run_pure]
    | _ => simp at hc
  | alloc t =>
    simp only [cop, Option.map_eq_some_iff] at hc
    obtain ⟨z, hz, rfl⟩ := hc
    split at h
    · simp only [aop, Option.some.injEq, Prod.mk.injEq] at h
      obtain ⟨rfl, rfl⟩ := h
      exact DoneV.next (s_allocT hS hz)
    · simp only [aop, Option.some.injEq, Prod.mk.injEq] at h
      obtain ⟨rfl, rfl⟩ := h
      exact DoneV.next (s_alloc hS hz)
  | box t x =>
    simp only [cop, Option.map_eq_some_iff] at hc
    obtain ⟨x', hx, rfl⟩ := hc
    simp only [aop] at h
    split at h
    · simp at h
    · rename_i ht
      simp only [Option.some.injEq, Prod.mk.injEq] at h
      obtain ⟨rfl, rfl⟩ := h
      exact DoneV.next (s_box hS (copd_rel hE hx) (by simpa using ht))
  | build t parts =>
    simp only [cop, Option.bind_eq_some_iff] at hc
    obtain ⟨z, hz, u, hu, hc⟩ := hc
    cases u with
    | struct fs =>
      simp only [Option.bind_eq_some_iff, Option.map_eq_some_iff] at hc
      obtain ⟨ps, hps, q, hq, rfl⟩ := hc
      simp only [aop, Option.map_eq_some_iff, Prod.mk.injEq] at h
      obtain ⟨v1, ⟨r, hr, rfl⟩, rfl, rfl⟩ := h
      refine .ofEx hS (s_build hS hz (place := fun (i : Nat) => ps[i]?) (parts := q.map fun (o, n, x) => (o, n, aev env x)) ?_ hr (.inl ⟨fs, ps, hu, hps, rfl⟩))
      simpa using cparts_rel hE hq
    | array n e =>
      simp only [Option.bind_eq_some_iff, Option.map_eq_some_iff] at hc
      obtain ⟨es, hes, q, hq, rfl⟩ := hc
      simp only [aop, Option.map_eq_some_iff, Prod.mk.injEq] at h
      obtain ⟨v1, ⟨r, hr, rfl⟩, rfl, rfl⟩ := h
      refine .ofEx hS (s_build hS hz (place := fun (i : Nat) => some (i * es, es)) (parts := q.map fun (o, n, x) => (o, n, aev env x)) ?_ hr (.inr ⟨n, e, es, hu, hes, rfl⟩))
      simpa using cparts_rel hE hq
    | _ => simp at hc
  | buildSlice t len parts =>
    simp only [cop, Option.bind_eq_some_iff] at hc
    obtain ⟨u, hu, hc⟩ := hc
    cases u with
    | slice e =>
      simp only [Option.bind_eq_some_iff] at hc
      obtain ⟨es, hes, z, hz, hc⟩ := hc
      split at hc
      · rename_i hcond
        simp only [Option.map_eq_some_iff] at hc
        obtain ⟨q, hq, rfl⟩ := hc
        split at h
        · simp only [aop, Option.map_eq_some_iff, Prod.mk.injEq] at h
          obtain ⟨r, hr, rfl, rfl⟩ := h
          refine DoneV.next (s_buildT hS hu hes hz hcond.1 hcond.2.1 hcond.2.2 (parts := q.map fun (o, n, x) => (o, n, aev env x)) ?_ hr)
          simpa using cparts_rel hE hq
        simp only [aop, Option.map_eq_some_iff, Prod.mk.injEq] at h
        obtain ⟨r, hr, rfl, rfl⟩ := h
        refine DoneV.next (s_buildS hS hu hes hz hcond.1 hcond.2.1 hcond.2.2 (parts := q.map fun (o, n, x) => (o, n, aev env x)) ?_ hr)
        simpa using cparts_rel hE hq
      · simp at hc
    | _ => simp at hc
  | load t x =>
    simp only [cop, Option.bind_eq_some_iff, Option.map_eq_some_iff] at hc
    obtain ⟨g, hg, n, hn, x', hx, rfl⟩ := hc
    simp only [aop, Option.map_eq_some_iff, Prod.mk.injEq] at h
    obtain ⟨v1, hv, rfl, rfl⟩ := h
    exact DoneV.next (s_load hS hg hn (copd_rel hE hx) hv)
  | store t x y =>
    simp only [cop, Option.bind_eq_some_iff, Option.map_eq_some_iff] at hc
    obtain ⟨n, hn, x', hx, y', hy, rfl⟩ := hc
    simp only [aop, Option.map_eq_some_iff, Prod.mk.injEq] at h
    obtain ⟨H1, hH, rfl, rfl⟩ := h
    obtain ⟨w', hr, hS'⟩ := s_store (P := P) hS hn (copd_rel hE hx) (copd_rel hE hy) hH
    refine ⟨undef, w', m, .inr ⟨?_, rfl⟩, m.les_refl, hS', .tuple [] [] .nil⟩
    simp only [execOp, Sem.run_bind, hr, Result.andThen_ok, Sem.run_pure]
  | nilCheck x =>
    simp only [cop, Option.map_eq_some_iff] at hc
    obtain ⟨x', hx, rfl⟩ := hc
    have hxr := copd_rel hE hx
    simp only [aop] at h
    split at h
    all_goals first | (simp at h; done) | skip
    all_goals
      rename_i he
      rw [he] at hxr
      simp only [Option.some.injEq, Prod.mk.injEq] at h
      obtain ⟨rfl, rfl⟩ := h
      generalize hcv : a.eval x = cv at hxr
      have hxr' := hxr
      cases hxr
      simp only [execOp, hcv]
      exact DoneV.value (.same hS hxr')
  | binOp op t x y yt =>
    simp only [cop, cbin, Option.bind_eq_some_iff] at hc
    obtain ⟨x', hx, y', hy, u, hu, hc⟩ := hc
    have key : (ao = .bin op x' y') ∨ ((∀ k, u ≠ .int k) ∧ u ≠ .string ∧ ∃ neg q, ceqt P 12 t = some q ∧ ao = .eq neg q x' y' ∧ op = if neg then .neq else .eql) := by
      cases u
      case int => simp at hc; exact .inl hc.symm
      case string => simp at hc; exact .inl hc.symm
      case float => simp at hc; exact .inl hc.symm
      all_goals
        refine .inr ⟨by simp, by simp, ?_⟩
        cases op <;> simp at hc
        · obtain ⟨q, hq, rfl⟩ := hc
          exact ⟨false, q, hq, rfl, rfl⟩
        · obtain ⟨q, hq, rfl⟩ := hc
          exact ⟨true, q, hq, rfl, rfl⟩
    rcases key with rfl | ⟨h1, h2, neg, q, hq, rfl, hop⟩
    · simp only [aop, Option.map_eq_some_iff, Prod.mk.injEq] at h
      obtain ⟨v1, hv, rfl, rfl⟩ := h
      by_cases hf : ∃ f g, aev env x' = .flt .f64 f ∧ aev env y' = .flt .f64 g
      · obtain ⟨f, g, e1, e2⟩ := hf
        rw [e1, e2] at hv
        exact DoneV.next (s_flt hS (e1 ▸ copd_rel hE hx) (e2 ▸ copd_rel hE hy) hv)
      · exact .ofEx hS (s_bin w (copd_rel hE hx) (copd_rel hE hy) (fun f g e1 e2 => hf ⟨f, g, e1, e2⟩) hv)
    · simp only [aop, Option.map_eq_some_iff, Prod.mk.injEq] at h
      obtain ⟨v1, ⟨b, hb, rfl⟩, rfl, rfl⟩ := h
      refine .valueOf hS (.bool _) (s_eq hq (copd_rel hE hx) (copd_rel hE hy) hb ?_ w hop)
      intro u' hu'
      rw [hu] at hu'; simp at hu'; subst hu'
      exact ⟨h1, h2⟩
  | unOp op t x =>
    simp only [cop, Option.map_eq_some_iff] at hc
    obtain ⟨x', hx, rfl⟩ := hc
    simp only [aop, Option.map_eq_some_iff, Prod.mk.injEq] at h
    obtain ⟨v1, hv, rfl, rfl⟩ := h
    exact .ofEx hS (s_un w (fun _ _ w hh => s_neg w hh) (copd_rel hE hx) hv)
  | convert s d x =>
    simp only [cop, cconv, Option.bind_eq_some_iff] at hc
    obtain ⟨x', hx, us, hus, ud, hud, hc⟩ := hc
    have hxr := copd_rel hE hx
    split at hc
    · -- int to int
      simp at hc; subst hc
      simp only [aop] at h
      split at h
      · rename_i k n he
        rw [he] at hxr
        simp only [Option.some.injEq, Prod.mk.injEq] at h
        obtain ⟨rfl, rfl⟩ := h
        generalize hcv : a.eval x = cv at hxr
        cases hxr
        refine .valueOf hS (.int _ _) ?_
        simp only [hcv, convert, Sem.run_bind, run_underlying hus, run_underlying hud, Result.andThen_ok, Conv.intToInt, Sem.run_pure]
      · simp at h
    · -- int to float
      simp at hc; subst hc
      simp only [aop] at h
      split at h
      · rename_i k n he
        rw [he] at hxr
        simp only [Option.some.injEq, Prod.mk.injEq] at h
        obtain ⟨rfl, rfl⟩ := h
        generalize hcv : a.eval x = cv at hxr
        cases hxr
        refine .valueOf hS (.flt _ _) ?_
        simp only [hcv, convert, Sem.run_bind, run_underlying hus, run_underlying hud, Result.andThen_ok, Conv.intToFloat, Sem.run_pure]
      · simp at h
    · -- float to int
      simp at hc; subst hc
      simp only [aop] at h
      split at h
      · rename_i b he
        rw [he] at hxr
        simp only [Option.map_eq_some_iff, Prod.mk.injEq] at h
        obtain ⟨v1, ⟨n, hn, rfl⟩, rfl, rfl⟩ := h
        refine .valueOf hS (.int _ _) ?_
        exact s_fToI w hxr hn hus hud
      · simp at h
    · simp at hc; subst hc
      simp only [aop] at h
      split at h
      · rename_i k he
        rw [he] at hxr
        simp only [Option.some.injEq, Prod.mk.injEq] at h
        obtain ⟨rfl, rfl⟩ := h
        generalize hcv : a.eval x = cv at hxr
        have hxr' := hxr
        cases hxr
        refine .valueOf hS hxr' ?_
        simp only [hcv, convert, Sem.run_bind, run_underlying hus, run_underlying hud, Result.andThen_ok, Sem.run_pure]
      · simp at h
    · simp only [Option.bind_eq_some_iff] at hc
      obtain ⟨u, hu, hc⟩ := hc
      split at hc
      · simp at hc; subst hc
        simp only [aop] at h
        split at h
        · rename_i k he
          rw [he] at hxr
          simp only [Option.some.injEq, Prod.mk.injEq] at h
          obtain ⟨rfl, rfl⟩ := h
          generalize hcv : a.eval x = cv at hxr
          cases hxr
          simp only [execOp, hcv]
          exact DoneV.next (s_sToB hS hus hud hu k)
        · simp at h
      · simp at hc
    · simp only [Option.bind_eq_some_iff] at hc
      obtain ⟨u, hu, hc⟩ := hc
      split at hc
      · simp at hc; subst hc
        simp only [aop] at h
        split at h
        · simp at h
        · rename_i hne
          simp only [Option.bind_eq_some_iff, Option.map_eq_some_iff, Prod.mk.injEq] at h
          obtain ⟨n, hn, cs, hcs, v1, ⟨l, hl, rfl⟩, rfl, rfl⟩ := h
          refine .valueOf hS (.str _) (s_bToS hS hus hud hu hxr (fun l hl => hne l hl) hn hcs hl)
      · simp at hc
    · simp at hc
  | makeFunc fn first captured =>
    simp only [cop] at hc
    split at hc
    · simp only [Option.bind_eq_some_iff, Option.map_eq_some_iff] at hc
      obtain ⟨p, hp, q, hq, rfl⟩ := hc
      simp only [aop, Option.some.injEq, Prod.mk.injEq] at h
      obtain ⟨rfl, rfl⟩ := h
      refine .valueOf hS (.func _ _ _ _ _ (copds_rel hE hp) (copds_rel hE hq)) ?_
      simp only [Instr.makeFunc, Sem.run_pure]
      congr 2
      · apply Array.ext'; simp
      · apply Array.ext'; simp
    · simp at hc
  | makeSlice t l c =>
    simp only [cop, Option.bind_eq_some_iff] at hc
    obtain ⟨u, hu, hc⟩ := hc
    cases u with
    | slice e =>
      simp only [Option.bind_eq_some_iff] at hc
      obtain ⟨es, hes, bs, hbs, z, hz, hc⟩ := hc
      split at hc
      · rename_i hzl
        simp only [Option.bind_eq_some_iff, Option.map_eq_some_iff] at hc
        obtain ⟨l', hl, c', hc', rfl⟩ := hc
        simp only [aop] at h
        exact DoneV.next (s_mkS hS hu hes hbs hz hzl (copd_rel hE hl) (copd_rel hE hc') h)
      · simp at hc
    | _ => simp at hc
  | slice t x lo hi mx =>
    simp only [cop, cslice, Option.bind_eq_some_iff] at hc
    obtain ⟨x', hx, lo', hlo, hi', hhi, mx', hmx, u, hu, hc⟩ := hc
    have hxr := copd_rel hE hx
    have hlor := copdo_rel hE hlo
    have hhir := copdo_rel hE hhi
    have hmxr := copdo_rel hE hmx
    cases u with
    | array n e =>
      simp only [Option.map_eq_some_iff] at hc
      obtain ⟨es, hes, rfl⟩ := hc
      simp only [aop, Option.map_eq_some_iff, Prod.mk.injEq] at h
      obtain ⟨v1, hv, rfl, rfl⟩ := h
      obtain ⟨ad, l, h0, mm, he, hb, hvr⟩ := s_slcArr (P := P) hxr hlor hhir hmxr hv w
      refine .valueOf hS hvr ?_
      simp only [Instr.sliceAt, Sem.run_bind, run_underlying hu, Result.andThen_ok, he, Instr.sureAddr, Sem.run_pure, hb, run_sizeOf' hes]
    | string =>
      simp only at hc
      split at hc
      · simp at hc
      · rename_i hmn
        simp at hc; subst hc
        simp only [aop] at h
        split at h
        · rename_i s he
          rw [he] at hxr
          simp only [Option.map_eq_some_iff, Prod.mk.injEq] at h
          obtain ⟨v1, ⟨⟨l, h0, mm⟩, hb, rfl⟩, rfl, rfl⟩ := h
          generalize hcv : a.eval x = cv at hxr
          cases hxr
          have hmn' : mx = none := by simpa using hmn
          subst hmn'
          simp only [execOp, hcv]
          exact .ofEx hS (s_slcStr hu hlor hhir hb w)
        · simp at h
    | slice e =>
      simp only [Option.map_eq_some_iff] at hc
      obtain ⟨es, hes, rfl⟩ := hc
      simp only [aop, Option.map_eq_some_iff, Prod.mk.injEq] at h
      obtain ⟨v1, hv, rfl, rfl⟩ := h
      exact .ofEx hS (s_slc hu hes hxr hlor hhir hmxr hv w)
    | pointer arr =>
      simp only [Option.bind_eq_some_iff] at hc
      obtain ⟨u, hu', hc⟩ := hc
      cases u with
      | array n e =>
        simp only [Option.map_eq_some_iff] at hc
        obtain ⟨es, hes, rfl⟩ := hc
        simp only [aop, Option.map_eq_some_iff, Prod.mk.injEq] at h
        obtain ⟨v1, hv, rfl, rfl⟩ := h
        obtain ⟨ad, l, h0, mm, he, hb, hvr⟩ := s_slcArr (P := P) hxr hlor hhir hmxr hv w
        refine .valueOf hS hvr ?_
        simp only [Instr.sliceAt, Instr.slice, Sem.run_bind, run_underlying hu, run_underlying hu', Result.andThen_ok, he, asAddr, Sem.run_pure, hb, run_sizeOf' hes]
      | _ => simp at hc
    | _ => simp at hc
  | fieldAddr t x f =>
    simp only [cop, Option.bind_eq_some_iff] at hc
    obtain ⟨u, hu, hc⟩ := hc
    cases u with
    | struct fs =>
      simp only [Option.bind_eq_some_iff] at hc
      obtain ⟨fd, hfd, n, hn, hc⟩ := hc
      split at hc
      · simp at hc
      · rename_i hn0
        simp only [Option.map_eq_some_iff] at hc
        obtain ⟨x', hx, rfl⟩ := hc
        have hxr := copd_rel hE hx
        simp only [aop] at h
        split at h
        · rename_i id o he
          rw [he] at hxr
          simp only [Option.some.injEq, Prod.mk.injEq] at h
          obtain ⟨rfl, rfl⟩ := h
          generalize hcv : a.eval x = cv at hxr
          cases hxr with
          | ptr _ _ hid =>
            have hv : VRel m (.ptr id (o + fd.offset)) (.pointer (some ⟨(m.loc id).block, (m.loc id).off + o + fd.offset, none⟩)) := by
              rw [Nat.add_assoc]; exact .ptr _ _ hid
            refine .valueOf hS hv ?_
            simp only [hcv, Instr.fieldAt, Sem.run_bind, run_underlying hu, Result.andThen_ok, hfd, Instr.sureAddr, Sem.run_pure, fieldPlace, run_sizeOf' hn, hn0, if_false, addr_add]
        · simp at h
    | _ => simp at hc
  | field t x f =>
    simp only [cop, Option.bind_eq_some_iff] at hc
    obtain ⟨u, hu, hc⟩ := hc
    cases u with
    | struct fs =>
      simp only [Option.bind_eq_some_iff, Option.map_eq_some_iff] at hc
      obtain ⟨fd, hfd, n, hn, g, hg, x', hx, rfl⟩ := hc
      have hxr := copd_rel hE hx
      simp only [aop] at h
      split at h
      · rename_i l he
        rw [he] at hxr
        simp only [Option.map_eq_some_iff, Prod.mk.injEq] at h
        obtain ⟨v1, hv, rfl, rfl⟩ := h
        generalize hcv : a.eval x = cv at hxr
        cases hxr with
        | agg _ l' ha h1 =>
          obtain ⟨v', hv', hr⟩ := s_part (P := P) hg hn ha h1 hv w
          refine .valueOf hS hr ?_
          simp only [hcv, Instr.field, Sem.run_bind, run_underlying hu, Result.andThen_ok, hfd, asAgg, Sem.run_pure, hv']
      · simp at h
    | _ => simp at hc
  | indexAddr t x i =>
    simp only [cop, Option.bind_eq_some_iff] at hc
    obtain ⟨u, hu, x', hx, i', hi, hc⟩ := hc
    have hxr := copd_rel hE hx
    have hir := copd_rel hE hi
    cases u with
    | array n e =>
      simp only [Option.map_eq_some_iff] at hc
      obtain ⟨es, hes, rfl⟩ := hc
      simp only [aop] at h
      split at h
      · rename_i id o he
        rw [he] at hxr
        simp only [Option.map_eq_some_iff, Prod.mk.injEq] at h
        obtain ⟨v1, ⟨j, hj, rfl⟩, rfl, rfl⟩ := h
        generalize hcv : a.eval x = cv at hxr
        cases hxr with
        | ptr _ _ hid =>
          simp only [execOp, hcv]
          exact .ofEx hS (s_idxAArr hu hes hid hir hj w)
      · simp at h
    | slice e =>
      simp only [Option.map_eq_some_iff] at hc
      obtain ⟨es, hes, rfl⟩ := hc
      simp only [aop] at h
      split at h
      · rename_i id o len cap g he
        rw [he] at hxr
        simp only [Option.map_eq_some_iff, Prod.mk.injEq] at h
        obtain ⟨v1, ⟨j, hj, rfl⟩, rfl, rfl⟩ := h
        exact .ofEx hS (s_idxASl hu hes hxr hir hj w)
      · simp at h
    | _ => simp at hc
  | index t x i =>
    simp only [cop, Option.bind_eq_some_iff] at hc
    obtain ⟨u, hu, x', hx, i', hi, hc⟩ := hc
    have hxr := copd_rel hE hx
    have hir := copd_rel hE hi
    cases u with
    | array n e =>
      simp only [Option.bind_eq_some_iff, Option.map_eq_some_iff] at hc
      obtain ⟨es, hes, g, hg, rfl⟩ := hc
      simp only [aop] at h
      split at h
      · rename_i l he
        rw [he] at hxr
        simp only [Option.map_eq_some_iff, Option.bind_eq_some_iff, Prod.mk.injEq] at h
        obtain ⟨v1, ⟨j, hj, hp⟩, rfl, rfl⟩ := h
        exact .ofEx hS (s_idxArr hu hes hg hxr hir hj hp w)
      · simp at h
    | string =>
      simp at hc; subst hc
      simp only [aop] at h
      split at h
      · rename_i s he
        rw [he] at hxr
        simp only [Option.map_eq_some_iff, Option.bind_eq_some_iff, Prod.mk.injEq] at h
        obtain ⟨v1, ⟨j, hj, b, hb, rfl⟩, rfl, rfl⟩ := h
        generalize hcv : a.eval x = cv at hxr
        cases hxr
        simp only [execOp, hcv]
        exact .valueOf hS (.int _ _) (s_idxStr hu hir hj hb w)
      · simp at h
    | _ => simp at hc
  | extract x i =>
    simp only [cop, Option.map_eq_some_iff] at hc
    obtain ⟨x', hx, rfl⟩ := hc
    have hxr := copd_rel hE hx
    simp only [aop] at h
    split at h
    · rename_i l he
      rw [he] at hxr
      simp only [Option.map_eq_some_iff, Prod.mk.injEq] at h
      obtain ⟨v1, hv, rfl, rfl⟩ := h
      generalize hcv : a.eval x = cv at hxr
      cases hxr with
      | tuple _ l' ha =>
        obtain ⟨v', hv', hr⟩ := forall2_get ha i v1 hv
        refine .valueOf hS hr ?_
        simp only [hcv, Instr.extract, List.getElem?_toArray, hv', Sem.run_pure]
    · simp at h
  | makeInterface t x =>
    simp only [cop, Option.bind_eq_some_iff] at hc
    obtain ⟨u, hu, hc⟩ := hc
    split at hc
    · simp at hc
    · rename_i hni
      simp only [Option.map_eq_some_iff] at hc
      obtain ⟨x', hx, rfl⟩ := hc
      simp only [aop, Option.some.injEq, Prod.mk.injEq] at h
      obtain ⟨rfl, rfl⟩ := h
      refine .valueOf hS (.iface _ _ _ (copd_rel hE hx)) ?_
      simp only [Instr.makeInterface, Sem.run_bind, run_underlying hu, Result.andThen_ok]
      cases u <;> first | rfl | exact absurd rfl (hni _)
  | call c =>
    obtain ⟨callee, args, argTypes⟩ := c
    cases callee with
    | value f => simp [cop] at hc
    | invoke _ _ => simp [cop] at hc
    | builtin b =>
      simp only [cop, Option.bind_eq_some_iff] at hc
      obtain ⟨as, has, hc⟩ := hc
      have har := copds_rel hE has
      have hargs : args.map a.eval = (args.toList.map a.eval).toArray := by apply Array.ext'; simp
      have hats : argTypes = argTypes.toList.toArray := by simp
      have hex : ∃ cs, ∀ w, (execOp a.eval ⟨dst, .call ⟨.builtin b, args, argTypes⟩, type, pos, after, guard⟩).run P w = (builtin b argTypes.toList.toArray type cs (args.toList.map a.eval).toArray).run P w := by
        refine ⟨args.map fun | .const _ => true | _ => false, fun w => ?_⟩
        simp only [execOp, resolve, Sem.run_bind, Sem.run_pure, Result.andThen_ok, invoke, hargs, ← hats]
        rfl
      obtain ⟨cs, hex⟩ := hex
      rw [hex]
      generalize hal : args.toList.map a.eval = al at har
      generalize argTypes.toList = ats at hc
      simp only [cbuiltin] at hc
      split at hc
      · -- len
        rename_i t x
        cases har with
        | cons hxr hnil =>
          cases hnil
          rename_i xv
          simp only [Option.bind_eq_some_iff] at hc
          obtain ⟨u, hu, hc⟩ := hc
          cases u with
          | string =>
            simp at hc; subst hc
            simp only [aop, Option.map_eq_some_iff, Prod.mk.injEq] at h
            obtain ⟨v1, ⟨n, hn, rfl⟩, rfl, rfl⟩ := h
            refine .valueOf hS (.int _ _) ?_
            generalize aev env x = xa at hxr hn
            cases hxr <;> simp [alenT] at hn
            subst hn
            simp only [Builtin.len_, List.getElem?_toArray, List.getElem?_cons_zero, Sem.run_bind, run_underlying hu, Result.andThen_ok, Sem.run_pure, goInt]
            rfl
          | slice e =>
            simp at hc; subst hc
            simp only [aop, Option.map_eq_some_iff, Prod.mk.injEq] at h
            obtain ⟨v1, ⟨n, hn, rfl⟩, rfl, rfl⟩ := h
            refine .valueOf hS (.int _ _) ?_
            generalize aev env x = xa at hxr hn
            cases hxr <;> simp [alenT] at hn <;> subst hn <;>
            simp only [Builtin.len_, List.getElem?_toArray, List.getElem?_cons_zero, Sem.run_bind, run_underlying hu, Result.andThen_ok, Sem.run_pure, goInt] <;> rfl
          | array n e =>
            simp at hc; subst hc
            simp only [aop, Option.some.injEq, Prod.mk.injEq] at h
            obtain ⟨rfl, rfl⟩ := h
            refine .valueOf hS (.int _ _) ?_
            simp only [Builtin.len_, List.getElem?_toArray, List.getElem?_cons_zero, Sem.run_bind, run_underlying hu, Result.andThen_ok, Sem.run_pure, goInt]
          | map kty e =>
            simp at hc; subst hc
            simp only [aop, Option.map_eq_some_iff, Prod.mk.injEq] at h
            obtain ⟨v1, ⟨n, hn, rfl⟩, rfl, rfl⟩ := h
            exact .valueOf hS (.int _ _) (s_lenM hS hu hxr hn)
          | pointer arr =>
            simp only [Option.bind_eq_some_iff] at hc
            obtain ⟨u', hu', hc⟩ := hc
            cases u' with
            | array n e =>
              simp at hc; subst hc
              simp only [aop, Option.some.injEq, Prod.mk.injEq] at h
              obtain ⟨rfl, rfl⟩ := h
              refine .valueOf hS (.int _ _) ?_
              simp only [Builtin.len_, List.getElem?_toArray, List.getElem?_cons_zero, Sem.run_bind, run_underlying hu, run_underlying hu', Result.andThen_ok, Sem.run_pure, goInt]
            | _ => simp at hc
          | _ => simp at hc
      · -- append
        rename_i t t' s x
        cases har with
        | cons hsr har =>
          cases har with
          | cons hxr hnil =>
            cases hnil
            simp only [Option.bind_eq_some_iff] at hc
            obtain ⟨u, hu, u', hu', hc⟩ := hc
            split at hc
            · simp only [Option.bind_eq_some_iff] at hc
              obtain ⟨es, hes, bs, hbs, z, hz, hc⟩ := hc
              split at hc
              · rename_i hzl
                simp at hc; subst hc
                simp only [aop] at h
                exact DoneV.next (s_append hS hu hu' (.inl rfl) hes hbs hz hzl hsr hxr h)
              · simp at hc
            · simp only [Option.bind_eq_some_iff] at hc
              obtain ⟨es, hes, bs, hbs, z, hz, hc⟩ := hc
              split at hc
              · rename_i hzl
                simp at hc; subst hc
                simp only [aop] at h
                exact DoneV.next (s_append hS hu hu' (.inr ⟨_, rfl⟩) hes hbs hz hzl hsr hxr h)
              · simp at hc
            · simp only [Option.bind_eq_some_iff] at hc
              obtain ⟨es, hes, bs, hbs, z, hz, hc⟩ := hc
              split at hc
              · rename_i hzl
                simp at hc; subst hc
                simp only [aop] at h
                exact DoneV.next (s_appendZ hS hu hu' rfl hes hbs hz hzl hsr hxr h)
              · simp at hc
            · simp at hc
      · -- copy
        rename_i t t' d s
        cases har with
        | cons hdr har =>
          cases har with
          | cons hsr hnil =>
            cases hnil
            simp only [Option.bind_eq_some_iff] at hc
            obtain ⟨u, hu, hc⟩ := hc
            cases u with
            | slice e =>
              simp only [Option.map_eq_some_iff] at hc
              obtain ⟨es, hes, rfl⟩ := hc
              simp only [aop] at h
              exact DoneV.next (s_copy hS hu hes hdr hsr h)
            | _ => simp at hc
      · -- clear
        rename_i t x
        cases har with
        | cons hxr hnil =>
          cases hnil
          simp only [Option.bind_eq_some_iff] at hc
          obtain ⟨u, hu, hc⟩ := hc
          cases u with
          | slice e =>
            simp only [Option.bind_eq_some_iff] at hc
            obtain ⟨es, hes, z, hz, hc⟩ := hc
            split at hc
            · rename_i hzl
              simp at hc; subst hc
              simp only [aop, Option.map_eq_some_iff, Prod.mk.injEq] at h
              obtain ⟨H1, hH, rfl, rfl⟩ := h
              obtain ⟨w', hr, hS'⟩ := s_clear (P := P) (ty := type) hS hu hes hz hzl hxr hH
              refine ⟨.tuple #[], w', m, .inl ?_, m.les_refl, hS', .tuple [] [] .nil⟩
              simp only [builtin, Sem.run_bind, hr, Result.andThen_ok, Sem.run_pure]
            · simp at hc
          | _ => simp at hc
      · -- min
        simp at hc; subst hc
        simp only [aop] at h
        split at h
        · simp at h
        · rename_i x l hl
          simp only [Option.map_eq_some_iff, Prod.mk.injEq] at h
          obtain ⟨v1, hv, rfl, rfl⟩ := h
          rw [hl] at har
          cases har with
          | cons hxr har =>
            refine .ofEx hS ?_
            have := s_fold (P := P) (isMax := false) _ _ _ _ _ w hxr har hv
            simpa [Builtin.min_] using this
      · -- max
        simp at hc; subst hc
        simp only [aop] at h
        split at h
        · simp at h
        · rename_i x l hl
          simp only [Option.map_eq_some_iff, Prod.mk.injEq] at h
          obtain ⟨v1, hv, rfl, rfl⟩ := h
          rw [hl] at har
          cases har with
          | cons hxr har =>
            refine .ofEx hS ?_
            have := s_fold (P := P) (isMax := true) _ _ _ _ _ w hxr har hv
            simpa [Builtin.max_] using this
      · -- cap
        rename_i t x
        cases har with
        | cons hxr hnil =>
          cases hnil
          simp only [Option.bind_eq_some_iff] at hc
          obtain ⟨u, hu, hc⟩ := hc
          cases u with
          | slice e =>
            simp at hc; subst hc
            simp only [aop, Option.map_eq_some_iff, Prod.mk.injEq] at h
            obtain ⟨v1, ⟨n, hn, rfl⟩, rfl, rfl⟩ := h
            refine .valueOf hS (.int _ _) ?_
            generalize aev env x = xa at hxr hn
            cases hxr with
            | nils =>
              simp [acap] at hn; subst hn
              simp only [Builtin.cap_, List.getElem?_toArray, List.getElem?_cons_zero, Sem.run_bind, run_underlying hu, Result.andThen_ok, Sem.run_pure, goInt]
            | slice id off len cap g a' c' h1 h0 h2 h3 h4 h5 =>
              cases g with
              | none =>
                simp [acap] at hn; subst hn
                have := h3 rfl
                subst this
                simp only [Builtin.cap_, List.getElem?_toArray, List.getElem?_cons_zero, Sem.run_bind, run_underlying hu, Result.andThen_ok, Sem.run_pure, goInt]
              | some e' => simp [acap] at hn
            | _ => simp [acap] at hn
          | _ => simp at hc
      · -- unsafe.SliceData
        cases har with
        | cons hxr hnil =>
          cases hnil
          simp only [Option.some.injEq] at hc
          subst hc
          simp only [aop, Option.map_eq_some_iff, Prod.mk.injEq] at h
          obtain ⟨v1, hv1, rfl, rfl⟩ := h
          exact .ofEx hS (s_sdata _ _ hxr hv1 w)
      · -- unsafe.String
        cases har with
        | cons hxr har =>
          cases har with
          | cons hnr hnil =>
            cases hnil
            simp only [Option.bind_eq_some_iff] at hc
            obtain ⟨u, hu, hc⟩ := hc
            split at hc
            · split at hc
              · rename_i hce
                simp only [Option.some.injEq] at hc
                subst hc
                simp only [aop] at h
                exact DoneV.next (s_ustr hS hu hce hxr hnr h)
              · cases hc
            · cases hc
      · simp at hc
  | _ => simp [cop] at hc

end Go.Proofs.Ytfmjdlahabgkpaa.Am
end

section
/- What the abstract machine answers, the model's machine does: an operation in its region, regions that keep the order of the text. -/
set_option linter.unusedSimpArgs false
set_option linter.unusedVariables false
namespace Go.Proofs.Ytfmjdlahabgkpaa.Am
open Go Go.RowKit

variable {P : Program} {w0 w : World} {B : Nat → Bool} {m : Inj} {H H' : AHeap} {nt : Nat} {env : Env} {a : Act}

def Enters (P : Program) (f : FuncId) : Prop := ∃ fn, P.funcs[f]? = some fn ∧ (fn.name == "runtime.NumGoroutine") = false ∧ fn.body.isNone = false

def CallSound (P : Program) (w0 : World) (B : Nat → Bool) (call : ACall) : Prop :=
  ∀ f args H v H', call f args H = some (v, H') → Enters P f ∧ Up H H' ∧ ∀ m w args', m.full → SRel w0 B m H w → All2 (VRel m) args args' →
    Calls P f args'.toArray w fun e w' => ∃ v' m', e = .returned v' ∧ m.le m' ∧ SRel w0 B m' H' w' ∧ VRel m' v v'

theorem SRel.inj {m1 : Inj} (hS : SRel w0 B m H w) (hm : m.le m1) (hn : m1.n = m.n) : SRel w0 B m1 H w := by
  refine ⟨hS.below, hS.size, by rw [hn]; exact hS.next, fun id o h => ?_, fun i j o o' hi hj hown hij => ?_, fun id t ht => ⟨(hm.2 id (hS.ty id t ht).1).1, by rw [(hm.2 id (hS.ty id t ht).1).2]; exact (hS.ty id t ht).2⟩⟩
  · obtain ⟨h1, h2⟩ := hS.obj id o h
    obtain ⟨h3, h4⟩ := hm.2 id h1
    rw [h4]
    exact ⟨h3, h2.mono hm⟩
  · rw [(hm.2 i (hS.obj i o hi).1).2, (hm.2 j (hS.obj j o' hj).1).2]
    exact hS.apart i j o o' hi hj hown hij

theorem ERel.mono {m m' : Inj} (hm : m.le m') (hE : ERel m nt env a) : ERel m' nt env a := ⟨hE.size, fun t ht => (hE.rel t ht).mono hm⟩

theorem ERel.put {dst : Option Nat} (hE : ERel m nt env a) (hd : cdst nt dst = true) {v : AVal} {v' : Value} (hv : VRel m v v') : ERel m nt (setd env dst v) (a.put dst v') := by
  cases dst with
  | none => exact hE
  | some d =>
    simp [cdst] at hd
    refine ⟨by simp [Act.put]; exact hE.size, fun t ht => ?_⟩
    simp only [setd, Env.set, Act.put, Act.eval]
    by_cases htd : t = d
    · subst htd
      have : t < a.tmps.size := Nat.lt_of_lt_of_le ht hE.size
      simp [this]
      exact hv
    · rw [if_neg htd]
      have := hE.rel t ht
      simp only [Act.eval] at this
      rwa [Array.getD_eq_getD_getElem?, Array.getElem?_setIfInBounds_ne (Ne.symm htd), ← Array.getD_eq_getD_getElem?]

theorem put_defers (dst : Option Nat) (v : Value) : (a.put dst v).defers = a.defers := by cases dst <;> rfl

theorem wanted_rel {ops : Array Oper} {o : Oper} {g : Option (Nat × Bool)} (hE : ERel m nt env a) (hg : cguard ops nt o.guard = some g) : Region.wanted o (yielded ops a.tmps) = agd env g := by
  unfold Region.wanted
  cases hgd : o.guard with
  | none => rw [hgd] at hg; simp [cguard] at hg; subst hg; rfl
  | some jw =>
    obtain ⟨j, wnt⟩ := jw
    rw [hgd] at hg
    simp only [cguard] at hg
    split at hg
    · rename_i d hd
      split at hg
      · rename_i hlt
        simp at hg; subst hg
        simp only [agd, yielded, hd, Option.bind_some]
        have hsz : d < a.tmps.size := Nat.lt_of_lt_of_le hlt hE.size
        have hr := hE.rel d hlt
        simp only [Act.eval, Array.getD_eq_getD_getElem?, Array.getElem?_eq_getElem hsz, Option.getD_some] at hr
        rw [Array.getElem?_eq_getElem hsz]
        generalize a.tmps[d] = x at hr
        generalize env d = y at hr
        cases hr with
        | junk _ h1 h2 => cases x <;> first | rfl | exact absurd rfl (h2 _)
        | any _ h2 => cases x <;> first | rfl | exact absurd rfl (h2 _)
        | bool b => cases b <;> cases wnt <;> rfl
        | _ => rfl
      · simp at hg
    · simp at hg

theorem run_callFunc {f : FuncId} (he : Enters P f) (args : Array Value) (w : World) : (callFunc f args).run P w = .ok (.enter f args) w := by
  obtain ⟨fn, h1, h2, h3⟩ := he
  simp only [callFunc, Sem.run_bind, run_program, Result.andThen_ok, h1, h2, h3, Bool.false_eq_true, if_false, Sem.run_pure]

def FW (r : Option Nat) : Fence := { Fence.wide with round := r }
theorem calls_in {P : Program} {f : FuncId} {args : Array Value} {w : World} {R : Ending → World → Prop} (r : Option Nat) (n : Nat) (h : Calls P f args w R) : CallsIn (FW r) n P f args w R := (callsIn_wide (n := n)).2 h

theorem run_noDefer {ρ : Operand → Value} {o : Oper} {x : Next} {w1 : World} (h : (execOp ρ o).run P w = .ok x w1) (hx : ∀ d, x ≠ .defer d := by intro d h; cases h) : ∀ c, o.op ≠ .defer c := by
  intro c hc
  obtain ⟨dst, op, type, pos, after, guard⟩ := o
  simp only at hc
  subst hc
  simp only [execOp, Sem.run_bind] at h
  cases hr : (resolve ρ c type).run P w with
  | ok d w2 =>
    rw [hr] at h
    simp only [Result.andThen_ok, Sem.run_pure, Result.ok.injEq] at h
    exact hx d h.1.symm
  | halt e w2 => rw [hr] at h; cases h

theorem run_callExt {f : FuncId} {fn : Func} {e : Array Value → Sem Value} (hf : P.funcs[f]? = some fn) (hb : fn.body.isNone = true) (hname : (fn.name == "runtime.NumGoroutine") = false)
    (hn : Extern.findNext fn = none) (he : Extern.find fn = some e) {args : Array Value} {v : Value} (w : World) (hr : (e args).run P w = .ok v w) : (callFunc f args).run P w = .ok (.value v) w := by
  have h1 : fn.name ≠ "runtime.NumGoroutine" := by simpa using hname
  have h2 : fn.body = none := by simpa using hb
  simp [callFunc, hf, h1, h2, hn, he, mark, Sem.run, hr]

theorem find_of {fn : Func} {n : String} {e : Array Value → Sem Value} (hname : fn.name = n) (ho : fn.origin = "")
    (h1 : Extern.allGenericRows.lookup n = none) (h2 : Extern.allTypedRows.lookup n = none) (h3 : Extern.allRows.lookup n = some e)
    (h4 : Extern.allNextRows.lookup n = none) (h5 : Extern.allNextRows.lookup "" = none) : Extern.findNext fn = none ∧ Extern.find fn = some e := by
  constructor
  · simp [Extern.findNext, hname, ho, h4, h5]
  · simp [Extern.find, hname, h1, h2, h3]

theorem run_archFloor {b : Nat} (h : ∀ s t, FloatKind.decode .f64 b ≠ .nan s t) : (Extern.MathFloor.toIntegral "math.archFloor" .down #[.float .f64 b]).run P w = .ok (.float .f64 (Ieee.double.write ((Ieee.double.read b).integral .down))) w := by
  have e0 : Ieee.double.read b = FloatKind.decode .f64 b := rfl
  have key : ∀ d, FloatKind.decode .f64 b = d → (∀ s t, d ≠ .nan s t) → Extern.MathFloor.toIntegral "math.archFloor" .down #[.float .f64 b] = (pure (.float .f64 (Ieee.double.write (d.integral .down))) : Sem Value) := by
    intro d hd hn
    delta Extern.MathFloor.toIntegral
    change (match FloatKind.decode .f64 b with
      | .nan s t => _
      | d => (pure (.float .f64 (FloatKind.f64.encode (d.integral .down))) : Sem Value)) = _
    rw [hd]
    cases d with
    | nan s t => exact absurd rfl (hn s t)
    | _ => rfl
  rw [e0, key _ rfl h]
  rfl

theorem sound_ext1 {call : ACall} {o : Oper} {ao : AOp} (hc : cextern P nt o.op = some ao) (hE : ERel m nt env a) (hS : SRel w0 B m H w) {v : AVal} (h : ado call ao (aev env) H = some (v, H')) :
    ∃ v', (execOp a.eval o).run P w = .ok (.value v') w ∧ VRel m v v' ∧ H' = H := by
  unfold cextern at hc
  split at hc
  · rename_i f args ats hop
    simp only [Option.bind_eq_some_iff] at hc
    obtain ⟨fn, hfn, hc⟩ := hc
    split at hc
    · rename_i hb
      split at hc
      · rename_i x hargs
        split at hc
        rotate_left
        · cases hc
        rename_i ho
        simp only [Option.bind_eq_some_iff] at hc
        obtain ⟨x', hx, hc⟩ := hc
        have hxr := copd_rel hE hx
        have hrun : ∀ v', (callFunc f #[a.eval x]).run P w = .ok (.value v') w → (execOp a.eval o).run P w = .ok (.value v') w := by
          intro v' hv'
          obtain ⟨dst, op, type, pos, after, guard⟩ := o
          simp only at hop
          subst hop
          have ha : args = #[x] := by apply Array.ext'; simpa using hargs
          have hev : a.eval (.func f) = .func (.func f) #[] #[] := rfl
          simp only [execOp, resolve, hev, Deferred.ofValue, Sem.run_bind, Sem.run_pure, Result.andThen_ok, invoke]
          rw [ha]
          simpa using hv'
        split at hc
        · rename_i hn
          injection hc with hc; subst hc
          simp only [ado, aop] at h
          split at h
          · rename_i b hb'
            split at h
            · rename_i hnum
              simp only [Option.some.injEq, Prod.mk.injEq] at h
              obtain ⟨rfl, rfl⟩ := h
              rw [hb'] at hxr
              obtain ⟨b', hbv, hfr⟩ := flt_rel hxr
              rcases hfr with rfl | ⟨h1, _⟩
              · have := find_of hn ho (e := Extern.MathFloatBits.float64bits) (by kernel_rfl) (by kernel_rfl) (by kernel_rfl) (by kernel_rfl) (by kernel_rfl)
                refine ⟨.int .u64 (b : Int), hrun _ (run_callExt hfn hb (by rw [hn]; decide) this.1 this.2 w ?_), .int _ _, rfl⟩
                rw [hbv]; rfl
              · exact absurd hnum h1
            · cases h
          · cases h
        · split at hc
          · rename_i hn
            injection hc with hc; subst hc
            simp only [ado, aop] at h
            split at h
            · rename_i n hb'
              simp only [Option.some.injEq, Prod.mk.injEq] at h
              obtain ⟨rfl, rfl⟩ := h
              rw [hb'] at hxr
              generalize hcv : a.eval x = cv at hxr hrun
              cases hxr
              have := find_of hn ho (e := Extern.MathFloatBits.float64frombits) (by kernel_rfl) (by kernel_rfl) (by kernel_rfl) (by kernel_rfl) (by kernel_rfl)
              exact ⟨.float .f64 n.toNat, hrun _ (run_callExt hfn hb (by rw [hn]; decide) this.1 this.2 w rfl), .flt _ _, rfl⟩
            · cases h
          · split at hc
            · rename_i hn
              injection hc with hc; subst hc
              simp only [ado, aop] at h
              split at h
              · rename_i b hb'
                split at h
                · rename_i hnum
                  simp only [Option.some.injEq, Prod.mk.injEq] at h
                  obtain ⟨rfl, rfl⟩ := h
                  rw [hb'] at hxr
                  obtain ⟨b', hbv, hfr⟩ := flt_rel hxr
                  rcases hfr with rfl | ⟨h1, _⟩
                  · have := find_of hn ho (e := Extern.MathFloor.toIntegral "math.archFloor" .down) (by kernel_rfl) (by kernel_rfl) (by kernel_rfl) (by kernel_rfl) (by kernel_rfl)
                    refine ⟨.float .f64 (Ieee.double.write ((Ieee.double.read b).integral .down)), hrun _ (run_callExt hfn hb (by rw [hn]; decide) this.1 this.2 w ?_), .flt _ _, rfl⟩
                    rw [hbv]
                    have hnn : ∀ s t, FloatKind.decode .f64 b ≠ .nan s t := by
                      intro s t e
                      have e' : Ieee.double.read b = .nan s t := e
                      unfold Fl.num at hnum
                      rcases Nat.lt_or_eq_of_le hnum with h1 | h1
                      · obtain ⟨m, p, e1, _⟩ := Fl.read_num h1
                        rw [e1] at e'; cases e'
                      · rw [Fl.read_inf h1] at e'; cases e'
                    exact run_archFloor hnn
                  · exact absurd hnum h1
                · cases h
              · cases h
            · cases hc
      · rename_i x y hargs
        split at hc
        · rename_i hcond
          obtain ⟨ho, h1, h2, h3, h4, hnm⟩ := hcond
          split at hc
          · rename_i t t' tr hps hrs
            split at hc
            · rename_i htt
              subst htt
              simp only [Option.bind_eq_some_iff] at hc
              obtain ⟨u, hu, hc⟩ := hc
              split at hc
              · rename_i e
                simp only [Option.bind_eq_some_iff, Option.map_eq_some_iff] at hc
                obtain ⟨sz, hsz, x', hx, y', hy, rfl⟩ := hc
                have hxr := copd_rel hE hx
                have hyr := copd_rel hE hy
                have hp : fn.params = #[t, t] := by apply Array.ext'; simpa using hps
                have hr' : fn.resultTypes = #[tr] := by apply Array.ext'; simpa using hrs
                have hfind : Extern.findNext fn = none ∧ Extern.find fn = some (Extern.SlicesOverlaps.overlaps #[t, t] #[tr]) := by
                  have g1 : Extern.allGenericRows.lookup "slices.overlaps" = none := by kernel_rfl
                  have g2 : Extern.allTypedRows.lookup "slices.overlaps" = some Extern.SlicesOverlaps.overlaps := by kernel_rfl
                  have g4 : Extern.allNextRows.lookup "slices.overlaps" = none := by kernel_rfl
                  rw [Option.isNone_iff_eq_none] at h1 h2 h3 h4
                  constructor
                  · simp [Extern.findNext, ho, h4, g4]
                  · simp [Extern.find, ho, h1, h2, h3, g1, g2, hp, hr']
                have hrun : ∀ v', (callFunc f #[a.eval x, a.eval y]).run P w = .ok (.value v') w → (execOp a.eval o).run P w = .ok (.value v') w := by
                  intro v' hv'
                  obtain ⟨dst, op, type, pos, after, guard⟩ := o
                  simp only at hop
                  subst hop
                  have ha : args = #[x, y] := by apply Array.ext'; simpa using hargs
                  have hev : a.eval (.func f) = .func (.func f) #[] #[] := rfl
                  simp only [execOp, resolve, hev, Deferred.ofValue, Sem.run_bind, Sem.run_pure, Result.andThen_ok, invoke]
                  rw [ha]
                  simpa using hv'
                simp only [ado, aop, Option.map_eq_some_iff, Prod.mk.injEq] at h
                obtain ⟨v1, hv1, rfl, rfl⟩ := h
                refine ⟨.bool false, hrun _ (run_callExt hfn hb hnm hfind.1 hfind.2 w ?_), ?_, rfl⟩
                all_goals
                  unfold aovl at hv1
                  split at hv1
                  rotate_left
                  · cases hv1
                  rename_i i1 o1 n1 c1 g1 i2 o2 n2 c2 g2 hx1 hx2
                  split at hv1
                  rotate_left
                  · cases hv1
                  rename_i hne
                  split at hv1
                  rotate_left
                  · cases hv1
                  rename_i l1 l2 own2 ty1 hob1 hob2 hty1
                  split at hv1
                  rotate_left
                  · cases hv1
                  rename_i hlen
                  injection hv1 with hv1
                  subst hv1
                · rw [hx1] at hxr
                  rw [hx2] at hyr
                  generalize a.eval x = xv at hxr
                  generalize a.eval y = yv at hyr
                  cases hxr with
                  | slice _ _ _ _ _ a1 k1 _ _ _ _ _ ha1 =>
                    cases hyr with
                    | slice _ _ _ _ _ a2 k2 _ _ _ _ _ ha2 =>
                      have e1 : a1 = ⟨(m.loc i1).block, (m.loc i1).off + o1, none⟩ := ha1.elim id (fun h => by omega)
                      have e2 : a2 = ⟨(m.loc i2).block, (m.loc i2).off + o2, none⟩ := ha2.elim id (fun h => by omega)
                      subst e1; subst e2
                      obtain ⟨_, ca, ta, fa, hba, hca, hoa⟩ := hS.obj i1 _ hob1
                      obtain ⟨_, cb, tb, fb, hbb, hcb, _⟩ := hS.obj i2 _ hob2
                      obtain ⟨_, _, c0, hb0, _⟩ := hS.ty i1 _ hty1
                      rw [hba] at hb0
                      obtain ⟨_, _, hf0⟩ : ca = c0 ∧ ta = ty1.1 ∧ fa = (0, 0) := by simpa using hb0
                      subst hf0
                      have hfr : ∀ i, w.frozen? ⟨(m.loc i1).block, i, none⟩ = false := fun i => Lib.frozen_of_heap hba i
                      obtain ⟨v2, hv2, _⟩ := hcb o2 l2[o2] (List.getElem?_eq_getElem hlen.2)
                      have hlb := (Array.getElem?_eq_some_iff.1 hv2).1
                      exact Lib.run_overlaps_apart w t tr e hu sz (fun w => run_sizeOf' hsz w) ⟨(m.loc i1).block, (m.loc i1).off + o1, none⟩ ⟨(m.loc i2).block, (m.loc i2).off + o2, none⟩ n1 k1 n2 k2 (hS.apart i1 i2 _ _ hob1 hob2 rfl hne.1) ta tb ca.size cb.size
                        (by simp [World.shape?, hba]) (by simp [World.shape?, hbb]) (by omega) (hfr _) (hfr _)
                · exact .bool _
              · cases hc
            · cases hc
          · cases hc
        · cases hc
      · cases hc
    · cases hc
  · cases hc

theorem cextern_append (P : Program) (nt : Nat) (o : Op) (a b : Nat) (s x : AOpd) : cextern P nt o ≠ some (.append a b s x) := by
  intro hx
  unfold cextern at hx
  split at hx
  · simp only [Option.bind_eq_some_iff] at hx
    obtain ⟨fn, _, hx⟩ := hx
    split at hx
    · split at hx
      · split at hx
        · simp only [Option.bind_eq_some_iff] at hx
          obtain ⟨x', _, hx⟩ := hx
          split at hx
          · cases hx
          · split at hx
            · cases hx
            · split at hx <;> cases hx
        · cases hx
      · split at hx
        · split at hx
          · split at hx
            · simp only [Option.bind_eq_some_iff] at hx
              obtain ⟨u, _, hx⟩ := hx
              split at hx
              · simp only [Option.bind_eq_some_iff, Option.map_eq_some_iff] at hx
                obtain ⟨_, _, _, _, _, _, hx⟩ := hx
                cases hx
              · cases hx
            · cases hx
          · cases hx
        · cases hx
      · cases hx
    · cases hx
  · cases hx

theorem cb_app {P : Program} {b : Builtin} {ats : List TypeId} {as : List AOpd} {e1 b1 : Nat} {s x : AOpd} (h : cbuiltin P b ats as = some (.append e1 b1 s x)) : b = .append := by
  unfold cbuiltin at h
  split at h <;> try rfl
  all_goals exfalso
  all_goals (repeat' first | (cases h; done) | (obtain ⟨_, _, h⟩ := h) | (simp only [Option.bind_eq_some_iff, Option.map_eq_some_iff] at h) | split at h)
theorem sound_appT {o : Oper} {s x : AOpd} {e : TypeId} {c : Callee} {args : Array Operand} {t t' : TypeId} (hc : cop P nt o.op = some (.append 1 1 s x)) (hop : o.op = .call ⟨c, args, #[t, t']⟩) (hu0 : P.underlying t = some (.slice e)) (hE : ERel m nt env a) (hS : SRel w0 B m H w) {v : AVal}
    (h : aappendT e H 1 1 (aev env s) (aev env x) = some (v, H')) : DoneN w0 B m H' v ((execOp a.eval o).run P w) := by
  obtain ⟨dst, op, type, pos, after, guard⟩ := o
  simp only at hc hop
  subst hop
  cases c with
  | value f => simp [cop] at hc
  | invoke _ _ => simp [cop] at hc
  | builtin b =>
    simp only [cop, Option.bind_eq_some_iff] at hc
    obtain ⟨as, has, hc⟩ := hc
    have har := copds_rel hE has
    have hargs : args.map a.eval = (args.toList.map a.eval).toArray := by apply Array.ext'; simp
    have hex : ∃ cs, ∀ w, (execOp a.eval ⟨dst, .call ⟨.builtin b, args, #[t, t']⟩, type, pos, after, guard⟩).run P w = (builtin b #[t, t'] type cs (args.toList.map a.eval).toArray).run P w := by
      refine ⟨args.map fun | .const _ => true | _ => false, fun w => ?_⟩
      simp only [execOp, resolve, Sem.run_bind, Sem.run_pure, Result.andThen_ok, invoke, hargs]
      rfl
    obtain ⟨cs, hex⟩ := hex
    rw [hex]
    generalize hal : args.toList.map a.eval = al at har
    have hb := cb_app hc
    subst hb
    have hlen : ∃ s1 x1, as = [s1, x1] := by
      match as, hc with
      | [], hc => simp [cbuiltin] at hc
      | [_], hc => simp [cbuiltin] at hc
      | [s1, x1], _ => exact ⟨s1, x1, rfl⟩
      | _ :: _ :: _ :: _, hc => simp [cbuiltin] at hc
    obtain ⟨s1, x1, rfl⟩ := hlen
    simp only [cbuiltin] at hc
    cases har with
    | cons hsr har =>
      cases har with
      | cons hxr hnil =>
        cases hnil
        simp only [Option.bind_eq_some_iff] at hc
        obtain ⟨u, hu, u', hu', hc⟩ := hc
        rw [hu0] at hu
        cases hu
        split at hc
        · rename_i e1 _ heq
          cases heq
          simp only [Option.bind_eq_some_iff] at hc
          obtain ⟨es, hes, bs, hbs, z, hz, hc⟩ := hc
          split at hc
          · rename_i hzl
            simp only [Option.some.injEq, AOp.append.injEq] at hc
            obtain ⟨rfl, rfl, rfl, rfl⟩ := hc
            exact DoneV.next (s_appendT hS hu0 hu' (.inl rfl) hes hbs hz hzl hsr hxr h)
          · cases hc
        · rename_i e1 _ heq
          cases heq
          simp only [Option.bind_eq_some_iff] at hc
          obtain ⟨es, hes, bs, hbs, z, hz, hc⟩ := hc
          split at hc
          · rename_i hzl
            simp only [Option.some.injEq, AOp.append.injEq] at hc
            obtain ⟨rfl, rfl, rfl, rfl⟩ := hc
            exact DoneV.next (s_appendT hS hu0 hu' (.inr ⟨_, rfl⟩) hes hbs hz hzl hsr hxr h)
          · cases hc
        · simp only [Option.bind_eq_some_iff] at hc
          obtain ⟨es, hes, bs, hbs, z, hz, hc⟩ := hc
          split at hc
          · cases hc
          · cases hc
        · cases hc

theorem sound_ado {call : ACall} (hcs : CallSound P w0 B call) {o : Oper} {ao : AOp} (hc : copc P nt o = some ao) (hE : ERel m nt env a) (hS : SRel w0 B m H w) {v : AVal} (h : ado call ao (aev env) H = some (v, H'))
    {next : Act → World → Prop} {Q : Exit → Act → World → Prop} (hnext : ∀ v' w' m', m.le m' → (ao.isCall = false → m.les m') → SRel w0 B m' H' w' → VRel m' v v' → next (a.put o.dst v') w') (r : Option Nat) (nn : Nat) : o.wpIn (FW r) nn P a w next Q := by
  have hc0 : copc0 P nt o.op = some ao ∨ ∃ e s x c args t t', copc0 P nt o.op = some (.append 1 1 s x) ∧ ao = .appendT e 1 1 s x ∧ o.op = .call ⟨c, args, #[t, t']⟩ ∧ P.underlying t = some (.slice e) := by
    unfold copc at hc
    simp only [Option.some.injEq] at hc
    cases h0 : copc0 P nt o.op with
    | none =>
      rw [h0] at hc
      subst hc
      cases h
    | some x =>
      rw [h0] at hc
      simp only [Option.getD_some] at hc
      unfold tagOp at hc
      split at hc
      · split at hc
        · split at hc
          · rename_i c args ats hop
            split at hc
            · rename_i t t' hat
              split at hc
              · rename_i e hu
                have : ats = #[t, t'] := by apply Array.ext'; simpa using hat
                subst this
                exact .inr ⟨e, _, _, c, args, t, t', rfl, hc.symm, hop, hu⟩
              · exact .inl (by rw [← hc])
            · exact .inl (by rw [← hc])
          · exact .inl (by rw [← hc])
        · exact .inl (by rw [← hc])
      · exact .inl (by rw [← hc])
  clear hc
  rcases hc0 with hc | ⟨e, s, x, c, args, t, t', hc, rfl, hop, hu⟩
  rotate_left
  · simp only [ado, aop] at h
    have hx : cextern P nt o.op = none := by
      cases hx : cextern P nt o.op with
      | none => rfl
      | some y =>
        unfold copc0 at hc
        rw [hx] at hc
        simp only [Option.some.injEq] at hc
        subst hc
        exact absurd hx (cextern_append P nt o.op _ _ _ _)
    unfold copc0 at hc
    rw [hx] at hc
    simp only at hc
    unfold copc1 at hc
    split at hc
    · rename_i r hr
      unfold ccall at hr
      split at hr
      · simp only [Option.some.injEq] at hr
        rw [← hr] at hc
        simp only [Option.bind_eq_some_iff, Option.map_eq_some_iff] at hc
        obtain ⟨_, _, _, _, h1⟩ := hc
        cases h1
      · cases hr
    · simp only [Option.bind_eq_some_iff] at hc
      obtain ⟨ao', hc, hn⟩ := hc
      split at hn
      · cases hn
      simp only [Option.some.injEq] at hn
      subst hn
      obtain ⟨v', w', m', hr, hm, hS', hv⟩ := sound_appT hc hop hu hE hS h
      refine ⟨fun _ _ => trivial, ?_⟩
      rcases hr with hr | ⟨hr, rfl⟩
      · rw [Oper.semAt_eq _ _ _ (run_noDefer hr), hr]; exact hnext v' w' m' hm.1 (fun _ => hm) hS' hv
      · rw [Oper.semAt_eq _ _ _ (run_noDefer hr), hr]; exact hnext undef w' m' hm.1 (fun _ => hm) hS' hv
  unfold copc0 at hc
  split at hc
  · rename_i ao' hx
    injection hc with hc
    subst hc
    obtain ⟨v', hr, hv, rfl⟩ := sound_ext1 (w := w) (call := call) hx hE hS h
    refine ⟨fun _ _ => trivial, ?_⟩
    rw [Oper.semAt_eq _ _ _ (run_noDefer hr), hr]; exact hnext v' w m m.le_refl (fun _ => m.les_refl) hS hv
  unfold copc1 at hc
  split at hc
  · rename_i r hr
    subst hc
    unfold ccall at hr
    split at hr
    · rename_i fo args ats hop
      simp only [Option.some.injEq, Option.bind_eq_some_iff, Option.map_eq_some_iff] at hr
      obtain ⟨f', hf, l, hl, rfl⟩ := hr
      have hfr := copd_rel hE hf
      have hlr := copds_rel hE hl
      simp only [ado] at h
      split at h
      · rename_i g first captured hg
        rw [hg] at hfr
        generalize hfv : a.eval fo = fv at hfr
        cases hfr with
        | func _ _ _ first' captured' h1 h2 =>
          obtain ⟨hen, _, hcalls⟩ := hcs _ _ _ _ _ h
          have hca := hcalls m.filled w (first' ++ args.toList.map a.eval ++ captured') m.filled_full (hS.inj m.le_filled rfl) (forall2_mono m.le_filled (forall2_append (forall2_append h1 hlr) h2))
          have hrun : (execOp a.eval o).run P w = .ok (.enter g (first' ++ args.toList.map a.eval ++ captured').toArray) w := by
            obtain ⟨dst, op, type, pos, after, guard⟩ := o
            simp only at hop
            subst hop
            simp only [execOp, resolve, hfv, Deferred.ofValue, Sem.run_bind, Sem.run_pure, Result.andThen_ok, invoke]
            rw [run_callFunc hen]
            congr 2
            apply Array.ext'
            simp
          refine ⟨fun _ _ => trivial, ?_⟩
          rw [Oper.semAt_eq _ _ _ (run_noDefer hrun), hrun, Oper.uponIn_enter]
          refine ⟨fun h => by simp [FW, Fence.wide] at h, calls_in r _ (hca.mono ?_)⟩
          rintro e w' ⟨v', m', rfl, hm, hS', hv⟩
          exact hnext v' w' m' (Inj.le_trans m.le_filled hm) (fun h => by cases h) hS' hv
      · simp at h
    · simp at hr
  · simp only [Option.bind_eq_some_iff] at hc
    obtain ⟨ao', hc, hn⟩ := hc
    split at hn
    · simp at hn
    · rename_i hic
      simp at hn; subst hn
      have hcall' : ∀ f l, ao' ≠ .call f l := by intro f l he; subst he; simp [AOp.isCall] at hic
      have h' : aop ao' (aev env) H = some (v, H') := by
        cases ao' <;> first | exact h | exact absurd rfl (hcall' _ _)
      obtain ⟨v', w', m', hr, hm, hS', hv⟩ := sound_aop hc hcall' hE hS h'
      refine ⟨fun _ _ => trivial, ?_⟩
      rcases hr with hr | ⟨hr, rfl⟩
      · rw [Oper.semAt_eq _ _ _ (run_noDefer hr), hr]; exact hnext v' w' m' hm.1 (fun _ => hm) hS' hv
      · rw [Oper.semAt_eq _ _ _ (run_noDefer hr), hr]; exact hnext undef w' m' hm.1 (fun _ => hm) hS' hv

theorem coper_spec {ops : Array Oper} {o : Oper} {x : AOper} (h : coper P ops nt o = some x) : cdst nt o.dst = true ∧ copc P nt o = some x.op ∧ cguard ops nt o.guard = some x.guard ∧ x.dst = o.dst := by
  unfold coper at h
  split at h
  · rename_i hd
    simp only [Option.bind_eq_some_iff, Option.map_eq_some_iff] at h
    obtain ⟨ao, hao, g, hg, rfl⟩ := h
    exact ⟨hd, hao, hg, rfl⟩
  · simp at h

theorem undef_rel (m : Inj) : VRel m aundef undef := .tuple [] [] .nil

theorem sound_aops {call : ACall} {r : Option Nat} {nn : Nat} (hcs : CallSound P w0 B call) {ops : Array Oper} {Q : Exit → Act → World → Prop} : ∀ (l : List Oper) (al : List AOper) (i : Nat) (env : Env) (H : AHeap) (m : Inj) (a : Act) (w : World) (env' : Env) (H' : AHeap),
    copers P ops nt l = some al → (∀ j, l[j]? = ops[i + j]?) → ERel m nt env a → SRel w0 B m H w → aops call al env H = some (env', H') →
    (∀ a' w' m', m.le m' → SRel w0 B m' H' w' → ERel m' nt env' a' → a'.defers = a.defers → Q .normal a' w') → wpOpsIn (FW r) nn P ops Q (List.range' i l.length) a w
  | [], al, i, env, H, m, a, w, env', H', hc, hl, hE, hS, h, hQ => by
    simp [copers] at hc; subst hc
    simp [aops] at h
    obtain ⟨rfl, rfl⟩ := h
    exact hQ a w m m.le_refl hS hE rfl
  | o :: l, al, i, env, H, m, a, w, env', H', hc, hl, hE, hS, h, hQ => by
    simp only [copers, Option.bind_eq_some_iff, Option.map_eq_some_iff] at hc
    obtain ⟨x, hx, r, hr, rfl⟩ := hc
    obtain ⟨hd, ho, hg, hdx⟩ := coper_spec hx
    have h0 : ops[i]? = some o := by simpa using (hl 0).symm
    have hl' : ∀ j, l[j]? = ops[i + 1 + j]? := fun j => by have := hl (j + 1); simpa [Nat.add_assoc, Nat.add_comm 1 j] using this
    have hw := wanted_rel hE hg
    simp only [List.length_cons, List.range'_succ, wpOpsIn, h0]
    simp only [aops] at h
    cases hag : agd env x.guard with
    | true =>
      rw [hag] at h hw
      simp only [if_true, Option.bind_eq_some_iff] at h
      obtain ⟨⟨v, H1⟩, hv, h⟩ := h
      rw [if_pos hw]
      refine sound_ado hcs ho hE hS hv (fun v' w' m' hm _ hS' hvr => ?_) _ _
      refine sound_aops hcs l r (i + 1) _ H1 m' _ w' env' H' hr hl' (by rw [hdx]; exact (hE.mono hm).put hd hvr) hS' h ?_
      intro a' w'' m'' hm' hS'' hE' hdf
      exact hQ a' w'' m'' (Inj.le_trans hm hm') hS'' hE' (hdf.trans (put_defers _ _))
    | false =>
      rw [hag] at h hw
      simp only [Bool.false_eq_true, if_false] at h
      rw [if_neg (by rw [hw]; simp)]
      refine ⟨fun _ _ => trivial, ?_⟩
      refine sound_aops hcs l r (i + 1) _ H m _ w env' H' hr hl' (by rw [hdx]; exact hE.put hd (undef_rel m)) hS h ?_
      intro a' w'' m'' hm' hS'' hE' hdf
      exact hQ a' w'' m'' hm' hS'' hE' (hdf.trans (put_defers _ _))

end Go.Proofs.Ytfmjdlahabgkpaa.Am
end

section
/- What the abstract machine answers, the model's machine does: regions that draw their order. -/
set_option linter.unusedSimpArgs false
set_option linter.unusedVariables false
namespace Go.Proofs.Ytfmjdlahabgkpaa.Am
open Go Go.RowKit

variable {P : Program} {w0 w : World} {B : Nat → Bool} {m : Inj} {H H' : AHeap} {nt : Nat} {env : Env} {a : Act}

/-! ### The edges -/
theorem one_bit {look : Nat → Nat} {o : Oper} {j : Nat} (h : (CheckFast.one look o).testBit j = true) : ∃ e, e ∈ o.after ∧ Region.binds .any e = true ∧ (e.on = j ∨ (look e.on).testBit j = true) := by
  unfold CheckFast.one at h
  rw [← Array.foldl_toList] at h
  have key : ∀ (l : List Edge) (s : Nat), (l.foldl (fun s e => if Region.binds .any e then s ||| 2 ^ e.on ||| look e.on else s) s).testBit j = true → s.testBit j = true ∨ ∃ e, e ∈ l ∧ Region.binds .any e = true ∧ (e.on = j ∨ (look e.on).testBit j = true) := by
    intro l
    induction l with
    | nil => intro s h; exact .inl h
    | cons e l ih =>
      intro s h
      simp only [List.foldl_cons] at h
      rcases ih _ h with h | ⟨e', h1, h2⟩
      · by_cases hb : Region.binds .any e = true
        · rw [if_pos hb] at h
          simp only [Nat.testBit_or, Bool.or_eq_true, Nat.testBit_two_pow, decide_eq_true_eq] at h
          rcases h with (h | h) | h
          · exact .inl h
          · exact .inr ⟨e, by simp, hb, .inl h⟩
          · exact .inr ⟨e, by simp, hb, .inr h⟩
        · rw [if_neg hb] at h; exact .inl h
      · exact .inr ⟨e', by simp [h1], h2⟩
  rcases key _ _ h with h | ⟨e, h1, h2⟩
  · simp at h
  · exact ⟨e, by simpa using h1, h2⟩

theorem before_fold : ∀ (l : List Oper) (A : Array Nat) (i : Nat) (o : Oper), l[i]? = some o →
    ∃ look, ((l.foldl (fun acc o => acc.push (CheckFast.one (fun i => acc.getD i 0) o)) A)).getD (A.size + i) 0 = CheckFast.one look o ∧
      (∀ k, k < A.size + i → look k = ((l.foldl (fun acc o => acc.push (CheckFast.one (fun i => acc.getD i 0) o)) A)).getD k 0)
  | [], A, i, o, h => by simp at h
  | x :: l, A, i, o, h => by
    have keep : ∀ (l : List Oper) (A : Array Nat) (k : Nat), k < A.size → ((l.foldl (fun acc o => acc.push (CheckFast.one (fun i => acc.getD i 0) o)) A)).getD k 0 = A.getD k 0 := by
      intro l
      induction l with
      | nil => intro A k h; rfl
      | cons y l ih =>
        intro A k h
        rw [List.foldl_cons, ih _ k (by simp; omega)]
        simp [Array.getD_eq_getD_getElem?, Array.getElem?_push, Nat.ne_of_lt h]
    simp only [List.foldl_cons]
    cases i with
    | zero =>
      simp at h; subst h
      refine ⟨fun i => A.getD i 0, ?_, ?_⟩
      · rw [Nat.add_zero, keep _ _ _ (by simp)]
        simp [Array.getD_eq_getD_getElem?]
      · intro k hk
        rw [keep _ _ _ (by simp; omega)]
        simp [Array.getD_eq_getD_getElem?, Array.getElem?_push, Nat.ne_of_lt (show k < A.size by omega)]
    | succ i =>
      obtain ⟨look, h1, h2⟩ := before_fold l (A.push (CheckFast.one (fun i => A.getD i 0) x)) i o (by simpa using h)
      simp only [Array.size_push] at h1 h2
      refine ⟨look, by rw [show A.size + (i + 1) = A.size + 1 + i by omega]; exact h1, fun k hk => h2 k (by omega)⟩

theorem before_bit {ops : Array Oper} {b : List Nat} (hb : b = (CheckFast.beforeF ops).toList) (he : edgesOk ops.toList = true) {i j : Nat} {o : Oper} (ho : ops[i]? = some o) (h : (b.getD i 0).testBit j = true) :
    ∃ e, e ∈ o.after ∧ Region.binds .any e = true ∧ e.on < i ∧ (e.on = j ∨ (b.getD e.on 0).testBit j = true) := by
  rw [CheckFast.beforeF_eq] at hb
  have hbe : Region.before ops = ops.toList.foldl (fun acc o => acc.push (CheckFast.one (fun i => acc.getD i 0) o)) #[] := by
    unfold Region.before
    rw [← Array.foldl_toList]
    rfl
  have hget : ∀ k, b.getD k 0 = (Region.before ops).getD k 0 := by intro k; subst hb; simp [Array.getD_eq_getD_getElem?]
  obtain ⟨look, h1, h2⟩ := before_fold ops.toList #[] i o (by simpa using ho)
  simp only [Array.size_empty, Nat.zero_add] at h1 h2
  rw [hget, hbe, h1] at h
  obtain ⟨e, hm, hbind, hor⟩ := one_bit h
  have hlt : e.on < i := by
    unfold edgesOk at he
    rw [List.all_eq_true] at he
    have := he (o, i) (by rw [List.mem_zipIdx_iff_getElem?]; simpa using ho)
    simp only [Array.all_eq_true_iff_forall_mem] at this
    have := this e hm
    simpa [hbind] using this
  refine ⟨e, hm, hbind, hlt, hor.imp id fun h => ?_⟩
  rw [h2 _ hlt] at h
  rw [hget, hbe]; exact h

/-! ### What an operation looks at -/
theorem aop_congr {o : AOp} {ρ ρ' : AOpd → AVal} (h : ∀ y, y ∈ o.opds → ρ y = ρ' y) (call : ACall) (H : AHeap) : ado call o ρ H = ado call o ρ' H := by
  cases o with
  | build z ps =>
    have : ps.map (fun x => match x with | (o, n, x) => (o, n, ρ x)) = ps.map (fun x => match x with | (o, n, x) => (o, n, ρ' x)) := by
      apply List.map_congr_left
      rintro ⟨o, n, x⟩ hx
      simp only [AOp.opds] at h
      have := h x (List.mem_map.2 ⟨_, hx, rfl⟩)
      simp only [this]
    simp only [ado, aop, this]
  | buildS len z ps =>
    have : ps.map (fun x => match x with | (o, n, x) => (o, n, ρ x)) = ps.map (fun x => match x with | (o, n, x) => (o, n, ρ' x)) := by
      apply List.map_congr_left
      rintro ⟨o, n, x⟩ hx
      simp only [AOp.opds] at h
      have := h x (List.mem_map.2 ⟨_, hx, rfl⟩)
      simp only [this]
    simp only [ado, aop, this]
  | buildT t len z ps =>
    have : ps.map (fun x => match x with | (o, n, x) => (o, n, ρ x)) = ps.map (fun x => match x with | (o, n, x) => (o, n, ρ' x)) := by
      apply List.map_congr_left
      rintro ⟨o, n, x⟩ hx
      simp only [AOp.opds] at h
      have := h x (List.mem_map.2 ⟨_, hx, rfl⟩)
      simp only [this]
    simp only [ado, aop, this]
  | mkFn f l k =>
    simp only [AOp.opds] at h
    have h1 : l.map ρ = l.map ρ' := List.map_congr_left fun x hx => h x (by simp [hx])
    have h2 : k.map ρ = k.map ρ' := List.map_congr_left fun x hx => h x (by simp [hx])
    simp only [ado, aop, h1, h2]
  | minmax b l =>
    simp only [AOp.opds] at h
    have h1 : l.map ρ = l.map ρ' := List.map_congr_left fun x hx => h x hx
    simp only [ado, aop, h1]
  | call f l =>
    simp only [AOp.opds] at h
    have h1 : l.map ρ = l.map ρ' := List.map_congr_left fun x hx => h x (by simp [hx])
    simp only [ado, h1, h f (by simp)]
  | slcStr x lo hi =>
    simp only [AOp.opds] at h
    have h1 : lo.map ρ = lo.map ρ' := by cases lo <;> simp at h ⊢; exact h.2.1
    have h2 : hi.map ρ = hi.map ρ' := by cases hi <;> cases lo <;> simp at h ⊢ <;> simp [h]
    simp only [ado, aop, h1, h2, h x (by simp)]
  | slc es x lo hi mx =>
    simp only [AOp.opds] at h
    have h1 : lo.map ρ = lo.map ρ' := by cases lo <;> simp; exact h _ (by simp)
    have h2 : hi.map ρ = hi.map ρ' := by cases hi <;> simp; exact h _ (by simp)
    have h3 : mx.map ρ = mx.map ρ' := by cases mx <;> simp; exact h _ (by simp)
    simp only [ado, aop, h1, h2, h3, h x (by simp)]
  | slcArr n es x lo hi mx =>
    simp only [AOp.opds] at h
    have h1 : lo.map ρ = lo.map ρ' := by cases lo <;> simp; exact h _ (by simp)
    have h2 : hi.map ρ = hi.map ρ' := by cases hi <;> simp; exact h _ (by simp)
    have h3 : mx.map ρ = mx.map ρ' := by cases mx <;> simp; exact h _ (by simp)
    simp only [ado, aop, h1, h2, h3, h x (by simp)]
  | _ => simp only [AOp.opds, List.mem_cons, List.not_mem_nil, or_false, forall_eq_or_imp, forall_eq, false_implies, implies_true] at h; simp only [ado, aop, h]

theorem aop_pure {o : AOp} (he : o.eff = false) (hr : o.reads = false) (call : ACall) (ρ : AOpd → AVal) : ∃ r : Option AVal, ∀ H, ado call o ρ H = r.map fun v => (v, H) := by
  refine ⟨(ado call o ρ ⟨fun _ => none, 0, fun _ => none⟩).map (·.1), fun H => ?_⟩
  cases o <;> simp [AOp.eff] at he <;> simp [AOp.reads] at hr <;> simp only [ado, aop] <;> first
    | (simp [Option.map_map, Function.comp_def]; done)
    | (split <;> simp [Option.map_map, Function.comp_def])

theorem aop_still {o : AOp} (he : o.eff = false) {call : ACall} {ρ : AOpd → AVal} {H H' : AHeap} {v : AVal} (h : ado call o ρ H = some (v, H')) : H' = H ∧ (o.reads = false → ∀ H1, ado call o ρ H1 = some (v, H1)) := by
  by_cases hr : o.reads = false
  · obtain ⟨r, hr'⟩ := aop_pure he hr call ρ
    rw [hr'] at h
    simp only [Option.map_eq_some_iff, Prod.mk.injEq] at h
    obtain ⟨u, hu, rfl, rfl⟩ := h
    exact ⟨rfl, fun _ H1 => by rw [hr' H1, hu]; rfl⟩
  · refine ⟨?_, fun h => absurd h hr⟩
    cases o <;> simp [AOp.reads] at hr <;> simp only [ado, aop] at h
    · simp only [Option.map_eq_some_iff, Prod.mk.injEq] at h
      obtain ⟨_, _, _, h⟩ := h
      exact h.symm
    · split at h
      · simp at h
      · simp only [Option.bind_eq_some_iff, Option.map_eq_some_iff, Prod.mk.injEq] at h
        obtain ⟨_, _, _, _, _, _, _, h⟩ := h
        exact h.symm

/-! ### Objects are made, none is taken back -/
def CallUp (call : ACall) : Prop := ∀ f args H v H', call f args H = some (v, H') → Up H H'

theorem Up.tag {H K : AHeap} (h : Up H K) (i : Nat) (t : TypeId × Option Nat) : Up H (K.tag i t) := ⟨h.1, h.2⟩
theorem Up.cut (H : AHeap) (i : Nat) : Up H (H.cut i) := Up.del H i
theorem app_up {H H' : AHeap} {es bs : Nat} {s x v : AVal} (h : aappend H es bs s x = some (v, H')) : Up H H' := by
  simp only [aappend, Option.bind_eq_some_iff] at h
  obtain ⟨n, _, new, _, h⟩ := h
  split at h
  · split at h
    · simp at h; obtain ⟨_, rfl⟩ := h; exact Up.refl _
    · split at h
      · simp at h; obtain ⟨_, rfl⟩ := h; exact Up.new _ _
      · cases h
  · split at h
    · split at h
      · simp at h; obtain ⟨_, rfl⟩ := h; exact Up.refl _
      · split at h
        · split at h
          · simp at h; obtain ⟨_, rfl⟩ := h; exact Up.set _ _ _
          · cases h
        · cases h
    · simp only [Option.bind_eq_some_iff] at h
      obtain ⟨old, _, h⟩ := h
      split at h
      · split at h
        · simp at h; obtain ⟨_, rfl⟩ := h; exact Up.new _ _
        · split at h
          · split at h
            · simp at h; obtain ⟨_, rfl⟩ := h; exact (Up.del _ _).trans (Up.new _ _)
            · cases h
          · cases h
      · cases h
  · cases h
theorem ado_up {call : ACall} (hc : CallUp call) {o : AOp} {ρ : AOpd → AVal} {H H' : AHeap} {v : AVal} (h : ado call o ρ H = some (v, H')) : Up H H' := by
  by_cases he : o.eff = false
  · rw [(aop_still he h).1]; exact Up.refl _
  · cases o <;> simp [AOp.eff] at he <;> simp only [ado, aop] at h
    case new => simp at h; obtain ⟨_, rfl⟩ := h; exact Up.new _ _
    case box =>
      split at h
      · cases h
      · simp at h; obtain ⟨_, rfl⟩ := h; exact Up.new _ _
    case buildS =>
      simp only [Option.map_eq_some_iff, Prod.mk.injEq] at h
      obtain ⟨_, _, _, rfl⟩ := h
      exact Up.new _ _
    case store =>
      simp only [Option.map_eq_some_iff, Prod.mk.injEq] at h
      obtain ⟨K, hK, _, rfl⟩ := h
      unfold astore at hK
      repeat' (split at hK)
      all_goals (try cases hK)
      exact Up.set _ _ _
    case sToB =>
      split at h
      · simp at h; obtain ⟨_, rfl⟩ := h; exact Up.new _ _
      · cases h
    case mkS =>
      unfold amkS at h
      repeat' (split at h)
      all_goals (try cases h)
      exact Up.new _ _
    case append => exact app_up h
    case appendT =>
      simp only [aappendT, Option.map_eq_some_iff] at h
      obtain ⟨⟨v1, H1⟩, h1, h2⟩ := h
      simp only [tagged] at h2
      split at h2
      · cases h2; exact app_up h1
      · split at h2
        · cases h2; exact (app_up h1).tag _ _
        · cases h2; exact app_up h1
    case newT => simp at h; obtain ⟨_, rfl⟩ := h; exact (Up.new _ _).tag _ _
    case buildT =>
      simp only [Option.map_eq_some_iff, Prod.mk.injEq] at h
      obtain ⟨_, _, _, rfl⟩ := h
      exact (Up.new _ _).tag _ _
    case ovl =>
      simp only [Option.map_eq_some_iff, Prod.mk.injEq] at h
      obtain ⟨_, _, _, rfl⟩ := h
      exact Up.refl _
    case ustr =>
      unfold austr at h
      split at h
      · split at h
        · simp at h; obtain ⟨_, rfl⟩ := h; exact Up.refl _
        · cases h
      · split at h
        · split at h
          · split at h
            · simp only [Option.map_eq_some_iff, Prod.mk.injEq] at h
              obtain ⟨_, _, _, rfl⟩ := h
              exact Up.cut _ _
            · cases h
          · cases h
        · cases h
      · cases h
    case appendZ =>
      unfold aappendZ at h
      split at h
      case h_2 => cases h
      split at h
      case isFalse => cases h
      simp only at h
      split at h
      · split at h
        · simp at h; obtain ⟨_, rfl⟩ := h; exact Up.refl _
        · split at h
          · simp at h; obtain ⟨_, rfl⟩ := h; exact Up.new _ _
          · cases h
      · split at h
        · split at h
          · simp at h; obtain ⟨_, rfl⟩ := h; exact Up.refl _
          · split at h
            · split at h
              · simp at h; obtain ⟨_, rfl⟩ := h; exact Up.set _ _ _
              · cases h
            · cases h
        · simp only [Option.bind_eq_some_iff] at h
          obtain ⟨old, _, h⟩ := h
          split at h
          · split at h
            · simp at h; obtain ⟨_, rfl⟩ := h; exact Up.new _ _
            · split at h
              · split at h
                · simp at h; obtain ⟨_, rfl⟩ := h; exact (Up.del _ _).trans (Up.new _ _)
                · cases h
              · cases h
          · cases h
      · cases h
    case copy =>
      simp only [acopy, Option.bind_eq_some_iff] at h
      obtain ⟨n, _, d, _, new, _, h⟩ := h
      split at h
      · simp at h; obtain ⟨_, rfl⟩ := h; exact Up.refl _
      · split at h
        · simp at h; obtain ⟨_, rfl⟩ := h; exact Up.refl _
        · split at h
          · split at h
            · simp at h; obtain ⟨_, rfl⟩ := h; exact Up.set _ _ _
            · cases h
          · cases h
      · cases h
    case clearS =>
      simp only [Option.map_eq_some_iff, Prod.mk.injEq] at h
      obtain ⟨K, hK, _, rfl⟩ := h
      unfold aclear at hK
      repeat' (split at hK)
      all_goals (try cases hK)
      all_goals first | exact Up.refl _ | exact Up.set _ _ _
    case mkMap => simp at h; obtain ⟨_, rfl⟩ := h; exact Up.newM _ _
    case mapGet =>
      unfold getX at h
      split at h
      · cases h
      · simp at h; obtain ⟨_, rfl⟩ := h; exact Up.refl _
    case mapSet =>
      simp only [Option.map_eq_some_iff, Prod.mk.injEq] at h
      obtain ⟨K, hK, _, rfl⟩ := h
      unfold amapSet at hK
      repeat' (split at hK)
      all_goals (try cases hK)
      all_goals
        simp only [Option.map_eq_some_iff] at hK
        obtain ⟨_, _, rfl⟩ := hK
        exact Up.setM _ _ _
    case lenM =>
      simp only [Option.map_eq_some_iff, Prod.mk.injEq] at h
      obtain ⟨_, _, _, rfl⟩ := h
      exact Up.refl _
    case call =>
      split at h
      · exact hc _ _ _ _ _ h
      · cases h

theorem aops_up {call : ACall} (hc : CallUp call) : ∀ {l : List AOper} {env env' : Env} {H H' : AHeap}, aops call l env H = some (env', H') → Up H H'
  | [], env, env', H, H', h => by simp [aops] at h; rw [h.2]; exact Up.refl _
  | o :: l, env, env', H, H', h => by
    simp only [aops] at h
    split at h
    · simp only [Option.bind_eq_some_iff] at h
      obtain ⟨⟨v, H1⟩, h1, h2⟩ := h
      exact Up.trans (ado_up hc h1) (aops_up hc h2)
    · exact aops_up hc h

theorem adraw_up {call : ACall} (hc : CallUp call) : ∀ {l : List AOper} {env env' : Env} {H H' : AHeap} {st : List AHeap} {rs : List ARead}, adraw call l env H st rs = some (env', H') → Up H H'
  | [], env, env', H, H', st, rs, h => by
    simp only [adraw] at h
    split at h
    · simp at h; rw [h.2]; exact Up.refl _
    · cases h
  | o :: l, env, env', H, H', st, rs, h => by
    simp only [adraw] at h
    split at h
    · simp only [Option.bind_eq_some_iff] at h
      obtain ⟨⟨v, H1⟩, h1, h2⟩ := h
      exact Up.trans (ado_up hc h1) (adraw_up hc h2)
    · exact adraw_up hc h

theorem aiter_up {f : ARun} (hf : ∀ env H r, f env H = some r → Up H r.2.2) : ∀ {n : Nat} {env : Env} {H : AHeap} {r : AExit × Env × AHeap}, aiter f n env H = some r → Up H r.2.2
  | 0, env, H, r, h => by simp [aiter] at h
  | n + 1, env, H, r, h => by
    simp only [aiter, Option.bind_eq_some_iff] at h
    obtain ⟨⟨e, env1, H1⟩, h1, h2⟩ := h
    have := hf _ _ _ h1
    cases e
    · exact Up.trans this (aiter_up hf h2)
    · simp at h2; subst h2; exact this
    · simp at h2; subst h2; exact this

theorem ady_up {call : ACall} (hc : CallUp call) {tok : Nat} {yl : AYield} (hy : ∀ st args H r, yl st args H = some r → Up H r.2.2) {o : AOp} {ρ : AOpd → AVal} {st : APend} {H : AHeap} {r : AVal × APend × AHeap} (h : ady call tok yl o ρ st H = some r) : Up H r.2.2 := by
  by_cases hcall : ∃ f args, o = .call f args
  · obtain ⟨f, args, rfl⟩ := hcall
    simp only [ady] at h
    split at h
    · split at h
      · simp only [Option.map_eq_some_iff] at h
        obtain ⟨x, hx, rfl⟩ := h
        exact hy _ _ _ _ hx
      · cases h
    · simp only [Option.map_eq_some_iff] at h
      obtain ⟨x, hx, rfl⟩ := h
      exact hc _ _ _ _ _ hx
    · cases h
  · have h2 : (aop o ρ H).map (fun r => (r.1, st, r.2)) = some r := by
      cases o <;> first | exact h | exact absurd ⟨_, _, rfl⟩ hcall
    simp only [Option.map_eq_some_iff] at h2
    obtain ⟨⟨v, H1⟩, hx, rfl⟩ := h2
    have h3 : ado call o ρ H = some (v, H1) := by
      cases o <;> first | exact hx | exact absurd ⟨_, _, rfl⟩ hcall
    exact ado_up hc h3
theorem aopsY_up {call : ACall} (hc : CallUp call) {tok : Nat} {yl : AYield} (hy : ∀ st args H r, yl st args H = some r → Up H r.2.2) : ∀ {l : List AOper} {st : APend} {env : Env} {H : AHeap} {r : APend × Env × AHeap}, aopsY call tok yl l st env H = some r → Up H r.2.2
  | [], st, env, H, r, h => by simp [aopsY] at h; subst h; exact Up.refl _
  | o :: l, st, env, H, r, h => by
    simp only [aopsY] at h
    split at h
    · simp only [Option.bind_eq_some_iff] at h
      obtain ⟨x, hx, h⟩ := h
      exact (ady_up hc hy hx).trans (aopsY_up hc hy h)
    · exact aopsY_up hc hy h
theorem aiterY_up {f : ARunY} (hf : ∀ st env H r, f st env H = some r → Up H r.2.2.2) : ∀ {n : Nat} {st : APend} {env : Env} {H : AHeap} {r : AExit × APend × Env × AHeap}, aiterY f n st env H = some r → Up H r.2.2.2
  | 0, _, _, _, _, h => by simp [aiterY] at h
  | n + 1, st, env, H, r, h => by
    simp only [aiterY, Option.bind_eq_some_iff] at h
    obtain ⟨x, hx, h⟩ := h
    split at h
    · exact (hf _ _ _ _ hx).trans (aiterY_up hf h)
    · simp at h; subst h; exact hf _ _ _ _ hx
theorem aexecY_up {call : ACall} (hc : CallUp call) {tok : Nat} {yl : AYield} (hy : ∀ st args H r, yl st args H = some r → Up H r.2.2) {n : Nat} : ∀ (c : ACode) {st : APend} {env : Env} {H : AHeap} {r : AExit × APend × Env × AHeap}, aexecY call tok yl n c st env H = some r → Up H r.2.2.2
  | .skip, _, _, _, _, h => by simp [aexecY] at h; subst h; exact Up.refl _
  | .region ops, _, _, _, _, h => by
    simp only [aexecY, Option.map_eq_some_iff] at h
    obtain ⟨x, hx, rfl⟩ := h
    exact aopsY_up hc hy hx
  | .draw ops, _, _, _, _, h => by
    simp only [aexecY, Option.map_eq_some_iff] at h
    obtain ⟨x, hx, rfl⟩ := h
    exact adraw_up hc hx
  | .seq a b, _, _, _, _, h => by
    simp only [aexecY, Option.bind_eq_some_iff] at h
    obtain ⟨x, hx, h⟩ := h
    have := aexecY_up hc hy a hx
    split at h
    · exact this.trans (aexecY_up hc hy b h)
    · simp at h; subst h; exact this
  | .cond c a b, _, _, _, _, h => by
    simp only [aexecY] at h
    split at h
    · split at h
      · exact aexecY_up hc hy a h
      · exact aexecY_up hc hy b h
    · cases h
  | .block id a, _, _, _, _, h => by
    simp only [aexecY, Option.map_eq_some_iff] at h
    obtain ⟨x, hx, h⟩ := h
    have := aexecY_up hc hy a hx
    split at h
    · split at h <;> (subst h; exact this)
    · subst h; exact this
  | .loop a, _, _, _, _, h => by
    simp only [aexecY] at h
    exact aiterY_up (fun st env H r h => aexecY_up hc hy a h) h
  | .exit id, _, _, _, _, h => by simp [aexecY] at h; subst h; exact Up.refl _
  | .ret, _, _, _, _, h => by simp [aexecY] at h; subst h; exact Up.refl _
  | .range .., _, _, _, _, h => by simp [aexecY] at h
theorem ayield_up {fa fb : ARun} (ha : ∀ env H r, fa env H = some r → Up H r.2.2) (hb : ∀ env H r, fb env H = some r → Up H r.2.2) {ps : List Nat} {env : Env} (st : APend) (args : List AVal) (H : AHeap) (r : Bool × APend × AHeap) (h : ayield fa fb ps env st args H = some r) : Up H r.2.2 := by
  unfold ayield at h
  split at h
  · simp only [Option.bind_eq_some_iff] at h
    obtain ⟨x, hx, h⟩ := h
    split at h
    · simp only [Option.map_eq_some_iff] at h
      obtain ⟨q, hq, h⟩ := h
      have := (ha _ _ _ hx).trans (hb _ _ _ hq)
      split at h <;> (subst h; exact this)
    · cases h
  · cases h
theorem Up.skip (H : AHeap) : Up H H.skip := ⟨Nat.le_succ _, fun id l h => h⟩
theorem arange_up {call : ACall} (hc : CallUp call) {it : FuncId → Option AFn} {n : Nat} {fa fb : ARun} (ha : ∀ env H r, fa env H = some r → Up H r.2.2) (hb : ∀ env H r, fb env H = some r → Up H r.2.2) {ps : List Nat} {env : Env} {H : AHeap} {v : AVal} {r : AExit × Env × AHeap}
    (h : arange call it n fa fb ps env H v = some r) : Up H r.2.2 := by
  unfold arange at h
  split at h
  · simp only [Option.bind_eq_some_iff] at h
    obtain ⟨fn, _, h⟩ := h
    split at h
    · simp only [Option.bind_eq_some_iff] at h
      obtain ⟨x, hx, h⟩ := h
      have := (Up.skip H).trans (aexecY_up hc (ayield_up ha hb) _ hx)
      split at h
      · cases h
      · simp at h; subst h; exact this
    · cases h
  · cases h

theorem aexec_up {call : ACall} (hc : CallUp call) {it : FuncId → Option AFn} {n : Nat} : ∀ (c : ACode) {env : Env} {H : AHeap} {r : AExit × Env × AHeap}, aexec call it n c env H = some r → Up H r.2.2
  | .skip, env, H, r, h => by simp [aexec] at h; subst h; exact Up.refl _
  | .region ops, env, H, r, h => by
    simp only [aexec, Option.map_eq_some_iff] at h
    obtain ⟨⟨env1, H1⟩, h1, rfl⟩ := h
    exact aops_up hc h1
  | .draw ops, env, H, r, h => by
    simp only [aexec, Option.map_eq_some_iff] at h
    obtain ⟨⟨env1, H1⟩, h1, rfl⟩ := h
    exact adraw_up hc h1
  | .seq a b, env, H, r, h => by
    simp only [aexec, Option.bind_eq_some_iff] at h
    obtain ⟨⟨e, env1, H1⟩, h1, h2⟩ := h
    have := aexec_up hc a h1
    cases e
    · exact Up.trans this (aexec_up hc b h2)
    · simp at h2; subst h2; exact this
    · simp at h2; subst h2; exact this
  | .cond c a b, env, H, r, h => by
    simp only [aexec] at h
    split at h
    · split at h
      · exact aexec_up hc a h
      · exact aexec_up hc b h
    · cases h
  | .block id a, env, H, r, h => by
    simp only [aexec, Option.map_eq_some_iff] at h
    obtain ⟨⟨e, env1, H1⟩, h1, rfl⟩ := h
    have := aexec_up hc a h1
    cases e
    · exact this
    · simp only
      split <;> exact this
    · exact this
  | .loop a, env, H, r, h => by
    simp only [aexec] at h
    exact aiter_up (fun env H r h => aexec_up hc a h) h
  | .exit id, env, H, r, h => by simp [aexec] at h; subst h; exact Up.refl _
  | .ret, env, H, r, h => by simp [aexec] at h; subst h; exact Up.refl _
  | .range f ps as bd, env, H, r, h => by
    simp only [aexec] at h
    exact arange_up hc (fun env H r h => aexec_up hc as h) (fun env H r h => aexec_up hc bd h) h

theorem arun_up {call : ACall} (hc : CallUp call) {it : FuncId → Option AFn} {k : Nat} {x : Option AFn} {args : List AVal} {H H' : AHeap} {v : AVal} (h : arun call it k x args H = some (v, H')) : Up H H' := by
  simp only [arun, Option.bind_eq_some_iff] at h
  obtain ⟨fn, _, ⟨e, env, K⟩, h1, h2⟩ := h
  have := aexec_up hc _ h1
  cases e <;> simp [aend] at h2
  · obtain ⟨_, _, _, rfl⟩ := h2; exact this
  · obtain ⟨_, _, _, rfl⟩ := h2; exact this

theorem gc_up (n : Nat) (H : AHeap) (v : AVal) (K : AHeap) : Up H (gc n H v K).2 := by
  have key : ∀ (σ : Nat → Nat) (L : List Nat) (H : AHeap), (∀ i, i ∈ L → ∃ l, K.obj i = some (.cells l true)) → Up H (L.foldl (fun J i => addObj σ J (K.obj i)) H) := by
    intro σ L
    induction L with
    | nil => intro H _; exact Up.refl _
    | cons i L ih =>
      intro H hL
      obtain ⟨l, hl⟩ := hL i (by simp)
      refine Up.trans ?_ (ih _ (fun j hj => hL j (by simp [hj])))
      simp only [hl]
      exact Up.new _ _
  simp only [gc]
  split
  · rename_i hok
    exact key _ _ _ fun i hi => let ⟨l, h1, _⟩ := okObj_inv (List.all_eq_true.1 hok i hi); ⟨l, h1⟩
  · split
    · rename_i hok
      exact key _ _ _ fun i hi => let ⟨l, h1, _⟩ := okObj_inv (List.all_eq_true.1 hok i hi); ⟨l, h1⟩
    · refine ⟨Nat.le_add_right _ _, fun id l h => ?_⟩
      simp only [keepAll] at h
      split at h
      · exact h
      · unfold keepObj at h
        split at h
        · cases h
        · cases h

theorem callSound_up {call : ACall} (h : CallSound P w0 B call) : CallUp call := fun f args H v H' hc => (h f args H v H' hc).2.1

/-! ### The run in the order of the text, taken apart -/
structure Trace (call : ACall) (al : List AOper) (E : Nat → Env) (G : Nat → AHeap) (V : Nat → AVal) : Prop where
  step : ∀ i x, al[i]? = some x → E (i + 1) = setd (E i) x.dst (V i) ∧ (agd (E i) x.guard = true → ado call x.op (aev (E i)) (G i) = some (V i, G (i + 1))) ∧ (agd (E i) x.guard = false → V i = aundef ∧ G (i + 1) = G i)

def effc (al : List AOper) (n : Nat) : Nat := ((al.take n).filter (·.op.eff)).length

def HasTrace (call : ACall) (al : List AOper) (env : Env) (H : AHeap) (st : List AHeap) (rs : List ARead) (env' : Env) (H' : AHeap) : Prop :=
    ∃ E G V st', E 0 = env ∧ G 0 = H ∧ E al.length = env' ∧ G al.length = H' ∧ Trace call al E G V ∧ (∀ k, k < st.length → st'[k]? = st[k]?) ∧
      (∀ i x, al[i]? = some x → x.op.eff = true → st'[st.length + effc al i]? = some (G (i + 1))) ∧ (∀ r, r ∈ rs → r.ok st' = true) ∧
      (∀ i x lo hi, al[i]? = some x → x.rd = some (lo, hi) → agd (E i) x.guard = true → (⟨x.op, E i, V i, lo, hi⟩ : ARead).ok st' = true)

theorem adraw_trace {call : ACall} : ∀ (al : List AOper) (env : Env) (H : AHeap) (st : List AHeap) (rs : List ARead) (env' : Env) (H' : AHeap), adraw call al env H st rs = some (env', H') → HasTrace call al env H st rs env' H'
  | [], env, H, st, rs, env', H', h => by
    simp only [adraw] at h
    split at h
    · rename_i hr
      simp at h
      obtain ⟨rfl, rfl⟩ := h
      refine ⟨fun _ => env, fun _ => H, fun _ => aundef, st, rfl, rfl, rfl, rfl, ⟨by simp⟩, fun _ _ => rfl, by simp, ?_, by simp⟩
      intro r hr'
      exact List.all_eq_true.1 hr r hr'
    · simp at h
  | o :: l, env, H, st, rs, env', H', h => by
    simp only [adraw] at h
    have build : ∀ (v : AVal) (H1 : AHeap) (rs1 : List ARead), (agd env o.guard = true → ado call o.op (aev env) H = some (v, H1)) → (agd env o.guard = false → v = aundef ∧ H1 = H) →
        adraw call l (setd env o.dst v) H1 (if o.op.eff then st ++ [H1] else st) rs1 = some (env', H') → (∀ r, r ∈ rs → r ∈ rs1) → (∀ lo hi, o.rd = some (lo, hi) → agd env o.guard = true → (⟨o.op, env, v, lo, hi⟩ : ARead) ∈ rs1) → HasTrace call (o :: l) env H st rs env' H' := by
      intro v H1 rs1 h1 h2 h3 h4 h5
      obtain ⟨E, G, V, st', e0, g0, e1, g1, htr, hst, hsteff, hrs, hrd⟩ := adraw_trace l _ H1 _ rs1 env' H' h3
      refine ⟨fun i => if i = 0 then env else E (i - 1), fun i => if i = 0 then H else G (i - 1), fun i => if i = 0 then v else V (i - 1), st', rfl, rfl, by simpa using e1, by simpa using g1, ⟨?_⟩, ?_, ?_, fun r hr => hrs r (h4 r hr), ?_⟩
      · intro i x hx
        cases i with
        | zero =>
          simp at hx; subst hx
          simp [e0, g0]
          exact ⟨h1, h2⟩
        | succ i =>
          have hx' : l[i]? = some x := hx
          exact htr.step i x hx'
      · intro k hk
        by_cases ho : o.op.eff = true
        · have := hst k (by rw [if_pos ho]; simp; omega)
          rw [this, if_pos ho, List.getElem?_append_left hk]
        · have := hst k (by rw [if_neg ho]; exact hk)
          rw [this, if_neg ho]
      · intro i x hx hxe
        cases i with
        | zero =>
          simp at hx; subst hx
          have := hst st.length (by rw [if_pos hxe]; simp)
          rw [if_pos hxe] at this
          simp [effc, this, g0]
        | succ i =>
          have hx' : l[i]? = some x := hx
          have := hsteff i x hx' hxe
          show st'[st.length + effc (o :: l) (i + 1)]? = some (G (i + 1))
          rw [← this]
          congr 1
          by_cases ho : o.op.eff = true
          · simp [effc, ho, List.filter_cons]; omega
          · simp [effc, ho, List.filter_cons]
      · intro i x lo hi hx hxr hg
        cases i with
        | zero =>
          simp at hx; subst hx
          exact hrs _ (h5 lo hi hxr (by simpa using hg))
        | succ i =>
          have hx' : l[i]? = some x := hx
          exact hrd i x lo hi hx' hxr hg
    cases hag : agd env o.guard with
    | true =>
      rw [hag] at h
      simp only [if_true, Option.bind_eq_some_iff] at h
      obtain ⟨⟨v, H1⟩, hv, h⟩ := h
      refine build v H1 _ (fun _ => hv) (by simp [hag]) h ?_ ?_
      · intro r hr
        split
        · exact hr
        · simp [hr]
      · intro lo hi hrd _
        rw [hrd]; simp
    | false =>
      rw [hag] at h
      simp only [Bool.false_eq_true, if_false] at h
      exact build aundef H rs (by simp [hag]) (fun _ => ⟨rfl, rfl⟩) h (fun _ hr => hr) (by simp [hag])

/-! ### Counting -/
theorem countP_congr' {p q : Nat → Bool} {n : Nat} (h : ∀ i, i < n → p i = q i) : (List.range n).countP p = (List.range n).countP q :=
  List.countP_congr fun i hi => by rw [h i (List.mem_range.1 hi)]

def effn (al : List AOper) (i : Nat) : Nat := (List.range al.length).countP fun j => effb al j && decide (j < i)

theorem countP_lt (p : Nat → Bool) : ∀ (n i : Nat), i ≤ n → (List.range n).countP (fun j => p j && decide (j < i)) = (List.range i).countP p
  | n, i, h => by
    induction n with
    | zero => have : i = 0 := by omega
              subst this; rfl
    | succ n ih =>
      by_cases hi : i ≤ n
      · rw [List.range_succ, List.countP_append, ih hi]
        simp [show ¬ n < i by omega]
      · have : i = n + 1 := by omega
        subst this
        exact countP_congr' fun j hj => by simp [hj]

theorem effn_succ {al : List AOper} {i : Nat} (hi : i < al.length) : effn al (i + 1) = effn al i + if effb al i then 1 else 0 := by
  unfold effn
  rw [countP_lt _ _ _ (by omega), countP_lt _ _ _ (by omega), List.range_succ, List.countP_append]
  simp [List.countP_cons]

theorem effc_eq {al : List AOper} : ∀ {i : Nat}, i ≤ al.length → effc al i = effn al i := by
  intro i hi
  induction i with
  | zero => simp [effc, effn]
  | succ i ih =>
    have hlt : i < al.length := by omega
    rw [effn_succ hlt, ← ih (by omega)]
    simp only [effc, List.take_add_one, List.getElem?_eq_getElem hlt, Option.toList_some, List.filter_append, List.length_append]
    congr 1
    simp [effb, List.getElem?_eq_getElem hlt, List.filter_cons]
    split <;> rfl

/-! ### The temporaries, at a set of operations carried out -/
def curE (al : List AOper) (env : Env) (V : Nat → AVal) (S : Nat → Bool) : Nat → Env
  | 0 => env
  | n + 1 => if S n then setd (curE al env V S n) ((al[n]?).bind (·.dst)) (V n) else curE al env V S n

theorem setd_other {env : Env} {d : Option Nat} {v : AVal} {t : Nat} (h : d ≠ some t) : setd env d v t = env t := by
  cases d with
  | none => rfl
  | some d => simp only [setd, Env.set]; rw [if_neg (by intro he; exact h (by rw [he]))]

theorem curE_at {al : List AOper} {env : Env} {V : Nat → AVal} {S : Nat → Bool} {E : Nat → Env} {call : ACall} {G : Nat → AHeap} (h0 : E 0 = env) (htr : Trace call al E G V) {t i : Nat} (hi : i ≤ al.length)
    (hw : ∀ j x, al[j]? = some x → x.dst = some t → (j < i → S j = true) ∧ (i ≤ j → S j = false)) : curE al env V S al.length t = E i t := by
  have h1 : ∀ k, k ≤ i → curE al env V S k t = E k t := by
    intro k
    induction k with
    | zero => intro _; rw [h0]; rfl
    | succ k ih =>
      intro hk
      have hlt : k < al.length := by omega
      have hx := List.getElem?_eq_getElem hlt
      obtain ⟨hE, _⟩ := htr.step k _ hx
      rw [hE]
      simp only [curE, hx, Option.bind_some]
      by_cases hd : (al[k]).dst = some t
      · rw [if_pos ((hw k _ hx hd).1 (by omega)), hd]
        simp [setd, Env.set]
      · rw [setd_other hd]
        split
        · rw [setd_other hd]; exact ih (by omega)
        · exact ih (by omega)
  have h2 : ∀ k, i ≤ k → k ≤ al.length → curE al env V S k t = curE al env V S i t := by
    intro k hik
    induction k with
    | zero => intro _; have : i = 0 := by omega
              rw [this]
    | succ k ih =>
      intro hk
      by_cases hki : i = k + 1
      · rw [hki]
      · have hlt : k < al.length := by omega
        have hx := List.getElem?_eq_getElem hlt
        simp only [curE, hx, Option.bind_some]
        by_cases hd : (al[k]).dst = some t
        · rw [if_neg (by rw [(hw k _ hx hd).2 (by omega)]; simp)]; exact ih (by omega) (by omega)
        · split
          · rw [setd_other hd]; exact ih (by omega) (by omega)
          · exact ih (by omega) (by omega)
  rw [h2 _ hi (Nat.le_refl _), h1 i (Nat.le_refl _)]

theorem curE_insert {al : List AOper} {env : Env} {V : Nat → AVal} {S S' : Nat → Bool} {i : Nat} {x : AOper} (hx : al[i]? = some x) (hS : S i = false) (hS' : ∀ j, S' j = (S j || j == i)) {t : Nat}
    (hl : ∀ j y, al[j]? = some y → x.dst = some t → y.dst = some t → i < j → S j = false) :
    curE al env V S' al.length t = if x.dst = some t then V i else curE al env V S al.length t := by
  have hi : i < al.length := by
    rcases Nat.lt_or_ge i al.length with h | h
    · exact h
    · rw [List.getElem?_eq_none h] at hx; cases hx
  have h1 : ∀ k, k ≤ i → curE al env V S' k t = curE al env V S k t := by
    intro k
    induction k with
    | zero => intro _; rfl
    | succ k ih =>
      intro hk
      simp only [curE]
      have : S' k = S k := by rw [hS' k]; simp [show k ≠ i by omega]
      rw [this]
      split
      · cases hd : (al[k]?).bind (·.dst) with
        | none => simp only [setd]; exact ih (by omega)
        | some d => simp only [setd, Env.set]; rw [ih (by omega)]
      · exact ih (by omega)
  have h2 : ∀ k, i < k → k ≤ al.length → curE al env V S' k t = if x.dst = some t then V i else curE al env V S k t := by
    intro k hik
    induction k with
    | zero => omega
    | succ k ih =>
      intro hk
      by_cases hki : k = i
      · subst hki
        simp only [curE, hx, Option.bind_some, hS, Bool.false_eq_true, if_false]
        rw [if_pos (by rw [hS' k]; simp)]
        by_cases hd : x.dst = some t
        · rw [if_pos hd, hd]; simp [setd, Env.set]
        · rw [if_neg hd, setd_other hd]; exact h1 k (Nat.le_refl _)
      · have ih' := ih (by omega) (by omega)
        have hlt : k < al.length := by omega
        have hxk := List.getElem?_eq_getElem hlt
        have : S' k = S k := by rw [hS' k]; simp [hki]
        simp only [curE, this, hxk, Option.bind_some]
        by_cases hd : (al[k]).dst = some t
        · by_cases hdx : x.dst = some t
          · rw [if_pos hdx] at ih' ⊢
            rw [if_neg (by rw [hl k _ hxk hdx hd (by omega)]; simp)]
            exact ih'
          · rw [if_neg hdx] at ih' ⊢
            split
            · rw [hd]; simp [setd, Env.set]
            · exact ih'
        · split
          · rw [setd_other hd, setd_other hd]; exact ih'
          · exact ih'
  exact h2 _ hi (Nat.le_refl _)

end Go.Proofs.Ytfmjdlahabgkpaa.Am
end

section
/- What the abstract machine answers, the model's machine does: regions that draw their order, whatever is drawn. -/
set_option linter.unusedSimpArgs false
set_option linter.unusedVariables false
namespace Go.Proofs.Ytfmjdlahabgkpaa.Am
open Go Go.RowKit

variable {P : Program} {w0 w : World} {B : Nat → Bool} {m : Inj} {H H' : AHeap} {nt : Nat} {env : Env} {a : Act}

theorem copers_get {ops : Array Oper} : ∀ {l : List Oper} {al : List AOper}, copers P ops nt l = some al → al.length = l.length ∧ ∀ (i : Nat) x, al[i]? = some x → ∃ o, l[i]? = some o ∧ coper P ops nt o = some x
  | [], al, h => by simp [copers] at h; subst h; simp
  | o :: l, al, h => by
    simp only [copers, Option.bind_eq_some_iff, Option.map_eq_some_iff] at h
    obtain ⟨x, hx, r, hr, rfl⟩ := h
    obtain ⟨h1, h2⟩ := copers_get hr
    refine ⟨by simp [h1], fun i y hy => ?_⟩
    cases i with
    | zero => simp at hy; subst hy; exact ⟨o, rfl, hx⟩
    | succ i => simpa using h2 i y (by simpa using hy)

structure Region1 (P : Program) (nt : Nat) (ops : Array Oper) (al : List AOper) (b : Nat → Nat) : Prop where
  len : al.length = ops.size
  get : ∀ (i : Nat) (x : AOper), al[i]? = some x → ∃ o : Oper, ops[i]? = some o ∧ cdst nt o.dst = true ∧ copc P nt o = some x.op ∧ cguard ops nt o.guard = some x.guard ∧ x.dst = o.dst
  edge : ∀ (i : Nat) (o : Oper), ops[i]? = some o → ∀ e, e ∈ o.after → Region.binds .any e = true → e.on < i
  bit : ∀ (i : Nat) (o : Oper) (j : Nat), ops[i]? = some o → (b i).testBit j = true → ∃ e, e ∈ o.after ∧ Region.binds .any e = true ∧ e.on < i ∧ (e.on = j ∨ (b e.on).testBit j = true)
  chain : ∀ i j, i < j → effb al i = true → hardb al j = true → (b j).testBit i = true
  temps : ∀ (i j : Nat) (x y : AOper) (d : Nat), al[i]? = some x → al[j]? = some y → i ≠ j → x.dst = some d → (d ∈ y.looks ∨ y.dst = some d) → (b (max i j)).testBit (min i j) = true
  rd : ∀ (i : Nat) (x : AOper), al[i]? = some x → x.rd = rdOf al b x i

theorem withRds_get {al : List AOper} {b : Nat → Nat} {i : Nat} {x : AOper} (h : (withRds al b)[i]? = some x) : ∃ y, al[i]? = some y ∧ x = { y with rd := rdOf al b y i } := by
  simp only [withRds, List.getElem?_map, Option.map_eq_some_iff] at h
  obtain ⟨⟨y, j⟩, hy, rfl⟩ := h
  rw [List.getElem?_zipIdx] at hy
  simp only [Option.map_eq_some_iff, Prod.mk.injEq, Nat.zero_add] at hy
  obtain ⟨z, hz, rfl, rfl⟩ := hy
  exact ⟨_, hz, rfl⟩

theorem withRds_length (al : List AOper) (b : Nat → Nat) : (withRds al b).length = al.length := by simp [withRds]

theorem withRds_effb (al : List AOper) (b : Nat → Nat) (j : Nat) : effb (withRds al b) j = effb al j := by
  unfold effb
  cases h : (withRds al b)[j]? with
  | none =>
    have : al[j]? = none := by
      rw [List.getElem?_eq_none_iff] at h ⊢; rwa [withRds_length] at h
    rw [this]
  | some x =>
    obtain ⟨y, hy, rfl⟩ := withRds_get h
    rw [hy]; rfl

theorem withRds_rdOf (al : List AOper) (b : Nat → Nat) (x : AOper) (r : Option (Nat × Nat)) (j : Nat) : rdOf (withRds al b) b { x with rd := r } j = rdOf al b x j := by
  have : stagesOf (withRds al b) b j = stagesOf al b j := by
    simp only [stagesOf, withRds_length, withRds_effb]
  simp only [rdOf, this]

theorem region1_of {ops : Array Oper} {al : List AOper} {c : ACode} (hc : copers P ops nt ops.toList = some al) (h : drawOf ops al (CheckFast.beforeF ops).toList = some c) :
    ∃ al' b, c = .draw al' ∧ Region1 P nt ops al' b := by
  unfold drawOf at h
  split at h
  · rename_i hk
    simp only [Bool.and_eq_true] at hk
    obtain ⟨⟨he, hch⟩, ht⟩ := hk
    simp only [Option.some.injEq] at h; subst h
    obtain ⟨h1, h2⟩ := copers_get hc
    generalize hb : (CheckFast.beforeF ops).toList = bl at *
    refine ⟨withRds al (fun i => bl.getD i 0), fun i => bl.getD i 0, rfl, ?_⟩
    refine ⟨by rw [withRds_length, h1]; simp, ?_, ?_, ?_, ?_, ?_, ?_⟩
    · intro i x hx
      obtain ⟨y, hy, rfl⟩ := withRds_get hx
      obtain ⟨o, ho, hco⟩ := h2 i y hy
      obtain ⟨q1, q2, q3, q4⟩ := coper_spec hco
      exact ⟨o, by simpa using ho, q1, q2, q3, q4⟩
    · intro i o ho e hm hbd
      unfold edgesOk at he
      rw [List.all_eq_true] at he
      have := he (o, i) (by rw [List.mem_zipIdx_iff_getElem?]; simpa using ho)
      simp only [Array.all_eq_true_iff_forall_mem] at this
      simpa [hbd] using this e hm
    · intro i o j ho hbit
      exact before_bit hb.symm he ho hbit
    · intro i j hij hi hj
      unfold chained at hch
      rw [List.all_eq_true] at hch
      have hjl : j < (withRds al fun i => bl.getD i 0).length := by
        rcases Nat.lt_or_ge j (withRds al fun i => bl.getD i 0).length with h | h
        · exact h
        · unfold hardb at hj
          rw [List.getElem?_eq_none h] at hj
          cases hj
      have := hch j (List.mem_range.2 hjl)
      simp only [hj, Bool.not_true, Bool.false_or, List.all_eq_true] at this
      have := this i (List.mem_range.2 hij)
      rw [hi] at this
      exact this
    · intro i j x y d hx hy hij hxd hor
      unfold tempsOk at ht
      rw [List.all_eq_true] at ht
      have := ht (x, i) (by rw [List.mem_zipIdx_iff_getElem?]; exact hx)
      simp only [hxd, List.all_eq_true] at this
      have := this (y, j) (by rw [List.mem_zipIdx_iff_getElem?]; exact hy)
      simp only [Bool.or_eq_true, beq_iff_eq, Bool.not_eq_true', Bool.or_eq_false_iff] at this
      rcases this with (h | h) | h
      · exact absurd h hij
      · exfalso
        rcases hor with hor | hor
        · have := h.1; simp at this; exact this hor
        · have := h.2; simp [hor] at this
      · exact h
    · intro i x hx
      obtain ⟨y, hy, rfl⟩ := withRds_get hx
      exact (withRds_rdOf al _ y _ i).symm
  · simp at h

section
variable {ops : Array Oper} {al : List AOper} {b : Nat → Nat}

def Closed (ops : Array Oper) (S : Nat → Bool) : Prop := ∀ (i : Nat) (o : Oper), ops[i]? = some o → S i = true → ∀ e, e ∈ o.after → Region.binds .any e = true → S e.on = true

theorem closed_bit (R : Region1 P nt ops al b) {S : Nat → Bool} (hS : Closed ops S) : ∀ (i : Nat) (o : Oper) (j : Nat), ops[i]? = some o → (∀ e, e ∈ o.after → Region.binds .any e = true → S e.on = true) → (b i).testBit j = true → S j = true ∧ j < i
  | i, o, j, ho, hw, hb => by
    obtain ⟨e, hm, hbd, hlt, hor⟩ := R.bit i o j ho hb
    rcases hor with rfl | hb'
    · exact ⟨hw e hm hbd, hlt⟩
    · have hlt' : e.on < ops.size := by
        have := (Array.getElem?_eq_some_iff.1 ho).1; omega
      have ho' := Array.getElem?_eq_getElem hlt'
      obtain ⟨h1, h2⟩ := closed_bit R hS e.on _ j ho' (fun e' hm' hbd' => hS e.on _ ho' (hw e hm hbd) e' hm' hbd') hb'
      exact ⟨h1, by omega⟩
termination_by i => i

theorem closed_bit' (R : Region1 P nt ops al b) {S : Nat → Bool} (hS : Closed ops S) {i j : Nat} (hi : i < ops.size) (hs : S i = true) (hb : (b i).testBit j = true) : S j = true ∧ j < i :=
  closed_bit R hS i _ j (Array.getElem?_eq_getElem hi) (fun e hm hbd => hS i _ (Array.getElem?_eq_getElem hi) hs e hm hbd) hb

theorem stage_at {call : ACall} {E : Nat → Env} {G : Nat → AHeap} {V : Nat → AVal} {st : List AHeap} (htr : Trace call al E G V) (h0 : st[0]? = some (G 0)) (heff : ∀ i x, al[i]? = some x → x.op.eff = true → st[1 + effc al i]? = some (G (i + 1))) : ∀ i, i ≤ al.length → st[effn al i]? = some (G i) := by
  intro i
  induction i with
  | zero => intro _; simpa [effn] using h0
  | succ i ih =>
    intro hi
    have hlt : i < al.length := by omega
    have hx := List.getElem?_eq_getElem hlt
    have ih' := ih (by omega)
    rw [effn_succ hlt]
    by_cases he : (al[i]).op.eff = true
    · have := heff i _ hx he
      rw [effc_eq (by omega)] at this
      rw [if_pos (by simp [effb, hx, he]), Nat.add_comm]
      exact this
    · rw [if_neg (by simp [effb, hx, he]), Nat.add_zero, ih']
      congr 1
      obtain ⟨_, h1, h2⟩ := htr.step i _ hx
      cases hg : agd (E i) (al[i]).guard with
      | true => exact ((aop_still (by simpa using he) (h1 hg)).1).symm
      | false => exact (h2 hg).2.symm

theorem getD_any {l : Array Bool} {i : Nat} (h : i < l.size) {d d' : Bool} : l.getD i d = l.getD i d' := by
  simp [Array.getD_eq_getD_getElem?, h]

/-! ### The run in the order of the text -/
variable {call : ACall} {E : Nat → Env} {G : Nat → AHeap} {V : Nat → AVal} {loc : Nat → Loc} {S : Nat → Bool}

theorem trace_up (hup : CallUp call) (htr : Trace call al E G V) {i : Nat} (hi : i < al.length) : Up (G i) (G (i + 1)) := by
  obtain ⟨_, h1, h2⟩ := htr.step i _ (List.getElem?_eq_getElem hi)
  cases hg : agd (E i) (al[i]).guard with
  | true => exact ado_up hup (h1 hg)
  | false => rw [(h2 hg).2]; exact Up.refl _

theorem trace_mono (hup : CallUp call) (htr : Trace call al E G V) {i j : Nat} (hij : i ≤ j) (hj : j ≤ al.length) : (G i).next ≤ (G j).next := by
  induction j with
  | zero => have : i = 0 := by omega
            subst this; exact Nat.le_refl _
  | succ j ih =>
    by_cases h : i = j + 1
    · subst h; exact Nat.le_refl _
    · exact Nat.le_trans (ih (by omega) (by omega)) (trace_up hup htr (by omega)).1

theorem trace_still (htr : Trace call al E G V) {i : Nat} (hi : i < al.length) (he : effb al i = false) : G (i + 1) = G i := by
  have hx := List.getElem?_eq_getElem hi
  obtain ⟨_, h1, h2⟩ := htr.step i _ hx
  cases hg : agd (E i) (al[i]).guard with
  | true => exact (aop_still (by simpa [effb, hx] using he) (h1 hg)).1
  | false => exact (h2 hg).2

def lastW (al : List AOper) (S : Nat → Bool) (t : Nat) : Nat → Nat
  | 0 => 0
  | n + 1 => if S n && ((al[n]?).bind (·.dst) == some t) then n + 1 else lastW al S t n

theorem lastW_le {t : Nat} : ∀ n, lastW al S t n ≤ n
  | 0 => Nat.le_refl _
  | n + 1 => by
    simp only [lastW]
    split
    · exact Nat.le_refl _
    · exact Nat.le_succ_of_le (lastW_le n)

theorem lastW_lt {t i : Nat} (h : ∀ j x, al[j]? = some x → x.dst = some t → i ≤ j → S j = false) : ∀ n, lastW al S t n ≤ i
  | 0 => Nat.zero_le _
  | n + 1 => by
    simp only [lastW]
    split
    · rename_i hc
      simp only [Bool.and_eq_true, beq_iff_eq, Option.bind_eq_some_iff] at hc
      obtain ⟨hs, x, hx, hd⟩ := hc
      rcases Nat.lt_or_ge n i with hlt | hge
      · exact hlt
      · rw [h n x hx hd hge] at hs; cases hs
    · exact lastW_lt h n

theorem lastW_other {S' : Nat → Bool} {i t : Nat} {x : AOper} (hx : al[i]? = some x) (hS' : ∀ j, S' j = (S j || j == i)) (hd : x.dst ≠ some t) : ∀ n, lastW al S' t n = lastW al S t n
  | 0 => rfl
  | n + 1 => by
    simp only [lastW, lastW_other hx hS' hd n]
    by_cases hn : n = i
    · subst hn
      have : ((al[n]?).bind (·.dst) == some t) = false := by simp [hx, hd]
      rw [this]; simp
    · rw [hS' n, show (n == i) = false by simpa using hn, Bool.or_false]

theorem lastW_self {S' : Nat → Bool} {i t : Nat} {x : AOper} (hx : al[i]? = some x) (hS' : ∀ j, S' j = (S j || j == i)) (hd : x.dst = some t) : ∀ n, i < n → i + 1 ≤ lastW al S' t n
  | 0, h => by omega
  | n + 1, h => by
    simp only [lastW]
    split
    · omega
    · rename_i hc
      by_cases hn : n = i
      · subst hn
        exfalso; apply hc
        rw [hS' n, hx]; simp [hd]
      · exact lastW_self hx hS' hd n (by omega)

def holeS (al : List AOper) (G : Nat → AHeap) (S : Nat → Bool) (id : Nat) : Bool :=
  (List.range al.length).any fun j => effb al j && !S j && (decide ((G j).next ≤ id) && decide (id < (G (j + 1)).next))

def MM (al : List AOper) (G : Nat → AHeap) (loc : Nat → Loc) (S : Nat → Bool) (q : Nat) : Inj := { n := (G q).next, loc := loc, hole := holeS al G S }

theorem MM_le (hup : CallUp call) (htr : Trace call al E G V) {q q' : Nat} (h : q ≤ q') (h' : q' ≤ al.length) : (MM al G loc S q).le (MM al G loc S q') :=
  ⟨trace_mono hup htr h h', fun id hid => ⟨⟨Nat.lt_of_lt_of_le hid.1 (trace_mono hup htr h h'), hid.2⟩, rfl⟩⟩

theorem no_hole (hup : CallUp call) (htr : Trace call al E G V) {k : Nat} (hS : ∀ j, j < k → effb al j = true → S j = true) {id : Nat} (hid : id < (G k).next) : holeS al G S id = false := by
  unfold holeS
  rw [List.any_eq_false]
  intro j hj
  have hjl := List.mem_range.1 hj
  by_cases hjk : j < k
  · cases he : effb al j with
    | false => simp
    | true => simp [hS j hjk he]
  · have := trace_mono hup htr (i := k) (j := j) (by omega) (by omega)
    simp only [Bool.and_eq_true, decide_eq_true_eq, not_and]
    intro _ h; omega

theorem is_hole {i : Nat} (hi : i < al.length) (he : effb al i = true) (hs : S i = false) {id : Nat} (h1 : (G i).next ≤ id) (h2 : id < (G (i + 1)).next) : holeS al G S id = true := by
  unfold holeS
  rw [List.any_eq_true]
  exact ⟨i, List.mem_range.2 hi, by simp [he, hs, h1, h2]⟩

theorem hole_less {S' : Nat → Bool} (h : ∀ j, S j = true → S' j = true) {id : Nat} (hh : holeS al G S id = false) : holeS al G S' id = false := by
  unfold holeS at *
  rw [List.any_eq_false] at *
  intro j hj
  have := hh j hj
  cases hs : S' j with
  | true => simp
  | false =>
    have : S j = false := by
      cases h' : S j with
      | false => rfl
      | true => rw [h j h'] at hs; cases hs
    simpa [this, hs] using hh j hj

def pend (al : List AOper) (E : Nat → Env) (S : Nat → Bool) (k j : Nat) : Bool := decide (k ≤ j) && (S j && match al[j]? with
  | some x => x.op.eff && agd (E j) x.guard
  | none => false)

theorem pend_lt {k j : Nat} (h : pend al E S k j = true) : k ≤ j ∧ j < al.length ∧ S j = true ∧ effb al j = true := by
  unfold pend at h
  simp only [Bool.and_eq_true, decide_eq_true_eq] at h
  obtain ⟨h1, h2, h3⟩ := h
  split at h3
  · rename_i x hx
    simp only [Bool.and_eq_true] at h3
    refine ⟨h1, (List.getElem?_eq_some_iff.1 hx).1, h2, by simp [effb, hx, h3.1]⟩
  · cases h3

theorem pend_later {k k' j : Nat} (hk : k ≤ k') (h : pend al E S k' j = true) : pend al E S k j = true := by
  unfold pend at h ⊢
  simp only [Bool.and_eq_true, decide_eq_true_eq] at h ⊢
  exact ⟨by omega, h.2⟩

structure Data (w0 : World) (B : Nat → Bool) (al : List AOper) (E : Nat → Env) (G : Nat → AHeap) (loc : Nat → Loc) (S : Nat → Bool) (k : Nat) (w : World) : Prop where
  rel : SRel w0 B (MM al G loc S k) (G k) w
  obj : ∀ j, pend al E S k j = true → ∃ l, G (j + 1) = (G j).new (.cells l true) ∧ ORel B (MM al G loc S (j + 1)) (.cells l true) (loc (G j).next) w
  far : ∀ j, pend al E S k j = true → ∀ id o, (G k).obj id = some o → (loc id).block ≠ (loc (G j).next).block
  two : ∀ j j', pend al E S k j = true → pend al E S k j' = true → j ≠ j' → (loc (G j).next).block ≠ (loc (G j').next).block

theorem Data.same {k : Nat} {w : World} (h : Data w0 B al E G loc S k w) (hG : G (k + 1) = G k) : Data w0 B al E G loc S (k + 1) w := by
  have hM : MM al G loc S (k + 1) = MM al G loc S k := by unfold MM; rw [hG]
  refine ⟨by rw [hM, hG]; exact h.rel, fun j hj => h.obj j (pend_later (Nat.le_succ k) hj), fun j hj => ?_, fun j j' hj hj' => h.two j j' (pend_later (Nat.le_succ k) hj) (pend_later (Nat.le_succ k) hj')⟩
  rw [hG]; exact h.far j (pend_later (Nat.le_succ k) hj)

theorem absorb (hup : CallUp call) (htr : Trace call al E G V) {w : World} : ∀ (d k : Nat), al.length - k = d → k ≤ al.length → (∀ j, j < k → effb al j = true → S j = true) → Data w0 B al E G loc S k w →
    ∃ k', k ≤ k' ∧ k' ≤ al.length ∧ (∀ j, j < k' → effb al j = true → S j = true) ∧ (k' < al.length → effb al k' = true ∧ S k' = false) ∧ Data w0 B al E G loc S k' w
  | 0, k, hd, hk, hS, h => ⟨k, Nat.le_refl _, hk, hS, fun hlt => by omega, h⟩
  | d + 1, k, hd, hk, hS, h => by
    have hlt : k < al.length := by omega
    have go : effb al k = false ∨ S k = true → Data w0 B al E G loc S (k + 1) w → ∃ k', k ≤ k' ∧ k' ≤ al.length ∧ (∀ j, j < k' → effb al j = true → S j = true) ∧ (k' < al.length → effb al k' = true ∧ S k' = false) ∧ Data w0 B al E G loc S k' w := by
      intro hor hD
      obtain ⟨k', h1, h2, h3, h4, h5⟩ := absorb hup htr d (k + 1) (by omega) (by omega) (fun j hj he => by
        by_cases hjk : j < k
        · exact hS j hjk he
        · have : j = k := by omega
          subst this
          rcases hor with hor | hor
          · rw [hor] at he; cases he
          · exact hor) hD
      exact ⟨k', by omega, h2, h3, h4, h5⟩
    cases he : effb al k with
    | false => exact go (.inl he) (h.same (trace_still htr hlt he))
    | true =>
      cases hs : S k with
      | false => exact ⟨k, Nat.le_refl _, hk, hS, fun _ => ⟨he, hs⟩, h⟩
      | true =>
        have hx := List.getElem?_eq_getElem hlt
        obtain ⟨_, _, h2⟩ := htr.step k _ hx
        cases hg : agd (E k) (al[k]).guard with
        | false => exact go (.inr hs) (h.same (h2 hg).2)
        | true =>
          have hpk : pend al E S k k = true := by
            unfold pend
            rw [hx]
            simp only [hs, hg, Bool.and_true, Nat.le_refl, decide_true, Bool.true_and]
            simpa [effb, hx] using he
          obtain ⟨l, hG, hO⟩ := h.obj k hpk
          have hS1 : ∀ j, j < k + 1 → effb al j = true → S j = true := fun j hj hej => by
            by_cases hjk : j < k
            · exact hS j hjk hej
            · have : j = k := by omega
              subst this; exact hs
          have hn : (G (k + 1)).next = (G k).next + 1 := by rw [hG]; rfl
          have hle : (MM al G loc S k).le (MM al G loc S (k + 1)) := MM_le hup htr (Nat.le_succ k) (by omega)
          refine go (.inr hs) ⟨⟨h.rel.below, h.rel.size, rfl, ?_, ?_, fun id t ht => by rw [hG] at ht; exact ⟨(hle.2 id (h.rel.ty id t ht).1).1, (h.rel.ty id t ht).2⟩⟩, fun j hj => h.obj j (pend_later (Nat.le_succ k) hj), ?_, fun j j' hj hj' => h.two j j' (pend_later (Nat.le_succ k) hj) (pend_later (Nat.le_succ k) hj')⟩
          · intro id o ho
            rw [hG] at ho
            simp only [AHeap.new] at ho
            split at ho
            · rename_i hid
              simp only [Option.some.injEq] at ho
              subst ho hid
              exact ⟨⟨by show (G k).next < (G (k + 1)).next; omega, no_hole hup htr hS1 (by omega)⟩, hO⟩
            · obtain ⟨h3, h4⟩ := h.rel.obj id o ho
              exact ⟨(hle.2 id h3).1, h4.mono hle⟩
          · intro a b o o' ha hb hown hab
            rw [hG] at ha hb
            simp only [AHeap.new] at ha hb
            show (loc a).block ≠ (loc b).block
            split at ha
            · rename_i hia
              rw [if_neg (by omega)] at hb
              rw [hia]
              exact Ne.symm (h.far k hpk b o' hb)
            · split at hb
              · rename_i hib
                rw [hib]
                exact h.far k hpk a o ha
              · exact h.rel.apart a b o o' ha hb hown hab
          · intro j hj id o ho
            have hj' := pend_later (Nat.le_succ k) hj
            have hjk : k ≠ j := by have := (pend_lt hj).1; omega
            rw [hG] at ho
            simp only [AHeap.new] at ho
            split at ho
            · rename_i hid
              rw [hid]
              exact h.two k j hpk hj' hjk
            · exact h.far j hj' id o ho

/-! ### One operation -/
theorem fresh_new {o : AOp} (hf : o.fresh = true) {ρ : AOpd → AVal} {H H' : AHeap} {v : AVal} (h : ado call o ρ H = some (v, H')) :
    ∃ l, H' = H.new (.cells l true) ∧ ∀ H2 : AHeap, H2.next = H.next → ado call o ρ H2 = some (v, H2.new (.cells l true)) := by
  cases o <;> simp [AOp.fresh] at hf <;> simp only [ado, aop] at h ⊢
  case new =>
    simp at h; obtain ⟨rfl, rfl⟩ := h
    exact ⟨_, rfl, fun H2 h2 => by rw [h2]⟩
  case box =>
    split at h
    · cases h
    · rename_i ht
      simp at h; obtain ⟨rfl, rfl⟩ := h
      exact ⟨_, rfl, fun H2 h2 => by rw [if_neg ht, h2]⟩
  case buildS =>
    simp only [Option.map_eq_some_iff, Prod.mk.injEq] at h
    obtain ⟨l, hl, rfl, rfl⟩ := h
    exact ⟨l, rfl, fun H2 h2 => by rw [hl, h2]; rfl⟩

theorem still_obj {o : AOp} (he : o.eff = false) {ρ : AOpd → AVal} {H H' : AHeap} {v : AVal} (h : ado call o ρ H = some (v, H')) {H2 : AHeap} (hh : ∀ id l own, H.obj id = some (.cells l own) → ∃ own', H2.obj id = some (.cells l own')) : ado call o ρ H2 = some (v, H2) := by
  obtain ⟨_, hp⟩ := aop_still he h
  cases hr : o.reads with
  | false => exact hp hr H2
  | true =>
    cases o <;> simp [AOp.reads] at hr <;> simp only [ado, aop] at h ⊢
    case load g n x =>
      simp only [Option.map_eq_some_iff, Prod.mk.injEq] at h ⊢
      obtain ⟨u, hu, rfl, _⟩ := h
      refine ⟨u, ?_, rfl, trivial⟩
      unfold aload at hu ⊢
      split at hu
      · rename_i id off
        split at hu
        · rename_i l own ho
          obtain ⟨own', ho'⟩ := hh _ _ _ ho
          rw [ho']; exact hu
        · cases hu
      · cases hu
    case bToS x =>
      split at h
      · cases h
      · simp only [Option.bind_eq_some_iff, Option.map_eq_some_iff, Prod.mk.injEq] at h ⊢
        rename_i hns
        obtain ⟨n, hn, l, hl, u, ⟨k, hk, rfl⟩, rfl, _⟩ := h
        refine ⟨n, hn, l, ?_, _, ⟨k, hk, rfl⟩, rfl, trivial⟩
        generalize ρ x = y at *
        unfold acells at hl ⊢
        split at hl
        · exact hl
        · split at hl
          · rename_i hz; rw [if_pos hz]; exact hl
          · rename_i hz
            rw [if_neg hz]
            split at hl
            · rename_i c own ho
              obtain ⟨own', ho'⟩ := hh _ _ _ ho
              rw [ho']; exact hl
            · cases hl
        · exact hl
        · cases hl

theorem put_eval {dst : Option Nat} {v' : Value} {t : Nat} (ht : t < a.tmps.size) : (a.put dst v').eval (.tmp t) = if dst = some t then v' else a.eval (.tmp t) := by
  cases dst with
  | none => rfl
  | some d =>
    simp only [Act.put, Act.eval]
    by_cases htd : t = d
    · subst htd
      simp [ht]
    · rw [if_neg (by simp; omega)]
      rw [Array.getD_eq_getD_getElem?, Array.getElem?_setIfInBounds_ne (Ne.symm htd), ← Array.getD_eq_getD_getElem?]

theorem SRel.rebase {K : Nat → Bool} {w1 w2 : World} {m : Inj} {H : AHeap} (hS : SRel w1 K m H w2) (hb : Keep B w0 w1) (hB : ∀ k, B k = true → K k = true) (hs : ∀ k, B k = true → k < w0.heap.size) : SRel w0 B m H w2 := by
  refine ⟨hb.trans (hS.below.mono hB), hs, hS.next, fun id o ho => ?_, hS.apart, hS.ty⟩
  obtain ⟨h1, h2⟩ := hS.obj id o ho
  refine ⟨h1, ?_⟩
  cases o with
  | cells l own =>
    obtain ⟨c, e, fz, h3, h4, h5⟩ := h2
    refine ⟨c, e, fz, h3, h4, fun h => ?_⟩
    obtain ⟨h6, h7⟩ := h5 h
    refine ⟨?_, h7⟩
    cases hb' : B (m.loc id).block with
    | false => rfl
    | true => rw [hB _ hb'] at h6; cases h6
  | map l =>
    obtain ⟨es, ck, h3, h4, h6⟩ := h2
    refine ⟨es, ck, h3, h4, ?_⟩
    cases hb' : B (m.loc id).block with
    | false => rfl
    | true => rw [hB _ hb'] at h6; cases h6

theorem ORel.keep {m m' : Inj} {o : AObj} {L : Loc} {w w' : World} (h : ORel B m o L w) (hm : m.le m') (hk : w'.heap[L.block]? = w.heap[L.block]?) : ORel B m' o L w' := by
  cases o with
  | cells l own =>
    obtain ⟨c, e, fz, h3, h4, h5⟩ := h
    exact ⟨c, e, fz, by rw [hk]; exact h3, fun i x hx => let ⟨v, q1, q2, q3⟩ := h4 i x hx; ⟨v, q1, q2.mono hm, q3⟩, h5⟩
  | map l =>
    obtain ⟨es, ck, h3, h4, h5⟩ := h
    exact ⟨es, ck, by rw [hk]; exact h3, forall2_imp_mem h4 fun x y _ h => ⟨h.1.mono hm, h.2.mono hm⟩, h5⟩

structure Inv (w0 : World) (B : Nat → Bool) (m0 : Inj) (nt : Nat) (al : List AOper) (env : Env) (E : Nat → Env) (G : Nat → AHeap) (V : Nat → AVal) (df : List Deferred) (S : Nat → Bool) (a : Act) (w : World) : Prop where
  defers : a.defers = df
  size : nt ≤ a.tmps.size
  ex : ∃ (loc : Nat → Loc) (k : Nat), k ≤ al.length ∧ (∀ j, j < k → effb al j = true → S j = true) ∧ (k < al.length → effb al k = true ∧ S k = false) ∧ (∀ id, m0.has id → loc id = m0.loc id) ∧ Data w0 B al E G loc S k w ∧
    ∀ t, t < nt → VRel (MM al G loc S (max (lastW al S t al.length) k)) (curE al env V S al.length t) (a.eval (.tmp t))

theorem inv_step (hup : CallUp call) (htr : Trace call al E G V) {m0 : Inj} {df : List Deferred} {a : Act} {w' : World} {S' : Nat → Bool} {loc' : Nat → Loc} {i k k0 : Nat} {x : AOper} {dst : Option Nat} {v' : Value}
    (hx : al[i]? = some x) (hSi : S i = false) (hS' : ∀ j, S' j = (S j || j == i)) (hdx : x.dst = dst) (hd : cdst nt dst = true)
    (hlate : ∀ t, ∀ j y, al[j]? = some y → x.dst = some t → y.dst = some t → i < j → S j = false)
    (hdf : a.defers = df) (hsz : nt ≤ a.tmps.size) (hloc0 : ∀ id, m0.has id → loc' id = m0.loc id)
    (hv : ∀ t, t < nt → VRel (MM al G loc S (max (lastW al S t al.length) k)) (curE al env V S al.length t) (a.eval (.tmp t)))
    (hkk : k ≤ k0) (hk0 : k0 ≤ al.length) (hSk : ∀ j, j < k0 → effb al j = true → S' j = true) (hD : Data w0 B al E G loc' S' k0 w')
    (hle : ∀ q, q ≤ al.length → (MM al G loc S q).le (MM al G loc' S' q)) (hv' : VRel (MM al G loc' S' (max (i + 1) k0)) (V i) v') :
    Inv w0 B m0 nt al env E G V df S' (a.put dst v') w' := by
  have hil : i < al.length := (List.getElem?_eq_some_iff.1 hx).1
  obtain ⟨k', h1, h2, h3, h4, h5⟩ := absorb hup htr _ k0 rfl hk0 hSk hD
  refine ⟨(put_defers _ _).trans hdf, by cases dst <;> simp [Act.put] <;> exact hsz, loc', k', h2, h3, h4, hloc0, h5, fun t ht => ?_⟩
  rw [put_eval (Nat.lt_of_lt_of_le ht hsz)]
  rw [curE_insert hx hSi hS' (fun j y hy hxd hyd hij => hlate t j y hy hxd hyd hij)]
  by_cases hdt : x.dst = some t
  · rw [if_pos hdt, if_pos (by rw [← hdx]; exact hdt)]
    have := lastW_self hx hS' hdt al.length hil
    have hl := lastW_le (al := al) (S := S') (t := t) al.length
    exact hv'.mono (MM_le hup htr (by omega) (by omega))
  · rw [if_neg hdt, if_neg (by rw [← hdx]; exact hdt), lastW_other hx hS' hdt]
    have hl := lastW_le (al := al) (S := S) (t := t) al.length
    refine ((hv t ht).mono (hle _ (by omega))).mono (MM_le hup htr (by omega) (by omega))

theorem pend_hole (hup : CallUp call) (htr : Trace call al E G V) {k : Nat} {w : World} (hD : Data w0 B al E G loc S k w) {j : Nat} (hj : pend al E S k j = true) : holeS al G S (G j).next = false := by
  obtain ⟨hp1, hp2, hp3, hp4⟩ := pend_lt hj
  cases hc : holeS al G S (G j).next with
  | false => rfl
  | true =>
    exfalso
    obtain ⟨l, h1, _⟩ := hD.obj j hj
    unfold holeS at hc
    rw [List.any_eq_true] at hc
    obtain ⟨q, hq, hc⟩ := hc
    simp only [Bool.and_eq_true, decide_eq_true_eq, Bool.not_eq_true'] at hc
    obtain ⟨⟨hc1, hc2⟩, hc3, hc4⟩ := hc
    have hql := List.mem_range.1 hq
    rcases Nat.lt_trichotomy q j with hlt | heq | hgt
    · have := trace_mono hup htr (i := q + 1) (j := j) (by omega) (by omega); omega
    · subst heq; rw [hp3] at hc2; cases hc2
    · have := trace_mono hup htr (i := j + 1) (j := q) (by omega) (by omega)
      have hn : (G (j + 1)).next = (G j).next + 1 := by rw [h1]; rfl
      omega

theorem data_next (hup : CallUp call) (htr : Trace call al E G V) {k i : Nat} {w w2 : World} {S' : Nat → Bool} {loc' : Nat → Loc} (hk : k ≤ al.length) (hk1 : ∀ j, j < k → effb al j = true → S j = true) (hD : Data w0 B al E G loc S k w) (hS' : ∀ j, S' j = (S j || j == i)) (hbl : Below w.heap.size w w2)
    (hle : ∀ q, q ≤ al.length → (MM al G loc S q).le (MM al G loc' S' q)) (hloc : ∀ id, holeS al G S id = false → loc' id = loc id)
    (hnew : S i = false → pend al E S' k i = true → ∃ l, G (i + 1) = (G i).new (.cells l true) ∧ ORel B (MM al G loc' S' (i + 1)) (.cells l true) (loc' (G i).next) w2 ∧ w.heap.size ≤ (loc' (G i).next).block) : Data w0 B al E G loc' S' k w2 := by
  have hpe : ∀ j, pend al E S' k j = true → pend al E S k j = true ∨ (j = i ∧ S i = false) := by
    intro j hj
    cases hs : S j with
    | true =>
      left
      unfold pend at hj ⊢
      simp only [Bool.and_eq_true, decide_eq_true_eq] at hj ⊢
      exact ⟨hj.1, hs, hj.2.2⟩
    | false =>
      right
      have := (pend_lt hj).2.2.1
      rw [hS' j, hs] at this
      simp only [Bool.false_or, beq_iff_eq] at this
      subst this
      exact ⟨rfl, hs⟩
  have hh : ∀ {id}, id < (G k).next → holeS al G S id = false := fun hid => no_hole hup htr hk1 hid
  have hlow : ∀ id o, (G k).obj id = some o → (loc' id).block < w.heap.size ∧ loc' id = loc id := by
    intro id o ho
    have h1 := hloc id (hh (hD.rel.obj id o ho).1.1)
    exact ⟨by rw [h1]; exact (hD.rel.obj id o ho).2.lt, h1⟩
  have hplow : ∀ j, pend al E S k j = true → loc' (G j).next = loc (G j).next ∧ (loc (G j).next).block < w.heap.size := by
    intro j hj
    obtain ⟨l, _, h2⟩ := hD.obj j hj
    exact ⟨hloc _ (pend_hole hup htr hD hj), h2.lt⟩
  refine ⟨(hD.rel.stays hbl).inj (hle k hk) rfl, ?_, ?_, ?_⟩
  · intro j hj
    rcases hpe j hj with hp | ⟨rfl, hs⟩
    · obtain ⟨l, h1, h2⟩ := hD.obj j hp
      refine ⟨l, h1, ?_⟩
      rw [(hplow j hp).1]
      exact h2.keep (hle (j + 1) (by have := (pend_lt hp).2.1; omega)) (hbl.block _ h2.lt)
    · obtain ⟨l, h1, h2, _⟩ := hnew hs hj
      exact ⟨l, h1, h2⟩
  · intro j hj id o ho
    rcases hpe j hj with hp | ⟨rfl, hs⟩
    · rw [(hlow id o ho).2, (hplow j hp).1]
      exact hD.far j hp id o ho
    · obtain ⟨_, _, _, h3⟩ := hnew hs hj
      have := (hlow id o ho).1
      omega
  · intro j j' hj hj' hne
    rcases hpe j hj with hp | ⟨rfl, hs⟩ <;> rcases hpe j' hj' with hp' | ⟨rfl, hs'⟩
    · rw [(hplow j hp).1, (hplow j' hp').1]
      exact hD.two j j' hp hp' hne
    · obtain ⟨_, _, _, h3⟩ := hnew hs' hj'
      have h4 := hplow j hp
      rw [h4.1]; omega
    · obtain ⟨_, _, _, h3⟩ := hnew hs hj
      have h4 := hplow j' hp'
      rw [h4.1]; omega
    · exact absurd rfl hne

theorem sound_draw (hcs : ∀ w0 B, CallSound P w0 B call) (hmix : P.follows .mixedOrders = true) (R : Region1 P nt ops al b) {Q : Exit → Act → World → Prop} {env' : Env} (hE : ERel m nt env a) (hS : SRel w0 B m H w) (h : adraw call al env H [H] [] = some (env', H'))
    (hQ : ∀ a' w' m', m.le m' → SRel w0 B m' H' w' → ERel m' nt env' a' → a'.defers = a.defers → Q .normal a' w') (id : Nat) (r : Option Nat) (nn : Nat) : (Code.region id ops true).wpIn (FW r) nn P Q a w := by
  obtain ⟨E, G, V, st, e0, g0, e1, g1, htr, hst0, hsteff, _, hrd⟩ := adraw_trace al env H [H] [] env' H' h
  have hup : CallUp call := callSound_up (hcs w0 B)
  have hst0' : st[0]? = some (G 0) := by rw [hst0 0 (by simp), g0]; rfl
  have hstage := stage_at htr hst0' (by intro i x hx he; have := hsteff i x hx he; simpa using this)
  refine wpIn_region_any hmix ?_
  have hn0 : (G 0).next = m.n := by rw [g0]; exact hS.next
  -- the walk over whatever order
  have main : ∀ (fuel : Nat) (listed : Array Bool) (a' : Act) (w' : World), listed.size = ops.size → (List.range ops.size).countP (fun j => !listed.getD j false) = fuel → Closed ops (fun j => listed.getD j false) →
      Inv w0 B m nt al env E G V a.defers (fun j => listed.getD j false) a' w' → wpAnyIn (FW r) nn P .any ops Q fuel listed a' w' := by
    intro fuel
    induction fuel with
    | zero =>
      intro listed a' w' hsz hcnt hcl hI
      have hall : ∀ j, j < ops.size → listed.getD j false = true := by
        intro j hj
        have := List.countP_eq_zero.1 hcnt j (List.mem_range.2 hj)
        simpa using this
      refine ⟨?_, ?_⟩
      · rw [List.eq_nil_iff_forall_not_mem]
        intro j hj
        obtain ⟨hj1, o, ho, _⟩ := mem_ready.1 hj
        have hlt := (Array.getElem?_eq_some_iff.1 ho).1
        have := hall j hlt
        rw [getD_any (d' := true) (by omega)] at this
        rw [this] at hj1; cases hj1
      · obtain ⟨loc, k, hk, _, hk2, hl0, hD, hv⟩ := hI.ex
        have hkl : k = al.length := by
          rcases Nat.lt_or_ge k al.length with hlt | hge
          · obtain ⟨_, h2⟩ := hk2 hlt
            rw [hall k (by rw [← R.len]; exact hlt)] at h2; cases h2
          · omega
        subst hkl
        have hnh : ∀ id, id < (G al.length).next → holeS al G (fun j => listed.getD j false) id = false := fun id hid => no_hole hup htr (fun j hj _ => hall j (by rw [← R.len]; exact hj)) hid
        refine hQ a' w' (MM al G loc (fun j => listed.getD j false) al.length) ⟨?_, fun id hid => ?_⟩ (by rw [← g1]; exact hD.rel) ⟨hI.size, fun t ht => ?_⟩ hI.defers
        · rw [← hn0]; exact trace_mono hup htr (Nat.zero_le _) (Nat.le_refl _)
        · have hlt : id < (G al.length).next := Nat.lt_of_lt_of_le hid.1 (by rw [← hn0]; exact trace_mono hup htr (Nat.zero_le _) (Nat.le_refl _))
          exact ⟨⟨hlt, hnh id hlt⟩, hl0 id hid⟩
        · have := hv t ht
          rw [curE_at e0 htr (Nat.le_refl _) (fun j x hx hd => ⟨fun hj => hall j (by rw [← R.len]; exact hj), fun hj => by
            rcases Nat.lt_or_ge j al.length with h | h
            · omega
            · rw [List.getElem?_eq_none h] at hx; cases hx⟩), e1] at this
          have hl := lastW_le (al := al) (S := fun j => listed.getD j false) (t := t) al.length
          exact this.mono (MM_le hup htr (by omega) (Nat.le_refl _))
    | succ fuel ih =>
      intro listed a' w' hsz hcnt hcl hI
      refine ⟨?_, ?_⟩
      · -- something is ready
        intro hnil
        exfalso
        have hex : ∃ j, j < ops.size ∧ listed.getD j false = false := by
          have hp : 0 < (List.range ops.size).countP (fun j => !listed.getD j false) := by omega
          obtain ⟨j, hj, hp⟩ := List.countP_pos_iff.1 hp
          exact ⟨j, List.mem_range.1 hj, by simpa using hp⟩
        have hleast : ∀ k, (∃ j, j ≤ k ∧ j < ops.size ∧ listed.getD j false = false) → ∃ j, j < ops.size ∧ listed.getD j false = false ∧ ∀ i, i < j → listed.getD i false = true := by
          intro k
          induction k with
          | zero =>
            rintro ⟨j, hj, h1, h2⟩
            have : j = 0 := by omega
            subst this
            exact ⟨0, h1, h2, by omega⟩
          | succ k ihk =>
            rintro ⟨j, hj, h1, h2⟩
            by_cases hk : ∃ j, j ≤ k ∧ j < ops.size ∧ listed.getD j false = false
            · exact ihk hk
            · refine ⟨j, h1, h2, fun i hi => ?_⟩
              cases hl : listed.getD i false with
              | true => rfl
              | false => exact absurd ⟨i, by omega, by omega, hl⟩ hk
        obtain ⟨j0, hj0⟩ := hex
        obtain ⟨j, hj, hjf, hjl⟩ := hleast j0 ⟨j0, Nat.le_refl _, hj0⟩
        have ho := Array.getElem?_eq_getElem hj
        have hmem : j ∈ Region.ready .any ops listed := by
          rw [mem_ready]
          exact ⟨(getD_any (by omega)).trans hjf, _, ho, fun e hm hbd => hjl _ (R.edge j _ ho e hm hbd)⟩
        rw [hnil] at hmem
        cases hmem
      · intro i hi
        obtain ⟨hi1, o, ho, hwait⟩ := mem_ready.1 hi
        have hilt := (Array.getElem?_eq_some_iff.1 ho).1
        have hil : i < al.length := by rw [R.len]; exact hilt
        have hx := List.getElem?_eq_getElem hil
        generalize hxd : al[i] = x at hx
        obtain ⟨o', ho', hcd, hco, hcg, hdx⟩ := R.get i x hx
        rw [ho] at ho'; simp at ho'; subst ho'
        generalize hSd : (fun j => listed.getD j false) = S at hI hcl
        have hSat : ∀ j, listed.getD j false = S j := fun j => by rw [← hSd]
        have hwait : ∀ e, e ∈ o.after → Region.binds .any e = true → S e.on = true := fun e hm hbd => by rw [← hSat]; exact hwait e hm hbd
        have hSi : S i = false := by rw [← hSat]; exact (getD_any (by omega)).trans hi1
        obtain ⟨S', hSd'⟩ : ∃ S', (fun j => (listed.setIfInBounds i true).getD j false) = S' := ⟨_, rfl⟩
        have hS' : ∀ j, S' j = (S j || j == i) := by
          intro j
          rw [← hSd']
          show (listed.setIfInBounds i true).getD j false = _
          by_cases hji : j = i
          · subst hji
            simp [show j < listed.size by omega]
          · rw [getD_set_ne false (Ne.symm hji), hSat]
            simp [hji]
        have hSS : ∀ j, S j = true → S' j = true := fun j hj => by rw [hS' j, hj]; rfl
        have hcl' : Closed ops S' := by
          intro k ok hk hsk e hm hbd
          rw [hS'] at hsk ⊢
          simp only [Bool.or_eq_true, beq_iff_eq] at hsk
          rcases hsk with hsk | rfl
          · rw [show S e.on = true from hcl k ok hk hsk e hm hbd]; rfl
          · rw [ho] at hk; simp at hk; subst hk
            rw [show S e.on = true from hwait e hm hbd]; rfl
        have hbefore : ∀ j, (b i).testBit j = true → S j = true ∧ j < i := fun j hj => closed_bit R hcl i o j ho hwait hj
        have hafter : ∀ j, j < ops.size → (b j).testBit i = true → S j = false := by
          intro j hj hb
          cases hs : S j with
          | false => rfl
          | true =>
            have := (closed_bit' R hcl hj hs hb).1
            rw [hSi] at this; cases this
        have hlt_of : ∀ j y, al[j]? = some y → j < ops.size := by
          intro j y hy
          rw [← R.len]
          rcases Nat.lt_or_ge j al.length with h | h
          · exact h
          · rw [List.getElem?_eq_none h] at hy; cases hy
        obtain ⟨loc, k, hk, hk1, hk2, hl0, hD, hv⟩ := hI.ex
        -- what is looked at reads as in the order of the text
        have hwr : ∀ t, t ∈ x.looks → ∀ j y, al[j]? = some y → y.dst = some t → (j < i → S j = true) ∧ (i ≤ j → S j = false) := by
          intro t ht j y hy hyd
          by_cases hji : j = i
          · subst hji
            exact ⟨by omega, fun _ => hSi⟩
          · have hbit := R.temps j i y x t hy hx hji hyd (.inl ht)
            refine ⟨fun hlt => ?_, fun hle => ?_⟩
            · rw [Nat.max_eq_right (by omega), Nat.min_eq_left (by omega)] at hbit
              exact (hbefore j hbit).1
            · rw [Nat.max_eq_left (by omega), Nat.min_eq_right (by omega)] at hbit
              exact hafter j (hlt_of j y hy) hbit
        have hlook : ∀ t, t ∈ x.looks → curE al env V S al.length t = E i t := fun t ht => curE_at e0 htr (by omega) (hwr t ht)
        have hlast : ∀ t, t ∈ x.looks → lastW al S t al.length ≤ i := fun t ht => lastW_lt (fun j y hy hyd hij => (hwr t ht j y hy hyd).2 hij) _
        have hlate : ∀ t, ∀ j y, al[j]? = some y → x.dst = some t → y.dst = some t → i < j → S j = false := by
          intro t j y hy hxd' hyd hij
          have hbit := R.temps i j x y t hx hy (by omega) hxd' (.inr hyd)
          rw [Nat.max_eq_right (by omega), Nat.min_eq_left (by omega)] at hbit
          exact hafter j (hlt_of j y hy) hbit
        -- a frame that knows what is looked at, and nothing else
        let envS : Env := fun t => if t ∈ x.looks then curE al env V S al.length t else match a'.eval (.tmp t) with
          | .bool b => .bool b
          | _ => .any
        have hEr : ∀ q, max i k ≤ q → q ≤ al.length → ERel (MM al G loc S q) nt envS a' := by
          intro q hq hql
          refine ⟨hI.size, fun t ht => ?_⟩
          show VRel _ (if t ∈ x.looks then _ else _) _
          split
          · rename_i hmem
            have := hlast t hmem
            exact (hv t ht).mono (MM_le hup htr (by omega) hql)
          · generalize a'.eval (.tmp t) = u
            cases u with
            | bool b => exact .bool b
            | _ => exact .any _ (fun b hb => by cases hb)
        have hopd : ∀ y, y ∈ x.op.opds → aev envS y = aev (E i) y := by
          intro y hy
          cases y with
          | con v => rfl
          | tmp t =>
            have hmem : t ∈ x.looks := by
              simp only [AOper.looks, List.mem_append, List.mem_filterMap]
              exact .inl ⟨_, hy, rfl⟩
            show (if t ∈ x.looks then _ else _) = _
            rw [if_pos hmem]
            exact hlook t hmem
        have hguard : agd envS x.guard = agd (E i) x.guard := by
          cases hg : x.guard with
          | none => rfl
          | some g =>
            obtain ⟨d, wnt⟩ := g
            have hmem : d ∈ x.looks := by simp [AOper.looks, hg]
            simp only [agd]
            rw [show envS d = E i d from by show (if d ∈ x.looks then _ else _) = _; rw [if_pos hmem]; exact hlook d hmem]
        have hkil : max i k ≤ al.length := by omega
        have hwd := wanted_rel (ops := ops) (hEr _ (Nat.le_refl _) hkil) hcg
        rw [hguard] at hwd
        obtain ⟨hEi, hrun, hskip⟩ := htr.step i x hx
        -- an effect stands at its turn, or is ahead of it
        have hki : effb al i = true → k ≤ i := by
          intro he
          rcases Nat.lt_or_ge i k with hlt | hge
          · rw [show S i = true from hk1 i hlt he] at hSi; cases hSi
          · exact hge
        have hkh : hardb al i = true → k = i := by
          intro hh
          have he : effb al i = true := by
            unfold hardb at hh; rw [hx] at hh; simp at hh
            simp [effb, hx, hh.1]
          have := hki he
          rcases Nat.lt_or_ge k i with hlt | hge
          · obtain ⟨h1, h2⟩ := hk2 (by omega)
            have := (hbefore k (R.chain k i hlt h1 hh)).1
            rw [h2] at this; cases this
          · omega
        -- going on
        have hgo : ∀ (v' : Value) (w2 : World), Inv w0 B m nt al env E G V a.defers S' (a'.put o.dst v') w2 → wpAnyIn (FW r) nn P .any ops Q fuel (listed.setIfInBounds i true) (a'.put o.dst v') w2 := by
          intro v' w2 hI2
          refine ih _ _ _ (by simp [hsz]) ?_ (by rw [hSd']; exact hcl') (by rw [hSd']; exact hI2)
          have hc1 : (List.range ops.size).countP (fun j => !listed.getD j false) = (List.range ops.size).countP (fun j => !(listed.setIfInBounds i true).getD j false) + 1 := by
            have hsplit : ∀ n, n ≤ ops.size → (List.range n).countP (fun j => !listed.getD j false) = (List.range n).countP (fun j => !(listed.setIfInBounds i true).getD j false) + if i < n then 1 else 0 := by
              intro n
              induction n with
              | zero => intro _; simp
              | succ n ihn =>
                intro hn
                rw [List.range_succ, List.countP_append, List.countP_append, ihn (by omega)]
                by_cases hni : n = i
                · subst hni
                  have h1 : (listed.setIfInBounds n true).getD n false = true := by simp [show n < listed.size by omega]
                  simp only [List.countP_cons, List.countP_nil, (hSat n).trans hSi, h1]
                  simp
                · have hsame : (listed.setIfInBounds i true).getD n false = listed.getD n false := getD_set_ne false (Ne.symm hni)
                  have hsing : List.countP (fun j => !(listed.setIfInBounds i true).getD j false) [n] = List.countP (fun j => !listed.getD j false) [n] := by
                    simp only [List.countP_cons, List.countP_nil, hsame]
                  rw [hsing]
                  have hif : (if i < n + 1 then 1 else 0) = (if i < n then 1 else 0) := by
                    by_cases hin : i < n
                    · rw [if_pos hin, if_pos (by omega)]
                    · rw [if_neg hin, if_neg (by omega)]
                  rw [hif]; omega
            rw [hsplit _ (Nat.le_refl _), if_pos hilt]
          omega
        have hleS : ∀ q, q ≤ al.length → (MM al G loc S q).le (MM al G loc S' q) := fun q _ => ⟨Nat.le_refl _, fun id hid => ⟨⟨hid.1, hole_less hSS hid.2⟩, rfl⟩⟩
        have hfalse : agd (E i) x.guard = false → wpAnyIn (FW r) nn P .any ops Q fuel (listed.setIfInBounds i true) (a'.put o.dst undef) w' := by
          intro hg
          obtain ⟨hV, hG⟩ := hskip hg
          refine hgo _ _ (inv_step hup htr hx hSi hS' hdx hcd hlate hI.defers hI.size hl0 hv (Nat.le_refl k) hk (fun j hj he => hSS j (hk1 j hj he)) (data_next hup htr hk hk1 hD hS' (Below.refl _ _) hleS (fun _ _ => rfl) ?_) hleS (by rw [hV]; exact undef_rel _))
          intro _ hp
          exfalso
          unfold pend at hp
          rw [hx] at hp
          simp [hg] at hp
        unfold wpOpIn
        simp only [ho]
        cases hg : agd (E i) x.guard with
        | false =>
          rw [if_neg (by rw [hwd, hg]; simp)]
          exact ⟨fun _ _ => trivial, hfalse hg⟩
        | true =>
          rw [if_pos (by rw [hwd, hg])]
          have hr := hrun hg
          cases he : effb al i with
          | false =>
            -- it touches nothing
            have hxe : x.op.eff = false := by simpa [effb, hx] using he
            have hnc : x.op.isCall = false := by
              cases hop : x.op <;> rw [hop] at hxe <;> simp [AOp.eff] at hxe <;> rfl
            have hread : ado call x.op (aev (E i)) (G k) = some (V i, G k) := by
              cases hre : x.op.reads with
              | false => exact (aop_still hxe hr).2 hre (G k)
              | true =>
                have hrdx := R.rd i x hx
                simp only [rdOf, hre, if_true] at hrdx
                -- the stage lies between the two
                have hcount : ∀ j, j ≤ al.length → effn al j = (List.range j).countP fun q => effb al q := by
                  intro j hj
                  unfold effn
                  exact countP_lt _ _ _ hj
                have htw : ∀ (p : Nat → Bool) (j : Nat), j ≤ al.length → (∀ q, q < j → p q = true) → (List.range j).countP (fun q => effb al q) ≤ ((List.range al.length).takeWhile p).countP fun q => effb al q := by
                  intro p j hj hp
                  have hpre : List.range j <+: (List.range al.length).takeWhile p := by
                    have e : List.range al.length = List.range j ++ (List.range (al.length - j)).map (j + ·) := by
                      rw [← List.range_add]; congr 1; omega
                    rw [e, List.takeWhile_append_of_pos (by intro q hq; exact hp q (List.mem_range.1 hq))]
                    exact List.prefix_append _ _
                  exact hpre.sublist.countP_le
                have htw2 : ∀ (p : Nat → Bool) (j : Nat), j ≤ al.length → (j < al.length → p j = false) → ((List.range al.length).takeWhile p).countP (fun q => effb al q) ≤ (List.range j).countP fun q => effb al q := by
                  intro p j hj hp
                  have hpre : (List.range al.length).takeWhile p <+: List.range j := by
                    have e : List.range al.length = List.range j ++ (List.range (al.length - j)).map (j + ·) := by
                      rw [← List.range_add]; congr 1; omega
                    rcases Nat.lt_or_ge j al.length with hlt | hge
                    · have e2 : (List.range (al.length - j)).map (j + ·) = j :: ((List.range (al.length - j - 1)).map (j + 1 + ·)) := by
                        have : al.length - j = (al.length - j - 1) + 1 := by omega
                        rw [this, List.range_succ_eq_map, List.map_cons, List.map_map]
                        simp only [Nat.add_zero, Nat.add_sub_cancel, List.cons.injEq, true_and]
                        apply List.map_congr_left
                        intro q _
                        simp only [Function.comp]; omega
                      rw [e, e2, List.takeWhile_append]
                      split
                      · rw [List.takeWhile_cons_of_neg (by rw [hp hlt]; simp), List.append_nil]
                        exact List.prefix_refl _
                      · exact List.takeWhile_prefix _
                    · have : j = al.length := by omega
                      subst this
                      exact List.takeWhile_prefix _
                  exact hpre.sublist.countP_le
                have hlo : (stagesOf al b i).1 ≤ effn al k := by
                  rw [hcount k hk]
                  refine htw2 _ k hk fun hlt => ?_
                  obtain ⟨h1, h2⟩ := hk2 hlt
                  rw [h1]
                  cases hbt : (b i).testBit k with
                  | false => rfl
                  | true => rw [(hbefore k hbt).1] at h2; cases h2
                have hhi : effn al k ≤ (stagesOf al b i).2 := by
                  rw [hcount k hk]
                  refine htw _ k hk fun q hq => ?_
                  cases heq : effb al q with
                  | false => rfl
                  | true =>
                    cases hbt : (b q).testBit i with
                    | false => rfl
                    | true =>
                      have := hafter q (by rw [← R.len]; omega) hbt
                      rw [hk1 q hq heq] at this; cases this
                have hlo' : (stagesOf al b i).1 ≤ effn al i := by
                  show ((List.range al.length).takeWhile fun q => !effb al q || (b i).testBit q).countP (fun q => effb al q) ≤ (List.range al.length).countP fun q => effb al q && decide (q < i)
                  refine Nat.le_trans (List.countP_mono_left (q := fun q => effb al q && decide (q < i)) fun q hq heq => ?_) (List.takeWhile_sublist _).countP_le
                  have hp := List.all_eq_true.1 (List.all_takeWhile (p := fun q => !effb al q || (b i).testBit q) (l := List.range al.length)) q hq
                  rw [heq] at hp
                  simp only [Bool.not_true, Bool.false_or] at hp
                  simp [heq, (hbefore q hp).2]
                have hhi' : effn al i ≤ (stagesOf al b i).2 := by
                  rw [hcount i (by omega)]
                  refine htw _ i (by omega) fun q hq => ?_
                  cases hbt : (b q).testBit i with
                  | false => simp
                  | true =>
                    exfalso
                    have hjs : q < ops.size := by rw [← R.len]; omega
                    have := closed_bit R (S := fun _ => true) (fun _ _ _ _ _ _ _ => rfl) q _ i (Array.getElem?_eq_getElem hjs) (fun _ _ _ => rfl) hbt
                    omega
                by_cases heq : (stagesOf al b i).1 = (stagesOf al b i).2
                · have hsame : effn al k = effn al i := by omega
                  have h1 := hstage k hk
                  rw [hsame, hstage i (by omega)] at h1
                  simp at h1
                  rw [← h1, hr, (aop_still hxe hr).1]
                · rw [if_neg heq] at hrdx
                  have hok := hrd i x (stagesOf al b i).1 (stagesOf al b i).2 hx hrdx hg
                  simp only [ARead.ok, List.all_eq_true] at hok
                  have hst := hstage k hk
                  generalize effn al k = k0 at *
                  generalize (stagesOf al b i).1 = lo0 at *
                  generalize (stagesOf al b i).2 = hi0 at *
                  have := hok (k0 - lo0) (List.mem_range.2 (by omega))
                  rw [show lo0 + (k0 - lo0) = k0 by omega, hst] at this
                  simp only at this
                  have hado : ado call x.op (aev (E i)) (G k) = aop x.op (aev (E i)) (G k) := by
                    cases hop : x.op with
                    | call f l => rw [hop] at hre; simp [AOp.reads] at hre
                    | _ => rfl
                  split at this
                  · rename_i v1 H1 hv1
                    have hvv := AVal.eq_of_beq _ _ this
                    rw [hado, hv1, hvv]
                    have := (aop_still (call := call) hxe (by rw [hado]; exact hv1)).1
                    rw [this]
                  · cases this
            obtain ⟨q, hq⟩ : ∃ q, q = max i k := ⟨_, rfl⟩
            have hql : q ≤ al.length := by omega
            let Hs : AHeap := frz { obj := (G k).obj, next := (G q).next }
            have hadoS : ado call x.op (aev envS) Hs = some (V i, Hs) := by
              rw [aop_congr hopd]
              exact still_obj hxe hread fun id l own ho => ⟨false, by show (frz { obj := (G k).obj, next := (G q).next }).obj id = _; simp [frz, ho]⟩
            have hSs : SRel w' (lowK w'.heap.size) (MM al G loc S q) Hs w' := by
              refine ⟨Keep.refl _ _, fun z hz => by simpa [lowK] using hz, rfl, ?_, ?_, fun id t ht => by cases ht⟩
              · intro id o ho
                obtain ⟨l, own, h1, rfl⟩ := frz_inv ho
                obtain ⟨h2, c, e, fz, h3, h4, _⟩ := hD.rel.obj id _ h1
                have hle := MM_le (loc := loc) (S := S) hup htr (q := k) (q' := q) (by omega) hql
                exact ⟨(hle.2 id h2).1, c, e, fz, h3, fun j y hy => let ⟨u, q1, q2, q3⟩ := h4 j y hy; ⟨u, q1, q2.mono hle, q3⟩, fun h => by cases h⟩
              · intro z z' o o' hz hz' hown
                obtain ⟨l, own, h1, rfl⟩ := frz_inv hz
                cases hown
            refine sound_ado (hcs w' (lowK w'.heap.size)) hco (hEr q (by omega) hql) hSs hadoS (fun v' w2 m' hm hms hS2 hv2 => ?_) _ _
            have hbl : Below w'.heap.size w' w2 := hS2.below.below
            have hmn : m'.n = (G q).next := hS2.next.symm
            refine hgo _ _ (inv_step hup htr hx hSi hS' hdx hcd hlate hI.defers hI.size hl0 hv (Nat.le_refl k) hk (fun j hj he => hSS j (hk1 j hj he)) (data_next hup htr hk hk1 hD hS' hbl hleS (fun _ _ => rfl) ?_) hleS ?_)
            · intro _ hp
              have := (pend_lt hp).2.2.2
              rw [he] at this; cases this
            · have hnn : (G (max (i + 1) k)).next = (G q).next := by
                rw [hq]
                rcases Nat.lt_or_ge i k with hlt | hge
                · rw [Nat.max_eq_right (by omega), Nat.max_eq_right (by omega)]
                · rw [Nat.max_eq_left (by omega), Nat.max_eq_left (by omega), trace_still htr hil he]
              refine hv2.mono ⟨by rw [hmn]; exact Nat.le_of_eq hnn.symm, fun id hid => ?_⟩
              have hh : holeS al G S id = false := by
                cases hc : holeS al G S id with
                | false => rfl
                | true =>
                  have := (hms hnc).2 id (by show id < (G q).next; rw [← hmn]; exact hid.1) hc
                  rw [hid.2] at this; cases this
              exact ⟨⟨by show id < (G (max (i + 1) k)).next; rw [hnn, ← hmn]; exact hid.1, hole_less hSS hh⟩, ((hm.2 id ⟨by show id < (G q).next; rw [← hmn]; exact hid.1, hh⟩).2).symm⟩
          | true =>
            have hki' := hki he
            have hxe : x.op.eff = true := by simpa [effb, hx] using he
            cases hf : x.op.fresh with
            | true =>
              -- a new object, at its turn or ahead of it
              obtain ⟨l, hG, hfn⟩ := fresh_new hf hr
              have hnc : x.op.isCall = false := by
                cases hop : x.op <;> rw [hop] at hf <;> simp [AOp.fresh] at hf <;> rfl
              let Hs : AHeap := { obj := fun _ => none, next := (G i).next }
              have hadoS : ado call x.op (aev envS) Hs = some (V i, Hs.new (.cells l true)) := by
                rw [aop_congr hopd]
                exact hfn Hs rfl
              have hSs : SRel w' (lowK w'.heap.size) (MM al G loc S i) Hs w' :=
                by
                  refine ⟨Keep.refl _ _, fun z hz => by simpa [lowK] using hz, rfl, ?_, ?_, fun id t ht => by cases ht⟩
                  · intro id o ho
                    cases ho
                  · intro z z' o o' hz
                    cases hz
              refine sound_ado (hcs w' (lowK w'.heap.size)) hco (hEr i (by omega) (by omega)) hSs hadoS (fun v' w2 m' hm hms hS2 hv2 => ?_) _ _
              have hbl : Below w'.heap.size w' w2 := hS2.below.below
              have hmn : m'.n = (G i).next + 1 := hS2.next.symm
              have hGn : (G (i + 1)).next = (G i).next + 1 := by rw [hG]; rfl
              obtain ⟨loc', hloc'⟩ : ∃ loc' : Nat → Loc, ∀ id, loc' id = if id = (G i).next then m'.loc id else loc id := ⟨fun id => if id = (G i).next then m'.loc id else loc id, fun _ => rfl⟩
              have hole : ∀ id, holeS al G S id = false → id ≠ (G i).next := by
                intro id hh hid
                rw [is_hole hil he hSi (by omega) (by omega)] at hh; cases hh
              have hloc : ∀ id, holeS al G S id = false → loc' id = loc id := fun id hh => by rw [hloc' id, if_neg (hole id hh)]
              have hle : ∀ q, q ≤ al.length → (MM al G loc S q).le (MM al G loc' S' q) := fun q _ => ⟨Nat.le_refl _, fun id hid => ⟨⟨hid.1, hole_less hSS hid.2⟩, hloc id hid.2⟩⟩
              have hmM : m'.le (MM al G loc' S' (i + 1)) := by
                refine ⟨by rw [hmn]; exact Nat.le_of_eq hGn.symm, fun id hid => ?_⟩
                have hlt : id < (G (i + 1)).next := by rw [hGn, ← hmn]; exact hid.1
                by_cases hidn : id = (G i).next
                · refine ⟨⟨hlt, ?_⟩, by show loc' id = _; rw [hloc' id, if_pos hidn]⟩
                  show holeS al G S' id = false
                  cases hc : holeS al G S' id with
                  | false => rfl
                  | true =>
                    exfalso
                    unfold holeS at hc
                    rw [List.any_eq_true] at hc
                    obtain ⟨z, hz, hc⟩ := hc
                    simp only [Bool.and_eq_true, decide_eq_true_eq, Bool.not_eq_true'] at hc
                    obtain ⟨⟨hc1, hc2⟩, hc3, hc4⟩ := hc
                    have hzl := List.mem_range.1 hz
                    rcases Nat.lt_trichotomy z i with hlt2 | heq | hgt
                    · have := trace_mono hup htr (i := z + 1) (j := i) (by omega) (by omega); omega
                    · subst heq; rw [hS' z] at hc2; simp at hc2
                    · have := trace_mono hup htr (i := i + 1) (j := z) (by omega) (by omega); omega
                · have hidl : id < (G i).next := by omega
                  have hh : holeS al G S id = false := by
                    cases hc : holeS al G S id with
                    | false => rfl
                    | true =>
                      have := (hms hnc).2 id hidl hc
                      rw [hid.2] at this; cases this
                  exact ⟨⟨hlt, hole_less hSS hh⟩, by show loc' id = _; rw [hloc id hh]; exact ((hm.2 id ⟨hidl, hh⟩).2).symm⟩
              refine hgo _ _ (inv_step hup htr hx hSi hS' hdx hcd hlate hI.defers hI.size ?_ hv (Nat.le_refl k) hk (fun j hj he => hSS j (hk1 j hj he)) (data_next hup htr hk hk1 hD hS' hbl hle hloc ?_) hle ?_)
              · intro id hid
                rw [hloc id (no_hole hup htr hk1 (Nat.lt_of_lt_of_le hid.1 (by rw [← hn0]; exact trace_mono hup htr (Nat.zero_le _) hk)))]
                exact hl0 id hid
              · intro _ _
                obtain ⟨h1, h2⟩ := hS2.obj (G i).next (.cells l true) (by simp [Hs, AHeap.new])
                refine ⟨l, hG, ?_, ?_⟩
                · rw [hloc' _, if_pos rfl]
                  obtain ⟨c, e, fz, h3, h4, h5⟩ := h2
                  refine ⟨c, e, fz, h3, fun j y hy => let ⟨u, q1, q2, q3⟩ := h4 j y hy; ⟨u, q1, q2.mono hmM, q3⟩, fun _ => ?_⟩
                  obtain ⟨h6, h7⟩ := h5 rfl
                  refine ⟨?_, h7⟩
                  cases hBb : B (m'.loc (G i).next).block with
                  | false => rfl
                  | true =>
                    have h8 := hD.rel.size _ hBb
                    have h9 := hD.rel.below.size
                    simp [lowK] at h6; omega
                · rw [hloc' _, if_pos rfl]
                  obtain ⟨c, e, fz, h3, h4, h5⟩ := h2
                  have := (h5 rfl).1
                  simpa [lowK] using this
              · rw [Nat.max_eq_left (by omega)]
                exact hv2.mono hmM
            | false =>
              have hh : hardb al i = true := by unfold hardb; rw [hx]; simp [hxe, hf]
              have hkieq := hkh hh
              subst hkieq
              -- at its turn
              obtain ⟨K, hK⟩ : ∃ K : Nat → Bool, ∀ z, K z = (B z || (List.range al.length).any fun j => pend al E S k j && (z == (loc (G j).next).block)) := ⟨fun z => (B z || (List.range al.length).any fun j => pend al E S k j && (z == (loc (G j).next).block)), fun _ => rfl⟩
              have hKp : ∀ j, pend al E S k j = true → K (loc (G j).next).block = true := by
                intro j hj
                rw [hK]
                have : ((List.range al.length).any fun q => pend al E S k q && ((loc (G j).next).block == (loc (G q).next).block)) = true := by
                  rw [List.any_eq_true]
                  exact ⟨j, List.mem_range.2 (pend_lt hj).2.1, by simp [hj]⟩
                rw [this, Bool.or_true]
              have hKB : ∀ z, B z = true → K z = true := fun z hz => by rw [hK, hz]; rfl
              have hKs : ∀ z, K z = true → z < w'.heap.size := by
                intro z hz
                rw [hK] at hz
                rw [Bool.or_eq_true] at hz
                rcases hz with hz | hz
                · have := hD.rel.size z hz
                  have := hD.rel.below.size
                  omega
                · rw [List.any_eq_true] at hz
                  obtain ⟨j, _, hj⟩ := hz
                  simp only [Bool.and_eq_true, beq_iff_eq] at hj
                  obtain ⟨l, _, h2⟩ := hD.obj j hj.1
                  rw [hj.2]; exact h2.lt
              have hSs : SRel w' K (MM al G loc S k) (G k) w' := by
                refine ⟨Keep.refl _ _, hKs, rfl, fun id o ho => ?_, hD.rel.apart, hD.rel.ty⟩
                obtain ⟨h1, h2⟩ := hD.rel.obj id o ho
                refine ⟨h1, ?_⟩
                cases o with
                | cells l own =>
                  obtain ⟨c, e, fz, h3, h4, h5⟩ := h2
                  refine ⟨c, e, fz, h3, h4, fun hown => ?_⟩
                  obtain ⟨h6, h7⟩ := h5 hown
                  refine ⟨?_, h7⟩
                  rw [hK, h6, Bool.false_or, List.any_eq_false]
                  intro j _
                  simp only [Bool.and_eq_true, beq_iff_eq, not_and]
                  intro hj
                  exact hD.far j hj id _ ho
                | map l =>
                  obtain ⟨es, ck, h3, h4, h6⟩ := h2
                  refine ⟨es, ck, h3, h4, ?_⟩
                  rw [hK, h6, Bool.false_or, List.any_eq_false]
                  intro j _
                  simp only [Bool.and_eq_true, beq_iff_eq, not_and]
                  intro hj
                  exact hD.far j hj id _ ho
              have hadoS : ado call x.op (aev envS) (G k) = some (V k, G (k + 1)) := by rw [aop_congr hopd]; exact hr
              refine sound_ado (hcs w' K) hco (hEr k (by omega) hk) hSs hadoS (fun v' w2 m' hm hms hS2 hv2 => ?_) _ _
              have hmn : m'.n = (G (k + 1)).next := hS2.next.symm
              have hU := trace_up hup htr hil
              obtain ⟨loc', hloc'⟩ : ∃ loc' : Nat → Loc, ∀ id, loc' id = if id < (G (k + 1)).next then m'.loc id else loc id := ⟨fun id => if id < (G (k + 1)).next then m'.loc id else loc id, fun _ => rfl⟩
              have hloc : ∀ id, holeS al G S id = false → loc' id = loc id := by
                intro id hh
                rw [hloc' id]
                split
                · rename_i hlt
                  have hlt2 : id < (G k).next := by
                    rcases Nat.lt_or_ge id (G k).next with h | h
                    · exact h
                    · rw [is_hole hil he hSi h hlt] at hh; cases hh
                  exact (hm.2 id ⟨hlt2, hh⟩).2
                · rfl
              have hle : ∀ q, q ≤ al.length → (MM al G loc S q).le (MM al G loc' S' q) := fun q _ => ⟨Nat.le_refl _, fun id hid => ⟨⟨hid.1, hole_less hSS hid.2⟩, hloc id hid.2⟩⟩
              have hS1 : ∀ j, j < k + 1 → effb al j = true → S' j = true := by
                intro j hj hej
                by_cases hjk : j < k
                · exact hSS j (hk1 j hjk hej)
                · have : j = k := by omega
                  subst this
                  rw [hS' j]; simp
              have hmM : m'.le (MM al G loc' S' (k + 1)) := by
                refine ⟨Nat.le_of_eq hmn, fun id hid => ?_⟩
                have hlt : id < (G (k + 1)).next := by rw [← hmn]; exact hid.1
                exact ⟨⟨hlt, no_hole hup htr hS1 hlt⟩, by show loc' id = _; rw [hloc' id, if_pos hlt]⟩
              have hpe : ∀ j, pend al E S' (k + 1) j = true → pend al E S k j = true ∧ loc' (G j).next = loc (G j).next := by
                intro j hj
                obtain ⟨hp1, hp2, hp3, hp4⟩ := pend_lt hj
                refine ⟨?_, ?_⟩
                · unfold pend at hj ⊢
                  simp only [Bool.and_eq_true, decide_eq_true_eq] at hj ⊢
                  refine ⟨by omega, ?_, hj.2.2⟩
                  have := hj.2.1
                  rw [hS' j] at this
                  simp only [Bool.or_eq_true, beq_iff_eq] at this
                  rcases this with h | h
                  · exact h
                  · omega
                · rw [hloc' _, if_neg (by have := trace_mono hup htr (i := k + 1) (j := j) hp1 (by omega); omega)]
              refine hgo _ _ (inv_step (k0 := k + 1) hup htr hx hSi hS' hdx hcd hlate hI.defers hI.size ?_ hv (Nat.le_succ k) (by omega) hS1 ⟨?_, ?_, ?_, ?_⟩ hle ?_)
              · intro id hid
                rw [hloc id (no_hole hup htr hk1 (Nat.lt_of_lt_of_le hid.1 (by rw [← hn0]; exact trace_mono hup htr (Nat.zero_le _) hk)))]
                exact hl0 id hid
              · exact (hS2.rebase hD.rel.below hKB hD.rel.size).inj hmM hmn.symm
              · intro j hj
                obtain ⟨hp, hlj⟩ := hpe j hj
                obtain ⟨l, h1, h2⟩ := hD.obj j hp
                refine ⟨l, h1, ?_⟩
                rw [hlj]
                exact h2.keep (hle (j + 1) (by have := (pend_lt hp).2.1; omega)) (hS2.below.block _ (hKp j hp))
              · intro j hj id o' ho'
                obtain ⟨hp, hlj⟩ := hpe j hj
                obtain ⟨h1, h2⟩ := hS2.obj id o' ho'
                have hlt : id < (G (k + 1)).next := by rw [← hmn]; exact h1.1
                rw [hlj, hloc' id, if_pos hlt]
                cases o' with
                | map l =>
                  obtain ⟨es, ck, h3, h4, h6⟩ := h2
                  intro hb
                  rw [hb, hKp j hp] at h6; cases h6
                | cells l own =>
                  cases own with
                  | true =>
                    obtain ⟨c, e, fz, h3, h4, h5⟩ := h2
                    have h6 := (h5 rfl).1
                    intro hb
                    rw [hb, hKp j hp] at h6; cases h6
                  | false =>
                    have hold := hU.2 id l ho'
                    have := (hm.2 id (hD.rel.obj id _ hold).1).2
                    rw [this]
                    exact hD.far j hp id _ hold
              · intro j j' hj hj' hne
                obtain ⟨hp, hlj⟩ := hpe j hj
                obtain ⟨hp', hlj'⟩ := hpe j' hj'
                rw [hlj, hlj']
                exact hD.two j j' hp hp' hne
              · rw [Nat.max_eq_left (Nat.le_refl _)]
                exact hv2.mono hmM
  have hz : (fun j => (Array.replicate ops.size false).getD j false) = fun _ => false := by
    funext j
    by_cases hj : j < ops.size
    · simp [hj]
    · simp [Array.getD_eq_getD_getElem?, hj]
  refine main ops.size (Array.replicate ops.size false) a _ (by simp) ?_ ?_ ?_
  · have : (List.range ops.size).countP (fun j => !(Array.replicate ops.size false).getD j false) = (List.range ops.size).countP (fun _ => true) := by
      refine countP_congr' fun j hj => ?_
      simp [hj]
    rw [this, List.countP_true, List.length_range]
  · intro i o ho hs
    have hlt := (Array.getElem?_eq_some_iff.1 ho).1
    simp [hlt] at hs
  · rw [hz]
    have hnp : ∀ k j, pend al E (fun _ => false) k j = true → False := by
      intro k j hp
      have := (pend_lt hp).2.2.1
      cases this
    have hle0 : m.le (MM al G m.loc (fun _ => false) 0) := by
      refine ⟨by rw [← hn0]; exact Nat.le_refl _, fun id hid => ?_⟩
      have hlt : id < (G 0).next := by rw [hn0]; exact hid.1
      exact ⟨⟨hlt, no_hole hup htr (k := 0) (fun j hj => by omega) hlt⟩, rfl⟩
    have hD0 : Data w0 B al E G m.loc (fun _ => false) 0 w.drew := by
      refine ⟨?_, fun j hj => (hnp _ _ hj).elim, fun j hj => (hnp _ _ hj).elim, fun j j' hj => (hnp _ _ hj).elim⟩
      rw [g0]
      exact hS.drew.inj hle0 (by show (G 0).next = m.n; exact hn0)
    obtain ⟨k', h1, h2, h3, h4, h5⟩ := absorb hup htr _ 0 rfl (Nat.zero_le _) (fun j hj => by omega) hD0
    refine ⟨rfl, hE.size, m.loc, k', h2, h3, h4, fun _ _ => rfl, h5, fun t ht => ?_⟩
    have hc : curE al env V (fun _ => false) al.length t = env t := by
      have : ∀ n, curE al env V (fun _ => false) n t = env t := by
        intro n
        induction n with
        | zero => rfl
        | succ n ihn => simp only [curE, Bool.false_eq_true, if_false]; exact ihn
      exact this _
    rw [hc]
    have hl : lastW al (fun _ => false) t al.length = 0 := by
      have : ∀ n, lastW al (fun _ => false) t n = 0 := by
        intro n
        induction n with
        | zero => rfl
        | succ n ihn => simp only [lastW, Bool.false_and, Bool.false_eq_true, if_false]; exact ihn
      exact this _
    rw [hl]
    exact ((hE.rel t ht).mono hle0).mono (MM_le hup htr (Nat.zero_le _) (by omega))

end
end Go.Proofs.Ytfmjdlahabgkpaa.Am
end

section
/- What the abstract machine answers, the model's machine does: a range over a function. -/
set_option linter.unusedSimpArgs false
set_option linter.unusedVariables false
namespace Go.Proofs.Ytfmjdlahabgkpaa.Am
open Go Go.RowKit

variable {P : Program} {w0 w : World} {B : Nat → Bool} {m : Inj} {H H' : AHeap} {nt : Nat} {env : Env} {a : Act}

/-! ### Other blocks kept -/
def NoMem : Obj → Prop
  | .cells .. => False
  | .map .. => False
  | _ => True
theorem SRel.other (hS : SRel w0 B m H w) {B' : Nat → Bool} (hB : ∀ k, B' k = true → k < w.heap.size ∧ (B k = true ∨ ∀ o, w.heap[k]? = some o → NoMem o)) : SRel w B' m H w := by
  refine ⟨Keep.refl _ _, fun k hk => (hB k hk).1, hS.next, fun id o ho => ?_, hS.apart, hS.ty⟩
  obtain ⟨h1, h2⟩ := hS.obj id o ho
  refine ⟨h1, ?_⟩
  cases o with
  | cells l own =>
    obtain ⟨c, e, fz, h3, h4, h5⟩ := h2
    refine ⟨c, e, fz, h3, h4, fun h => ?_⟩
    obtain ⟨h6, h7⟩ := h5 h
    refine ⟨?_, h7⟩
    cases hb : B' (m.loc id).block with
    | false => rfl
    | true =>
      rcases (hB _ hb).2 with h | h
      · rw [h6] at h; cases h
      · exact absurd (h _ h3) (fun h => h)
  | map l =>
    obtain ⟨es, ck, h3, h4, h6⟩ := h2
    refine ⟨es, ck, h3, h4, ?_⟩
    cases hb : B' (m.loc id).block with
    | false => rfl
    | true =>
      rcases (hB _ hb).2 with h | h
      · rw [h6] at h; cases h
      · exact absurd (h _ h3) (fun h => h)
theorem SRel.same (hS : SRel w0 B m H w) : SRel w B m H w :=
  hS.other fun k hk => ⟨Nat.lt_of_lt_of_le (hS.size k hk) hS.below.size, .inl hk⟩
theorem SRel.back {w1 : World} (h0 : SRel w0 B m H w) {K : Nat → Bool} {m1 : Inj} {H1 : AHeap} (h : SRel w K m1 H1 w1) (hK : ∀ k, B k = true → K k = true) : SRel w0 B m1 H1 w1 :=
  SRel.rebase h h0.below hK h0.size

theorem Keep.put {K : Nat → Bool} {a w : World} (h : Keep K a w) {l : Nat} (hl : K l = false) (o : Obj) : Keep K a (w.putObj l o) :=
  h.trans ⟨rfl, rfl, rfl, by simp, fun k hk => World.putObj_heap_other (by intro e; rw [e, hl] at hk; cases hk)⟩
theorem SRel.put (hS : SRel w0 B m H w) {l : Nat} {o0 : Obj} (h0 : w.heap[l]? = some o0) (hn : NoMem o0) (hl : B l = false) (o : Obj) : SRel w0 B m H (w.putObj l o) := by
  refine ⟨hS.below.put hl o, hS.size, hS.next, fun id o1 ho => ?_, hS.apart, fun id t ht => ⟨(hS.ty id t ht).1, (hS.ty id t ht).2.same (World.putObj_heap_other (by
    intro e
    obtain ⟨_, c, hc, _⟩ := (hS.ty id t ht).2
    rw [e, h0] at hc
    cases Option.some.inj hc
    exact hn))⟩⟩
  obtain ⟨h1, h2⟩ := hS.obj id o1 ho
  refine ⟨h1, h2.keep m.le_refl (World.putObj_heap_other ?_)⟩
  intro e
  cases o1 with
  | cells l1 own =>
    obtain ⟨c, e1, fz, h3, _, _⟩ := h2
    rw [e, h0] at h3
    cases Option.some.inj h3
    exact hn
  | map l1 =>
    obtain ⟨es, ck, h3, _⟩ := h2
    rw [e, h0] at h3
    cases Option.some.inj h3
    exact hn

theorem SRel.skip (hS : SRel w0 B m H w) (L : Loc) : SRel w0 B (m.ext L) H.skip w := by
  refine ⟨hS.below, hS.size, by simp [AHeap.skip, Inj.ext, hS.next], fun id o ho => ?_, fun i j o o' hi hj => ?_, fun id t ht => ⟨((m.le_ext L).2 id (hS.ty id t ht).1).1, by rw [Inj.ext_old m L (hS.ty id t ht).1]; exact (hS.ty id t ht).2⟩⟩
  · obtain ⟨h1, h2⟩ := hS.obj id o ho
    refine ⟨((m.le_ext L).2 id h1).1, ?_⟩
    rw [Inj.ext_old m L h1]
    exact h2.mono (m.le_ext L)
  · have h1 := (hS.obj i o hi).1
    have h2 := (hS.obj j o' hj).1
    rw [Inj.ext_old m L h1, Inj.ext_old m L h2]
    exact hS.apart i j o o' hi hj

/-! ### The record -/
def jcode : AExit → Code
  | .normal => .skip
  | .exit id => .exit id
  | .ret => .ret
def RecAt (w : World) (l d : Nat) (R : Loop) (st : APend) : Prop :=
  w.heap[l]? = some (.loop { R with state := if st.isNone then .ready else .done, pending := st.map jcode }) ∧ w.heap[d]? = some (.deferred (some []))
theorem RecAt.lt {l d : Nat} {R : Loop} {st : APend} (h : RecAt w l d R st) : l < w.heap.size ∧ d < w.heap.size ∧ l ≠ d :=
  ⟨(Array.getElem?_eq_some_iff.1 h.1).1, (Array.getElem?_eq_some_iff.1 h.2).1, fun e => by have h1 := h.1; rw [e, h.2] at h1; cases h1⟩
def B1 (B : Nat → Bool) (l d : Nat) : Nat → Bool := fun k => B k || k == l || k == d
theorem B1_le (B : Nat → Bool) (l d : Nat) : ∀ k, B k = true → B1 B l d k = true := fun k hk => by simp [B1, hk]
theorem SRel.recd {l d : Nat} {R : Loop} {st : APend} (hS : SRel w0 B m H w) (hR : RecAt w l d R st) : SRel w (B1 B l d) m H w := by
  obtain ⟨h1, h2, _⟩ := hR.lt
  refine hS.other fun k hk => ?_
  simp only [B1, Bool.or_eq_true, beq_iff_eq] at hk
  rcases hk with (hk | rfl) | rfl
  · exact ⟨Nat.lt_of_lt_of_le (hS.size k hk) hS.below.size, .inl hk⟩
  · exact ⟨h1, .inr fun o h => by rw [hR.1] at h; cases h; trivial⟩
  · exact ⟨h2, .inr fun o h => by rw [hR.2] at h; cases h; trivial⟩
theorem RecAt.keep {w1 : World} {l d : Nat} {R : Loop} {st : APend} (hR : RecAt w l d R st) (h : Keep (B1 B l d) w w1) : RecAt w1 l d R st :=
  ⟨by rw [h.block l (by simp [B1])]; exact hR.1, by rw [h.block d (by simp [B1])]; exact hR.2⟩

def YSound (P : Program) (B : Nat → Bool) (l d : Nat) (R : Loop) (m0 : Inj) (yl : AYield) : Prop :=
  ∀ st args H b st' H', yl st args H = some (b, st', H') → ∀ nn m w args', m0.le m → SRel w B m H w → RecAt w l d R st → All2 (VRel m) args args' →
    args'.length = R.params.size ∧ RoundIn (FW none) nn P l R.fn ((R.params.zip args'.toArray).foldl (fun tmps (t, a) => tmps.setIfInBounds t a) R.tmps) R.assign R.body w fun e w' =>
      ∃ m', e = .returned (.bool b) ∧ m.le m' ∧ SRel w B m' H' w' ∧ RecAt w' l d R st'

theorem tagOp_call {o : Oper} {a : AOp} {f : AOpd} {as : List AOpd} (h : tagOp P o a = .call f as) : a = .call f as := by
  unfold tagOp at h
  split at h
  · split at h
    · split at h
      · split at h
        · split at h
          · cases h
          · cases h
        · cases h
      · cases h
    · cases h
  · exact h
theorem copc_call {o : Oper} {f : AOpd} {as : List AOpd} (h : copc P nt o = some (.call f as)) : ∃ fo args ats, o.op = .call ⟨.value fo, args, ats⟩ ∧ copd nt fo = some f ∧ copds nt args.toList = some as := by
  unfold copc at h
  simp only [Option.some.injEq] at h
  have h : (copc0 P nt o.op).getD .die = .call f as := tagOp_call h
  unfold copc0 at h
  cases hx : cextern P nt o.op with
  | some x =>
    rw [hx] at h
    simp only [Option.getD_some] at h
    subst h
    exfalso
    unfold cextern at hx
    split at hx
    · simp only [Option.bind_eq_some_iff] at hx
      obtain ⟨fn, _, hx⟩ := hx
      split at hx
      · split at hx
        · split at hx
          · simp only [Option.bind_eq_some_iff] at hx
            obtain ⟨x', _, hx⟩ := hx
            split at hx
            · cases hx
            · split at hx
              · cases hx
              · split at hx <;> cases hx
          · cases hx
        · split at hx
          · split at hx
            · split at hx
              · simp only [Option.bind_eq_some_iff] at hx
                obtain ⟨u, _, hx⟩ := hx
                split at hx
                · simp only [Option.bind_eq_some_iff, Option.map_eq_some_iff] at hx
                  obtain ⟨_, _, _, _, _, _, hx⟩ := hx
                  cases hx
                · cases hx
              · cases hx
            · cases hx
          · cases hx
        · cases hx
      · cases hx
    · cases hx
  | none =>
    rw [hx] at h
    simp only at h
    unfold copc1 at h
    split at h
    · rename_i r hr
      unfold ccall at hr
      split at hr
      · rename_i fo args ats hop
        simp only [Option.some.injEq] at hr
        cases hh : ((copd nt fo).bind fun f' => (copds nt args.toList).map fun as => AOp.call f' as) with
        | none => rw [hh] at hr; subst hr; cases h
        | some x =>
          rw [hh] at hr; subst hr
          simp only [Option.getD_some] at h
          subst h
          simp only [Option.bind_eq_some_iff, Option.map_eq_some_iff] at hh
          obtain ⟨f', hf, l, hl, he⟩ := hh
          injection he with e1 e2
          subst e1 e2
          exact ⟨fo, args, ats, hop, hf, hl⟩
      · cases hr
    · cases hc : cop P nt o.op with
      | none => rw [hc] at h; cases h
      | some x =>
        rw [hc] at h
        simp only [Option.bind_some] at h
        split at h
        · cases h
        · rename_i hic
          simp only [Option.getD_some] at h
          subst h
          simp [AOp.isCall] at hic

section
variable {call : ACall} {yl : AYield} {tok l d : Nat} {R : Loop} {m0 : Inj}

theorem sound_ady (hcs : ∀ w0 B, CallSound P w0 B call) (hy : YSound P B l d R m0 yl) (htok : m0.has tok ∧ (m0.loc tok).block = l) (hm0 : m0.le m) {o : Oper} {ao : AOp} (hc : copc P nt o = some ao) (hE : ERel m nt env a) (hS : SRel w B m H w) {st st' : APend} (hR : RecAt w l d R st) {v : AVal}
    (h : ady call tok yl ao (aev env) st H = some (v, st', H')) {next : Act → World → Prop} {Q : Exit → Act → World → Prop}
    (hnext : ∀ v' w' m', m.le m' → SRel w B m' H' w' → RecAt w' l d R st' → VRel m' v v' → next (a.put o.dst v') w') (nn : Nat) : o.wpIn (FW none) nn P a w next Q := by
  -- no call of what was given
  have plain : ado call ao (aev env) H = some (v, H') → st' = st → o.wpIn (FW none) nn P a w next Q := by
    intro hd hst
    subst hst
    refine sound_ado (hcs w (B1 B l d)) hc hE (hS.recd hR) hd (fun v' w' m' hm _ hS' hv => ?_) none nn
    exact hnext v' w' m' hm (hS.back hS' (B1_le _ _ _)) (hR.keep hS'.below) hv
  by_cases hcall : ∃ f args, ao = .call f args
  · obtain ⟨f, as, rfl⟩ := hcall
    simp only [ady] at h
    cases hf : aev env f with
    | yield id =>
      rw [hf] at h
      simp only at h
      split at h
      · rename_i hid
        subst hid
        simp only [Option.map_eq_some_iff] at h
        obtain ⟨⟨b, st2, H2⟩, hyl, he⟩ := h
        simp only [Prod.mk.injEq] at he
        obtain ⟨rfl, rfl, rfl⟩ := he
        obtain ⟨fo, args, ats, hop, hfo, has⟩ := copc_call hc
        have hfr := copd_rel hE hfo
        have har := copds_rel hE has
        rw [hf] at hfr
        generalize hfv : a.eval fo = fv at hfr
        cases hfr with
        | yield _ hhas =>
          have hblk : (m.loc id).block = l := by rw [(hm0.2 id htok.1).2]; exact htok.2
          rw [hblk] at hfv
          obtain ⟨hlen, hround⟩ := hy st (as.map (aev env)) H b st2 H2 hyl (nn - 1) m w (args.toList.map a.eval) hm0 hS hR har
          have hrl : w.heap[l]? = some (.loop { R with state := if st.isNone then .ready else .done, pending := st.map jcode }) := hR.1
          have hrun : (execOp a.eval o).run P w = .ok (.round l R.fn ((R.params.zip (args.toList.map a.eval).toArray).foldl (fun tmps (t, a) => tmps.setIfInBounds t a) R.tmps) R.assign R.body) w := by
            obtain ⟨dst, op, type, pos, after, guard⟩ := o
            simp only at hop
            subst hop
            have ha : args.map a.eval = (args.toList.map a.eval).toArray := by apply Array.ext'; simp
            simp only [execOp, resolve, hfv, Deferred.ofValue, Sem.run_bind, Sem.run_pure, Result.andThen_ok, invoke]
            have := run_yield (P := P) (args := (#[] : Array Value) ++ args.map a.eval) hrl (by simpa using hlen)
            rw [this, ha]
            simp
          refine ⟨fun _ _ => trivial, ?_⟩
          rw [Oper.semAt_eq _ _ _ (run_noDefer hrun), hrun, Oper.uponIn_round]
          refine ⟨fun h => by simp [FW, Fence.wide] at h, hround.mono ?_⟩
          rintro e w' ⟨m', rfl, hm, hS', hR'⟩
          exact hnext _ w' m' hm hS' hR' (.bool _)
      · cases h
    | func g first captured =>
      rw [hf] at h
      simp only [Option.map_eq_some_iff] at h
      obtain ⟨⟨v1, H1⟩, hcl, he⟩ := h
      simp only [Prod.mk.injEq] at he
      obtain ⟨rfl, rfl, rfl⟩ := he
      refine plain ?_ rfl
      simp only [ado, hf]
      exact hcl
    | _ => rw [hf] at h; cases h
  · have h2 : (aop ao (aev env) H).map (fun r => (r.1, st, r.2)) = some (v, st', H') := by
      cases ao <;> first | exact h | exact absurd ⟨_, _, rfl⟩ hcall
    simp only [Option.map_eq_some_iff, Prod.mk.injEq] at h2
    obtain ⟨⟨v1, H1⟩, hx, rfl, rfl, rfl⟩ := h2
    refine plain ?_ rfl
    cases ao <;> first | exact hx | exact absurd ⟨_, _, rfl⟩ hcall

theorem sound_aopsY (hcs : ∀ w0 B, CallSound P w0 B call) (hy : YSound P B l d R m0 yl) (htok : m0.has tok ∧ (m0.loc tok).block = l) {ops : Array Oper} {nn : Nat} {Q : Exit → Act → World → Prop} :
    ∀ (ls : List Oper) (al : List AOper) (i : Nat) (st : APend) (env : Env) (H : AHeap) (m : Inj) (a : Act) (w : World) (r : APend × Env × AHeap), copers P ops nt ls = some al → (∀ j, ls[j]? = ops[i + j]?) → m0.le m → ERel m nt env a → SRel w B m H w → RecAt w l d R st →
      aopsY call tok yl al st env H = some r →
      (∀ a' w' m', m.le m' → SRel w B m' r.2.2 w' → RecAt w' l d R r.1 → ERel m' nt r.2.1 a' → a'.defers = a.defers → Q .normal a' w') → wpOpsIn (FW none) nn P ops Q (List.range' i ls.length) a w
  | [], al, i, st, env, H, m, a, w, r, hc, hl, hm0, hE, hS, hR, h, hQ => by
    simp [copers] at hc; subst hc
    simp [aopsY] at h
    subst h
    exact hQ a w m m.le_refl hS hR hE rfl
  | o :: ls, al, i, st, env, H, m, a, w, r, hc, hl, hm0, hE, hS, hR, h, hQ => by
    simp only [copers, Option.bind_eq_some_iff, Option.map_eq_some_iff] at hc
    obtain ⟨x, hx, rr, hr, rfl⟩ := hc
    obtain ⟨hd, ho, hg, hdx⟩ := coper_spec hx
    have h0 : ops[i]? = some o := by simpa using (hl 0).symm
    have hl' : ∀ j, ls[j]? = ops[i + 1 + j]? := fun j => by have := hl (j + 1); simpa [Nat.add_assoc, Nat.add_comm 1 j] using this
    have hw := wanted_rel hE hg
    simp only [List.length_cons, List.range'_succ, wpOpsIn, h0]
    simp only [aopsY] at h
    cases hag : agd env x.guard with
    | true =>
      rw [hag] at h hw
      simp only [if_true, Option.bind_eq_some_iff] at h
      obtain ⟨⟨v, st1, H1⟩, hv, h⟩ := h
      rw [if_pos hw]
      refine sound_ady hcs hy htok hm0 ho hE hS hR hv (fun v' w' m' hm hS' hR' hvr => ?_) nn
      refine sound_aopsY hcs hy htok ls rr (i + 1) st1 _ H1 m' _ w' r hr hl' (Inj.le_trans hm0 hm) (by rw [hdx]; exact (hE.mono hm).put hd hvr) hS'.same hR' h ?_
      intro a' w'' m'' hm' hS'' hR'' hE' hdf
      exact hQ a' w'' m'' (Inj.le_trans hm hm') (hS'.back hS'' (fun _ h => h)) hR'' hE' (hdf.trans (put_defers _ _))
    | false =>
      rw [hag] at h hw
      simp only [Bool.false_eq_true, if_false] at h
      rw [if_neg (by rw [hw]; simp)]
      refine ⟨fun _ _ => trivial, ?_⟩
      refine sound_aopsY hcs hy htok ls rr (i + 1) st _ H m _ w r hr hl' hm0 (by rw [hdx]; exact hE.put hd (undef_rel m)) hS hR h ?_
      intro a' w'' m'' hm' hS'' hR'' hE' hdf
      exact hQ a' w'' m'' hm' hS'' hR'' hE' (hdf.trans (put_defers _ _))

def cexit : AExit → Exit
  | .normal => .normal
  | .exit id => .exit id
  | .ret => .ret

theorem deadY {n : Nat} {st : APend} {env : Env} {H : AHeap} {r : AExit × APend × Env × AHeap} : ¬ aexecY call tok yl n dead st env H = some r := by
  simp [aexecY, dead, aopsY, agd, ady, aop]

theorem sound_codeY (hcs : ∀ w0 B, CallSound P w0 B call) (hmix : P.follows .mixedOrders = true) (hy : YSound P B l d R m0 yl) (htok : m0.has tok ∧ (m0.loc tok).block = l) {n nn : Nat} {rok : Bool} : ∀ (c : Code) (ac : ACode), ccode P nt rok c = some ac →
    ∀ (st : APend) (env : Env) (H : AHeap) (r : AExit × APend × Env × AHeap), aexecY call tok yl n ac st env H = some r → ∀ (m : Inj) (a : Act) (w : World), m0.le m → ERel m nt env a → SRel w B m H w → RecAt w l d R st →
    ∀ Q, (∀ a' w' m', m.le m' → SRel w B m' r.2.2.2 w' → RecAt w' l d R r.2.1 → ERel m' nt r.2.2.1 a' → a'.defers = a.defers → Q (cexit r.1) a' w') → c.wpIn (FW none) nn P Q a w := by
  intro c
  induction c with
  | skip =>
    intro ac hc st env H r h m a w hm0 hE hS hR Q hQ
    simp [ccode] at hc; subst hc
    simp [aexecY] at h; subst h
    exact wpIn_skip (hQ a w m m.le_refl hS hR hE rfl)
  | region id ops draw =>
    intro ac hc st env H r h m a w hm0 hE hS hR Q hQ
    cases draw with
    | false =>
      simp only [ccode, Option.some.injEq] at hc
      subst hc
      cases hal : copers P ops nt ops.toList with
      | none => rw [hal] at h; exact absurd h deadY
      | some al =>
      rw [hal] at h
      simp only [Option.map_some, Option.getD_some] at h
      simp only [aexecY, Option.map_eq_some_iff] at h
      obtain ⟨x, h, rfl⟩ := h
      refine wpIn_region ?_
      have := sound_aopsY (Q := Q) (nn := nn) hcs hy htok ops.toList al 0 st env H m a w x hal (by intro j; simp) hm0 hE hS hR h (fun a' w' m' h1 h2 h3 h4 h5 => hQ a' w' m' h1 h2 h3 h4 h5)
      rw [List.range_eq_range']
      simpa using this
    | true =>
      simp only [ccode, Option.some.injEq] at hc
      subst hc
      cases hal : copers P ops nt ops.toList with
      | none => rw [hal] at h; exact absurd h deadY
      | some al =>
      rw [hal] at h
      simp only [Option.bind_some] at h
      cases hc : drawOf ops al (CheckFast.beforeF ops).toList with
      | none => rw [hc] at h; exact absurd h deadY
      | some c =>
      rw [hc] at h
      simp only [Option.getD_some] at h
      obtain ⟨al', b, rfl, R1⟩ := region1_of hal hc
      simp only [aexecY, Option.map_eq_some_iff] at h
      obtain ⟨⟨env', H'⟩, h, rfl⟩ := h
      exact sound_draw hcs hmix R1 hE (hS.recd hR) h (fun a' w' m' h1 h2 h3 h4 => hQ a' w' m' h1 (hS.back h2 (B1_le _ _ _)) (hR.keep h2.below) h3 h4) id none nn
  | seq x y ihx ihy =>
    intro ac hc st env H r h m a w hm0 hE hS hR Q hQ
    simp only [ccode, Option.bind_eq_some_iff, Option.map_eq_some_iff] at hc
    obtain ⟨ax, hax, ay, hay, rfl⟩ := hc
    simp only [aexecY, Option.bind_eq_some_iff] at h
    obtain ⟨⟨ex, st1, env1, H1⟩, hx, h⟩ := h
    refine wpIn_seq (ihx ax hax st env H _ hx m a w hm0 hE hS hR _ ?_)
    intro a1 w1 m1 hm1 hS1 hR1 hE1 hd1
    cases ex with
    | normal => exact ihy ay hay st1 env1 H1 r h m1 a1 w1 (Inj.le_trans hm0 hm1) hE1 hS1.same hR1 Q (fun a' w' m' h1 h2 h3 h4 h5 => hQ a' w' m' (Inj.le_trans hm1 h1) (hS1.back h2 (fun _ h => h)) h3 h4 (h5.trans hd1))
    | exit id => simp at h; subst h; exact hQ a1 w1 m1 hm1 hS1 hR1 hE1 hd1
    | ret => simp at h; subst h; exact hQ a1 w1 m1 hm1 hS1 hR1 hE1 hd1
  | cond c x y ihx ihy =>
    intro ac hc st env H r h m a w hm0 hE hS hR Q hQ
    cases hc' : copd nt c with
    | none =>
      simp only [ccode, hc', Option.some.injEq] at hc
      subst hc
      exact absurd h deadY
    | some c' =>
    simp only [ccode, hc', Option.bind_eq_some_iff, Option.map_eq_some_iff] at hc
    obtain ⟨ax, hax, ay, hay, rfl⟩ := hc
    simp only [aexecY] at h
    have hcr := copd_rel hE hc'
    split at h
    · rename_i t ht
      rw [ht] at hcr
      generalize hcv : a.eval c = cv at hcr
      cases hcr
      cases t with
      | true => simp at h; exact wpIn_cond_true hcv (ihx ax hax st env H r h m a w hm0 hE hS hR Q hQ)
      | false => simp at h; exact wpIn_cond_false hcv (ihy ay hay st env H r h m a w hm0 hE hS hR Q hQ)
    · simp at h
  | block id x ih =>
    intro ac hc st env H r h m a w hm0 hE hS hR Q hQ
    simp only [ccode, Option.map_eq_some_iff] at hc
    obtain ⟨ax, hax, rfl⟩ := hc
    simp only [aexecY, Option.map_eq_some_iff] at h
    obtain ⟨⟨ex, st1, env1, H1⟩, hx, h⟩ := h
    refine wpIn_block (ih ax hax st env H _ hx m a w hm0 hE hS hR _ ?_)
    intro a1 w1 m1 hm1 hS1 hR1 hE1 hd1
    cases ex with
    | normal => simp at h; subst h; exact hQ a1 w1 m1 hm1 hS1 hR1 hE1 hd1
    | exit i =>
      simp only at h
      simp only [cexit, Exit.inBlock]
      split at h
      · rename_i hi
        subst h
        rw [if_pos hi]; exact hQ a1 w1 m1 hm1 hS1 hR1 hE1 hd1
      · rename_i hi
        subst h
        rw [if_neg hi]; exact hQ a1 w1 m1 hm1 hS1 hR1 hE1 hd1
    | ret => simp at h; subst h; exact hQ a1 w1 m1 hm1 hS1 hR1 hE1 hd1
  | loop x ih =>
    intro ac hc st env H r h m a w hm0 hE hS hR Q hQ
    simp only [ccode, Option.map_eq_some_iff] at hc
    obtain ⟨ax, hax, rfl⟩ := hc
    simp only [aexecY] at h
    have key : ∀ (k : Nat) (st : APend) (env : Env) (H : AHeap), aiterY (aexecY call tok yl n ax) k st env H = some r → ∀ (m : Inj) (a : Act) (w : World), m0.le m → ERel m nt env a → SRel w B m H w → RecAt w l d R st →
        (∀ a' w' m', m.le m' → SRel w B m' r.2.2.2 w' → RecAt w' l d R r.2.1 → ERel m' nt r.2.2.1 a' → a'.defers = a.defers → Q (cexit r.1) a' w') → Code.roundsIn (FW none) nn P x Q k a w := by
      intro k
      induction k with
      | zero => intro st env H h; simp [aiterY] at h
      | succ k ihk =>
        intro st env H h m a w hm0 hE hS hR hQ
        simp only [aiterY, Option.bind_eq_some_iff] at h
        obtain ⟨⟨ex, st1, env1, H1⟩, hx, h⟩ := h
        rw [roundsIn_succ]
        refine ih ax hax st env H _ hx m a w hm0 hE hS hR _ ?_
        intro a1 w1 m1 hm1 hS1 hR1 hE1 hd1
        cases ex with
        | normal => exact ihk st1 env1 H1 h m1 a1 w1 (Inj.le_trans hm0 hm1) hE1 hS1.same hR1 (fun a' w' m' h1 h2 h3 h4 h5 => hQ a' w' m' (Inj.le_trans hm1 h1) (hS1.back h2 (fun _ h => h)) h3 h4 (h5.trans hd1))
        | exit id => simp at h; subst h; exact hQ a1 w1 m1 hm1 hS1 hR1 hE1 hd1
        | ret => simp at h; subst h; exact hQ a1 w1 m1 hm1 hS1 hR1 hE1 hd1
    exact wpIn_loop_rounds n (key n st env H h m a w hm0 hE hS hR hQ)
  | exit id =>
    intro ac hc st env H r h m a w hm0 hE hS hR Q hQ
    simp [ccode] at hc; subst hc
    simp [aexecY] at h; subst h
    exact wpIn_exit (hQ a w m m.le_refl hS hR hE rfl)
  | ret =>
    intro ac hc st env H r h m a w hm0 hE hS hR Q hQ
    simp [ccode] at hc; subst hc
    simp [aexecY] at h; subst h
    exact wpIn_ret (hQ a w m m.le_refl hS hR hE rfl)
  | rangeFunc g ps x y ihx ihy =>
    intro ac hc st env H r h
    simp only [ccode] at hc
    split at hc
    · split at hc
      · simp only [Option.some.injEq] at hc; subst hc; exact absurd h deadY
      · simp only [Option.bind_eq_some_iff, Option.map_eq_some_iff] at hc
        obtain ⟨_, _, _, _, rfl⟩ := hc
        simp [aexecY] at h
    · simp only [Option.some.injEq] at hc; subst hc; exact absurd h deadY
  | _ =>
    intro ac hc st env H r h
    simp only [ccode, Option.some.injEq] at hc
    subst hc
    exact absurd h deadY
end

end Go.Proofs.Ytfmjdlahabgkpaa.Am
end

section
/- What the abstract machine answers, the model's machine does: code, functions, calls. -/
set_option linter.unusedSimpArgs false
set_option linter.unusedVariables false
namespace Go.Proofs.Ytfmjdlahabgkpaa.Am
open Go Go.RowKit

variable {P : Program} {w0 w : World} {B : Nat → Bool} {m : Inj} {H H' : AHeap} {nt : Nat} {env : Env} {a : Act}

/-! ### Results -/
theorem cres_run (hS : SRel w0 B m H w) (hE : ERel m nt env a) : ∀ {l : List ResultVar} {r : List ARes} {vs : List AVal}, cres P nt l = some r → aress H env r = some vs →
    ∃ vs', (l.mapM (fun x => match x with
      | .tmp t => pure (a.tmps.getD t undef)
      | .cell ad t => do loadVar t (← asAddr (a.tmps.getD ad undef)) : ResultVar → Sem Value)).run P w = .ok vs' w ∧ All2 (VRel m) vs vs'
  | [], r, vs, hc, h => by
    simp [cres] at hc; subst hc
    simp [aress] at h; subst h
    exact ⟨[], rfl, .nil⟩
  | .tmp t :: l, r, vs, hc, h => by
    simp only [cres] at hc
    split at hc
    · rename_i ht
      simp only [Option.map_eq_some_iff] at hc
      obtain ⟨r', hr, rfl⟩ := hc
      simp only [aress, Option.map_eq_some_iff] at h
      obtain ⟨vs1, hvs, rfl⟩ := h
      obtain ⟨vs', h1, h2⟩ := cres_run hS hE hr hvs
      refine ⟨_, ?_, .cons (hE.rel t ht) h2⟩
      simp only [List.mapM_cons, Sem.run_bind, Sem.run_pure, Result.andThen_ok, h1]
      rfl
    · simp at hc
  | .cell ad t :: l, r, vs, hc, h => by
    simp only [cres] at hc
    split at hc
    · rename_i ht
      simp only [Option.bind_eq_some_iff, Option.map_eq_some_iff] at hc
      obtain ⟨g, hg, n, hn, r', hr, rfl⟩ := hc
      simp only [aress, Option.bind_eq_some_iff, Option.map_eq_some_iff] at h
      obtain ⟨v, hv, vs1, hvs, rfl⟩ := h
      obtain ⟨vs', h1, h2⟩ := cres_run hS hE hr hvs
      have hr := hE.rel ad ht
      generalize hx : env ad = x at hr hv
      simp only [Act.eval] at hr
      generalize hx' : a.tmps.getD ad undef = x' at hr
      cases hr with
      | ptr id off hid =>
        obtain ⟨v', hv', hvr⟩ := s_loadVar (P := P) hS hg hn hv
        refine ⟨v' :: vs', ?_, .cons hvr h2⟩
        have e1 : (asAddr (a.tmps.getD ad undef)).run P w = .ok ⟨(m.loc id).block, (m.loc id).off + off, none⟩ w := by rw [hx']; rfl
        simp only [List.mapM_cons, Sem.run_bind, e1, Sem.run_pure, Result.andThen_ok, hv', h1]
      | _ => simp [aload] at hv
    · simp at hc

theorem sound_results (hS : SRel w0 B m H w) (hE : ERel m nt env a) {fn : Func} {r : List ARes} {vs : List AVal} (hc : cres P nt fn.results.toList = some r) (h : aress H env r = some vs) :
    ∃ v', (results fn a.tmps).run P w = .ok v' w ∧ VRel m (aret vs) v' := by
  obtain ⟨vs', h1, h2⟩ := cres_run hS hE hc h
  have hrun : (fn.results.mapM (fun x => match x with
      | .tmp t => pure (a.tmps.getD t undef)
      | .cell ad t => do loadVar t (← asAddr (a.tmps.getD ad undef)) : ResultVar → Sem Value)).run P w = .ok vs'.toArray w := by
    rw [Array.mapM_eq_mapM_toList]
    simp only [map_eq_pure_bind, Sem.run_bind, h1, Result.andThen_ok, Sem.run_pure]
  have hlen := forall2_length h2
  refine ⟨if h : vs'.toArray.size = 1 then vs'.toArray[0] else .tuple vs'.toArray, ?_, ?_⟩
  · unfold results
    simp only [Sem.run_bind]
    exact (congrArg (fun r : Result (Array Value) => r.andThen fun a w' => Sem.run P (pure (if h : a.size = 1 then a[0] else Value.tuple a)) w') hrun).trans rfl
  · cases h2 with
    | nil => simp [aret]; exact .tuple [] [] .nil
    | cons hv h2 =>
      cases h2 with
      | nil => simpa [aret] using hv
      | cons hv2 h2 =>
        simp [aret]
        exact .tuple _ _ (.cons hv (.cons hv2 h2))


def Marks (w w' : World) (df ds : List Deferred) : Prop :=
  ∃ ms : List Nat, ds = ms.map (fun d => (⟨.collected d, #[]⟩ : Deferred)) ++ df ∧ ms.Nodup ∧ ∀ d, d ∈ ms → w.heap.size ≤ d ∧ w'.heap[d]? = some (.deferred (some []))
theorem Marks.nil (w w' : World) (df : List Deferred) : Marks w w' df df := ⟨[], rfl, List.nodup_nil, fun d h => by cases h⟩
theorem Marks.of_eq {w w' : World} {df ds : List Deferred} (h : ds = df) : Marks w w' df ds := h ▸ Marks.nil _ _ _

theorem SRel.upon {w1 : World} {m1 : Inj} {H1 : AHeap} {df d1 : List Deferred} (h0 : SRel w B m H w) (hS : SRel w B m1 H1 w1) (hk : Marks w w1 df d1) :
    ∃ B', SRel w1 B' m1 H1 w1 ∧ ∀ m2 H2 w2 d2, SRel w1 B' m2 H2 w2 → Marks w1 w2 d1 d2 → SRel w B m2 H2 w2 ∧ Marks w w2 df d2 := by
  obtain ⟨ms, rfl, hnd, hms⟩ := hk
  refine ⟨fun k => B k || ms.contains k, hS.other fun k hk => ?_, fun m2 H2 w2 d2 h2 hk2 => ⟨hS.back h2 fun k hk => by simp [hk], ?_⟩⟩
  · simp only [Bool.or_eq_true, List.contains_iff_mem] at hk
    rcases hk with hk | hk
    · exact ⟨Nat.lt_of_lt_of_le (hS.size k hk) hS.below.size, .inl hk⟩
    · have h1 := (hms k hk).2
      exact ⟨(Array.getElem?_eq_some_iff.1 h1).1, .inr fun o h => by rw [h1] at h; cases h; trivial⟩
  · obtain ⟨ms2, rfl, hnd2, hms2⟩ := hk2
    refine ⟨ms2 ++ ms, by simp, ?_, fun d hd => ?_⟩
    · rw [List.nodup_append]
      refine ⟨hnd2, hnd, fun x hx y hy => ?_⟩
      have h1 := (hms2 x hx).1
      have h2 := (Array.getElem?_eq_some_iff.1 (hms y hy).2).1
      omega
    · rcases List.mem_append.1 hd with hd | hd
      · exact ⟨Nat.le_trans hS.below.size (hms2 d hd).1, (hms2 d hd).2⟩
      · refine ⟨(hms d hd).1, ?_⟩
        rw [h2.below.block d (by simp [hd])]
        exact (hms d hd).2

def Out (w : World) (B : Nat → Bool) (m : Inj) (nt : Nat) (df : List Deferred) (r : AExit × Env × AHeap) (Q : Exit → Act → World → Prop) : Prop :=
  ∀ a' w' m', m.le m' → SRel w B m' r.2.2 w' → ERel m' nt r.2.1 a' → Marks w w' df a'.defers → Q (cexit r.1) a' w'

theorem dead_none {call : ACall} {it : FuncId → Option AFn} {n : Nat} {env : Env} {H : AHeap} {r : AExit × Env × AHeap} : ¬ aexec call it n dead env H = some r := by
  simp [aexec, dead, aops, agd, ado, aop]

theorem SRel.lay (hS : SRel w0 B m H w) (o : Obj) : SRel w0 B m H (w.alloc o) :=
  hS.stays (Keep.below (Keep.alloc (Keep.refl (lowK w.heap.size) w) (by simp [lowK]) o))

theorem setps_rel : ∀ {ps : List Nat} {args : List AVal} {args' : List Value} {env : Env} {tmps : Array Value} {df : List Deferred}, (∀ p, p ∈ ps → p < nt) → All2 (VRel m) args args' → ERel m nt env { tmps := tmps, defers := df } →
    ERel m nt (setps env ps args) { tmps := (ps.zip args').foldl (fun tmps (t, a) => tmps.setIfInBounds t a) tmps, defers := df }
  | [], args, args', env, tmps, df, hp, hr, hE => by simpa [setps] using hE
  | p :: ps, _, _, env, tmps, df, hp, .nil, hE => by simpa [setps] using hE
  | p :: ps, v :: vs, v' :: vs', env, tmps, df, hp, .cons hv hr, hE => by
    simp only [setps, List.zip_cons_cons, List.foldl_cons]
    refine setps_rel (fun q hq => hp q (by simp [hq])) hr ?_
    have := hE.put (dst := some p) (by simp [cdst, hp p (by simp)]) hv
    exact this

theorem cres_nil {nt : Nat} {l : List ResultVar} (h : cres P nt l = some []) : l = [] := by
  cases l with
  | nil => rfl
  | cons x l =>
    cases x with
    | tmp t =>
      simp only [cres] at h
      split at h
      · simp at h
      · cases h
    | cell t u =>
      simp only [cres] at h
      split at h
      · simp [Option.bind_eq_some_iff] at h
      · cases h

theorem cfn_spec {f : FuncId} {fn : AFn} (hc : cfn P f = some fn) : ∃ F body, P.funcs[f]? = some F ∧ (F.name == "runtime.NumGoroutine") = false ∧ F.body = some body ∧ ccode P F.ntmps true body = some fn.body ∧ cres P F.ntmps F.results.toList = some fn.results := by
  simp only [cfn, Option.bind_eq_some_iff] at hc
  obtain ⟨F, hF, hc⟩ := hc
  split at hc
  · simp at hc
  · rename_i hname
    simp only [Option.bind_eq_some_iff, Option.map_eq_some_iff] at hc
    obtain ⟨body, hbody, ab, hab, rs, hrs, rfl⟩ := hc
    exact ⟨F, body, hF, by simpa using hname, hbody, hab, hrs⟩

theorem enters_of {f : FuncId} {fn : AFn} (hc : cfn P f = some fn) : Enters P f := by
  obtain ⟨F, body, h1, h2, h3, _⟩ := cfn_spec hc
  exact ⟨F, h1, h2, by rw [h3]; rfl⟩

theorem sound_yield {fa fb : ARun} {ps : Array Tmp} {x y : Code} {l d : Nat} {R : Loop} (hBl : B l = false) (hBd : B d = false) (hR0 : R.tmps = a.tmps ∧ R.params = ps ∧ R.assign = x ∧ R.body = y) (hps : ∀ p, p ∈ ps.toList → p < nt) (hE : ERel m nt env a)
    (hfa : ∀ (env : Env) (H : AHeap) (r : AExit × Env × AHeap), fa env H = some r → ∀ (nn : Nat) (B : Nat → Bool) (m : Inj) (a : Act) (w : World), ERel m nt env a → SRel w B m H w → ∀ Q, Out w B m nt a.defers r Q → x.wpIn (FW (some l)) nn P Q a w)
    (hfb : ∀ (env : Env) (H : AHeap) (r : AExit × Env × AHeap), fb env H = some r → ∀ (nn : Nat) (B : Nat → Bool) (m : Inj) (a : Act) (w : World), ERel m nt env a → SRel w B m H w → ∀ Q, Out w B m nt a.defers r Q → y.wpIn (FW (some l)) nn P Q a w) :
    YSound P B l d R m (ayield fa fb ps.toList env) := by
  obtain ⟨e1, rfl, rfl, rfl⟩ := hR0
  intro st args H b st' H' h nn m1 w args' hm hS hR hargs
  simp only [ayield] at h
  split at h
  · rename_i hc
    obtain ⟨hst, hlen⟩ := hc
    have hst : st = none := by simpa using hst
    subst hst
    simp only [Option.bind_eq_some_iff] at h
    obtain ⟨⟨ex1, env1, H1⟩, ha, h⟩ := h
    cases ex1 with
    | exit _ => cases h
    | ret => cases h
    | normal =>
    simp only [Option.map_eq_some_iff] at h
    obtain ⟨⟨ex2, env2, H2⟩, hb, h⟩ := h
    have hlen' := forall2_length hargs
    refine ⟨by simp only [Array.length_toList] at hlen; omega, ?_⟩
    refine roundIn_of_wpIn trivial ?_
    have hE1 : ERel m1 nt (setps env R.params.toList args) { tmps := (R.params.zip args'.toArray).foldl (fun tmps (t, a) => tmps.setIfInBounds t a) R.tmps, defers := [] } := by
      have := setps_rel (df := []) (tmps := a.tmps) hps hargs (⟨(hE.mono hm).size, (hE.mono hm).rel⟩)
      rw [e1]
      have e : (Array.foldl (fun (tmps : Array Value) (x : Tmp × Value) => match x with | (t, a) => tmps.setIfInBounds t a) a.tmps (R.params.zip args'.toArray)) = (R.params.toList.zip args').foldl (fun tmps (t, a) => tmps.setIfInBounds t a) a.tmps := by
        rw [← Array.foldl_toList]
        simp
      rw [e]
      exact this
    refine hfa _ _ _ ha nn (B1 B l d) m1 _ w hE1 (hS.recd hR) _ ?_
    intro a2 w2 m2 hm2 hS2 hE2 _
    have hR2 := hR.keep hS2.below
    have hl2 : w2.heap[l]? = some (.loop { R with state := .ready, pending := none }) := hR2.1
    obtain ⟨hlt, hdt, hne⟩ := hR2.lt
    show ∃ w3, _
    refine ⟨_, run_beginRound hl2 rfl, ?_⟩
    have hS2' : SRel w B m2 H1 (w2.putObj l (.loop { R with state := .busy, pending := none })) := (hS.back hS2 (B1_le _ _ _)).put hl2 (by trivial) hBl _
    have hl3 : (w2.putObj l (.loop { R with state := .busy, pending := none })).heap[l]? = some (.loop { R with state := .busy, pending := none }) := World.putObj_heap_same hlt
    have hd3 : (w2.putObj l (.loop { R with state := .busy, pending := none })).heap[d]? = some (.deferred (some [])) := by rw [World.putObj_heap_other (Ne.symm hne)]; exact hR2.2
    have hS3 : SRel (w2.putObj l (.loop { R with state := .busy, pending := none })) (B1 B l d) m2 H1 (w2.putObj l (.loop { R with state := .busy, pending := none })) := by
      refine hS2'.other fun k hk => ?_
      simp only [B1, Bool.or_eq_true, beq_iff_eq] at hk
      rcases hk with (hk | rfl) | rfl
      · exact ⟨Nat.lt_of_lt_of_le (hS2'.size k hk) hS2'.below.size, .inl hk⟩
      · exact ⟨by simpa using hlt, .inr fun o h => by rw [hl3] at h; cases h; trivial⟩
      · exact ⟨by simpa using hdt, .inr fun o h => by rw [hd3] at h; cases h; trivial⟩
    refine hfb _ _ _ hb nn (B1 B l d) m2 _ _ hE2 hS3 _ ?_
    intro a4 w4 m4 hm4 hS4 hE4 _
    have hl4 : w4.heap[l]? = some (.loop { R with state := .busy, pending := none }) := by rw [hS4.below.block l (by simp [B1])]; exact hl3
    have hd4 : w4.heap[d]? = some (.deferred (some [])) := by rw [hS4.below.block d (by simp [B1])]; exact hd3
    have hS4' : SRel w B m4 H2 w4 := hS2'.back hS4 (B1_le _ _ _)
    have hlt4 : l < w4.heap.size := (Array.getElem?_eq_some_iff.1 hl4).1
    have fin : ∀ st2 : APend, (Instr.endRound l (st2.map jcode)).run P w4 = .ok (.bool st2.isNone) (w4.putObj l (.loop { R with state := if st2.isNone then .ready else .done, pending := st2.map jcode })) ∧
        SRel w B m4 H2 (w4.putObj l (.loop { R with state := if st2.isNone then .ready else .done, pending := st2.map jcode })) ∧ RecAt (w4.putObj l (.loop { R with state := if st2.isNone then .ready else .done, pending := st2.map jcode })) l d R st2 := by
      intro st2
      refine ⟨?_, hS4'.put hl4 (by trivial) hBl _, World.putObj_heap_same hlt4, by rw [World.putObj_heap_other (Ne.symm hne)]; exact hd4⟩
      have := run_endRound (P := P) (st2.map jcode) hl4
      cases st2 <;> exact this
    cases ex2 with
    | normal =>
      simp only [Prod.mk.injEq] at h
      obtain ⟨rfl, rfl, rfl⟩ := h
      obtain ⟨f1, f2, f3⟩ := fin none
      exact ⟨_, _, f1, m4, rfl, Inj.le_trans hm2 hm4, f2, f3⟩
    | exit id =>
      simp only [Prod.mk.injEq] at h
      obtain ⟨rfl, rfl, rfl⟩ := h
      obtain ⟨f1, f2, f3⟩ := fin (some (.exit id))
      exact ⟨_, _, f1, m4, rfl, Inj.le_trans hm2 hm4, f2, f3⟩
    | ret =>
      simp only [Prod.mk.injEq] at h
      obtain ⟨rfl, rfl, rfl⟩ := h
      obtain ⟨f1, f2, f3⟩ := fin (some .ret)
      exact ⟨_, _, f1, m4, rfl, Inj.le_trans hm2 hm4, f2, f3⟩
  · cases h

theorem init_rel {args : List AVal} {args' : List Value} (h : All2 (VRel m) args args') (nt : Nat) : ERel m nt (ainit args) { tmps := args'.toArray ++ Array.replicate (nt - args'.length) undef, defers := [] } := by
  have hlen := forall2_length h
  refine ⟨by simp; omega, fun t ht => ?_⟩
  simp only [ainit, Act.eval]
  by_cases hlt : t < args.length
  · have hx := List.getElem?_eq_getElem hlt
    obtain ⟨v, hv, hr⟩ := forall2_get h t _ hx
    have : (args'.toArray ++ Array.replicate (nt - args'.length) undef).getD t undef = v := by
      rw [Array.getD_eq_getD_getElem?, Array.getElem?_append_left (by simp; omega)]
      simp [hv]
    rw [this, List.getD_eq_getElem?_getD, hx]
    exact hr
  · have : (args'.toArray ++ Array.replicate (nt - args'.length) undef).getD t undef = undef := by
      rw [Array.getD_eq_getD_getElem?, Array.getElem?_append_right (by simp; omega)]
      rw [Array.getElem?_replicate]
      split <;> rfl
    rw [this, List.getD_eq_getElem?_getD, List.getElem?_eq_none (by omega)]
    exact undef_rel m

theorem sound_code {call : ACall} (hcs : ∀ w0 B, CallSound P w0 B call) (hmix : P.follows .mixedOrders = true) {it : FuncId → Option AFn} (hit : ∀ g x, it g = some x → cfn P g = some x) {n : Nat} : ∀ (c : Code) (rok : Bool) (ac : ACode), ccode P nt rok c = some ac → ∀ (r : Option Nat), (rok = true → r = none) →
    ∀ (env : Env) (H : AHeap) (res : AExit × Env × AHeap), aexec call it n ac env H = some res →
    ∀ (nn : Nat) (B : Nat → Bool) (m : Inj) (a : Act) (w : World), ERel m nt env a → SRel w B m H w → ∀ Q, Out w B m nt a.defers res Q → c.wpIn (FW r) nn P Q a w := by
  intro c
  induction c with
  | skip =>
    intro rok ac hc rd hrd env H r h nn B m a w hE hS Q hQ
    simp [ccode] at hc; subst hc
    simp [aexec] at h; subst h
    exact wpIn_skip (hQ a w m m.le_refl hS hE (.nil _ _ _))
  | region id ops draw =>
    intro rok ac hc rd hrd env H r h nn B m a w hE hS Q hQ
    cases draw with
    | false =>
      simp only [ccode, Option.some.injEq] at hc
      subst hc
      cases hal : copers P ops nt ops.toList with
      | none => rw [hal] at h; exact absurd h dead_none
      | some al =>
      rw [hal] at h
      simp only [Option.map_some, Option.getD_some] at h
      simp only [aexec, Option.map_eq_some_iff] at h
      obtain ⟨⟨env', H'⟩, h, rfl⟩ := h
      refine wpIn_region ?_
      have := sound_aops (Q := Q) (r := rd) (nn := nn) (hcs w B) ops.toList al 0 env H m a w env' H' hal (by intro j; simp) hE hS h (fun a' w' m' h1 h2 h3 h4 => hQ a' w' m' h1 h2 h3 (.of_eq h4))
      rw [List.range_eq_range']
      simpa using this
    | true =>
      simp only [ccode, Option.some.injEq] at hc
      subst hc
      cases hal : copers P ops nt ops.toList with
      | none => rw [hal] at h; exact absurd h dead_none
      | some al =>
      rw [hal] at h
      simp only [Option.bind_some] at h
      cases hc : drawOf ops al (CheckFast.beforeF ops).toList with
      | none => rw [hc] at h; exact absurd h dead_none
      | some c =>
      rw [hc] at h
      simp only [Option.getD_some] at h
      obtain ⟨al', b, rfl, R⟩ := region1_of hal hc
      simp only [aexec, Option.map_eq_some_iff] at h
      obtain ⟨⟨env', H'⟩, h, rfl⟩ := h
      exact sound_draw hcs hmix R hE hS h (fun a' w' m' h1 h2 h3 h4 => hQ a' w' m' h1 h2 h3 (.of_eq h4)) id rd nn
  | seq x y ihx ihy =>
    intro rok ac hc rd hrd env H r h nn B m a w hE hS Q hQ
    simp only [ccode, Option.bind_eq_some_iff, Option.map_eq_some_iff] at hc
    obtain ⟨ax, hax, ay, hay, rfl⟩ := hc
    simp only [aexec, Option.bind_eq_some_iff] at h
    obtain ⟨⟨ex, env1, H1⟩, hx, h⟩ := h
    refine wpIn_seq (ihx rok ax hax rd hrd env H _ hx nn B m a w hE hS _ ?_)
    intro a1 w1 m1 hm1 hS1 hE1 hd1
    cases ex with
    | normal =>
      obtain ⟨B', hS1', hback⟩ := hS.upon hS1 hd1
      refine ihy rok ay hay rd hrd env1 H1 r h nn B' m1 a1 w1 hE1 hS1' Q (fun a' w' m' h1 h2 h3 h4 => ?_)
      obtain ⟨k1, k2⟩ := hback _ _ _ _ h2 h4
      exact hQ a' w' m' (Inj.le_trans hm1 h1) k1 h3 k2
    | exit id => simp at h; subst h; exact hQ a1 w1 m1 hm1 hS1 hE1 hd1
    | ret => simp at h; subst h; exact hQ a1 w1 m1 hm1 hS1 hE1 hd1
  | cond c x y ihx ihy =>
    intro rok ac hc rd hrd env H r h nn B m a w hE hS Q hQ
    cases hc' : copd nt c with
    | none =>
      simp only [ccode, hc', Option.some.injEq] at hc
      subst hc
      exact absurd h dead_none
    | some c' =>
    simp only [ccode, hc', Option.bind_eq_some_iff, Option.map_eq_some_iff] at hc
    obtain ⟨ax, hax, ay, hay, rfl⟩ := hc
    simp only [aexec] at h
    have hcr := copd_rel hE hc'
    split at h
    · rename_i t ht
      rw [ht] at hcr
      generalize hcv : a.eval c = cv at hcr
      cases hcr
      cases t with
      | true => simp at h; exact wpIn_cond_true hcv (ihx rok ax hax rd hrd env H r h nn B m a w hE hS Q hQ)
      | false => simp at h; exact wpIn_cond_false hcv (ihy rok ay hay rd hrd env H r h nn B m a w hE hS Q hQ)
    · simp at h
  | block id x ih =>
    intro rok ac hc rd hrd env H r h nn B m a w hE hS Q hQ
    simp only [ccode, Option.map_eq_some_iff] at hc
    obtain ⟨ax, hax, rfl⟩ := hc
    simp only [aexec, Option.map_eq_some_iff] at h
    obtain ⟨⟨ex, env1, H1⟩, hx, h⟩ := h
    refine wpIn_block (ih rok ax hax rd hrd env H _ hx nn B m a w hE hS _ ?_)
    intro a1 w1 m1 hm1 hS1 hE1 hd1
    cases ex with
    | normal => simp at h; subst h; exact hQ a1 w1 m1 hm1 hS1 hE1 hd1
    | exit i =>
      simp only at h
      simp only [cexit, Exit.inBlock]
      split at h
      · rename_i hi
        subst h
        rw [if_pos hi]; exact hQ a1 w1 m1 hm1 hS1 hE1 hd1
      · rename_i hi
        subst h
        rw [if_neg hi]; exact hQ a1 w1 m1 hm1 hS1 hE1 hd1
    | ret => simp at h; subst h; exact hQ a1 w1 m1 hm1 hS1 hE1 hd1
  | loop x ih =>
    intro rok ac hc rd hrd env H r h nn B m a w hE hS Q hQ
    simp only [ccode, Option.map_eq_some_iff] at hc
    obtain ⟨ax, hax, rfl⟩ := hc
    simp only [aexec] at h
    have key : ∀ (k : Nat) (env : Env) (H : AHeap), aiter (aexec call it n ax) k env H = some r → ∀ (B : Nat → Bool) (m : Inj) (a : Act) (w : World), ERel m nt env a → SRel w B m H w → Out w B m nt a.defers r Q → Code.roundsIn (FW rd) nn P x Q k a w := by
      intro k
      induction k with
      | zero => intro env H h; simp [aiter] at h
      | succ k ihk =>
        intro env H h B m a w hE hS hQ
        simp only [aiter, Option.bind_eq_some_iff] at h
        obtain ⟨⟨ex, env1, H1⟩, hx, h⟩ := h
        rw [roundsIn_succ]
        refine ih rok ax hax rd hrd env H _ hx nn B m a w hE hS _ ?_
        intro a1 w1 m1 hm1 hS1 hE1 hd1
        cases ex with
        | normal =>
          obtain ⟨B', hS1', hback⟩ := hS.upon hS1 hd1
          refine ihk env1 H1 h B' m1 a1 w1 hE1 hS1' (fun a' w' m' h1 h2 h3 h4 => ?_)
          obtain ⟨k1, k2⟩ := hback _ _ _ _ h2 h4
          exact hQ a' w' m' (Inj.le_trans hm1 h1) k1 h3 k2
        | exit id => simp at h; subst h; exact hQ a1 w1 m1 hm1 hS1 hE1 hd1
        | ret => simp at h; subst h; exact hQ a1 w1 m1 hm1 hS1 hE1 hd1
    exact wpIn_loop_rounds n (key n env H h B m a w hE hS hQ)
  | exit id =>
    intro rok ac hc rd hrd env H r h nn B m a w hE hS Q hQ
    simp [ccode] at hc; subst hc
    simp [aexec] at h; subst h
    exact wpIn_exit (hQ a w m m.le_refl hS hE (.nil _ _ _))
  | ret =>
    intro rok ac hc rd hrd env H r h nn B m a w hE hS Q hQ
    simp [ccode] at hc; subst hc
    simp [aexec] at h; subst h
    exact wpIn_ret (hQ a w m m.le_refl hS hE (.nil _ _ _))
  | rangeFunc g ps x y ihx ihy =>
    intro rok ac hc rd hrd env H r h nn B m a w hE hS Q hQ
    simp only [ccode] at hc
    split at hc
    · rename_i hcond
      obtain ⟨hrok, hps⟩ := hcond
      have hrn := hrd hrok
      subst hrn
      cases hg : copd nt g with
      | none => rw [hg] at hc; simp only [Option.some.injEq] at hc; subst hc; exact absurd h dead_none
      | some f =>
      rw [hg] at hc
      simp only [Option.bind_eq_some_iff, Option.map_eq_some_iff] at hc
      obtain ⟨ax, hax, ay, hay, rfl⟩ := hc
      have hps' : ∀ p, p ∈ ps.toList → p < nt := by
        intro p hp
        rw [List.all_eq_true] at hps
        simpa using hps p hp
      simp only [aexec] at h
      have hfr := copd_rel hE hg
      unfold arange at h
      split at h
      · rename_i gid first captured hf
        rw [hf] at hfr
        generalize hfv : a.eval g = fv at hfr
        simp only [Option.bind_eq_some_iff] at h
        obtain ⟨fn, hfn, h⟩ := h
        split at h
        · rename_i hres
          simp only [Option.bind_eq_some_iff] at h
          obtain ⟨⟨ex, st, env1, H1⟩, hx, h⟩ := h
          have hcf := hit _ _ hfn
          obtain ⟨F, body, hF, hname, hbody, hcb, hcr⟩ := cfn_spec hcf
          have hen := enters_of hcf
          have hrs : F.results.toList = [] := by
            have : fn.results = [] := by simpa using hres
            rw [this] at hcr
            exact cres_nil hcr
          cases hfr with
          | func _ _ _ first' captured' h1 h2 =>
            refine wpIn_rangeFunc ?_
            intro fno _
            have hres1 : ∀ w1 : World, (resolve a.eval (rangeCall g (w.heap.size + 1)) 0).run P w1 = .ok ⟨.fn (.func gid) captured'.toArray, first'.toArray ++ #[Value.func (.yield (w.heap.size + 1)) #[] #[]]⟩ w1 := by
              intro w1
              simp only [resolve, rangeCall, hfv, Deferred.ofValue, Sem.run_pure]
              simp [Act.eval]
            have hinv : ∀ w1 : World, (invoke (.fn (.func gid) captured'.toArray) (first'.toArray ++ #[Value.func (.yield (w.heap.size + 1)) #[] #[]])).run P w1 = .ok (.enter gid (first' ++ [Value.func (.yield (w.heap.size + 1)) #[] #[]] ++ captured').toArray) w1 := by
              intro w1
              simp only [invoke]
              rw [run_callFunc hen]
              congr 2
              apply Array.ext'
              simp
            refine ⟨w.heap.size + 1, _, _, _, _, gid, _, _, run_enterLoop_outer _ _ _ _ _, hres1 _, fun _ _ => trivial, hinv _, fun h => (by cases h), ?_⟩
            have hBl : B (w.heap.size + 1) = false := by
              cases hb : B (w.heap.size + 1) with
              | false => rfl
              | true => have := hS.size _ hb; have := hS.below.size; omega
            have hBd : B w.heap.size = false := hS.free
            generalize hw1 : (w.alloc (.deferred (some []))).alloc (.loop { state := .ready, pending := none, fn := fno, tmps := a.tmps, params := ps, assign := x, body := y, defers := w.heap.size }) = w1
            have hsz1 : (w.alloc (.deferred (some []))).heap.size = w.heap.size + 1 := World.size_alloc _ _
            have hR1 : RecAt w1 (w.heap.size + 1) w.heap.size { state := .ready, pending := none, fn := fno, tmps := a.tmps, params := ps, assign := x, body := y, defers := w.heap.size } none := by
              rw [← hw1]
              constructor
              · have := World.alloc_heap_new (w.alloc (.deferred (some []))) (.loop { state := .ready, pending := none, fn := fno, tmps := a.tmps, params := ps, assign := x, body := y, defers := w.heap.size })
                rw [hsz1] at this
                exact this
              · have := World.alloc_heap_new w (.deferred (some []))
                show (Array.push _ _)[w.heap.size]? = _
                rw [Array.getElem?_push_lt (by rw [hsz1]; omega)]
                rw [← Array.getElem?_eq_getElem]
                exact this
            have hS1 : SRel w B (m.ext ⟨w.heap.size + 1, 0, 0⟩) H.skip w1 := by
              rw [← hw1]
              exact ((hS.lay _).lay _).skip _
            have hmx : m.le (m.ext ⟨w.heap.size + 1, 0, 0⟩) := m.le_ext _
            have htok : (m.ext ⟨w.heap.size + 1, 0, 0⟩).has H.next ∧ ((m.ext ⟨w.heap.size + 1, 0, 0⟩).loc H.next).block = w.heap.size + 1 := by
              rw [hS.next]
              exact ⟨m.ext_has _, by rw [m.ext_new]⟩
            have hy : YSound P B (w.heap.size + 1) w.heap.size { state := .ready, pending := none, fn := fno, tmps := a.tmps, params := ps, assign := x, body := y, defers := w.heap.size } (m.ext ⟨w.heap.size + 1, 0, 0⟩) (ayield (aexec call it n ax) (aexec call it n ay) ps.toList env) :=
              sound_yield hBl hBd ⟨rfl, rfl, rfl, rfl⟩ hps' (hE.mono hmx) (fun env H r h nn B m a w' => ihx false ax hax (some (w.heap.size + 1)) (fun h => by cases h) env H r h nn B m a w') (fun env H r h nn B m a w' => ihy false ay hay (some (w.heap.size + 1)) (fun h => by cases h) env H r h nn B m a w')
            have hargs : All2 (VRel (m.ext ⟨w.heap.size + 1, 0, 0⟩)) (first ++ [.yield H.next] ++ captured) (first' ++ [Value.func (.yield (w.heap.size + 1)) #[] #[]] ++ captured') := by
              refine forall2_append (forall2_append (forall2_mono hmx h1) (.cons ?_ .nil)) (forall2_mono hmx h2)
              have := VRel.yield (m := m.ext ⟨w.heap.size + 1, 0, 0⟩) H.next htok.1
              rw [htok.2] at this
              exact this
            refine callsIn_of_wp hF hbody trivial ?_
            have hEi := init_rel hargs F.ntmps
            refine sound_codeY hcs hmix hy htok body fn.body hcb none (ainit (first ++ [.yield H.next] ++ captured)) H.skip _ hx _ _ w1 (Inj.le_refl _) (by simpa using hEi) hS1.same hR1 _ ?_
            intro a' w' m' hm' hS' hR' hE' hd'
            obtain ⟨v', hv', _⟩ := sound_results (fn := F) (r := []) (vs := []) hS' hE' (by rw [hrs]; rfl) rfl
            have hbusy : (if st.isNone then LoopState.ready else LoopState.done) ≠ .busy := by cases st <;> simp
            have hne : w.heap.size ≠ w.heap.size + 1 := by omega
            have hS4 : SRel w B m' H1 (w'.putObj (w.heap.size + 1) (.loop { state := .exhausted, pending := st.map jcode, fn := fno, tmps := a.tmps, params := ps, assign := x, body := y, defers := w.heap.size })) := by
              refine SRel.put (o0 := _) ?_ hR'.1 (by trivial) hBl _
              exact (hS1.back hS' (fun _ h => h))
            have hQ' : ∀ e, r = (e, env, H1) → Q (cexit e) { a with defers := [{ target := .collected w.heap.size, args := #[] }] ++ a.defers } (w'.putObj (w.heap.size + 1) (.loop { state := .exhausted, pending := st.map jcode, fn := fno, tmps := a.tmps, params := ps, assign := x, body := y, defers := w.heap.size })) := by
              intro e he
              subst he
              refine hQ _ _ m' (Inj.le_trans hmx hm') hS4 (by have := hE.mono (Inj.le_trans hmx hm'); exact ⟨this.size, this.rel⟩) ⟨[w.heap.size], rfl, by simp, fun d hd => ?_⟩
              rw [List.mem_singleton] at hd
              subst hd
              exact ⟨Nat.le_refl _, by rw [World.putObj_heap_other hne]; exact hR'.2⟩
            have hfin : r = (st.getD .normal, env, H1) → rangePost (FW none) nn P (w.heap.size + 1) Q { a with defers := [{ target := .collected w.heap.size, args := #[] }] ++ a.defers } (.returned v') w' := by
              intro hr
              refine ⟨st.map jcode, _, run_endLoop hR'.1 hbusy, ?_⟩
              cases st with
              | none => exact hQ' .normal hr
              | some e =>
                cases e with
                | normal => exact wpIn_skip (hQ' .normal hr)
                | exit id => exact wpIn_exit (hQ' (.exit id) hr)
                | ret => exact wpIn_ret (hQ' .ret hr)
            cases ex with
            | exit id => cases h
            | normal => exact ⟨hd', v', hv', hfin (by simpa using h.symm)⟩
            | ret => exact ⟨hd', v', hv', hfin (by simpa using h.symm)⟩
        · cases h
      · cases h
    · simp only [Option.some.injEq] at hc; subst hc; exact absurd h dead_none
  | _ =>
    intro rok ac hc rd hrd env H r h
    simp only [ccode, Option.some.injEq] at hc
    subst hc
    exact absurd h dead_none

/-! ### Calls -/
structure Sound (P : Program) (w0 : World) (B : Nat → Bool) (A : AProg) : Prop where
  mix : P.follows .mixedOrders = true
  fn : ∀ f x, A.fn f = some x → cfn P f = some x
  ext : ∀ f g, A.ext f = some g → CallSound P w0 B (fun f' args H => if f' = f then g args H else none)

theorem leaves_marks {F : Fence} {n : Nat} {fn : Func} {tmps : Array Value} {R : Ending → World → Prop} (hres : ∀ w, SRel w0 B m H w → ∃ v, (results fn tmps).run P w = .ok v w ∧ R (.returned v) w) :
    ∀ (ms : List Nat) (w : World), SRel w0 B m H w → ms.Nodup → (∀ d, d ∈ ms → B d = false ∧ w.heap[d]? = some (.deferred (some []))) → LeavesInM F n P fn tmps R (ms.map fun d => (⟨.collected d, #[]⟩ : Deferred)) .returning w
  | [], w, hS, _, _ => hres w hS
  | d :: ms, w, hS, hnd, hms => by
    obtain ⟨hb, hd⟩ := hms d (by simp)
    rw [List.nodup_cons] at hnd
    refine ⟨by simp, .inl ⟨d, _, rfl, run_takeDeferred hd, ?_⟩⟩
    refine leaves_marks hres ms _ (hS.put hd (by trivial) hb _) hnd.2 fun k hk => ⟨(hms k (by simp [hk])).1, ?_⟩
    rw [World.putObj_heap_other (by intro e; subst e; exact hnd.1 hk)]
    exact (hms k (by simp [hk])).2

theorem sound_run {k : Nat} {call : ACall} {it : FuncId → Option AFn} (hcs : ∀ w0 B, CallSound P w0 B call) (hmix : P.follows .mixedOrders = true) (hit : ∀ g x, it g = some x → cfn P g = some x) {f : FuncId} {x : Option AFn} (hx : ∀ y, x = some y → cfn P f = some y) {args : List AVal} {v : AVal} {H' : AHeap}
    (h : arun call it k x args H = some (v, H')) : Enters P f ∧ Up H H' ∧ ∀ m w args', m.full → SRel w0 B m H w → All2 (VRel m) args args' →
    Calls P f args'.toArray w fun e w' => ∃ v' m', e = .returned v' ∧ m.le m' ∧ SRel w0 B m' H' w' ∧ VRel m' v v' := by
  have hup := arun_up (callSound_up (hcs w0 B)) h
  simp only [arun, Option.bind_eq_some_iff] at h
  obtain ⟨fn, hfn, r, hr, he⟩ := h
  have hc := hx fn hfn
  obtain ⟨F, body, hF, hname, hbody, hab, hrs⟩ := cfn_spec hc
  refine ⟨enters_of hc, hup, ?_⟩
  intro m w args' _ hS hargs
  refine callsIn_wide.1 (callsIn_of_wp_marks (F := FW none) (n := 0) hF hbody trivial ?_)
  have hE := init_rel hargs F.ntmps
  refine sound_code hcs hmix hit body true fn.body hab none (fun _ => rfl) _ H r hr 0 B m _ w (by simpa using hE) hS.same _ ?_
  intro a' w' m' hm hS' hE' hd
  obtain ⟨ms, hd, hnd, hms⟩ := hd
  simp only [List.append_nil] at hd
  obtain ⟨ex, env', H1⟩ := r
  have fin : ∀ vs, aress H1 env' fn.results = some vs → v = aret vs → H' = H1 → LeavesInM (FW none) 0 P F a'.tmps (fun e w' => ∃ v' m', e = .returned v' ∧ m.le m' ∧ SRel w0 B m' H' w' ∧ VRel m' v v') a'.defers .returning w' := by
    intro vs hvs e1 e2
    subst e1 e2
    rw [hd]
    refine leaves_marks (w0 := w0) (B := B) (m := m') (H := H') (fun w2 hS2 => ?_) ms w' (hS.back hS' (fun _ h => h)) hnd fun d hd => ⟨?_, (hms d hd).2⟩
    · obtain ⟨v', hv', hvr⟩ := sound_results hS2 hE' hrs hvs
      exact ⟨v', hv', v', m', rfl, hm, hS2, hvr⟩
    · cases hb : B d with
      | false => rfl
      | true => have := hS.size _ hb; have := hS.below.size; have := (hms d hd).1; omega
  cases ex with
  | exit id => simp [aend] at he
  | normal =>
    simp only [aend, Option.map_eq_some_iff, Prod.mk.injEq] at he
    obtain ⟨vs, hvs, rfl, rfl⟩ := he
    exact fin vs hvs rfl rfl
  | ret =>
    simp only [aend, Option.map_eq_some_iff, Prod.mk.injEq] at he
    obtain ⟨vs, hvs, rfl, rfl⟩ := he
    exact fin vs hvs rfl rfl


theorem gcX_some {n : Nat} {H : AHeap} {x : Option (AVal × AHeap)} {v : AVal} {H1 : AHeap} (h : gcX n H x = some (v, H1)) : ∃ u K, x = some (u, K) ∧ v = (gc n H u K).1 ∧ H1 = (gc n H u K).2 := by
  unfold gcX at h
  split at h
  · cases h
  · rename_i u K
    simp only [Option.some.injEq] at h
    exact ⟨u, K, rfl, by rw [h], by rw [h]⟩

theorem sound_call {A : AProg} : ∀ k w0 B, (∀ w0 B, Sound P w0 B A) → CallSound P w0 B (acall A k) := by
  intro k
  induction k with
  | zero => intro w0 B hA f args H v H' h; simp [acall] at h
  | succ k ih =>
    intro w0 B hA f args H v H' h
    simp only [acall] at h
    split at h
    · rename_i g hg
      have := (hA w0 B).ext f g hg f args H v H' (by simpa using h)
      exact this
    · split at h
      · exact sound_run (fun w0 B => ih w0 B hA) (hA w0 B).mix (hA w0 B).fn ((hA w0 B).fn f) h
      · split at h
        · rename_i hp
          obtain ⟨u, K, h1, rfl, rfl⟩ := gcX_some h
          refine ⟨(sound_run (w0 := w0) (B := B) (fun w0 B => ih w0 B hA) (hA w0 B).mix (hA w0 B).fn ((hA w0 B).fn f) h1).1, gc_up _ _ _ _, ?_⟩
          intro m w args' _ hS hargs
          obtain ⟨_, _, hcall⟩ := sound_run (w0 := w) (B := lowK w.heap.size) (fun w0 B => ih w0 B hA) (hA w0 B).mix (hA w0 B).fn ((hA w0 B).fn f) h1
          have hc := hcall _ _ args' (fun _ => rfl) (srel_none w) (forall2_imp_mem hargs fun x y hx hxy => VRel.plain x y (plains_mem hp hx) hxy)
          refine hc.mono fun e w' ⟨v', m', he, _, hS', hv'⟩ => ?_
          obtain ⟨m1, h2, h3, h4⟩ := gc_sound (n := 0) hS (fun i hi => by omega) (Nat.zero_le _) hS' hv'
          exact ⟨v', m1, he, h2, h3, h4⟩
        · cases h
      · obtain ⟨u, K, h1, rfl, rfl⟩ := gcX_some h
        refine ⟨(sound_run (w0 := w0) (B := B) (fun w0 B => ih w0 B hA) (hA w0 B).mix (hA w0 B).fn ((hA w0 B).fn f) h1).1, gc_up _ _ _ _, ?_⟩
        intro m w args' hfull hS hargs
        obtain ⟨_, _, hcall⟩ := sound_run (w0 := w) (B := lowK w.heap.size) (fun w0 B => ih w0 B hA) (hA w0 B).mix (hA w0 B).fn ((hA w0 B).fn f) h1
        have hc := hcall _ _ args' hfull (srel_frz hS) hargs
        refine hc.mono fun e w' ⟨v', m', he, hm, hS', hv'⟩ => ?_
        have hn := hS.next
        obtain ⟨m1, h2, h3, h4⟩ := gc_sound (n := H.next) hS (fun i hi => ⟨hfull.has (by omega), (hm.2 i (hfull.has (by omega))).2⟩) (by have := hm.1; omega) hS' hv'
        exact ⟨v', m1, he, h2, h3, h4⟩

end Go.Proofs.Ytfmjdlahabgkpaa.Am
end
