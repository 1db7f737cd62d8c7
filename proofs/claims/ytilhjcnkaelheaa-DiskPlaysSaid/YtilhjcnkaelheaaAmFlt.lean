/- What the abstract machine's floats answer, the model's do: any number that is none stands for each of them. -/
import Derived.Test.YtilhjcnkaelheaaAmSound2
import Derived.Test.YtilhjcnkaelheaaAmIeee
set_option linter.unusedSimpArgs false
set_option linter.unusedVariables false
namespace Go.Proofs.Ytilhjcnkaelheaa.Am
open Go Go.RowKit Ieee

variable {P : Program} {w0 w : World} {B : Nat → Bool} {m : Inj} {H H' : AHeap}

theorem fnan_iff (b : Nat) : fnan .f64 b = true ↔ ¬ Fl.num b := by
  have e : FloatKind.format .f64 = double := rfl
  unfold fnan
  rw [e]
  by_cases h : Fl.num b
  · rw [Fl.order_eq h h]; simp [h]
  · rw [Fl.order_nan (.inl h)]; simp [h]

theorem read_isnan {b : Nat} (h : ¬ Fl.num b) : ∃ s f, double.read b = .nan s f := ⟨_, _, Fl.read_nan (by unfold Fl.num at h; omega)⟩

theorem add_nan {a b : Nat} (h : ¬ Fl.num a ∨ ¬ Fl.num b) : double.add a b = none := by
  unfold Format.add
  rcases h with h | h
  · obtain ⟨s, f, e⟩ := read_isnan h; rw [e]; rfl
  · obtain ⟨s, f, e⟩ := read_isnan h; rw [e]; cases double.read a <;> rfl
theorem sub_nan {a b : Nat} (h : ¬ Fl.num a ∨ ¬ Fl.num b) : double.sub a b = none := by
  unfold Format.sub
  rcases h with h | h
  · obtain ⟨s, f, e⟩ := read_isnan h; rw [e]; rfl
  · obtain ⟨s, f, e⟩ := read_isnan h; rw [e]; cases double.read a <;> rfl
theorem mul_nan {a b : Nat} (h : ¬ Fl.num a ∨ ¬ Fl.num b) : double.mul a b = none := by
  unfold Format.mul
  rcases h with h | h
  · obtain ⟨s, f, e⟩ := read_isnan h; rw [e]; rfl
  · obtain ⟨s, f, e⟩ := read_isnan h; rw [e]; cases double.read a <;> rfl
theorem div_nan {a b : Nat} (h : ¬ Fl.num a ∨ ¬ Fl.num b) : double.div a b = none := by
  unfold Format.div
  rcases h with h | h
  · obtain ⟨s, f, e⟩ := read_isnan h; rw [e]; rfl
  · obtain ⟨s, f, e⟩ := read_isnan h; rw [e]; cases double.read a <;> rfl

/-- The same, or both none. -/
def FR (a b : Nat) : Prop := a = b ∨ (¬ Fl.num a ∧ ¬ Fl.num b)

theorem flt_rel {a : Nat} {x' : Value} (h : VRel m (.flt .f64 a) x') : ∃ b, x' = .float .f64 b ∧ FR a b := by
  cases h with
  | flt => exact ⟨_, rfl, .inl rfl⟩
  | fltNan _ _ _ h1 h2 => exact ⟨_, rfl, .inr ⟨(fnan_iff _).1 h1, (fnan_iff _).1 h2⟩⟩

theorem rel_flt {a b : Nat} (h : FR a b) : VRel m (.flt .f64 a) (.float .f64 b) := by
  rcases h with rfl | ⟨h1, h2⟩
  · exact .flt _ _
  · exact .fltNan _ _ _ ((fnan_iff _).2 h1) ((fnan_iff _).2 h2)

theorem fr_two {α : Type} {f : Nat → Nat → Option α} (hf : ∀ a b, (¬ Fl.num a ∨ ¬ Fl.num b) → f a b = none) {a a' b b' : Nat} (ha : FR a a') (hb : FR b b') : f a' b' = f a b := by
  rcases ha with rfl | ⟨h1, h2⟩
  · rcases hb with rfl | ⟨h3, h4⟩
    · rfl
    · rw [hf _ _ (.inr h3), hf _ _ (.inr h4)]
  · rw [hf _ _ (.inl h1), hf _ _ (.inl h2)]

theorem cut_nan (x y t : Nat) : ¬ Fl.num ((Question.nanBits .f64 x y).cut t) := by
  simp only [Question.cut, Fl.num, Fl.rg]
  have h1 : t % 2 < 2 := Nat.mod_lt _ (by decide)
  have h2 : t / 2 % (2 ^ 52 - 1) < 2 ^ 52 - 1 := Nat.mod_lt _ (by decide)
  generalize t / 2 % (2 ^ 52 - 1) = r at *
  generalize t % 2 = q at *
  rw [show (2:Nat) ^ 63 = 9223372036854775808 by decide]
  rw [show (2:Nat) ^ 52 - 1 = 4503599627370495 by decide] at h2
  omega

theorem s_arith (hS : SRel w0 B m H w) {f : Nat → Nat → Option Nat} (hf : ∀ a b, (¬ Fl.num a ∨ ¬ Fl.num b) → f a b = none) {a a' b b' : Nat} (ha : FR a a') (hb : FR b b') {s : Sem Value}
    (hs1 : ∀ r, f a' b' = some r → s.run P w = .ok (.float .f64 r) w) (hs2 : f a' b' = none → s.run P w = ((do pure (.float .f64 (← choose (.nanBits .f64 a' b'))) : Sem Value)).run P w) :
    DoneV w0 B m H (.flt .f64 ((f a b).getD qnan)) (s.run P w) := by
  have he := fr_two hf ha hb
  cases hr : f a b with
  | some r => rw [hs1 r (he.trans hr)]; exact DoneV.same hS (.flt _ _)
  | none =>
    rw [hs2 (he.trans hr)]
    simp only [Sem.run_bind, run_choose, Question.forced, Bool.false_eq_true, if_false, Result.andThen_ok, Sem.run_pure, Option.getD_none]
    exact ⟨_, _, m, rfl, m.les_refl, hS.drew, .fltNan _ _ _ (by decide) ((fnan_iff _).2 (cut_nan _ _ _))⟩

theorem order_none (a b : Nat) (h : ¬ Fl.num a ∨ ¬ Fl.num b) : double.order a b = none := Fl.order_nan h

theorem s_flt (hS : SRel w0 B m H w) {op : BinOp} {t : TypeId} {xo yo : Operand} {a b : Nat} {v : AVal} {x' y' : Value} (hx : VRel m (.flt .f64 a) x') (hy : VRel m (.flt .f64 b) y') (h : aflt op a b = some v) :
    DoneV w0 B m H v (((do eqGuard op t xo yo x' y'; binOp op t x' y') : Sem Value).run P w) := by
  obtain ⟨a', rfl, ha⟩ := flt_rel hx
  obtain ⟨b', rfl, hb⟩ := flt_rel hy
  have hg : (eqGuard op t xo yo (.float .f64 a') (.float .f64 b')).run P w = .ok () w := by
    unfold eqGuard; cases op <;> rfl
  simp only [Sem.run_bind, hg, Result.andThen_ok]
  have e : FloatKind.format .f64 = double := rfl
  have ho := fr_two order_none ha hb
  cases op with
  | add => simp only [aflt, Option.some.injEq] at h; subst h; exact s_arith hS (fun _ _ => add_nan) ha hb (fun r hr => by simp [binOp, Op.floatArith, e, hr]) (fun hr => by simp [binOp, Op.floatArith, e, hr])
  | sub => simp only [aflt, Option.some.injEq] at h; subst h; exact s_arith hS (fun _ _ => sub_nan) ha hb (fun r hr => by simp [binOp, Op.floatArith, e, hr]) (fun hr => by simp [binOp, Op.floatArith, e, hr])
  | mul => simp only [aflt, Option.some.injEq] at h; subst h; exact s_arith hS (fun _ _ => mul_nan) ha hb (fun r hr => by simp [binOp, Op.floatArith, e, hr]) (fun hr => by simp [binOp, Op.floatArith, e, hr])
  | quo => simp only [aflt, Option.some.injEq] at h; subst h; exact s_arith hS (fun _ _ => div_nan) ha hb (fun r hr => by simp [binOp, Op.floatArith, e, hr]) (fun hr => by simp [binOp, Op.floatArith, e, hr])
  | eql => simp only [aflt, Option.some.injEq] at h; subst h; have hr : (binOp .eql t (.float .f64 a') (.float .f64 b')).run P w = .ok (.bool (double.order a b == some .eq)) w := by simp [binOp, Op.floatCmp, e, ho]
           rw [hr]; exact DoneV.same hS (.bool _)
  | neq => simp only [aflt, Option.some.injEq] at h; subst h; have hr : (binOp .neq t (.float .f64 a') (.float .f64 b')).run P w = .ok (.bool (double.order a b != some .eq)) w := by simp [binOp, Op.floatCmp, e, ho]
           rw [hr]; exact DoneV.same hS (.bool _)
  | lss => simp only [aflt, Option.some.injEq] at h; subst h; have hr : (binOp .lss t (.float .f64 a') (.float .f64 b')).run P w = .ok (.bool (double.order a b == some .lt)) w := by simp [binOp, Op.floatCmp, e, ho]
           rw [hr]; exact DoneV.same hS (.bool _)
  | leq => simp only [aflt, Option.some.injEq] at h; subst h; have hr : (binOp .leq t (.float .f64 a') (.float .f64 b')).run P w = .ok (.bool (double.order a b == some .lt || double.order a b == some .eq)) w := by simp [binOp, Op.floatCmp, e, ho]
           rw [hr]; exact DoneV.same hS (.bool _)
  | gtr => simp only [aflt, Option.some.injEq] at h; subst h; have hr : (binOp .gtr t (.float .f64 a') (.float .f64 b')).run P w = .ok (.bool (double.order a b == some .gt)) w := by simp [binOp, Op.floatCmp, e, ho]
           rw [hr]; exact DoneV.same hS (.bool _)
  | geq => simp only [aflt, Option.some.injEq] at h; subst h; have hr : (binOp .geq t (.float .f64 a') (.float .f64 b')).run P w = .ok (.bool (double.order a b == some .gt || double.order a b == some .eq)) w := by simp [binOp, Op.floatCmp, e, ho]
           rw [hr]; exact DoneV.same hS (.bool _)
  | _ => simp [aflt] at h

theorem neg_rg (a : Nat) : Fl.rg (Op.negFloat .f64 a) = Fl.rg a := by
  have e : Op.negFloat .f64 a = a ^^^ 2 ^ 63 := rfl
  rw [e]
  unfold Fl.rg
  rw [show (9223372036854775808 : Nat) = 2 ^ 63 by decide, Nat.xor_mod_two_pow, Nat.mod_self, Nat.xor_zero]
theorem neg_num (a : Nat) : Fl.num (Op.negFloat .f64 a) ↔ Fl.num a := by
  unfold Fl.num; rw [neg_rg]

theorem s_neg {a : Nat} {x' : Value} (w : World) (hx : VRel m (.flt .f64 a) x') : ∃ v', (Op.unary .neg x').run P w = .ok v' w ∧ VRel m (.flt .f64 (Op.negFloat .f64 a)) v' := by
  obtain ⟨a', rfl, ha⟩ := flt_rel hx
  refine ⟨.float .f64 (Op.negFloat .f64 a'), by simp [Op.unary], ?_⟩
  rcases ha with rfl | ⟨h1, h2⟩
  · exact .flt _ _
  · exact rel_flt (.inr ⟨fun h => h1 ((neg_num _).1 h), fun h => h2 ((neg_num _).1 h)⟩)

theorem toInt_nan {a : Nat} (h : ¬ Fl.num a) (k : IntKind) : floatToIntVal .f64 a k = none := by
  obtain ⟨s, f, e⟩ := read_isnan h
  have e1 : FloatKind.decode .f64 a = .nan s f := e
  simp [floatToIntVal, e1, Datum.toInt, Datum.integral]

theorem s_fToI {a : Nat} {k : IntKind} {n : Int} {x' : Value} (w : World) (hx : VRel m (.flt .f64 a) x') (h : floatToIntVal .f64 a k = some n) {src dst : TypeId} {u : TypeDesc} (hs : P.underlying src = some u) (hd : P.underlying dst = some (.int k)) :
    (convert src dst x').run P w = .ok (.int k n) w := by
  obtain ⟨a', rfl, ha⟩ := flt_rel hx
  rcases ha with rfl | ⟨h1, h2⟩
  · exact run_convert_float_int w src dst .f64 k _ n (by rw [hs]; rfl) hd h
  · rw [toInt_nan h1] at h; cases h

end Go.Proofs.Ytilhjcnkaelheaa.Am
