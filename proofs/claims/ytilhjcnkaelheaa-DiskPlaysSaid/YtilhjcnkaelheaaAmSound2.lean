/- What the abstract machine's operations answer, the model's do: numbers, texts, equality, aggregates. -/
import Derived.Test.YtilhjcnkaelheaaAmSound1
set_option linter.unusedSimpArgs false
set_option linter.unusedVariables false
namespace Go.Proofs.Ytilhjcnkaelheaa.Am
open Go Go.RowKit

variable {P : Program} {w0 w : World} {B : Nat → Bool} {m : Inj} {H H' : AHeap}

theorem run_intArith {op : BinOp} {k : IntKind} {a b : Int} {v : AVal} (w : World) (t : TypeId) (h : aint op k a b = some v) (hop : op ≠ .shl ∧ op ≠ .shr) :
    ∃ v', (binOp op t (.int k a) (.int k b)).run P w = .ok v' w ∧ VRel m v v' := by
  cases op with
  | add => simp only [aint, Option.some.injEq] at h; subst h; refine ⟨_, ?_, .int _ _⟩; simp [binOp, Op.intArith]
  | sub => simp only [aint, Option.some.injEq] at h; subst h; refine ⟨_, ?_, .int _ _⟩; simp [binOp, Op.intArith]
  | mul => simp only [aint, Option.some.injEq] at h; subst h; refine ⟨_, ?_, .int _ _⟩; simp [binOp, Op.intArith]
  | quo => simp [aint] at h; obtain ⟨h0, rfl⟩ := h; refine ⟨_, ?_, .int _ _⟩; simp [binOp, Op.intDiv, h0]
  | rem => simp [aint] at h; obtain ⟨h0, rfl⟩ := h; refine ⟨_, ?_, .int _ _⟩; simp [binOp, Op.intDiv, h0]
  | and => simp only [aint, Option.some.injEq] at h; subst h; refine ⟨_, ?_, .int _ _⟩; simp [binOp, Op.intBits]
  | or => simp only [aint, Option.some.injEq] at h; subst h; refine ⟨_, ?_, .int _ _⟩; simp [binOp, Op.intBits]
  | xor => simp only [aint, Option.some.injEq] at h; subst h; refine ⟨_, ?_, .int _ _⟩; simp [binOp, Op.intBits]
  | andNot => simp only [aint, Option.some.injEq] at h; subst h; refine ⟨_, ?_, .int _ _⟩; simp [binOp, Op.intBits]
  | shl => simp at hop
  | shr => simp at hop
  | eql => simp only [aint, Option.some.injEq] at h; subst h; refine ⟨_, ?_, .bool _⟩; simp [binOp, Op.intCmp]
  | neq => simp only [aint, Option.some.injEq] at h; subst h; refine ⟨_, ?_, .bool _⟩; simp [binOp, Op.intCmp]
  | lss => simp only [aint, Option.some.injEq] at h; subst h; refine ⟨_, ?_, .bool _⟩; simp [binOp, Op.intCmp]
  | leq => simp only [aint, Option.some.injEq] at h; subst h; refine ⟨_, ?_, .bool _⟩; simp [binOp, Op.intCmp]
  | gtr => simp only [aint, Option.some.injEq] at h; subst h; refine ⟨_, ?_, .bool _⟩; simp [binOp, Op.intCmp]
  | geq => simp only [aint, Option.some.injEq] at h; subst h; refine ⟨_, ?_, .bool _⟩; simp [binOp, Op.intCmp]

theorem bytes_inj' {a b : ByteArray} (h : a.data.toList = b.data.toList) : a = b := by
  cases a; cases b; simp at h; simp [h]

theorem s_bin {op : BinOp} {t : TypeId} {xo yo : Operand} {x y v : AVal} {x' y' : Value} (w : World) (hx : VRel m x x') (hy : VRel m y y') (hnf : ∀ f g, x = .flt .f64 f → y = .flt .f64 g → False) (h : abin op x y = some v) :
    ∃ v', ((do eqGuard op t xo yo x' y'; binOp op t x' y') : Sem Value).run P w = .ok v' w ∧ VRel m v v' := by
  cases x with
  | int k a =>
    cases y with
    | int j b =>
      cases hx; cases hy
      have hg : (eqGuard op t xo yo (.int k a) (.int j b)).run P w = .ok () w := by
        unfold eqGuard; cases op <;> rfl
      simp only [Sem.run_bind, hg, Result.andThen_ok]
      by_cases h1 : op = .shl
      · subst h1
        simp [abin, ashift] at h
        obtain ⟨h0, rfl⟩ := h
        refine ⟨_, ?_, .int _ _⟩
        simp [binOp, Op.shift, show ¬ b < 0 by omega]
      · by_cases h2 : op = .shr
        · subst h2
          simp [abin, ashift] at h
          obtain ⟨h0, rfl⟩ := h
          refine ⟨_, ?_, .int _ _⟩
          simp [binOp, Op.shift, show ¬ b < 0 by omega]
        · have hkj : k = j ∧ aint op k a b = some v := by
            cases op <;> simp [abin] at h h1 h2 <;> exact h
          obtain ⟨rfl, h⟩ := hkj
          exact run_intArith w t ‹_› ⟨h1, h2⟩
    | _ => simp [abin] at h
  | str a =>
    cases y with
    | str b =>
      cases hx; cases hy
      have hg : (eqGuard op t xo yo (.string ⟨a.toArray⟩) (.string ⟨b.toArray⟩)).run P w = .ok () w := by
        unfold eqGuard; cases op <;> rfl
      simp only [Sem.run_bind, hg, Result.andThen_ok]
      have hb : binOp op t (.string ⟨a.toArray⟩) (.string ⟨b.toArray⟩) = Op.stringOp op ⟨a.toArray⟩ ⟨b.toArray⟩ := by cases op <;> rfl
      rw [hb]
      have e1 : (⟨a.toArray⟩ : ByteArray).toList = a := by rw [ByteArray.toList_eq]
      have e2 : (⟨b.toArray⟩ : ByteArray).toList = b := by rw [ByteArray.toList_eq]
      simp only [abin] at h
      cases op with
      | add =>
        simp [astr] at h
        obtain ⟨h0, rfl⟩ := h
        refine ⟨.string ⟨(a ++ b).toArray⟩, ?_, .str _⟩
        have hsz : ¬ ((((⟨a.toArray⟩ : ByteArray).size + (⟨b.toArray⟩ : ByteArray).size : Nat) : Int) > IntKind.i64.max) := by
          simp [ByteArray.size, IntKind.max, IntKind.signed, IntKind.bits]; omega
        have he : (⟨a.toArray⟩ : ByteArray) ++ ⟨b.toArray⟩ = ⟨(a ++ b).toArray⟩ := bytes_inj' (by simp)
        simp only [Op.stringOp, if_neg hsz, Sem.run_pure, he]
      | eql => simp only [astr, Option.some.injEq] at h; subst h; refine ⟨_, ?_, .bool _⟩; simp only [Op.stringOp, e1, e2, Sem.run_pure]
      | neq => simp only [astr, Option.some.injEq] at h; subst h; refine ⟨_, ?_, .bool _⟩; simp only [Op.stringOp, e1, e2, Sem.run_pure]
      | lss => simp only [astr, Option.some.injEq] at h; subst h; refine ⟨_, ?_, .bool _⟩; simp only [Op.stringOp, e1, e2, Sem.run_pure]
      | leq => simp only [astr, Option.some.injEq] at h; subst h; refine ⟨_, ?_, .bool _⟩; simp only [Op.stringOp, e1, e2, Sem.run_pure]
      | gtr => simp only [astr, Option.some.injEq] at h; subst h; refine ⟨_, ?_, .bool _⟩; simp only [Op.stringOp, e1, e2, Sem.run_pure]
      | geq => simp only [astr, Option.some.injEq] at h; subst h; refine ⟨_, ?_, .bool _⟩; simp only [Op.stringOp, e1, e2, Sem.run_pure]
      | _ => simp [astr] at h
    | _ => simp [abin] at h
  | flt k a =>
    cases y with
    | flt j b => cases k <;> cases j <;> first | exact (hnf _ _ rfl rfl).elim | simp [abin] at h
    | _ => cases k <;> simp [abin] at h
  | _ => simp [abin] at h

/-- A float turned: shown where floats are. -/
def NegOk (P : Program) (m : Inj) : Prop := ∀ (a : Nat) (x' : Value) (w : World), VRel m (.flt .f64 a) x' → ∃ v', (Op.unary .neg x').run P w = .ok v' w ∧ VRel m (.flt .f64 (Op.negFloat .f64 a)) v'
theorem s_un {op : UnOp} {x v : AVal} {x' : Value} (w : World) (hn : NegOk P m) (hx : VRel m x x') (h : aun op x = some v) : ∃ v', (Op.unary op x').run P w = .ok v' w ∧ VRel m v v' := by
  cases x with
  | int k n =>
    cases hx
    cases op with
    | neg => simp only [aun, aint, Option.some.injEq] at h; subst h; refine ⟨_, ?_, .int _ _⟩; simp [Op.unary, Op.intArith]
    | xor => simp only [aun, aint, Option.some.injEq] at h; subst h; refine ⟨_, ?_, .int _ _⟩; simp [Op.unary, Op.intBits]
    | _ => simp [aun] at h
  | bool b =>
    cases hx
    cases op with
    | not => simp only [aun, Option.some.injEq] at h; subst h; refine ⟨_, ?_, .bool _⟩; simp [Op.unary]
    | _ => simp [aun] at h
  | flt k b =>
    cases k with
    | f64 =>
      cases op with
      | neg => simp only [aun, Option.some.injEq] at h; subst h; exact hn _ _ w hx
      | _ => simp [aun] at h
    | f32 => simp [aun] at h
  | _ => simp [aun] at h

/-! ### A part of an aggregate -/
theorem s_part {t : TypeId} {g : Bool} {n off : Nat} (hg : tagg P t = some g) (hn : tsize P t = some n) {l : List AVal} {vs : List Value} (ha : All2 (VRel m) l vs) (h1 : ∀ x, x ∈ vs → x.oneCell' = true) {v : AVal}
    (h : apart g off n l = some v) (w : World) : ∃ v', (part t vs.toArray off).run P w = .ok v' w ∧ VRel m v v' := by
  simp only [part, Sem.run_bind, run_isAgg hg, Result.andThen_ok]
  simp only [apart] at h
  cases g with
  | true =>
    simp only [if_true] at h ⊢
    split at h
    · rename_i hl
      simp at h; subst h
      simp only [Sem.run_bind, run_sizeOf' hn, Result.andThen_ok, Sem.run_pure]
      refine ⟨_, rfl, ?_⟩
      have e : vs.toArray.extract off (off + n) = ((vs.drop off).take n).toArray := by simp [List.extract_eq_take_drop]
      rw [e]
      exact .agg _ _ (forall2_take (forall2_drop ha off) n) (fun x hx => h1 x (List.mem_of_mem_drop (List.mem_of_mem_take hx)))
    · simp at h
  | false =>
    simp only [Bool.false_eq_true, if_false] at h ⊢
    obtain ⟨v', hv, hr⟩ := forall2_get ha off v h
    refine ⟨v', ?_, hr⟩
    have : vs.toArray[off]? = some v' := by simpa using hv
    rw [this]
    rfl

/-! ### Equality -/
theorem eqFields_sound {d : Nat} (hd : ∀ (t : TypeId) (q : EqT), ceqt P d t = some q → ∀ (D : Nat), d ≤ D → ∀ (x y : AVal) (x' y' : Value) (b : Bool) (w : World), VRel m x x' → VRel m y y' → aeq q x y = some b → (Op.equalIn D t x' y').run P w = .ok b w)
    {xs ys : List AVal} {xs' ys' : List Value} (hx : All2 (VRel m) xs xs') (hx1 : ∀ x, x ∈ xs' → x.oneCell' = true) (hy : All2 (VRel m) ys ys') (hy1 : ∀ x, x ∈ ys' → x.oneCell' = true) {D : Nat} (hD : d ≤ D) :
    ∀ (fs : List Field) (q : EqT), cflds P (ceqt P d) fs = some q → ∀ (b : Bool) (w : World), aeq q (.agg xs) (.agg ys) = some b → (Op.eqFields D xs'.toArray ys'.toArray fs).run P w = .ok b w := by
  intro fs
  induction fs with
  | nil =>
    intro q h b w he
    simp [cflds] at h; subst h
    simp [aeq] at he; subst he
    simp [Op.eqFields]
  | cons f fs ih =>
    intro q h b w he
    simp only [cflds] at h
    split at h
    · simp at h
    · rename_i hn
      simp only [Option.bind_eq_some_iff, Option.map_eq_some_iff] at h
      obtain ⟨n, hn', g, hg, q1, hq1, r, hr, rfl⟩ := h
      simp only [aeq] at he
      split at he
      · rename_i u v hu hv
        simp only [Option.bind_eq_some_iff] at he
        obtain ⟨c, hc, he⟩ := he
        obtain ⟨u', hu', hur⟩ := s_part (P := P) hg hn' hx hx1 hu w
        obtain ⟨v', hv', hvr⟩ := s_part (P := P) hg hn' hy hy1 hv w
        have hq := hd _ _ hq1 D hD u v u' v' c w hur hvr hc
        simp only [Op.eqFields, hn, ne_eq, not_false_eq_true, if_true, Sem.run_bind, hu', hv', hq, Result.andThen_ok]
        cases c with
        | true => simp at he ⊢; exact ih r hr b w he
        | false => simp at he ⊢; exact he
      · simp at he

theorem eqItems_sound {d : Nat} {e : TypeId} {q : EqT} (hd : ∀ (D : Nat), d ≤ D → ∀ (x y : AVal) (x' y' : Value) (b : Bool) (w : World), VRel m x x' → VRel m y y' → aeq q x y = some b → (Op.equalIn D e x' y').run P w = .ok b w)
    {g : Bool} {n : Nat} (hg : tagg P e = some g) (hn : tsize P e = some n)
    {xs ys : List AVal} {xs' ys' : List Value} (hx : All2 (VRel m) xs xs') (hx1 : ∀ x, x ∈ xs' → x.oneCell' = true) (hy : All2 (VRel m) ys ys') (hy1 : ∀ x, x ∈ ys' → x.oneCell' = true) {D : Nat} (hD : d ≤ D) :
    ∀ (k i : Nat) (b : Bool) (w : World), aeqArr (aeq q) n g xs ys k i = some b → (Op.eqItems D e n xs'.toArray ys'.toArray (List.range' i k)).run P w = .ok b w
  | 0, i, b, w, he => by simp [aeqArr] at he; subst he; simp [Op.eqItems]
  | k + 1, i, b, w, he => by
    simp only [aeqArr] at he
    split at he
    · rename_i u v hu hv
      simp only [Option.bind_eq_some_iff] at he
      obtain ⟨c, hc, he⟩ := he
      obtain ⟨u', hu', hur⟩ := s_part (P := P) hg hn hx hx1 hu w
      obtain ⟨v', hv', hvr⟩ := s_part (P := P) hg hn hy hy1 hv w
      have hq := hd D hD u v u' v' c w hur hvr hc
      simp only [List.range'_succ, Op.eqItems, Sem.run_bind, hu', hv', hq, Result.andThen_ok]
      cases c with
      | true => simp at he ⊢; exact eqItems_sound hd hg hn hx hx1 hy hy1 hD k (i + 1) b w he
      | false => simp at he ⊢; exact he
    · simp at he

theorem eqt_sound : ∀ (d : Nat) (t : TypeId) (q : EqT), ceqt P d t = some q → ∀ (D : Nat), d ≤ D → ∀ (x y : AVal) (x' y' : Value) (b : Bool) (w : World), VRel m x x' → VRel m y y' → aeq q x y = some b → (Op.equalIn D t x' y').run P w = .ok b w
  | 0, t, q, h, _, _, _, _, _, _, _, _, _, _, _ => by simp [ceqt] at h
  | d + 1, t, q, h, D, hD, x, y, x', y', b, w, hx, hy, he => by
    obtain ⟨D, rfl⟩ : ∃ k, D = k + 1 := ⟨D - 1, by omega⟩
    simp only [ceqt, Option.bind_eq_some_iff] at h
    obtain ⟨u, hu, h⟩ := h
    cases u with
    | int k =>
      simp at h; subst h
      simp only [Op.equalIn, Sem.run_bind, run_underlying hu, Result.andThen_ok]
      cases x with
      | int k1 a =>
        cases y with
        | int k2 b =>
          cases hx; cases hy
          simp [aeq] at he
          obtain ⟨⟨rfl, rfl⟩, rfl⟩ := he
          simp
        | _ => simp [aeq] at he
      | _ => simp [aeq] at he
    | string =>
      simp at h; subst h
      simp only [Op.equalIn, Sem.run_bind, run_underlying hu, Result.andThen_ok]
      cases x with
      | str a =>
        cases y with
        | str b =>
          cases hx; cases hy
          simp [aeq] at he
          subst he
          simp only [Sem.run_pure]
          congr 1
          rw [beq_toListBytes, ByteArray.toList_eq, ByteArray.toList_eq]
        | _ => simp [aeq] at he
      | _ => simp [aeq] at he
    | bool =>
      simp at h; subst h
      simp only [Op.equalIn, Sem.run_bind, run_underlying hu, Result.andThen_ok]
      cases x with
      | bool a =>
        cases y with
        | bool b =>
          cases hx; cases hy
          simp [aeq] at he
          subst he
          simp
        | _ => simp [aeq] at he
      | _ => simp [aeq] at he
    | pointer e =>
      simp at h; subst h
      simp only [Op.equalIn, Sem.run_bind, run_underlying hu, Result.andThen_ok]
      cases x <;> simp [aeq, aeqNil] at he <;> cases y <;> simp [aeqNil] at he <;> subst he <;> cases hx <;> cases hy <;> simp
    | slice e =>
      simp at h; subst h
      simp only [Op.equalIn, Sem.run_bind, run_underlying hu, Result.andThen_ok]
      cases x <;> simp [aeq, aeqNil] at he <;> cases y <;> simp [aeqNil] at he <;> subst he <;> cases hx <;> cases hy <;> simp
    | map k e =>
      simp at h; subst h
      simp only [Op.equalIn, Sem.run_bind, run_underlying hu, Result.andThen_ok]
      cases x <;> simp [aeq, aeqNil] at he <;> cases y <;> simp [aeqNil] at he <;> subst he <;> cases hx <;> cases hy <;> simp
    | func _ _ _ =>
      simp at h; subst h
      simp only [Op.equalIn, Sem.run_bind, run_underlying hu, Result.andThen_ok]
      cases x <;> simp [aeq, aeqNil] at he <;> cases y <;> simp [aeqNil] at he <;> subst he <;> cases hx <;> cases hy <;> simp
    | struct fs =>
      simp only at h
      split at h
      · simp at h
      · rename_i hst
        simp at hst
        have hfs : P.fieldsOf t = fs := by simp [Program.fieldsOf, hu]
        have hagg : ∃ xs ys, x = .agg xs ∧ y = .agg ys := by
          generalize hl : fs.toList = l at h
          cases l with
          | nil => simp [cflds] at h; subst h; cases x <;> simp [aeq] at he <;> cases y <;> simp [aeq] at he; exact ⟨_, _, rfl, rfl⟩
          | cons f l =>
            simp only [cflds] at h
            split at h
            · simp at h
            · simp only [Option.bind_eq_some_iff, Option.map_eq_some_iff] at h
              obtain ⟨_, _, _, _, _, _, _, _, rfl⟩ := h
              cases x <;> simp only [aeq, reduceCtorEq] at he
              cases y <;> simp only [aeq, reduceCtorEq] at he
              exact ⟨_, _, rfl, rfl⟩
        obtain ⟨xs, ys, rfl, rfl⟩ := hagg
        cases hx with
        | agg _ xs' hx hx1 =>
          cases hy with
          | agg _ ys' hy hy1 =>
            rw [run_equalIn_struct w D t _ _ (by rw [hfs]; exact hu) hst.1, hfs]
            exact eqFields_sound (eqt_sound d) hx hx1 hy hy1 (by omega) fs.toList q h b w he
    | array n e =>
      simp only at h
      split at h
      · simp at h
      · simp only [Option.bind_eq_some_iff, Option.map_eq_some_iff] at h
        obtain ⟨es, hes, g, hg, q1, hq1, rfl⟩ := h
        cases x <;> simp only [aeq, reduceCtorEq] at he
        cases y <;> simp only [aeq, reduceCtorEq] at he
        cases hx with
        | agg _ xs' hx hx1 =>
          cases hy with
          | agg _ ys' hy hy1 =>
            have hi : ∃ i, P.info? e = some i ∧ i.size = es := by simpa [tsize, Option.map_eq_some_iff] using hes
            obtain ⟨i, hi, his⟩ := hi
            have hc : P.cellsOf e = es := by simp [Program.cellsOf, hi, his]
            rw [run_equalIn_array w D _ _ hu hi, hc, List.range_eq_range']
            exact eqItems_sound (fun D' hD' => eqt_sound d e q1 hq1 D' hD') hg hes hx hx1 hy hy1 (by omega) n 0 b w he
    | _ => simp at h

theorem aeq_junk (q : EqT) (y : AVal) : aeq q .junk y = none := by
  cases q with
  | nil k => cases k <;> rfl
  | _ => rfl

theorem aeq_any (q : EqT) (y : AVal) : aeq q .any y = none := by
  cases q with
  | nil k => cases k <;> rfl
  | _ => rfl

theorem ceqt_guard {d : Nat} {t : TypeId} {q : EqT} (h : ceqt P (d + 1) t = some q) {op : BinOp} {xo yo : Operand} {x y : AVal} {x' y' : Value} (hx : VRel m x x') (hy : VRel m y y') {b : Bool} (he : aeq q x y = some b) (w : World) :
    (eqGuard op t xo yo x' y').run P w = .ok () w := by
  have hxj : x ≠ .junk := by intro hh; subst hh; rw [aeq_junk] at he; cases he
  have hxn : x ≠ .any := by intro hh; subst hh; rw [aeq_any] at he; cases he
  have hnil : x' ≠ .nilIface := by
    intro hh; subst hh
    cases hx with
    | junk => exact absurd rfl hxj
    | any => exact absurd rfl hxn
    | nilIface =>
      cases q with
      | nil k => cases k <;> simp [aeq, aeqNil] at he
      | _ => simp [aeq] at he
  have hagg : ∀ c, x' = .agg c → P.eqGuardType P.depth t = false := by
    intro c hh; subst hh
    simp only [ceqt, Option.bind_eq_some_iff] at h
    obtain ⟨u, hu, h⟩ := h
    have hxa : ∃ l, x = .agg l := by
      cases hx with
      | junk => exact absurd rfl hxj
      | any => exact absurd rfl hxn
      | agg l => exact ⟨l, rfl⟩
    obtain ⟨l, rfl⟩ := hxa
    cases u <;> simp at h
    case int => subst h; simp [aeq] at he
    case string => subst h; simp [aeq] at he
    case bool => subst h; simp [aeq] at he
    case pointer => subst h; simp [aeq, aeqNil] at he
    case slice => subst h; simp [aeq, aeqNil] at he
    case map => subst h; simp [aeq, aeqNil] at he
    case func => subst h; simp [aeq, aeqNil] at he
    case struct => exact h.1.2
    case array => exact h.1
  unfold eqGuard
  cases op with
  | eql =>
    simp only [Bool.not_true, Bool.false_eq_true, if_false]
    split
    · exact absurd rfl hnil
    · simp [hagg _ rfl]
    · rfl
  | neq =>
    simp only [Bool.not_true, Bool.false_eq_true, if_false]
    split
    · exact absurd rfl hnil
    · simp [hagg _ rfl]
    · rfl
  | _ => rfl

theorem binOp_eql {t : TypeId} {x' y' : Value} (h1 : ∀ k n, x' ≠ .int k n) (h2 : ∀ s, x' ≠ .string s) (h3 : ∀ k b, x' ≠ .float k b) (h4 : ∀ k a b, x' ≠ .complex k a b) :
    binOp .eql t x' y' = (do pure (.bool (← Op.equal t x' y'))) ∧ binOp .neq t x' y' = (do pure (.bool (!(← Op.equal t x' y')))) := by
  cases x' with
  | int k n => exact absurd rfl (h1 k n)
  | string s => exact absurd rfl (h2 s)
  | float k b => exact absurd rfl (h3 k b)
  | complex k a b => exact absurd rfl (h4 k a b)
  | _ => exact ⟨rfl, rfl⟩

theorem ceqt_shape {d : Nat} {t : TypeId} {q : EqT} (h : ceqt P (d + 1) t = some q) (hk : ∀ u, P.underlying t = some u → (∀ k, u ≠ .int k) ∧ u ≠ .string) : (∀ k, q ≠ .int k) ∧ q ≠ .str := by
  simp only [ceqt, Option.bind_eq_some_iff] at h
  obtain ⟨u, hu, h⟩ := h
  have hn := hk u hu
  cases u with
  | int k => exact absurd rfl (hn.1 k)
  | string => exact absurd rfl hn.2
  | bool => simp at h; subst h; simp
  | pointer _ => simp at h; subst h; simp
  | slice _ => simp at h; subst h; simp
  | map _ _ => simp at h; subst h; simp
  | func _ _ _ => simp at h; subst h; simp
  | struct fs =>
    simp only at h
    split at h
    · simp at h
    · generalize fs.toList = l at h
      cases l with
      | nil => simp [cflds] at h; subst h; simp
      | cons f l =>
        simp only [cflds] at h
        split at h
        · simp at h
        · simp only [Option.bind_eq_some_iff, Option.map_eq_some_iff] at h
          obtain ⟨_, _, _, _, _, _, _, _, rfl⟩ := h
          simp
  | array n e =>
    simp only at h
    split at h
    · simp at h
    · simp only [Option.bind_eq_some_iff, Option.map_eq_some_iff] at h
      obtain ⟨_, _, _, _, _, _, rfl⟩ := h
      simp
  | _ => simp at h

theorem s_eq {neg : Bool} {t : TypeId} {q : EqT} (h : ceqt P 12 t = some q) {xo yo : Operand} {x y : AVal} {x' y' : Value} (hx : VRel m x x') (hy : VRel m y y') {b : Bool} (he : aeq q x y = some b)
    (hk : ∀ u, P.underlying t = some u → (∀ k, u ≠ .int k) ∧ u ≠ .string) (w : World) {op : BinOp} (hop : op = if neg then .neq else .eql) :
    ((do eqGuard op t xo yo x' y'; binOp op t x' y') : Sem Value).run P w = .ok (.bool (if neg then !b else b)) w := by
  simp only [Sem.run_bind, ceqt_guard h hx hy he w, Result.andThen_ok]
  have heq : (Op.equal t x' y').run P w = .ok b w := eqt_sound 12 t q h Op.maxDepth (by decide) x y x' y' b w hx hy he
  have hq := ceqt_shape h hk
  have h1 : ∀ k n, x ≠ .int k n := by
    intro k n hh; subst hh
    cases q with
    | int j => exact hq.1 j rfl
    | nil k => cases k <;> simp [aeq, aeqNil] at he
    | _ => simp [aeq] at he
  have h2 : ∀ s, x ≠ .str s := by
    intro s hh; subst hh
    cases q with
    | str => exact hq.2 rfl
    | nil k => cases k <;> simp [aeq, aeqNil] at he
    | _ => simp [aeq] at he
  have h3 : ∀ k s, x ≠ .flt k s := by
    intro k s hh; subst hh
    cases q with
    | nil k => cases k <;> simp [aeq, aeqNil] at he
    | _ => simp [aeq] at he
  have hxj : x ≠ .junk := by intro hh; subst hh; rw [aeq_junk] at he; cases he
  have hxn : x ≠ .any := by intro hh; subst hh; rw [aeq_any] at he; cases he
  obtain ⟨e1, e2⟩ := binOp_eql (t := t) (x' := x') (y' := y') (by
      intro k n hh; subst hh
      cases hx with
      | junk => exact hxj rfl
      | any => exact hxn rfl
      | int => exact h1 _ _ rfl) (by
      intro s hh; subst hh
      cases hx with
      | junk => exact hxj rfl
      | any => exact hxn rfl
      | str => exact h2 _ rfl)
    (by
      intro k s hh; subst hh
      cases hx with
      | junk => exact hxj rfl
      | any => exact hxn rfl
      | flt => exact h3 _ _ rfl
      | fltNan => exact h3 _ _ rfl) (by
      intro k a b hh; subst hh
      cases hx with
      | junk => exact hxj rfl
      | any => exact hxn rfl)
  subst hop
  cases neg with
  | true => rw [if_pos rfl, e2]; simp [heq]
  | false => simp only [Bool.false_eq_true, if_false]; rw [e1]; simp [heq]

end Go.Proofs.Ytilhjcnkaelheaa.Am
