/- What the abstract machine's operations answer, the model's do: slices, indexes, append, copy, clear, make. -/
import Derived.Test.YtilhjcnkaelheaaAmSound2
set_option linter.unusedSimpArgs false
set_option linter.unusedVariables false
namespace Go.Proofs.Ytilhjcnkaelheaa.Am
open Go Go.RowKit

variable {P : Program} {w0 w : World} {B : Nat → Bool} {m : Inj} {H H' : AHeap}

/-- An operand that may be left out. -/
inductive OptRel (m : Inj) : Option AVal → Option Value → Prop where
  | none : OptRel m none none
  | some {x : AVal} {x' : Value} : VRel m x x' → OptRel m (some x) (some x')

theorem copdo_rel {nt : Nat} {env : Env} {a : Act} (hE : ERel m nt env a) {x : Option Operand} {y : Option AOpd} (h : copdo nt x = some y) : OptRel m (y.map (aev env)) (x.map a.eval) := by
  cases x with
  | none => simp [copdo] at h; subst h; exact .none
  | some x =>
    simp only [copdo, Option.map_eq_some_iff] at h
    obtain ⟨u, hu, rfl⟩ := h
    exact .some (copd_rel hE hu)

theorem s_bound {x : AVal} {x' : Value} (hx : VRel m x x') {d y y' r : Nat} (h : abound (some x) d y = some r) (hy : y ≤ y') (code : BoundsCode) (w : World) : (Instr.sliceBound x' y' code).run P w = .ok r w ∧ r ≤ y := by
  cases x with
  | int k i =>
    cases hx
    simp only [abound] at h
    split at h
    · rename_i hi
      simp at h; subst h
      refine ⟨?_, by omega⟩
      simp only [Instr.sliceBound, asIntOf, Sem.run_bind, Sem.run_pure, Result.andThen_ok]
      rw [if_pos ⟨hi.1, by omega⟩]
      rfl
    · simp at h
  | _ => simp [abound] at h

theorem s_bounds {len cap c' : Nat} {lo hi mx : Option AVal} {lo' hi' mx' : Option Value} (hlo : OptRel m lo lo') (hhi : OptRel m hi hi') (hmx : OptRel m mx mx') {l h mm : Nat} (hb : abounds len cap lo hi mx = some (l, h, mm)) (hc : cap ≤ c') (hlen : len ≤ cap) (isSlice : Bool) (w : World) :
    ∃ m', (Instr.sliceBounds isSlice len c' lo' hi' mx').run P w = .ok (l, h, m') w ∧ (mx.isSome = true → m' = mm) ∧ (mx.isSome = false → mm = cap ∧ m' = c') ∧ l ≤ h ∧ h ≤ mm ∧ mm ≤ cap := by
  simp only [abounds, Option.bind_eq_some_iff] at hb
  obtain ⟨m1, hm1, h1, hh1, l1, hl1, hb⟩ := hb
  split at hb
  · simp at hb
  · rename_i hnn
    simp at hb
    obtain ⟨rfl, rfl, rfl⟩ := hb
    have hl : ∀ code, ((match lo' with | some v => Instr.sliceBound v h1 code | none => pure 0) : Sem Nat).run P w = .ok l1 w ∧ l1 ≤ h1 := by
      intro code
      cases hlo with
      | none => simp [abound] at hl1; subst hl1; exact ⟨rfl, Nat.zero_le _⟩
      | some hx => exact s_bound hx hl1 (Nat.le_refl _) code w
    cases hmx with
    | none =>
      simp [abound] at hm1; subst hm1
      refine ⟨c', ?_, by simp, fun _ => ⟨rfl, rfl⟩, (hl .sliceB).2, ?_, Nat.le_refl _⟩
      · cases hhi with
        | none =>
          simp [abound] at hh1; subst hh1
          simp only [Instr.sliceBounds, Sem.run_bind, Sem.run_pure, Result.andThen_ok, Option.isSome_none, Bool.false_eq_true, if_false]
          have hl0 := hl .sliceB
          cases lo' with
          | none => simp only [Sem.run_pure] at hl0; simp at hl0; simp only [Sem.run_bind, Sem.run_pure, Result.andThen_ok, hl0.1]
          | some v => simp only at hl0; simp only [Sem.run_bind, Sem.run_pure, Result.andThen_ok, hl0.1]
        | some hx =>
          simp at hh1
          have := fun code => s_bound (P := P) hx hh1 hc code w
          simp only [Instr.sliceBounds, Sem.run_bind, Sem.run_pure, Result.andThen_ok, Option.isSome_none, Bool.false_eq_true, if_false, (this _).1]
          have hl0 := hl .sliceB
          cases lo' with
          | none => simp only [Sem.run_pure] at hl0; simp at hl0; simp only [Sem.run_bind, Sem.run_pure, Result.andThen_ok, hl0.1]
          | some v => simp only at hl0; simp only [Sem.run_bind, Sem.run_pure, Result.andThen_ok, hl0.1]
      · cases hhi with
        | none => simp [abound] at hh1; omega
        | some hx =>
          simp at hh1
          exact (s_bound (P := P) hx hh1 (Nat.le_refl _) .sliceB w).2
    | some hx =>
      have hm := fun code => s_bound (P := P) hx hm1 hc code w
      cases hhi with
      | none => simp at hnn
      | some hy =>
        simp at hh1
        have hh := fun code => s_bound (P := P) hy hh1 (Nat.le_refl _) code w
        refine ⟨m1, ?_, fun _ => rfl, by simp, (hl .sliceB).2, (hh .sliceB).2, (hm .sliceB).2⟩
        simp only [Instr.sliceBounds, Sem.run_bind, Sem.run_pure, Result.andThen_ok, Option.isSome_some, if_true, (hm _).1, (hh _).1]
        have hl0 := hl .slice3C
        cases lo' with
        | none => simp only [Sem.run_pure] at hl0; simp at hl0; simp only [Sem.run_bind, Sem.run_pure, Result.andThen_ok, hl0.1]
        | some v => simp only at hl0; simp only [Sem.run_bind, Sem.run_pure, Result.andThen_ok, hl0.1]

theorem s_slc {t e : TypeId} {es : Nat} (ht : P.underlying t = some (.slice e)) (hes : tsize P e = some es) {x v : AVal} {x' : Value} (hx : VRel m x x') {lo hi mx : Option AVal} {lo' hi' mx' : Option Value} (hlo : OptRel m lo lo') (hhi : OptRel m hi hi') (hmx : OptRel m mx mx')
    (h : aslc es x lo hi mx = some v) (w : World) : ∃ v', (Instr.sliceAt t x' lo' hi' mx').run P w = .ok v' w ∧ VRel m v v' := by
  simp only [Instr.sliceAt, Sem.run_bind, run_underlying ht, Result.andThen_ok, Instr.slice]
  cases hx with
  | nils =>
    simp only [aslc, Option.map_eq_some_iff] at h
    obtain ⟨⟨l, h0, mm⟩, hb, rfl⟩ := h
    obtain ⟨m', hr, hm1, hm2, hlh, hhm, hmc⟩ := s_bounds (P := P) hlo hhi hmx hb (Nat.le_refl _) (Nat.le_refl _) true w
    have h1 : h0 = 0 := by omega
    have h2 : l = 0 := by omega
    have h3 : m' = 0 := by
      cases hs : mx.isSome with
      | true => rw [hm1 hs]; omega
      | false => exact (hm2 hs).2
    subst h1 h2 h3
    simp only [Sem.run_bind, run_underlying ht, Result.andThen_ok, hr, run_sizeOf' hes, Sem.run_pure]
    exact ⟨_, rfl, by simpa using VRel.nils⟩
  | slice id off len cap g a' c' hid hlc hcc hg hge ho =>
    simp only [aslc, Option.bind_eq_some_iff] at h
    obtain ⟨⟨l, h0, mm⟩, hb, h⟩ := h
    obtain ⟨m', hr, hm1, hm2, hlh, hhm, hmc⟩ := s_bounds (P := P) hlo hhi hmx hb hcc hlc true w
    simp only [Sem.run_bind, run_underlying ht, Result.andThen_ok, hr, run_sizeOf' hes, Sem.run_pure]
    refine ⟨_, rfl, ?_⟩
    simp only [Option.map_some]
    -- a result whose capacity is known
    have exact_ : ∀ (hm' : m' = mm), VRel m (.slice id (if mm = l then off else off + l * es) (h0 - l) (mm - l) none)
        (.slice (if m' = l then some a' else some (a'.add (l * es))) (h0 - l) (m' - l)) := by
      intro hm'
      subst hm'
      by_cases hml : m' = l
      · simp only [hml, if_true]
        refine .slice _ _ _ _ _ _ _ hid (by omega) (Nat.le_refl _) (fun _ => rfl) (by simp) ?_
        rcases ho with ho | ho
        · exact .inl ho
        · exact .inr (by omega)
      · simp only [hml, if_false]
        refine .slice _ _ _ _ _ _ _ hid (by omega) (Nat.le_refl _) (fun _ => rfl) (by simp) ?_
        rcases ho with ho | ho
        · exact .inl (by rw [ho, addr_add, Nat.add_assoc])
        · exact .inr (by omega)
    cases g with
    | none =>
      simp at h; subst h
      refine exact_ ?_
      cases hs : mx.isSome with
      | true => exact hm1 hs
      | false => rw [(hm2 hs).1, (hm2 hs).2]; exact hg rfl
    | some e' =>
      simp only at h
      split at h
      · rename_i hee
        obtain ⟨rfl, hpos⟩ := hee
        cases hs : mx.isSome with
        | true =>
          simp [hs] at h; subst h
          exact exact_ (hm1 hs)
        | false =>
          simp [hs] at h; subst h
          obtain ⟨rfl, rfl⟩ := hm2 hs
          have htot := hge _ rfl
          by_cases hml : m' = l
          · simp only [hml, if_true]
            refine .slice _ _ _ _ _ _ _ hid (by omega) (by omega) (by simp) ?_ (.inr ⟨by omega, by omega⟩)
            intro e1 he1
            simp at he1; subst he1
            simp only [hml] at htot
            have : l - l = 0 := by omega
            rw [this]; omega
          · simp only [hml, if_false]
            refine .slice _ _ _ _ _ _ _ hid (by omega) (by omega) (by simp) ?_ ?_
            · intro e1 he1
              simp at he1; subst he1
              have : l * e' + (m' - l) * e' = m' * e' := by rw [← Nat.add_mul]; congr 1; omega
              omega
            · rcases ho with ho | ho
              · exact .inl (by rw [ho, addr_add, Nat.add_assoc])
              · exact .inr (by omega)
      · simp at h
  | _ => simp [aslc] at h

theorem s_slcArr {n es : Nat} {x v : AVal} {x' : Value} (hx : VRel m x x') {lo hi mx : Option AVal} {lo' hi' mx' : Option Value} (hlo : OptRel m lo lo') (hhi : OptRel m hi hi') (hmx : OptRel m mx mx')
    (h : aslcArr n es x lo hi mx = some v) (w : World) : ∃ a l h0 mm, x' = .pointer (some a) ∧ (Instr.sliceBounds false n n lo' hi' mx').run P w = .ok (l, h0, mm) w ∧ VRel m v (.slice (some (if mm = l then a else a.add (l * es))) (h0 - l) (mm - l)) := by
  cases hx with
  | ptr id off hid =>
    simp only [aslcArr, Option.map_eq_some_iff] at h
    obtain ⟨⟨l, h0, mm⟩, hb, rfl⟩ := h
    obtain ⟨m', hr, hm1, hm2, hlh, hhm, hmc⟩ := s_bounds (P := P) hlo hhi hmx hb (Nat.le_refl _) (Nat.le_refl _) false w
    have hm' : m' = mm := by
      cases hs : mx.isSome with
      | true => exact hm1 hs
      | false => rw [(hm2 hs).1, (hm2 hs).2]
    subst hm'
    refine ⟨_, l, h0, m', rfl, hr, ?_⟩
    by_cases hml : m' = l
    · simp only [hml, if_true]
      exact .slice _ _ _ _ _ _ _ hid (by omega) (Nat.le_refl _) (fun _ => rfl) (by simp) (.inl rfl)
    · simp only [hml, if_false, addr_add]
      exact .slice _ _ _ _ _ _ _ hid (by omega) (Nat.le_refl _) (fun _ => rfl) (by simp) (.inl (by rw [Nat.add_assoc]))
  | _ => simp [aslcArr] at h

theorem s_slcStr {t : TypeId} (ht : P.underlying t = some .string) {s : List UInt8} {lo hi : Option AVal} {lo' hi' : Option Value} (hlo : OptRel m lo lo') (hhi : OptRel m hi hi') {l h0 mm : Nat}
    (h : abounds s.length s.length lo hi none = some (l, h0, mm)) (w : World) : ∃ v', (Instr.sliceAt t (.string ⟨s.toArray⟩) lo' hi' none).run P w = .ok v' w ∧ VRel m (.str ((s.take h0).drop l)) v' := by
  obtain ⟨m', hr, hm1, hm2, hlh, hhm, hmc⟩ := s_bounds (P := P) hlo hhi .none h (Nat.le_refl _) (Nat.le_refl _) false w
  have hsz : (⟨s.toArray⟩ : ByteArray).size = s.length := rfl
  simp only [Instr.sliceAt, Sem.run_bind, run_underlying ht, Result.andThen_ok, Instr.slice, Option.isSome_none, Bool.false_eq_true, if_false, Sem.run_pure, hsz, hr]
  refine ⟨_, rfl, ?_⟩
  have : (⟨s.toArray⟩ : ByteArray).extract l h0 = ⟨((s.take h0).drop l).toArray⟩ := bytes_inj' (by simp [List.extract_eq_take_drop, List.drop_take])
  rw [this]
  exact .str _

/-! ### Indexes -/
theorem s_idx {n i : Nat} {x : AVal} {x' : Value} (hx : VRel m x x') (h : aidx n x = some i) : ∃ k j, x' = .int k j ∧ 0 ≤ j ∧ j < n ∧ j.toNat = i ∧ i < n := by
  cases hx <;> simp [aidx] at h
  obtain ⟨⟨h1, h2⟩, h3⟩ := h
  exact ⟨_, _, rfl, h1, h2, h3, by omega⟩

theorem s_idxAArr {t e : TypeId} {n es : Nat} (ht : P.underlying t = some (.array n e)) (hes : tsize P e = some es) {id o i : Nat} (hid : m.has id) {y : AVal} {y' : Value} (hy : VRel m y y') (h : aidx n y = some i) (w : World) :
    ∃ v', (Instr.indexAt t (.pointer (some ⟨(m.loc id).block, (m.loc id).off + o, none⟩)) y').run P w = .ok v' w ∧ VRel m (.ptr id (o + i * es)) v' := by
  obtain ⟨k, j, rfl, h1, h2, h3, _⟩ := s_idx hy h
  simp only [Instr.indexAt, asIntOf, Sem.run_bind, Sem.run_pure, Result.andThen_ok, run_underlying ht, Instr.sureAddr, run_sizeOf' hes]
  rw [if_pos ⟨h1, h2⟩]
  simp only [Sem.run_bind, Sem.run_pure, Result.andThen_ok, run_sizeOf' hes, addr_add, h3]
  refine ⟨_, rfl, ?_⟩
  rw [Nat.add_assoc]
  exact .ptr _ _ hid

theorem s_idxASl {t e : TypeId} {es : Nat} (ht : P.underlying t = some (.slice e)) (hes : tsize P e = some es) {id o len cap i : Nat} {g : Option Nat} {x' : Value} (hx : VRel m (.slice id o len cap g) x') {y : AVal} {y' : Value} (hy : VRel m y y') (h : aidx len y = some i) (w : World) :
    ∃ v', (Instr.indexAt t x' y').run P w = .ok v' w ∧ VRel m (.ptr id (o + i * es)) v' := by
  obtain ⟨k, j, rfl, h1, h2, h3, h4⟩ := s_idx hy h
  cases hx with
  | slice _ _ _ _ _ a' c' hid hlc hcc hg hge ho =>
    have ho : a' = ⟨(m.loc id).block, (m.loc id).off + o, none⟩ := by
      rcases ho with ho | ho
      · exact ho
      · omega
    subst ho
    simp only [Instr.indexAt, asIntOf, Sem.run_bind, Sem.run_pure, Result.andThen_ok, run_underlying ht, Instr.sureAddr, run_sizeOf' hes]
    rw [if_pos ⟨h1, h2⟩]
    simp only [Sem.run_bind, Sem.run_pure, Result.andThen_ok, run_sizeOf' hes, addr_add, h3]
    refine ⟨_, rfl, ?_⟩
    rw [Nat.add_assoc]
    exact .ptr _ _ hid

theorem s_idxArr {t e : TypeId} {n es : Nat} {g : Bool} (ht : P.underlying t = some (.array n e)) (hes : tsize P e = some es) (hg : tagg P e = some g) {l : List AVal} {x' : Value} (hx : VRel m (.agg l) x') {i : Nat} {y v : AVal} {y' : Value} (hy : VRel m y y') (h : aidx n y = some i)
    (hp : apart g (i * es) es l = some v) (w : World) : ∃ v', (Instr.index t x' y').run P w = .ok v' w ∧ VRel m v v' := by
  obtain ⟨k, j, rfl, h1, h2, h3, h4⟩ := s_idx hy h
  cases hx with
  | agg _ l' ha h1' =>
    obtain ⟨v', hv, hr⟩ := s_part (P := P) hg hes ha h1' hp w
    refine ⟨v', ?_, hr⟩
    simp only [Instr.index, asIntOf, Sem.run_bind, Sem.run_pure, Result.andThen_ok, run_underlying ht]
    rw [if_pos ⟨h1, h2⟩]
    simp only [Sem.run_bind, run_sizeOf' hes, Result.andThen_ok, h3]
    exact hv

theorem s_idxStr {t : TypeId} (ht : P.underlying t = some .string) {s : List UInt8} {i : Nat} {b : UInt8} {y : AVal} {y' : Value} (hy : VRel m y y') (h : aidx s.length y = some i) (hb : s[i]? = some b) (w : World) :
    (Instr.index t (.string ⟨s.toArray⟩) y').run P w = .ok (.int .u8 (b.toNat : Int)) w := by
  obtain ⟨k, j, rfl, h1, h2, h3, h4⟩ := s_idx hy h
  simp only [Instr.index, asIntOf, Sem.run_bind, Sem.run_pure, Result.andThen_ok, run_underlying ht]
  have : (⟨s.toArray⟩ : ByteArray)[j.toNat]? = some b := by
    rw [h3]
    show (if h : i < (⟨s.toArray⟩ : ByteArray).size then some ((⟨s.toArray⟩ : ByteArray)[i]'h) else none) = some b
    rw [dif_pos (show i < (⟨s.toArray⟩ : ByteArray).size from h4)]
    rw [List.getElem?_eq_getElem h4] at hb
    exact hb
  simp only [h1, if_true, this]
  rfl

end Go.Proofs.Ytilhjcnkaelheaa.Am
