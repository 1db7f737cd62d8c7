/- What the abstract machine's operations answer, the model's do: copy, clear, build, min and max. -/
import Derived.Test.YtilhjcnkaelheaaAmSound5
import Derived.Test.YtilhjcnkaelheaaAmZero
set_option linter.unusedSimpArgs false
set_option linter.unusedVariables false
namespace Go.Proofs.Ytilhjcnkaelheaa.Am
open Go Go.RowKit

variable {P : Program} {w0 w : World} {B : Nat → Bool} {m : Inj} {H H' : AHeap}

theorem AHeap.set_same {H : AHeap} {id : Nat} {o : AObj} (h : H.obj id = some o) : H.set id o = H := by
  cases H with
  | mk obj next =>
    simp only [AHeap.set, AHeap.mk.injEq, and_true]
    funext i
    by_cases hi : i = id
    · subst hi; simp at h; simp [h]
    · simp [hi]

theorem acells_le {es n : Nat} {x : AVal} {cs : List AVal} (h : acells H es n x = some cs) : cs.length ≤ n * es := by
  cases x with
  | nils => simp [acells] at h; subst h; simp
  | str s =>
    simp only [acells] at h
    split at h
    · rename_i hc
      simp only [Option.some.injEq] at h
      subst h
      rw [hc.2]
      simp
      omega
    · simp at h
  | slice id off len cap g => exact Nat.le_of_eq (acells_length h (.inr ⟨_, _, _, _, _, rfl⟩))
  | _ => simp [acells] at h

theorem s_copy (hS : SRel w0 B m H w) {t t' ty e : TypeId} {es : Nat} (ht : P.underlying t = some (.slice e)) (hes : tsize P e = some es) {d s v : AVal} {d' s' : Value} (hd : VRel m d d') (hs : VRel m s s') (h : acopy H es d s = some (v, H')) :
    DoneV w0 B m H' v ((Builtin.copy_ #[t, t'] ty #[d', s']).run P w) := by
  simp only [acopy, Option.bind_eq_some_iff] at h
  obtain ⟨n, hn, dl, hdl, new, hnew, h⟩ := h
  have hlen := s_len (P := P) hs hn w
  have hk1 : Nat.min n dl ≤ dl := Nat.min_le_right _ _
  generalize hkk : Nat.min n dl = k at *
  obtain ⟨nv, hr, hna, hn1, hnl⟩ := s_cells (P := P) hS hs hnew
  have hcl := acells_le hnew
  cases hd with
  | nils =>
    simp [alen] at hdl; subst hdl
    simp at h
    obtain ⟨rfl, rfl⟩ := h
    refine ⟨.int .i64 (k : Int), w, m, ?_, m.les_refl, hS, .int _ _⟩
    simp only [Builtin.copy_, List.getElem?_toArray, List.getElem?_cons_zero, List.getElem?_cons_succ, Sem.run_bind, run_underlying ht, Result.andThen_ok, hlen, run_sizeOf' hes, hkk, hr, Sem.run_pure, goInt]
  | slice id off len cap g a' c' hid hlc hcc hg hge ho =>
    simp [alen] at hdl; subst hdl
    simp only at h
    by_cases hk : k = 0
    · rw [if_pos hk] at h
      simp at h
      obtain ⟨rfl, rfl⟩ := h
      have hnv : nv = [] := List.eq_nil_of_length_eq_zero (by rw [hk] at hcl; omega)
      subst hnv
      refine ⟨.int .i64 (k : Int), w, m, ?_, m.les_refl, hS, by rw [hk]; exact .int _ _⟩
      simp only [Builtin.copy_, List.getElem?_toArray, List.getElem?_cons_zero, List.getElem?_cons_succ, Sem.run_bind, run_underlying ht, Result.andThen_ok, hlen, run_sizeOf' hes, hkk, hr, Sem.run_pure, goInt, storeCells]
    · rw [if_neg hk] at h
      split at h
      · rename_i l hobj
        split at h
        · rename_i hb
          simp at h
          obtain ⟨rfl, rfl⟩ := h
          have ho : a' = ⟨(m.loc id).block, (m.loc id).off + off, none⟩ := by
            rcases ho with ho | ho
            · exact ho
            · omega
          subst ho
          obtain ⟨w', hst, hS'⟩ := s_storeCells (P := P) hS hobj (off := off) (by omega) hna hn1
          refine ⟨.int .i64 (k : Int), w', m, ?_, m.les_refl, hS', .int _ _⟩
          simp only [Builtin.copy_, List.getElem?_toArray, List.getElem?_cons_zero, List.getElem?_cons_succ, Sem.run_bind, run_underlying ht, Result.andThen_ok, hlen, run_sizeOf' hes, hkk, hr, Sem.run_pure, goInt, List.toList_toArray, hst]
        · simp at h
      · simp at h
  | _ => simp at h

theorem s_clear (hS : SRel w0 B m H w) {t ty e : TypeId} {es : Nat} {z : List AVal} (ht : P.underlying t = some (.slice e)) (hes : tsize P e = some es) (hz : tzero P e = some z) (hzl : z.length = es) {x : AVal} {x' : Value} (hx : VRel m x x') (h : aclear H es z x = some H') :
    ∃ w', (Builtin.clear_ #[t] ty #[x']).run P w = .ok (.tuple #[]) w' ∧ SRel w0 B m H' w' := by
  cases hx with
  | nils =>
    simp [aclear] at h; subst h
    refine ⟨w, ?_, hS⟩
    simp only [Builtin.clear_, List.getElem?_toArray, List.getElem?_cons_zero, Sem.run_bind, run_underlying ht, Result.andThen_ok, Sem.run_pure]
  | slice id off len cap g a' c' hid hlc hcc hg hge ho =>
    simp only [aclear] at h
    by_cases h0 : len = 0
    · subst h0
      simp at h; subst h
      refine ⟨w, ?_, hS⟩
      simp only [Builtin.clear_, List.getElem?_toArray, List.getElem?_cons_zero, Sem.run_bind, run_underlying ht, Result.andThen_ok, Sem.run_pure]
    · rw [if_neg h0] at h
      split at h
      · rename_i l hobj
        split at h
        · rename_i hb
          simp at h; subst h
          have ho : a' = ⟨(m.loc id).block, (m.loc id).off + off, none⟩ := by
            rcases ho with ho | ho
            · exact ho
            · omega
          subst ho
          obtain ⟨zv, hzr, hzc⟩ := run_zero hz w
          obtain ⟨hza, hz1⟩ := cvals_rel (m := m) hzc
          have hzvl : zv.cells.toList.length = es := by rw [← forall2_length hza]; exact hzl
          have hA := all2_zeros hza len (k := len * zv.cells.toList.length) rfl
          have h1c := zeros_cells hz1 (n := len) (k := len * zv.cells.toList.length) rfl
          have heq : ((Array.range (len * zv.cells.toList.length)).map fun i => (zv.cells.toList.toArray)[i % zv.cells.toList.toArray.size]!) = Builtin.zeroCells zv.cells len := by
            simp [Builtin.zeroCells]
          rw [heq] at hA h1c
          have hfit : off + (arep z len).length ≤ l.length := by rw [arep_length, hzl]; exact hb
          obtain ⟨w', hst, hS'⟩ := s_storeCells (P := P) hS hobj (off := off) hfit hA h1c
          refine ⟨w', ?_, hS'⟩
          obtain ⟨k, rfl⟩ : ∃ k, len = k + 1 := ⟨len - 1, by omega⟩
          simp only [Builtin.clear_, List.getElem?_toArray, List.getElem?_cons_zero, Sem.run_bind, run_underlying ht, Result.andThen_ok, Sem.run_pure, hzr, hst]
        · simp at h
      · simp at h
  | _ => simp [aclear] at h

/-! ### Parts laid into an aggregate -/
theorem lput_all2 : ∀ (cs : List AVal) (vs : List Value) (l : List AVal) (ls : List Value) (off k : Nat), All2 (VRel m) l ls → All2 (VRel m) cs vs →
    ∃ ls', ((vs.zipIdx k).foldl (fun (a : Array Value) (p : Value × Nat) => a.setIfInBounds (off + p.2) p.1) ls.toArray) = ls'.toArray ∧ All2 (VRel m) (lput l (off + k) cs) ls' ∧ ((∀ y, y ∈ ls → y.oneCell' = true) → (∀ y, y ∈ vs → y.oneCell' = true) → ∀ y, y ∈ ls' → y.oneCell' = true)
  | [], _, l, ls, off, k, hl, hc => by
    cases hc
    exact ⟨ls, rfl, hl, fun h _ => h⟩
  | c :: cs, _, l, ls, off, k, hl, hc => by
    cases hc with
    | cons hv hc =>
      rename_i v vs
      have hset : All2 (VRel m) (l.set (off + k) c) (ls.set (off + k) v) := all2_set hl hv (off + k)
      obtain ⟨ls', h1, h2, h3⟩ := lput_all2 cs vs (l.set (off + k) c) (ls.set (off + k) v) off (k + 1) hset hc
      refine ⟨ls', ?_, h2, ?_⟩
      · simp only [List.zipIdx_cons, List.foldl_cons]
        rw [← h1]
        congr 1
        simp
      · intro ha hb
        refine h3 ?_ (fun y hy => hb y (by simp [hy]))
        intro y hy
        rcases List.mem_or_eq_of_mem_set hy with hy | rfl
        · exact ha y hy
        · exact hb _ (by simp)
where
  all2_set : ∀ {l : List AVal} {ls : List Value} {c : AVal} {v : Value}, All2 (VRel m) l ls → VRel m c v → ∀ i, All2 (VRel m) (l.set i c) (ls.set i v)
    | [], _, _, _, h, _, i => by cases h; simp; exact .nil
    | _ :: _, _, _, _, h, hv, 0 => by cases h with | cons h1 h2 => exact .cons hv h2
    | _ :: _, _, _, _, h, hv, i + 1 => by cases h with | cons h1 h2 => exact .cons h1 (all2_set h2 hv i)

theorem s_fill {place : Nat → Option (Nat × Nat)} : ∀ (parts : List (Nat × Nat × AVal)) (parts' : List (Nat × Value)) (cells : List AVal) (cells' : List Value) (r : List AVal), All2 (VRel m) cells cells' → (∀ y, y ∈ cells' → y.oneCell' = true) →
    All2 (fun (p : Nat × Nat × AVal) (q : Nat × Value) => place q.1 = some (p.1, p.2.1) ∧ VRel m p.2.2 q.2) parts parts' → afill cells parts = some r →
    ∃ r', Instr.fill place cells'.toArray parts' = some r'.toArray ∧ All2 (VRel m) r r' ∧ ∀ y, y ∈ r' → y.oneCell' = true
  | [], _, cells, cells', r, hc, h1, hp, h => by
    cases hp
    simp [afill] at h; subst h
    exact ⟨cells', rfl, hc, h1⟩
  | (off, n, v) :: parts, _, cells, cells', r, hc, h1, hp, h => by
    cases hp with
    | cons hq hp =>
      rename_i q parts'
      obtain ⟨i, v'⟩ := q
      obtain ⟨hpl, hv⟩ := hq
      simp only [afill] at h
      split at h
      · rename_i hcond
        obtain ⟨hl, hb, ht⟩ := hcond
        obtain ⟨ls', he, ha, hone⟩ := lput_all2 _ _ _ _ off 0 hc (hv.cells ht)
        have hlv := forall2_length (hv.cells ht)
        obtain ⟨r', hr, har, hr1⟩ := s_fill parts parts' _ ls' r ha (hone h1 (hv.isCells ht)) hp h
        refine ⟨r', ?_, har, hr1⟩
        have hsz : v'.cells.size = n := by simp at hlv; omega
        have hcl := forall2_length hc
        have hcond' : (decide (v'.cells.size ≠ n) || decide (off + v'.cells.size > cells'.toArray.size)) = false := by
          simp [hsz]; omega
        have hfold : v'.cells.zipIdx.foldl (fun cs (p : Value × Nat) => cs.setIfInBounds (off + p.2) p.1) cells'.toArray = ls'.toArray := by
          rw [← he]
          rw [← Array.foldl_toList]
          simp
        simp only [Instr.fill, hpl]
        rw [if_neg (by rw [hcond']; simp)]
        rw [← hr, ← hfold]
      · simp at h

/-! ### min and max -/
theorem s_minmax {isMax : Bool} {x y v : AVal} {x' y' : Value} (hx : VRel m x x') (hy : VRel m y y') (h : aminmax isMax x y = some v) (w : World) :
    ∃ v', ((if isMax then Builtin.max2 x' y' else Builtin.min2 x' y')).run P w = .ok v' w ∧ VRel m v v' := by
  cases hx with
  | int k a =>
    cases hy with
    | int j b =>
      simp only [aminmax] at h
      split at h
      · rename_i hk
        subst hk
        simp at h; subst h
        cases isMax with
        | true => exact ⟨_, rfl, .int _ _⟩
        | false => exact ⟨_, rfl, .int _ _⟩
      · simp at h
    | _ => simp [aminmax] at h
  | _ => simp [aminmax] at h

theorem s_fold {isMax : Bool} : ∀ (l : List AVal) (l' : List Value) (v r : AVal) (v' : Value) (w : World), VRel m v v' → All2 (VRel m) l l' → afold isMax v l = some r →
    ∃ r', (l'.foldlM (fun a b => if isMax then Builtin.max2 a b else Builtin.min2 a b) v').run P w = .ok r' w ∧ VRel m r r'
  | [], _, v, r, v', w, hv, hl, h => by cases hl; simp [afold] at h; subst h; exact ⟨v', rfl, hv⟩
  | x :: l, _, v, r, v', w, hv, hl, h => by
    cases hl with
    | cons hx hl =>
      simp only [afold, Option.bind_eq_some_iff] at h
      obtain ⟨u, hu, h⟩ := h
      obtain ⟨u', hu', hur⟩ := s_minmax (P := P) hv hx hu w
      obtain ⟨r', hr, hrr⟩ := s_fold l _ u r u' w hur hl h
      exact ⟨r', by simp only [List.foldlM_cons, Sem.run_bind, hu', Result.andThen_ok]; exact hr, hrr⟩

end Go.Proofs.Ytilhjcnkaelheaa.Am
