/- What the abstract machine's operations answer, the model's do: append, copy, clear, build, min and max. -/
import Derived.Test.YtilhjcnkaelheaaAmSound4
set_option linter.unusedSimpArgs false
set_option linter.unusedVariables false
namespace Go.Proofs.Ytilhjcnkaelheaa.Am
open Go Go.RowKit

variable {P : Program} {w0 w : World} {B : Nat → Bool} {m : Inj} {H H' : AHeap}

/-! ### A row of cells of the model's, written -/
theorem setCells_heap : ∀ (vs : List Value) (b o : Nat) (c : Array Value) (e : TypeId) (fz : Nat × Nat) (w : World), w.heap[b]? = some (.cells c e fz) → o + vs.length ≤ c.size →
    ∃ c', (w.setCells b o vs).heap[b]? = some (.cells c' e fz) ∧ c'.size = c.size ∧ (∀ j v, vs[j]? = some v → c'[o + j]? = some v) ∧ (∀ j, j < o ∨ o + vs.length ≤ j → c'[j]? = c[j]?) ∧
      (∀ k, k ≠ b → (w.setCells b o vs).heap[k]? = w.heap[k]?) ∧ (w.setCells b o vs).heap.size = w.heap.size ∧ (∀ w0 B, Keep B w0 w → B b = false → Keep B w0 (w.setCells b o vs))
  | [], b, o, c, e, fz, w, h, _ => ⟨c, h, rfl, by simp, by simp, fun _ _ => rfl, rfl, fun _ _ hb _ => hb⟩
  | v :: vs, b, o, c, e, fz, w, h, hl => by
    simp at hl
    obtain ⟨c', h1, h2, h3, h4, h5, h6, h7⟩ := setCells_heap vs b (o + 1) (c.setIfInBounds o v) e fz (w.setCell ⟨b, o, none⟩ v) (heap_setCell v h) (by simp; omega)
    refine ⟨c', h1, by simpa using h2, ?_, ?_, ?_, ?_, ?_⟩
    · intro j u hj
      cases j with
      | zero =>
        simp at hj; subst hj
        rw [Nat.add_zero, h4 o (.inl (by omega)), Array.getElem?_setIfInBounds_self_of_lt (by omega)]
      | succ j =>
        have := h3 j u (by simpa using hj)
        rwa [show o + 1 + j = o + (j + 1) by omega] at this
    · intro j hj
      simp at hj
      rw [h4 j (by omega), Array.getElem?_setIfInBounds_ne (by omega)]
    · intro k hk
      rw [World.setCells, h5 k hk, Below.heap_setCell _ _ _ _ (by simpa using hk)]
    · rw [World.setCells, h6]; simp
    · intro w0 B hb hB
      exact h7 w0 B (hb.setCell (by simpa using hB) _) hB

theorem run_lenOf {x' : Value} {n : Nat} {w : World} (h : (Builtin.lenOf x').run P w = .ok n w) : True := trivial

theorem zero_size {e : TypeId} {z : List AVal} (hz : tzero P e = some z) (w : World) : ∃ zv, (zeroValue e).run P w = .ok zv w ∧ zv.cells.size = z.length := by
  obtain ⟨zv, h1, h2⟩ := run_zero hz w
  have := (cvals_rel (m := { n := 0, loc := fun _ => ⟨0, 0, 0⟩ }) h2).1
  exact ⟨zv, h1, by have := forall2_length this; simp at this; omega⟩

/-- The arm that makes a new row. -/
theorem s_grow (hS : SRel w0 B m H w) {t t' ty e : TypeId} {es bs : Nat} {z : List AVal} {u' : TypeDesc} (ht : P.underlying t = some (.slice e)) (ht' : P.underlying t' = some u') (hu' : u' = .string ∨ ∃ e', u' = .slice e') (hes : tsize P e = some es) (hbs : tbytes P e = some bs) (hz : tzero P e = some z) (hzl : z.length = es)
    {base : Option Addr} {sLen sCap n : Nat} {x' : Value} {old new : List AVal} {ov nv : List Value} (hlen : ∀ w, (Builtin.lenOf x').run P w = .ok n w)
    (hold : (Builtin.firstCells es sLen (.slice base sLen sCap)).run P w.drew = .ok ov.toArray w.drew) (hnew : (Builtin.firstCells es n x').run P w.drew = .ok nv.toArray w.drew)
    (ho : All2 (VRel m) old ov) (hn : All2 (VRel m) new nv) (ho1 : ∀ y, y ∈ ov → y.oneCell' = true) (hn1 : ∀ y, y ∈ nv → y.oneCell' = true) (hlo : ov.length = sLen * es) (hln : nv.length = n * es)
    (hg : sCap < sLen + n) (hb : (sLen + n) * bs ≤ 140737488355328) (h63 : sLen + n ≤ 9223372036854775807) :
    ∃ cap w' m', (Builtin.append_ #[t, t'] ty #[.slice base sLen sCap, x']).run P w = .ok (.slice (some ⟨w.heap.size, 0, none⟩) (sLen + n) cap) w' ∧ m.les m' ∧ m'.has m.n ∧ SRel w0 B m' (H.new (.cells (old ++ new) true)) w' ∧ VRel m' (.slice H.next 0 (sLen + n) (sLen + n) (some es)) (.slice (some ⟨w.heap.size, 0, none⟩) (sLen + n) cap) := by
  have hge := grownCap_ge w (sLen + n) sCap e
  generalize hcap : grownCap w (sLen + n) sCap e = cap at hge
  have hch : (choose (.appendCap (sLen + n) sCap e)).run P w = .ok cap w.drew := by
    simp only [choose, Sem.run]
    rw [if_neg (by simp [Question.forced])]
    rw [← hcap]
    rfl
  obtain ⟨zv, hzr, hzs⟩ := zero_size hz w.drew
  obtain ⟨i, hi, hib⟩ := run_bytes hbs w
  obtain ⟨i', hi', hib'⟩ := run_bytes hbs w.drew
  let rest := (Builtin.zeroCells zv.cells (cap - (sLen + n))).toList
  have hrest : rest.length = (cap - (sLen + n)) * es := by simp [rest, size_zeroCells, hzs, hzl]
  have hall : (ov ++ nv ++ rest).length = cap * es := by
    simp only [List.length_append, hlo, hln, hrest, ← Nat.add_mul]
    congr 1; omega
  have hS' := hS.drew.new (rest := rest) (forall2_append ho hn) (by intro y hy; simp at hy; rcases hy with hy | hy; exact ho1 y hy; exact hn1 y hy) e (0, 0) (free_zero _) (.cells (ov ++ nv ++ rest).toArray e (0, 0)) rfl
  have hns : Builtin.nextslicecap (sLen + n) sCap * i.bytes ≤ 281474976710656 := by
    have h2 := nextslicecap_le hg
    rw [hib]
    calc Builtin.nextslicecap (sLen + n) sCap * bs ≤ 2 * (sLen + n) * bs := Nat.mul_le_mul_right _ h2
      _ = 2 * ((sLen + n) * bs) := by rw [Nat.mul_assoc]
      _ ≤ 281474976710656 := by omega
  refine ⟨cap, _, _, ?_, m.les_ext _, m.ext_has _, hS', ?_⟩
  · have hroom : ¬ (sLen + n ≤ sCap) := by omega
    have hmax : ¬ (((sLen + n : Nat) : Int) > IntKind.i64.max) := by simp [IntKind.max, IntKind.signed, IntKind.bits]; omega
    have hask : ∀ k : Nat, (askRoom k).run P w.drew = .ok () w.drew := by intro k; unfold askRoom; split <;> rfl
    have e1 := hold
    have e2 := hnew
    have hns' : ¬ (Builtin.nextslicecap (sLen + n) sCap * i.bytes > 2 ^ 48) := by
      rw [show (2 : Nat) ^ 48 = 281474976710656 by decide]; omega
    have hfin : (ov.toArray ++ nv.toArray ++ Builtin.zeroCells zv.cells (cap - (sLen + n))) = (ov ++ nv ++ rest).toArray := by
      apply Array.ext'; simp [rest]
    rcases hu' with rfl | ⟨e', rfl⟩ <;>
    · simp only [Builtin.append_]
      simp only [List.getElem?_toArray, List.getElem?_cons_zero, List.getElem?_cons_succ, Sem.run_bind, run_underlying ht, run_underlying ht', Result.andThen_ok, run_sizeOf' hes, Sem.run_pure, Bool.false_eq_true, if_false, hlen, hroom, false_or]
      simp only [Sem.run_bind, hi, Result.andThen_ok, hmax, false_and, if_false, Sem.run_pure, hns', hch, hask, hi', e1, e2, hzr, hfin, run_newRow, Bool.not_false, if_true, Bool.false_eq_true]
      rfl
  · rw [hS.next]
    have hloc := m.ext_new ⟨w.drew.heap.size, 0, (ov ++ nv ++ rest).length⟩
    have := VRel.slice (m := m.ext ⟨w.drew.heap.size, 0, (ov ++ nv ++ rest).length⟩) m.n 0 (sLen + n) (sLen + n) (some es) ⟨w.heap.size, 0, none⟩ cap (Inj.ext_has _ _) (Nat.le_refl _) hge (by simp)
      (by intro e1 h1; simp at h1; subst h1; rw [hloc, hall]; simp) (.inl (by rw [hloc]; rfl))
    exact this

/-- The arm that has room. -/
theorem run_append_has {t t' ty e : TypeId} {es n : Nat} {u' : TypeDesc} (ht : P.underlying t = some (.slice e)) (ht' : P.underlying t' = some u') (hu' : u' = .string ∨ ∃ e', u' = .slice e') (hes : tsize P e = some es)
    {base : Option Addr} {sLen sCap : Nat} {x' : Value} {nv : List Value} (hlen : (Builtin.lenOf x').run P w = .ok n w) (hnew : (Builtin.firstCells es n x').run P w = .ok nv.toArray w) (hroom : sLen + n ≤ sCap) {w' : World}
    (hst : (match base with | some a => storeCells (a.add (sLen * es)) nv | none => pure ()).run P w = .ok () w') :
    (Builtin.append_ #[t, t'] ty #[.slice base sLen sCap, x']).run P w = .ok (.slice base (sLen + n) sCap) w' := by
  rcases hu' with rfl | ⟨e', rfl⟩ <;>
  · simp only [Builtin.append_]
    simp only [List.getElem?_toArray, List.getElem?_cons_zero, List.getElem?_cons_succ, Sem.run_bind, run_underlying ht, run_underlying ht', Result.andThen_ok, run_sizeOf' hes, Sem.run_pure, Bool.false_eq_true, if_false, hlen, hroom, if_true, Bool.not_false, hnew]
    cases base with
    | none => simp only [Sem.run_pure] at hst ⊢; simp at hst; rw [hst]
    | some a => simp only [Sem.run_bind, List.toList_toArray, hst, Result.andThen_ok, Sem.run_pure]

theorem acells_length {es n : Nat} {x : AVal} {cs : List AVal} (h : acells H es n x = some cs) (hn : alen x = some n ∨ ∃ id off len cap g, x = .slice id off len cap g) : cs.length = n * es := by
  cases x with
  | nils =>
    simp [acells] at h; subst h
    rcases hn with hn | ⟨_, _, _, _, _, hn⟩
    · simp [alen] at hn; subst hn; simp
    · cases hn
  | str s =>
    simp only [acells] at h
    split at h
    · rename_i hc
      simp only [Option.some.injEq] at h
      subst h
      simp
      rw [hc.2]; omega
    · simp at h
  | slice id off len cap g =>
    simp only [acells] at h
    by_cases hz : n * es = 0
    · rw [if_pos hz] at h; simp at h; subst h; simp [hz]
    rw [if_neg hz] at h
    split at h
    · split at h
      · rename_i hc
        simp at h; subst h
        simp
        omega
      · simp at h
    · simp at h
  | _ => simp [acells] at h

theorem s_append (hS : SRel w0 B m H w) {t t' ty e : TypeId} {es bs : Nat} {z : List AVal} {u' : TypeDesc} (ht : P.underlying t = some (.slice e)) (ht' : P.underlying t' = some u') (hu' : u' = .string ∨ ∃ e', u' = .slice e') (hes : tsize P e = some es) (hbs : tbytes P e = some bs) (hz : tzero P e = some z) (hzl : z.length = es)
    {s x v : AVal} {s' x' : Value} (hs : VRel m s s') (hx : VRel m x x') (h : aappend H es bs s x = some (v, H')) : DoneV w0 B m H' v ((Builtin.append_ #[t, t'] ty #[s', x']).run P w) := by
  simp only [aappend, Option.bind_eq_some_iff] at h
  obtain ⟨n, hn, new, hnew, h⟩ := h
  have hlen := fun w => s_len (P := P) hx hn w
  obtain ⟨nv, hr, hna, hn1, hnl⟩ := s_cells (P := P) hS hx hnew
  obtain ⟨nvd, hrd, hnad, hn1d, hnld⟩ := s_cells (P := P) hS.drew hx hnew
  have hcl := acells_length hnew (.inl hn)
  cases hs with
  | nils =>
    simp only at h
    split at h
    · rename_i h0
      subst h0
      simp at h
      obtain ⟨rfl, rfl⟩ := h
      refine ⟨.slice none 0 0, w, m, ?_, m.les_refl, hS, .nils⟩
      exact run_append_has ht ht' hu' hes (hlen w) hr (by omega) (by rfl)
    · rename_i h0
      split at h
      · rename_i hb
        simp at h
        obtain ⟨rfl, rfl⟩ := h
        obtain ⟨cap, w', m', hrun, hm, hmn, hS', hv⟩ := s_grow (P := P) hS (ty := ty) ht ht' hu' hes hbs hz hzl (base := none) (sLen := 0) (sCap := 0) (ov := []) (old := []) hlen (by simp [Builtin.firstCells]) hrd .nil hnad (by simp) hn1d (by simp) (by rw [hnld, hcl]) (by omega) (by simpa using hb.1) (by omega)
        refine ⟨_, w', m', hrun, hm, by simpa using hS', ?_⟩
        simpa using hv
      · simp at h
  | slice id off len cap g a' c' hid hlc hcc hg hge ho =>
    simp only at h
    split at h
    · rename_i hroom
      split at h
      · rename_i h0
        subst h0
        simp at h
        obtain ⟨rfl, rfl⟩ := h
        have hnv : nv = [] := by
          apply List.eq_nil_of_length_eq_zero
          rw [hnl, hcl]; simp
        subst hnv
        refine ⟨.slice (some a') len c', w, m, ?_, m.les_refl, hS, .slice _ _ _ _ _ _ _ hid hlc hcc hg hge ho⟩
        exact run_append_has ht ht' hu' hes (hlen w) hr (by omega) (by rfl)
      · rename_i h0
        split at h
        · rename_i l hobj
          split at h
          · rename_i hb
            simp at h
            obtain ⟨rfl, rfl⟩ := h
            have ho : a' = ⟨(m.loc id).block, (m.loc id).off + off, none⟩ := by
              rcases ho with ho | ho
              · exact ho
              · omega
            subst ho
            have hfit : off + len * es + new.length ≤ l.length := by
              rw [hcl]; have := hb.1; rw [Nat.add_mul] at this; omega
            obtain ⟨w', hst, hS'⟩ := s_storeCells (P := P) hS hobj (off := off + len * es) hfit hna hn1
            refine ⟨.slice (some ⟨(m.loc id).block, (m.loc id).off + off, none⟩) (len + n) c', w', m, ?_, m.les_refl, hS', .slice _ _ _ _ _ _ _ hid hroom hcc hg hge (.inl rfl)⟩
            refine run_append_has ht ht' hu' hes (hlen w) hr (by omega) ?_
            simp only [addr_add]
            rw [Nat.add_assoc]; exact hst
          · simp at h
        · simp at h
    · rename_i hroom
      simp only [Option.bind_eq_some_iff] at h
      obtain ⟨old, hold, h⟩ := h
      split at h
      case isFalse => simp at h
      rename_i hb
      obtain ⟨hb1, hb2, hes0⟩ := hb
      have hsl : VRel m (.slice id off len cap g) (.slice (some a') len c') := .slice _ _ _ _ _ _ _ hid hlc hcc hg hge ho
      obtain ⟨ov, hor, hoa, ho1, hol⟩ := s_cells (P := P) hS hsl hold
      obtain ⟨ovd, hord, hoad, ho1d, hold'⟩ := s_cells (P := P) hS.drew hsl hold
      have hocl := acells_length hold (.inr ⟨_, _, _, _, _, rfl⟩)
      by_cases hgrow : c' < len + n
      · obtain ⟨cap', w', m', hrun, hm, hmn, hS', hv⟩ := s_grow (P := P) hS (ty := ty) ht ht' hu' hes hbs hz hzl (base := some a') (sLen := len) (sCap := c') hlen hord hrd hoad hnad ho1d hn1d (by rw [hold', hocl]) (by rw [hnld, hcl]) hgrow hb1 hb2
        cases g with
        | none =>
          simp at h
          obtain ⟨rfl, rfl⟩ := h
          exact ⟨_, w', m', hrun, hm, hS', hv⟩
        | some e' =>
          simp only at h
          split at h
          case isFalse => simp at h
          split at h
          · simp at h
            obtain ⟨rfl, rfl⟩ := h
            obtain ⟨cap', w', m', hrun, hm, hmn, hS', hv⟩ := s_grow (P := P) (hS.del id) (ty := ty) ht ht' hu' hes hbs hz hzl (base := some a') (sLen := len) (sCap := c') hlen hord hrd hoad hnad ho1d hn1d (by rw [hold', hocl]) (by rw [hnld, hcl]) hgrow hb1 hb2
            exact ⟨_, w', m', hrun, hm, hS', hv⟩
          · simp at h
      · -- in place: behind what is seen there is room
        cases g with
        | none => exact absurd (hg rfl) (by omega)
        | some e' =>
          simp only at h
          split at h
          case isFalse => simp at h
          rename_i he
          subst he
          split at h
          case h_2 => simp at h
          rename_i l hobj
          simp at h
          obtain ⟨rfl, rfl⟩ := h
          have ho : a' = ⟨(m.loc id).block, (m.loc id).off + off, none⟩ := by
            rcases ho with ho | ho
            · exact ho
            · omega
          subst ho
          obtain ⟨_, c, e1, fz, hheap, hcell, hown⟩ := hS.obj id _ hobj
          obtain ⟨hB, htot, hfree⟩ := hown rfl
          have htot' := hge _ rfl
          have hnvl : nv.length = n * e' := by rw [hnl, hcl]
          have hovl : ov.length = len * e' := by rw [hol, hocl]
          have hroom' : len + n ≤ c' := by omega
          have hmul : (len + n) * e' ≤ c' * e' := Nat.mul_le_mul_right _ hroom'
          rw [Nat.add_mul] at hmul
          have hfit : (m.loc id).off + off + len * e' + nv.length ≤ c.size := by omega
          obtain ⟨c2, h1, h2, h3, h4, h5, h6, h7⟩ := setCells_heap nv (m.loc id).block ((m.loc id).off + off + len * e') c e1 fz w hheap hfit
          have hst := run_storeCells_cells (P := P) (m.loc id).block ((m.loc id).off + off + len * e') nv 0 w
            (by intro j hj; rw [cell_of_heap hheap]; simp; omega)
            (by intro j hj; exact frozen_of_heap hheap hfree (by omega)) hn1
          rw [Nat.add_zero] at hst
          -- where the old cells lie
          have hocells : ∀ (j : Nat) (x : AVal), old[j]? = some x → ∃ v, c[(m.loc id).off + off + j]? = some v ∧ VRel m x v ∧ v.oneCell' = true := by
            intro j x hj
            simp only [acells, hobj] at hold
            by_cases hz : len * e' = 0
            · rw [if_pos hz] at hold; simp at hold; subst hold; simp at hj
            rw [if_neg hz] at hold
            split at hold
            · simp at hold
              subst hold
              have hj' : l[off + j]? = some x := by
                have := hj
                rw [List.getElem?_take, List.getElem?_drop] at this
                split at this
                · exact this
                · simp at this
              have := hcell (off + j) x hj'
              rwa [show (m.loc id).off + (off + j) = (m.loc id).off + off + j by omega] at this
            · simp at hold
          let L : Loc := ⟨(m.loc id).block, (m.loc id).off + off, (m.loc id).total - off⟩
          have hS2 : SRel w0 B (m.ext L) ((H.del id).new (.cells (old ++ new) true)) (w.setCells (m.loc id).block ((m.loc id).off + off + len * e') nv) := by
            refine ⟨h7 _ _ hS.below hB, hS.size, by simp [AHeap.new, AHeap.del, Inj.ext, hS.next], ?_, ?_⟩
            · intro k o hk
              simp only [AHeap.new, AHeap.del] at hk
              by_cases hkn : k = H.next
              · subst hkn
                simp at hk; subst hk
                rw [hS.next]
                refine ⟨Inj.ext_has _ _, ?_⟩
                rw [Inj.ext_new]
                refine ⟨c2, e1, fz, h1, ?_, ?_⟩
                · intro j x hj
                  by_cases hjl : j < old.length
                  · rw [List.getElem?_append_left hjl] at hj
                    obtain ⟨v, hv, hr', h1'⟩ := hocells j x hj
                    refine ⟨v, ?_, hr'.mono (m.le_ext _), h1'⟩
                    rw [h4 _ (.inl (by show (m.loc id).off + off + j < _; rw [hocl] at hjl; omega))]
                    exact hv
                  · rw [List.getElem?_append_right (by omega)] at hj
                    obtain ⟨v, hv, hr'⟩ := forall2_get hna _ x hj
                    refine ⟨v, ?_, hr'.mono (m.le_ext _), hn1 v (List.mem_of_getElem? hv)⟩
                    have := h3 _ v hv
                    show c2[(m.loc id).off + off + j]? = some v
                    rwa [show (m.loc id).off + off + len * e' + (j - old.length) = (m.loc id).off + off + j by rw [hocl] at hjl ⊢; omega] at this
                · intro _
                  refine ⟨hB, ?_, fun j hj => hfree j (by rw [← h2]; exact hj)⟩
                  show (m.loc id).off + off + ((m.loc id).total - off) ≤ c2.size
                  rw [h2]; omega
              · simp [hkn] at hk
                obtain ⟨hki, hk⟩ := hk
                obtain ⟨hkl, hko⟩ := hS.obj k o hk
                refine ⟨((m.le_ext L).2 k hkl).1, ?_⟩
                rw [Inj.ext_old m _ hkl]
                have hne := hS.apart id k _ _ hobj hk rfl (Ne.symm hki)
                cases o with
                | cells l' own' =>
                  obtain ⟨c', e'', fz', hb', hc', ho''⟩ := hko
                  exact ⟨c', e'', fz', by rw [h5 _ (Ne.symm hne)]; exact hb', fun i x hx => let ⟨v, q1, q2, q3⟩ := hc' i x hx; ⟨v, q1, q2.mono (m.le_ext _), q3⟩, ho''⟩
            · have key : ∀ k ok, ((H.del id).new (.cells (old ++ new) true)).obj k = some ok → k ≠ H.next → k ≠ id ∧ H.obj k = some ok ∧ m.has k := by
                intro k ok hk hne
                simp only [AHeap.new, AHeap.del] at hk
                simp [hne] at hk
                exact ⟨hk.1, hk.2, (hS.obj k ok hk.2).1⟩
              intro a b o1 o2 ha hb hown hab
              by_cases hea : a = H.next
              · have hbn : b ≠ H.next := fun hh => hab (hea.trans hh.symm)
                obtain ⟨hbi, hb', hbl⟩ := key b o2 hb hbn
                rw [hea, hS.next, Inj.ext_new, Inj.ext_old m _ hbl]
                exact hS.apart id b _ _ hobj hb' rfl (Ne.symm hbi)
              · obtain ⟨hai, ha', hal⟩ := key a o1 ha hea
                by_cases heb : b = H.next
                · rw [heb, hS.next, Inj.ext_new, Inj.ext_old m _ hal]
                  exact Ne.symm (hS.apart id a _ _ hobj ha' rfl (Ne.symm hai))
                · obtain ⟨hbi, hb', hbl⟩ := key b o2 hb heb
                  rw [Inj.ext_old m _ hal, Inj.ext_old m _ hbl]
                  exact hS.apart a b o1 o2 ha' hb' hown hab
          refine ⟨.slice (some ⟨(m.loc id).block, (m.loc id).off + off, none⟩) (len + n) c', _, m.ext L, ?_, m.les_ext _, hS2, ?_⟩
          · refine run_append_has ht ht' hu' hes (hlen w) hr hroom' ?_
            simp only [addr_add]
            exact hst
          · have hloc := m.ext_new L
            have := VRel.slice (m := m.ext L) m.n 0 (len + n) (len + n) (some e') ⟨(m.loc id).block, (m.loc id).off + off, none⟩ c' (Inj.ext_has _ _) (Nat.le_refl _) hroom' (by simp)
              (by intro e2 h2'; simp at h2'; subst h2'; rw [hloc]; show 0 + c' * e' ≤ (m.loc id).total - off; omega) (.inl (by rw [hloc]; rfl))
            show VRel _ (.slice H.next _ _ _ _) _
            rw [hS.next]
            exact this
  | _ => simp at h

end Go.Proofs.Ytilhjcnkaelheaa.Am
