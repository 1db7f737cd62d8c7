/- The abstract machine's memory against a world's: reading, writing, new objects. -/
import Derived.Test.YtilhjcnkaelheaaAmOps
set_option linter.unusedSimpArgs false
set_option linter.unusedVariables false
namespace Go.Proofs.Ytilhjcnkaelheaa.Am
open Go Go.RowKit

variable {P : Program} {w0 w : World} {B : Nat → Bool} {m : Inj} {H : AHeap}

def Inj.ext (m : Inj) (L : Loc) : Inj := { n := m.n + 1, loc := fun i => if i = m.n then L else m.loc i, hole := fun i => if i = m.n then false else m.hole i }

theorem Inj.le_ext (m : Inj) (L : Loc) : m.le (m.ext L) :=
  ⟨by simp [Inj.ext], fun id h => by
    have hne : id ≠ m.n := by have := h.1; omega
    refine ⟨⟨by simp only [Inj.ext]; have := h.1; omega, by simp only [Inj.ext]; rw [if_neg hne]; exact h.2⟩, by simp only [Inj.ext]; rw [if_neg hne]⟩⟩
theorem Inj.les_ext (m : Inj) (L : Loc) : m.les (m.ext L) :=
  ⟨m.le_ext L, fun id hi h => by simp only [Inj.ext]; rw [if_neg (by omega)]; exact h⟩
theorem Inj.ext_new (m : Inj) (L : Loc) : (m.ext L).loc m.n = L := by simp [Inj.ext]
theorem Inj.ext_has (m : Inj) (L : Loc) : (m.ext L).has m.n := ⟨by simp [Inj.ext], by simp [Inj.ext]⟩
theorem Inj.ext_old (m : Inj) (L : Loc) {id : Nat} (h : m.has id) : (m.ext L).loc id = m.loc id := ((m.le_ext L).2 id h).2

theorem addr_add (b o i : Nat) : (⟨b, o, none⟩ : Addr).add i = ⟨b, o + i, none⟩ := by
  unfold Addr.add; split <;> simp_all

theorem cell_of_heap {c : Array Value} {e : TypeId} {fz : Nat × Nat} {b i : Nat} (h : w.heap[b]? = some (.cells c e fz)) : w.cell? ⟨b, i, none⟩ = c[i]? := by
  simp [World.cell?, h]

theorem frozen_of_heap {c : Array Value} {e : TypeId} {fz : Nat × Nat} {b i : Nat} (h : w.heap[b]? = some (.cells c e fz)) (hf : Free c fz) (hi : i < c.size) : w.frozen? ⟨b, i, none⟩ = false := by
  have := hf i hi
  simp only [World.frozen?, h]
  simp only [Bool.and_eq_false_iff, decide_eq_false_iff_not]
  omega

theorem SRel.cell (hS : SRel w0 B m H w) {id i : Nat} {l : List AVal} {own : Bool} {x : AVal} (h : H.obj id = some (.cells l own)) (hi : l[i]? = some x) :
    ∃ v, w.cell? ⟨(m.loc id).block, (m.loc id).off + i, none⟩ = some v ∧ VRel m x v ∧ v.oneCell' = true := by
  obtain ⟨_, c, e, fz, hb, hc, _⟩ := hS.obj id _ h
  obtain ⟨v, hv, h1, h2⟩ := hc i x hi
  exact ⟨v, by rw [cell_of_heap hb]; exact hv, h1, h2⟩

theorem SRel.cells (hS : SRel w0 B m H w) {id : Nat} {l : List AVal} {own : Bool} (h : H.obj id = some (.cells l own)) : ∀ (n off : Nat), off + n ≤ l.length →
    ∃ vs : List Value, vs.length = n ∧ (∀ j v, vs[j]? = some v → w.cell? ⟨(m.loc id).block, (m.loc id).off + off + j, none⟩ = some v) ∧ All2 (VRel m) ((l.drop off).take n) vs ∧ ∀ x, x ∈ vs → x.oneCell' = true
  | 0, off, _ => ⟨[], rfl, by simp, by simp; exact .nil, by simp⟩
  | n + 1, off, hl => by
    obtain ⟨vs, h0, h1, h2, h3⟩ := SRel.cells hS h n (off + 1) (by omega)
    obtain ⟨v, hv, hr, hc⟩ := hS.cell h (i := off) (x := l[off]'(by omega)) (by simp)
    refine ⟨v :: vs, by simp [h0], ?_, ?_, ?_⟩
    · intro j u hu
      cases j with
      | zero => simp at hu; subst hu; simpa using hv
      | succ j =>
        have := h1 j u (by simpa using hu)
        rwa [show (m.loc id).off + (off + 1) + j = (m.loc id).off + off + (j + 1) by omega] at this
    · rw [List.drop_eq_getElem_cons (by omega)]
      simp only [List.take_succ_cons]
      exact .cons hr h2
    · intro x hx
      simp at hx
      rcases hx with rfl | hx
      · exact hc
      · exact h3 x hx

theorem SRel.loadCells (hS : SRel w0 B m H w) {id : Nat} {l : List AVal} {own : Bool} (h : H.obj id = some (.cells l own)) {n off : Nat} (hl : off + n ≤ l.length) :
    ∃ vs : List Value, (loadCells ⟨(m.loc id).block, (m.loc id).off + off, none⟩ n).run P w = .ok vs.toArray w ∧ All2 (VRel m) ((l.drop off).take n) vs ∧ (∀ x, x ∈ vs → x.oneCell' = true) ∧ vs.length = n := by
  obtain ⟨vs, h0, h1, h2, h3⟩ := hS.cells h n off hl
  refine ⟨vs, ?_, h2, h3, h0⟩
  have := run_loadCells_list (P := P) w ⟨(m.loc id).block, (m.loc id).off + off, none⟩ vs (fun j v hv => by rw [addr_add]; exact h1 j v hv)
  rwa [h0] at this

theorem heap_setCell {c : Array Value} {e : TypeId} {fz : Nat × Nat} {b i : Nat} (v : Value) (h : w.heap[b]? = some (.cells c e fz)) : (w.setCell ⟨b, i, none⟩ v).heap[b]? = some (.cells (c.setIfInBounds i v) e fz) := by
  simp [World.setCell, Array.getElem?_modify, h]

/-- One cell written. -/
theorem SRel.setCell (hS : SRel w0 B m H w) {id i : Nat} {l : List AVal} (h : H.obj id = some (.cells l true)) (hi : i < l.length) {x : AVal} {v : Value} (hx : VRel m x v) (h1 : v.oneCell' = true) :
    (store ⟨(m.loc id).block, (m.loc id).off + i, none⟩ v).run P w = .ok () (w.setCell ⟨(m.loc id).block, (m.loc id).off + i, none⟩ v) ∧
    SRel w0 B m (H.set id (.cells (l.set i x) true)) (w.setCell ⟨(m.loc id).block, (m.loc id).off + i, none⟩ v) := by
  obtain ⟨hid, c, e, fz, hb, hc, ho⟩ := hS.obj id _ h
  obtain ⟨hB, htot, hfree⟩ := ho rfl
  obtain ⟨u, hu, _, _⟩ := hc i (l[i]'hi) (by simp)
  have hlt : (m.loc id).off + i < c.size := by
    rcases Nat.lt_or_ge ((m.loc id).off + i) c.size with h' | h'
    · exact h'
    · rw [Array.getElem?_eq_none h'] at hu; cases hu
  refine ⟨?_, ?_⟩
  · rw [run_store P w _ v _ h1, cell_of_heap hb, hu, frozen_of_heap hb hfree hlt]
    simp
  · refine ⟨?_, hS.size, hS.next, ?_, ?_⟩
    · exact hS.below.setCell (by simpa using hB) _
    · intro id' o' ho'
      simp only [AHeap.set] at ho'
      by_cases he : id' = id
      · subst he
        simp at ho'
        subst ho'
        refine ⟨hid, ?_⟩
        refine ⟨c.setIfInBounds ((m.loc id').off + i) v, e, fz, ?_, ?_, ?_⟩
        · exact heap_setCell v hb
        · intro j y hy
          by_cases hj : j = i
          · subst hj
            rw [List.getElem?_set_self hi] at hy
            simp at hy
            subst hy
            exact ⟨v, by simp [Array.getElem?_setIfInBounds, hlt], hx, h1⟩
          · rw [List.getElem?_set_ne (Ne.symm hj)] at hy
            obtain ⟨z, hz, hr⟩ := hc j y hy
            exact ⟨z, by rw [Array.getElem?_setIfInBounds_ne (by omega)]; exact hz, hr⟩
        · intro _
          refine ⟨hB, by simpa using htot, fun j hj => hfree j (by simpa using hj)⟩
      · simp [he] at ho'
        obtain ⟨h1', h2'⟩ := hS.obj id' o' ho'
        refine ⟨h1', ?_⟩
        have hne := hS.apart id id' _ _ h ho' rfl (Ne.symm he)
        cases o' with
        | cells l' own' =>
          obtain ⟨c', e', fz', hb', hc', ho''⟩ := h2'
          exact ⟨c', e', fz', by rw [Below.heap_setCell _ _ _ _ (by simpa using Ne.symm hne)]; exact hb', hc', ho''⟩
    · intro a b o o' ha hb' hown hab
      have key : ∀ k ok, (H.set id (.cells (l.set i x) true)).obj k = some ok → ∃ ok', H.obj k = some ok' ∧ ok'.own = ok.own := by
        intro k ok hk
        simp only [AHeap.set] at hk
        by_cases he : k = id
        · subst he; simp at hk; subst hk; exact ⟨_, h, rfl⟩
        · simp [he] at hk; exact ⟨ok, hk, rfl⟩
      obtain ⟨oa, h1a, h2a⟩ := key a o ha
      obtain ⟨ob, h1b, _⟩ := key b o' hb'
      exact hS.apart a b oa ob h1a h1b (h2a.trans hown) hab

theorem AHeap.set_set (H : AHeap) (id : Nat) (o o' : AObj) : (H.set id o).set id o' = H.set id o' := by
  simp only [AHeap.set, AHeap.mk.injEq, and_true]
  funext i
  by_cases h : i = id <;> simp [h]

theorem lput_length (l : List AVal) : ∀ (cs : List AVal) (off : Nat), (lput l off cs).length = l.length := by
  intro cs
  induction cs generalizing l with
  | nil => intro off; rfl
  | cons c cs ih => intro off; simp [lput, ih]

/-- Cells written, one behind the other. -/
theorem SRel.putCells : ∀ (cs : List AVal) (vs : List Value) (off k : Nat) (l : List AVal) (H : AHeap) (w : World), SRel w0 B m H w → ∀ {id : Nat}, H.obj id = some (.cells l true) → off + k + cs.length ≤ l.length → All2 (VRel m) cs vs →
    (∀ x, x ∈ vs → x.oneCell' = true) →
    ∃ w', (storeCells ⟨(m.loc id).block, (m.loc id).off + off, none⟩ vs k).run P w = .ok () w' ∧ SRel w0 B m (H.set id (.cells (lput l (off + k) cs) true)) w'
  | [], _, off, k, l, H, w, hS, id, h, hl, ha, h1 => by
    cases ha
    refine ⟨w, rfl, ?_⟩
    have : H.set id (.cells (lput l (off + k) []) true) = H := by
      cases H with
      | mk obj next =>
        simp only [AHeap.set, lput, AHeap.mk.injEq, and_true]
        funext i
        by_cases hi : i = id
        · subst hi; simp at h; simp [h]
        · simp [hi]
    rw [this]; exact hS
  | c :: cs, _, off, k, l, H, w, hS, id, h, hl, ha, h1 => by
    cases ha with
    | cons hr ha =>
      rename_i v vs
      obtain ⟨hst, hS'⟩ := hS.setCell (P := P) h (i := off + k) (by simp at hl; omega) hr (h1 v (by simp))
      have hobj : (H.set id (.cells (l.set (off + k) c) true)).obj id = some (.cells (l.set (off + k) c) true) := by simp [AHeap.set]
      obtain ⟨w', hrun, hS''⟩ := SRel.putCells cs vs off (k + 1) _ _ _ hS' hobj (by simp at hl ⊢; omega) ha (fun x hx => h1 x (by simp [hx]))
      refine ⟨w', ?_, ?_⟩
      · simp only [storeCells, Sem.run_bind, addr_add]
        rw [show (m.loc id).off + off + k = (m.loc id).off + (off + k) by omega, hst]
        simp only [Result.andThen_ok]
        exact hrun
      · rw [AHeap.set_set] at hS''
        exact hS''

/-- A draw. -/
theorem SRel.drew (hS : SRel w0 B m H w) : SRel w0 B m H w.drew := ⟨hS.below.drew, hS.size, hS.next, hS.obj, hS.apart⟩

theorem SRel.drawn (hS : SRel w0 B m H w) (n : Nat) : SRel w0 B m H { w with drawn := n } := ⟨⟨hS.below.os, hS.below.tape, hS.below.output, hS.below.size, hS.below.block⟩, hS.size, hS.next, hS.obj, hS.apart⟩

theorem SRel.free (hS : SRel w0 B m H w) : B w.heap.size = false := by
  cases h : B w.heap.size with
  | false => rfl
  | true => have := hS.size _ h; have := hS.below.size; omega

theorem ORel.mono {m m' : Inj} (hm : m.le m') {o : AObj} {L : Loc} {w : World} (h : ORel B m o L w) : ORel B m' o L w := by
  cases o with
  | cells l own =>
    obtain ⟨c, e, fz, hb, hc, ho⟩ := h
    exact ⟨c, e, fz, hb, fun i x hx => let ⟨v, h1, h2, h3⟩ := hc i x hx; ⟨v, h1, h2.mono hm, h3⟩, ho⟩

theorem ORel.alloc {o : AObj} {L : Loc} {w : World} (h : ORel B m o L w) (ob : Obj) : ORel B m o L (w.alloc ob) := by
  cases o with
  | cells l own =>
    obtain ⟨c, e, fz, hb, hc, ho⟩ := h
    refine ⟨c, e, fz, ?_, hc, ho⟩
    have hlt : L.block < w.heap.size := by
      rcases Nat.lt_or_ge L.block w.heap.size with h' | h'
      · exact h'
      · rw [Array.getElem?_eq_none h'] at hb; cases hb
    rw [Below.heap_alloc _ _ _ hlt]; exact hb

theorem ORel.lt {o : AObj} {L : Loc} {w : World} (h : ORel B m o L w) : L.block < w.heap.size := by
  cases o with
  | cells l own =>
    obtain ⟨c, e, fz, hb, _, _⟩ := h
    rcases Nat.lt_or_ge L.block w.heap.size with h' | h'
    · exact h'
    · rw [Array.getElem?_eq_none h'] at hb; cases hb

/-- A new object: its cells, and perhaps more of them behind. -/
theorem SRel.new (hS : SRel w0 B m H w) {cs : List AVal} {vs rest : List Value} (hv : All2 (VRel m) cs vs) (h1 : ∀ x, x ∈ vs → x.oneCell' = true) (e : TypeId) (fz : Nat × Nat) (hf : Free (vs ++ rest).toArray fz) (ob : Obj)
    (hob : ob = .cells (vs ++ rest).toArray e fz) :
    SRel w0 B (m.ext ⟨w.heap.size, 0, (vs ++ rest).length⟩) (H.new (.cells cs true)) (w.alloc ob) := by
  subst hob
  refine ⟨hS.below.alloc hS.free _, hS.size, by simp [AHeap.new, Inj.ext, hS.next], ?_, ?_⟩
  · intro id o ho
    simp only [AHeap.new] at ho
    by_cases he : id = H.next
    · subst he
      simp at ho
      subst ho
      rw [hS.next]
      refine ⟨Inj.ext_has m _, ?_⟩
      rw [Inj.ext_new]
      refine ⟨(vs ++ rest).toArray, e, fz, ?_, ?_, ?_⟩
      · show (w.heap.push _)[w.heap.size]? = _
        simp
      · intro i x hx
        obtain ⟨v, hv', hr⟩ := forall2_get hv i x hx
        refine ⟨v, ?_, hr.mono (m.le_ext _), h1 v (List.mem_of_getElem? hv')⟩
        have hlt : i < vs.length := by
          rcases Nat.lt_or_ge i vs.length with h' | h'
          · exact h'
          · rw [List.getElem?_eq_none h'] at hv'; cases hv'
        simp [List.getElem?_append_left hlt, hv']
      · intro _
        exact ⟨hS.free, by simp, hf⟩
    · simp [he] at ho
      obtain ⟨h1', h2'⟩ := hS.obj id o ho
      refine ⟨((m.le_ext _).2 id h1').1, ?_⟩
      rw [Inj.ext_old m _ h1']
      exact (h2'.mono (m.le_ext _)).alloc _
  · have key : ∀ k ok, (H.new (.cells cs true)).obj k = some ok → k ≠ H.next → H.obj k = some ok ∧ m.has k := by
      intro k ok hk hne
      simp [AHeap.new, hne] at hk
      exact ⟨hk, (hS.obj k ok hk).1⟩
    intro a b o o' ha hb hown hab
    by_cases hea : a = H.next
    · have hbn : b ≠ H.next := fun h => hab (hea.trans h.symm)
      obtain ⟨hb', hbl⟩ := key b o' hb hbn
      rw [hea, hS.next, Inj.ext_new, Inj.ext_old m _ hbl]
      have := (hS.obj b o' hb').2.lt
      intro h; simp at h; omega
    · obtain ⟨ha', hal⟩ := key a o ha hea
      by_cases heb : b = H.next
      · rw [heb, hS.next, Inj.ext_new, Inj.ext_old m _ hal]
        have := (hS.obj a o ha').2.lt
        intro h; simp at h; omega
      · obtain ⟨hb', hbl⟩ := key b o' hb heb
        rw [Inj.ext_old m _ hal, Inj.ext_old m _ hbl]
        exact hS.apart a b o o' ha' hb' hown hab

theorem SRel.del (hS : SRel w0 B m H w) (id : Nat) : SRel w0 B m (H.del id) w := by
  have key : ∀ k ok, (H.del id).obj k = some ok → H.obj k = some ok := by
    intro k ok hk
    simp only [AHeap.del] at hk
    by_cases he : k = id
    · simp [he] at hk
    · simpa [he] using hk
  exact ⟨hS.below, hS.size, hS.next, fun k o h => hS.obj k o (key k o h), fun a b o o' ha hb => hS.apart a b o o' (key _ _ ha) (key _ _ hb)⟩

end Go.Proofs.Ytilhjcnkaelheaa.Am
