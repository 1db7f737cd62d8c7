/- Frames (what a call leaves as it was), slices of anything, arguments of any shape. -/
import Derived.Test.YtilhjcnkaelheaaAmRng
set_option linter.unusedSimpArgs false
set_option linter.unusedVariables false
namespace Go.Proofs.Ytilhjcnkaelheaa.Am
open Go Go.RowKit

/-- An old number is none of the new ones. -/
theorem oldne {p q : Nat} (h : p < q) : ((p = q) = False ∧ (q = p) = False) ∧ (∀ k, (p = q + k) = False) ∧ (∀ k, (q + k = p) = False) :=
  ⟨⟨by simp; omega, by simp; omega⟩, fun k => by simp; omega, fun k => by simp; omega⟩
theorem nene {p a : Nat} (h : p ≠ a) : (p = a) = False ∧ (a = p) = False := ⟨by simp [h], by simp [Ne.symm h]⟩

/-- What stood is as it was, but for the objects named. -/
def Fr (L : List Nat) (H H' : AHeap) : Prop := H.next ≤ H'.next ∧ ∀ i, i < H.next → i ∉ L → H'.obj i = H.obj i
theorem Fr.refl (L : List Nat) (H : AHeap) : Fr L H H := ⟨Nat.le_refl _, fun _ _ _ => rfl⟩
theorem Fr.trans {L M : List Nat} {a b c : AHeap} (h : Fr L a b) (k : Fr M b c) (hM : ∀ i, i ∈ M → i ∈ L ∨ a.next ≤ i) : Fr L a c :=
  ⟨Nat.le_trans h.1 k.1, fun i hi hL => (k.2 i (Nat.lt_of_lt_of_le hi h.1) fun hm => (hM i hm).elim hL (by omega)).trans (h.2 i hi hL)⟩
theorem Fr.mono {L M : List Nat} {a b : AHeap} (h : Fr L a b) (hL : ∀ i, i ∈ L → i ∈ M ∨ a.next ≤ i) : Fr M a b := ⟨h.1, fun i hi hM => h.2 i hi fun hl => (hL i hl).elim hM (by omega)⟩
theorem Fr.of {L : List Nat} {a b : AHeap} (h : Keeps a b) : Fr L a b := ⟨h.1, fun i hi _ => h.2 i hi⟩
theorem Fr.keeps {a b : AHeap} (h : Fr [] a b) : Keeps a b := ⟨h.1, fun i hi => h.2 i hi (by simp)⟩
theorem Fr.new {L : List Nat} {H K : AHeap} {o : AObj} (h : Fr L H K) : Fr L H (K.new o) := h.trans (Fr.of (L := []) (Keeps.new K o)) (by simp)
theorem Fr.set {L : List Nat} {H K : AHeap} {p : Nat} {o : AObj} (hp : p ∈ L ∨ H.next ≤ p) (h : Fr L H K) : Fr L H (K.set p o) :=
  ⟨h.1, fun i hi hL => by rw [set_obj, if_neg (by rintro rfl; exact hp.elim hL (by omega))]; exact h.2 i hi hL⟩
theorem Fr.del {L : List Nat} {H K : AHeap} {s : AVal} (hs : ∀ i, i ∈ s.ids → i ∈ L ∨ H.next ≤ i) (h : Fr L H K) : Fr L H (delS K s) :=
  ⟨by rw [delS_next]; exact h.1, fun i hi hL => by rw [delS_obj _ _ (fun hx => (hs i hx).elim hL (by omega))]; exact h.2 i hi hL⟩
theorem Fr.skip {L : List Nat} {H : AHeap} : Fr L H H.skip := ⟨Nat.le_succ _, fun _ _ _ => rfl⟩
theorem Sl.fr {L : List Nat} {H H' : AHeap} {es : Nat} {s : AVal} {cs : List AVal} (h : Sl H es s cs) (f : Fr L H H') (hid : ∀ i, i ∈ s.ids → i < H.next ∧ i ∉ L) : Sl H' es s cs := h.keeps fun i hi => f.2 i (hid i hi).1 (hid i hi).2
theorem Ow.fr {L : List Nat} {H H' : AHeap} {es : Nat} {s : AVal} {cs : List AVal} (h : Ow H es s cs) (f : Fr L H H') (hid : ∀ i, i ∈ s.ids → i ∉ L) : Ow H' es s cs := h.keeps f.1 fun i hi => f.2 i (h.lt i hi) (hid i hi)

/-! ### Slices of elements of es cells -/
section
variable {α : Type} {enc : α → List AVal} {es : Nat}
theorem fm_len (he : ∀ a, (enc a).length = es) : ∀ l : List α, (l.flatMap enc).length = l.length * es
  | [] => by simp
  | a :: l => by rw [List.flatMap_cons, List.length_append, fm_len he l, he, List.length_cons, Nat.add_mul, Nat.one_mul]; omega
theorem fm_get (he : ∀ a, (enc a).length = es) : ∀ (l : List α) (i : Nat) (h : i < l.length), ((l.flatMap enc).drop (i * es)).take es = enc l[i]
  | [], i, h => by simp at h
  | a :: l, 0, _ => by
    rw [List.flatMap_cons, Nat.zero_mul, List.drop_zero, List.take_append, he, Nat.sub_self, List.take_zero, List.append_nil]
    simp [← he a]
  | a :: l, i + 1, h => by
    have := fm_get he l i (by simpa using h)
    rw [List.flatMap_cons, List.getElem_cons_succ, ← this, Nat.add_mul, Nat.one_mul, Nat.add_comm (i * es), ← List.drop_drop]
    congr 2
    rw [← he a]; simp
theorem fm_cell (he : ∀ a, (enc a).length = es) (l : List α) (i j : Nat) (h : i < l.length) (hj : j < es) : (l.flatMap enc)[i * es + j]? = (enc l[i])[j]? := by
  have := congrArg (fun x => x[j]?) (fm_get he l i h)
  simp only [List.getElem?_take, List.getElem?_drop, if_pos hj] at this
  exact this
theorem slen_fm (he : ∀ a, (enc a).length = es) (hes : 0 < es) {H : AHeap} {s : AVal} {l : List α} (h : Sl H es s (l.flatMap enc)) : slen s = l.length := by
  have := h.length
  rw [fm_len he] at this
  exact (Nat.eq_of_mul_eq_mul_right hes this).symm
/-- An element in memory. -/
theorem Sl.elem {H : AHeap} {s : AVal} {l : List α} (h : Sl H es s (l.flatMap enc)) (he : ∀ a, (enc a).length = es) (hes : 0 < es) {i : Nat} (hi : i < l.length) :
    ∃ id off cap g k own, s = .slice id off l.length cap g ∧ H.obj id = some (.cells k own) ∧ off + l.length * es ≤ k.length ∧ (k.drop (off + i * es)).take es = enc l[i] ∧ ∀ j, j < es → k[off + (i * es + j)]? = (enc l[i])[j]? := by
  have hs := slen_fm he hes h
  obtain ⟨id, off, cap, g, k, own, e, ho, hk, h1, h2⟩ := h.at (i := i) (by omega)
  rw [hs] at e hk
  refine ⟨id, off, cap, g, k, own, e, ho, hk, by rw [h2, fm_get he l i hi], fun j hj => ?_⟩
  rw [← Nat.add_assoc, h1 j hj, fm_cell he l i j hi hj]
theorem elem_room {i n off k : Nat} (hi : i < n) (h : off + n * es ≤ k) : off + i * es + es ≤ k := by
  have := Nat.mul_le_mul_right es (show i + 1 ≤ n by omega)
  rw [Nat.add_mul] at this
  omega
end

theorem slen1 {α : Type} {f : α → AVal} {H : AHeap} {s : AVal} {l : List α} (h : Sl H 1 s (l.map f)) : slen s = l.length := by
  have := h.length; simp at this; omega
/-- An element of one cell in memory. -/
theorem Sl.elem1 {α : Type} {f : α → AVal} {H : AHeap} {s : AVal} {l : List α} (h : Sl H 1 s (l.map f)) {i : Nat} (hi : i < l.length) :
    ∃ id off cap g k own, s = .slice id off l.length cap g ∧ H.obj id = some (.cells k own) ∧ off + l.length ≤ k.length ∧ k[off + i]? = some (f l[i]) := by
  rw [← flatMap_one] at h
  obtain ⟨id, off, cap, g, k, own, e, ho, hk, _, h2⟩ := h.elem (fun _ => rfl) (by decide) hi
  have := h2 0 (by decide)
  rw [Nat.mul_one, Nat.add_zero] at this
  exact ⟨id, off, cap, g, k, own, e, ho, by simpa using hk, this⟩

/-- A slice's shape. -/
theorem sl_shape' {H : AHeap} {es : Nat} {s : AVal} {cs : List AVal} (h : Sl H es s cs) : s = .nils ∨ ∃ a b c d e, s = .slice a b c d e := by
  rcases h with ⟨rfl, _⟩ | ⟨id, off, n, cap, g, rfl, _⟩
  · exact .inl rfl
  · exact .inr ⟨_, _, _, _, _, rfl⟩

/-- The memory behind an element (of some cells) put behind an append-made slice. -/
def pushE (K : AHeap) (s : AVal) (v c : List AVal) : AHeap := (delS (K.new (.cells v true)) s).new (.cells c true)
theorem pushE_next (K : AHeap) (s : AVal) (v c : List AVal) : (pushE K s v c).next = K.next + 2 := by simp [pushE, new_next, delS_next]
theorem pushE_obj {K : AHeap} {s : AVal} {v c : List AVal} {i : Nat} (h : i < K.next) (hs : i ∉ s.ids) : (pushE K s v c).obj i = K.obj i := by
  simp only [pushE, new_obj, delS_next, new_next]
  rw [if_neg (by omega), delS_obj _ _ hs, new_obj, if_neg (by omega)]
theorem pushE_top (K : AHeap) (s : AVal) (v c : List AVal) : (pushE K s v c).obj (K.next + 1) = some (.cells c true) := by
  simp only [pushE, new_obj, delS_next, new_next, if_true]
theorem Ow.pushE {K : AHeap} {by' es : Nat} {s : AVal} {cs v : List AVal} (h : Ow K es s cs) (hes : 0 < es) (hv : v.length = es) (hb : (slen s + 1) * by' ≤ 140737488355328 ∧ slen s + 1 ≤ 9223372036854775807) :
    aappend (K.new (.cells v true)) es by' s (.slice K.next 0 1 1 none) = some (.slice (K.next + 1) 0 (slen s + 1) (slen s + 1) (some es), pushE K s v (cs ++ v)) := by
  have hn : K.next ∉ s.ids := fun hx => by have := h.lt _ hx; omega
  have := ((Ow_new (o := .cells v true) hn).2 h).append (by' := by') (x := .slice K.next 0 1 1 none) (new := v) (n := 1) hes rfl (by
    simp only [acells, Nat.one_mul]
    rw [if_neg (by omega), new_obj, if_pos rfl]
    simp [hv, List.take_of_length_le (show v.length ≤ es by omega)]) (by omega) hb
  rw [this]
  simp only [Am.pushE, new_next, delS_next]
theorem Ow_pushedE (K : AHeap) (s : AVal) {es : Nat} {cs v : List AVal} (hes : 0 < es) (hv : v.length = es) (hc : cs.length = slen s * es) : Ow (pushE K s v (cs ++ v)) es (.slice (K.next + 1) 0 (slen s + 1) (slen s + 1) (some es)) (cs ++ v) := by
  have := Ow.made (K := delS (K.new (.cells v true)) s) (es := es) (n := slen s + 1) (cs := cs ++ v) (Nat.succ_pos _) (by rw [List.length_append, hc, hv, Nat.add_mul, Nat.one_mul])
  rw [delS_next, new_next] at this
  exact this
theorem Fr.pushE {L : List Nat} {H K : AHeap} {s : AVal} {v c : List AVal} (hs : ∀ i, i ∈ s.ids → i ∈ L ∨ H.next ≤ i) (h : Fr L H K) : Fr L H (pushE K s v c) := Fr.new (Fr.del hs (Fr.new h))

/-- All of a slice put behind a made one that has nothing. -/
theorem app_all {H : AHeap} {es by' id : Nat} {s : AVal} {cs : List AVal} (hes : 0 < es) (h : Sl H es s cs) (h0 : 0 < slen s) (hb : slen s * by' ≤ 140737488355328 ∧ slen s ≤ 9223372036854775807) :
    aappend H es by' (.slice id 0 0 0 none) s = some (.slice H.next 0 (slen s) (slen s) (some es), H.new (.cells cs true)) := by
  obtain ⟨a1, a2⟩ := h.cells
  have := app_known (H := H) (es := es) (by' := by') (id := id) (off := 0) (len := 0) (cap := 0) (n := slen s) (x := s) (old := []) (new := cs) hes a1 a2 (by simp [acells]) (by omega) (by simpa using hb)
  rw [this]
  simp

/-- A slice that grows: made by append, or made empty. -/
def Gr (K : AHeap) (es : Nat) (v : AVal) (cs : List AVal) : Prop := Ow K es v cs ∨ (cs = [] ∧ ∃ id, v = .slice id 0 0 0 none ∧ id < K.next ∧ K.obj id = some (.cells [] true))
theorem Gr.lt {K : AHeap} {es : Nat} {v : AVal} {cs : List AVal} (h : Gr K es v cs) : ∀ i, i ∈ v.ids → i < K.next := by
  rcases h with h | ⟨_, id, rfl, h, _⟩
  · exact h.lt
  · intro i hi; simp [AVal.ids] at hi; omega
theorem Gr.sl {K : AHeap} {es : Nat} {v : AVal} {cs : List AVal} (h : Gr K es v cs) : Sl K es v cs := by
  rcases h with h | ⟨rfl, id, rfl, _, _⟩
  · exact h.sl
  · exact .inr ⟨id, 0, 0, 0, none, rfl, by simp, .inl rfl⟩
theorem Gr.fr {L : List Nat} {H H' : AHeap} {es : Nat} {s : AVal} {cs : List AVal} (h : Gr H es s cs) (f : Fr L H H') (hid : ∀ i, i ∈ s.ids → i ∉ L) : Gr H' es s cs := by
  rcases h with h | ⟨rfl, id, rfl, h1, h2⟩
  · exact .inl (h.fr f hid)
  · exact .inr ⟨rfl, id, rfl, Nat.lt_of_lt_of_le h1 f.1, by rw [f.2 id h1 (hid id (by simp [AVal.ids]))]; exact h2⟩
theorem Gr.nil (H : AHeap) (es : Nat) : Gr H es .nils [] := .inl (Ow.nil H es)
theorem Gr.empty (H : AHeap) (es : Nat) : Gr (H.new (.cells [] true)) es (.slice H.next 0 0 0 none) [] := .inr ⟨rfl, H.next, rfl, by rw [new_next]; omega, by rw [new_obj, if_pos rfl]⟩
theorem Gr.shape {K : AHeap} {es : Nat} {v : AVal} {cs : List AVal} (h : Gr K es v cs) : v = .nils ∨ ∃ a n g, v = .slice a 0 n n g := by
  rcases h with (⟨rfl, _⟩ | ⟨id, n, rfl, _⟩) | ⟨_, id, rfl, _, _⟩
  · exact .inl rfl
  · exact .inr ⟨_, _, _, rfl⟩
  · exact .inr ⟨_, _, _, rfl⟩
theorem Gr.cuts {K : AHeap} {es : Nat} {v : AVal} {cs : List AVal} (h : Gr K es v cs) : Cuts es v := by
  rcases h with h | ⟨_, id, rfl, _, _⟩
  · exact h.cuts
  · intro _ _ _ _ _ e; cases e; exact ⟨Nat.le_refl _, .inl rfl⟩
/-- One element put behind. -/
theorem Gr.push {K : AHeap} {es by' : Nat} {v : AVal} {cs : List AVal} (h : Gr K es v cs) (hes : 0 < es) {x : List AVal} (hx : x.length = es) (hb : (slen v + 1) * by' ≤ 140737488355328 ∧ slen v + 1 ≤ 9223372036854775807) :
    ∃ v' K', aappend (K.new (.cells x true)) es by' v (.slice K.next 0 1 1 none) = some (v', K') ∧ Gr K' es v' (cs ++ x) ∧ (∀ i, i ∈ v'.ids → K.next ≤ i) ∧ Fr v.ids K K' ∧ slen v' = slen v + 1 ∧ ∃ a, v' = .slice a 0 (slen v + 1) (slen v + 1) (some es) := by
  rcases h with h | ⟨rfl, id, rfl, h1, h2⟩
  · refine ⟨_, _, h.pushE hes hx hb, .inl (Ow_pushedE K v hes hx h.sl.length), ?_, Fr.pushE (fun i hi => .inl hi) (Fr.refl _ _), rfl, _, rfl⟩
    intro i hi; simp [AVal.ids] at hi; omega
  · have e : aappend (K.new (.cells x true)) es by' (.slice id 0 0 0 none) (.slice K.next 0 1 1 none) = some (.slice (K.next + 1) 0 1 1 (some es), (K.new (.cells x true)).new (.cells x true)) := by
      have := app_known (H := K.new (.cells x true)) (es := es) (by' := by') (id := id) (off := 0) (len := 0) (cap := 0) (x := .slice K.next 0 1 1 none) (n := 1) (old := []) (new := x) hes rfl (by
        simp only [acells, Nat.one_mul]
        rw [if_neg (by omega), new_obj, if_pos rfl]
        simp [hx, List.take_of_length_le (show x.length ≤ es by omega)]) (by simp [acells]) (by decide) (by simpa [slen] using hb)
      simpa [new_next] using this
    refine ⟨_, _, e, .inl (.inr ⟨_, 1, rfl, by simpa using hx, by simp [new_next], by simp [new_obj, new_next], by decide⟩), ?_, Fr.new (Fr.new (Fr.refl _ _)), rfl, _, rfl⟩
    intro i hi; simp [AVal.ids] at hi; omega
/-- All of another slice put behind. -/
theorem Gr.add {K : AHeap} {es by' : Nat} {v s : AVal} {cs new : List AVal} (h : Gr K es v cs) (hes : 0 < es) (hs : Sl K es s new) (hb : (slen v + slen s) * by' ≤ 140737488355328 ∧ slen v + slen s ≤ 9223372036854775807) :
    ∃ v' K', aappend K es by' v s = some (v', K') ∧ Gr K' es v' (cs ++ new) ∧ (∀ i, i ∈ v'.ids → i ∈ v.ids ∨ K.next ≤ i) ∧ Fr v.ids K K' ∧ slen v' = slen v + slen s := by
  obtain ⟨a1, a2⟩ := hs.cells
  rcases Nat.eq_zero_or_pos (slen s) with h0 | h0
  · have hn : new = [] := List.eq_nil_of_length_eq_zero (by rw [hs.length, h0]; simp)
    subst hn
    rw [h0] at a1 a2
    refine ⟨v, K, ?_, by simpa using h, fun i hi => .inl hi, Fr.refl _ _, by rw [h0]; rfl⟩
    rcases h.shape with rfl | ⟨a, n, g, rfl⟩
    · exact app_none_nils a1 a2
    · exact app_none (Nat.le_refl _) a1 a2
  · rcases h with h | ⟨rfl, id, rfl, h1, h2⟩
    · have e := h.append (by' := by') hes a1 a2 h0 hb
      refine ⟨_, _, e, .inl (Ow.grown h0 h.sl.length hs.length), ?_, Fr.new (Fr.del (fun i hi => .inl hi) (Fr.refl _ _)), rfl⟩
      intro i hi; simp [AVal.ids] at hi; omega
    · have e := app_known (H := K) (es := es) (by' := by') (id := id) (off := 0) (len := 0) (cap := 0) (n := slen s) (x := s) (old := []) (new := new) hes a1 a2 (by simp [acells]) (by omega) (by simpa [slen] using hb)
      simp only [Nat.zero_add, List.nil_append] at e
      refine ⟨_, _, e, .inl (Ow.made h0 hs.length), ?_, Fr.new (Fr.refl _ _), by simp [slen]⟩
      intro i hi; simp [AVal.ids] at hi; omega

/-- A call that looks, and answers with a slice that grew. -/
theorem look_gr {A : AProg} {f : FuncId} {x : AFn} {args cs : List AVal} {es : Nat} {H : AHeap} (he : A.ext f = none) (hm : A.mode f = 2) (h : A.fn f = some x) (hc : oldl H.next cs = true)
    (hr : Rets (endX x.results (AX A x.body (ainit args) (frz H))) fun v K => Gr K es v cs ∧ ∀ i, i ∈ v.ids → H.next ≤ i) :
    ∃ v K, AC A f args H = some (v, K) ∧ Gr K es v cs ∧ Keeps H K ∧ ∀ i, i ∈ v.ids → H.next ≤ i := by
  obtain ⟨v, K, hr, hb, hi⟩ := hr
  rcases hb with (⟨rfl, rfl⟩ | ⟨id, n, rfl, hl, _, ho, hn⟩) | ⟨rfl, id, rfl, _, ho⟩
  · exact ⟨.nils, H, look_val he hm h rfl ⟨K, hr⟩, Gr.nil H es, Keeps.refl H, by simp [AVal.ids]⟩
  · have e := look_new (u := .slice H.next 0 n n (some es)) (cs := cs) he hm h ⟨_, K, hr, one_slice (hi id (by simp [AVal.ids])) ho hc⟩
    exact ⟨_, _, e, .inl (.inr ⟨_, n, rfl, hl, by rw [new_next]; omega, by rw [new_obj, if_pos rfl], hn⟩), Keeps.new _ _, by simp [AVal.ids]⟩
  · have e := look_new (u := .slice H.next 0 0 0 none) (cs := []) he hm h ⟨_, K, hr, one_slice (hi id (by simp [AVal.ids])) ho rfl⟩
    exact ⟨_, _, e, Gr.empty H es, Keeps.new _ _, by simp [AVal.ids]⟩

/-- An old value: its numbers are. -/
theorem old_sl {n : Nat} {H : AHeap} {es : Nat} {s : AVal} {cs : List AVal} (h : Sl H es s cs) (hid : ∀ i, i ∈ s.ids → i < n) : s.old n = true := by
  rcases h with ⟨rfl, _⟩ | ⟨id, off, m, cap, g, rfl, _⟩
  · rfl
  · simpa [AVal.old] using hid id (by simp [AVal.ids])

/-! ### A range over slices.Backward -/
section
variable {A : AProg} {call : ACall} {tok : Nat} {yl : AYield}
theorem y_mv (x : AOpd) (ρ : AOpd → AVal) (st : APend) (H : AHeap) : ady call tok yl (.mv x) ρ st H = liftY st (ado call (.mv x) ρ H) := y_plain _ rfl ρ st H
theorem y_load (g : Bool) (n : Nat) (x : AOpd) (ρ : AOpd → AVal) (st : APend) (H : AHeap) : ady call tok yl (.load g n x) ρ st H = liftY st (ado call (.load g n x) ρ H) := y_plain _ rfl ρ st H
theorem y_len (g : Bool) (x : AOpd) (ρ : AOpd → AVal) (st : APend) (H : AHeap) : ady call tok yl (.len g x) ρ st H = liftY st (ado call (.len g x) ρ H) := y_plain _ rfl ρ st H
theorem y_bin (o : BinOp) (x y : AOpd) (ρ : AOpd → AVal) (st : APend) (H : AHeap) : ady call tok yl (.bin o x y) ρ st H = liftY st (ado call (.bin o x y) ρ H) := y_plain _ rfl ρ st H
theorem y_idxASl (n : Nat) (x y : AOpd) (ρ : AOpd → AVal) (st : APend) (H : AHeap) : ady call tok yl (.idxASl n x y) ρ st H = liftY st (ado call (.idxASl n x y) ρ H) := y_plain _ rfl ρ st H
theorem y_un (o : UnOp) (x : AOpd) (ρ : AOpd → AVal) (st : APend) (H : AHeap) : ady call tok yl (.un o x) ρ st H = liftY st (ado call (.un o x) ρ H) := y_plain _ rfl ρ st H

/-- The loop of slices.Backward over elements of es cells (more than one). -/
def backL (es : Nat) : ACode := (.seq (.seq (.region [⟨(some 7), (.mv (.tmp 3)), none, none⟩, ⟨(some 8), (.bin .geq (.tmp 7) (.con (.int .i64 0))), none, none⟩]) (.cond (.tmp 8) .skip (.exit 0))) (.seq (.block 1 (.seq (.region [⟨(some 11), (.mv (.tmp 0)), none, none⟩, ⟨(some 12), (.mv (.tmp 3)), none, none⟩, ⟨(some 13), (.load false 1 (.tmp 1)), none, none⟩, ⟨(some 14), (.mv (.tmp 3)), none, none⟩, ⟨(some 15), (.idxASl es (.tmp 13) (.tmp 14)), none, none⟩, ⟨(some 16), (.load true es (.tmp 15)), none, none⟩, ⟨(some 17), (.call (.tmp 11) [(.tmp 12), (.tmp 16)]), none, none⟩, ⟨(some 18), (.un .not (.tmp 17)), none, none⟩]) (.cond (.tmp 18) .ret .skip))) (.region [⟨(some 9), (.mv (.tmp 3)), none, none⟩, ⟨(some 10), (.bin .sub (.tmp 9) (.con (.int .i64 1))), none, none⟩, ⟨(some 3), (.mv (.tmp 10)), none, none⟩])))
def backB (es : Nat) : ACode := (.seq (.region [⟨(some 4), (.load false 1 (.tmp 1)), none, none⟩, ⟨(some 5), (.len false (.tmp 4)), none, none⟩, ⟨(some 6), (.bin .sub (.tmp 5) (.con (.int .i64 1))), none, none⟩, ⟨(some 3), (.mv (.tmp 6)), none, none⟩]) (.block 0 (.loop (backL es))))

theorem back_loop {α : Type} {enc : α → List AVal} {es : Nat} (he : ∀ a, (enc a).length = es) (hes : 0 < es) {l : List α} {s : AVal} {c : Nat} (hl : l.length < 9223372036854775807) (I : Nat → AHeap → Prop) (Q : APend → AHeap → Prop)
    (hI : ∀ i K, I i K → (∃ own, K.obj c = some (.cells [s] own)) ∧ Sl K es s (l.flatMap enc))
    (hy : ∀ i (h : i < l.length) K, I (i + 1) K → ∃ b st K', yl none [.int .i64 (i : Int), .agg (enc l[i])] K = some (b, st, K') ∧ ((b = true ∧ st = none ∧ I i K') ∨ (b = false ∧ Q st K')))
    {K : AHeap} (h0 : I l.length K) {env : Env} (e0 : env 0 = .yield tok) (e1 : env 1 = .ptr c 0) (e3 : env 3 = .int .i64 ((l.length : Int) - 1)) :
    OutsY (AXY A tok yl (.loop (backL es)) none env K) fun e st _ K' => (e = .exit 0 ∧ st = none ∧ I 0 K') ∨ (e = .ret ∧ Q st K') := by
  refine loopY_ends (I := fun (i : Nat) st env1 H' => st = none ∧ i ≤ l.length ∧ I i H' ∧ env1 0 = .yield tok ∧ env1 1 = .ptr c 0 ∧ env1 3 = .int .i64 ((i : Int) - 1)) (fun i => i) ?_ l.length none env K ⟨rfl, Nat.le_refl _, h0, e0, e1, e3⟩
  rintro i st env1 H' ⟨rfl, hi, hk, e0, e1, e3⟩
  cases i with
  | zero =>
    have d0 : decide ((0 : Int) ≤ -1) = false := by decide
    have e3 : env1 3 = .int .i64 (-1) := e3
    simp only [backL, y_seq, y_region, y_op, y_mv, y_load, y_len, y_bin, y_idxASl, y_un, e3, d0, y_lift, y_stepO, y_nil, y_out, y_normal, y_cond, y_bool, y_exits, AXY_exit, rwA, rwB, Nat.reduceAdd, Nat.reduceMul, Nat.reduceLeDiff, Int.reduceEq, Int.reduceLT, Int.reduceLE, Int.reduceAdd, Int.reduceSub, Int.reduceMul, ↓reduceIte, Nat.reduceEqDiff, reduceCtorEq, ↓cnd_true, ↓cnd_false]
    exact ⟨_, _, _, _, rfl, .inr ⟨by simp, .inl ⟨rfl, rfl, hk⟩⟩⟩
  | succ i =>
    obtain ⟨⟨own, oc⟩, hs⟩ := hI _ _ hk
    obtain ⟨id, off, cap, g, k, own', rfl, ho, hkk, hall, _⟩ := hs.elem he hes (i := i) (by omega)
    have hr := elem_room (es := es) (i := i) (by omega) hkk
    have d0 : decide ((0 : Int) ≤ (i : Int)) = true := decide_eq_true (by omega)
    have ei : ((i + 1 : Nat) : Int) - 1 = (i : Int) := by omega
    have w1 : IntKind.i64.wrap ((i : Int) - 1) = (i : Int) - 1 := by rw [wrap_i64]; omega
    have ha : aidx l.length (.int .i64 (i : Int)) = some i := by simp [aidx]; omega
    have ld : apart true (off + i * es) es k = some (.agg (enc l[i])) := by rw [apart_agg _ _ _ hr, hall]
    obtain ⟨b, st, K', hyl, hc⟩ := hy i (by omega) H' hk
    rw [ei] at e3
    rcases hc with ⟨rfl, rfl, hI'⟩ | ⟨rfl, hQ⟩
    · simp only [backL, y_seq, y_region, y_op, y_mv, y_load, y_len, y_bin, y_idxASl, y_un, y_call, e0, e1, e3, oc, d0, ha, ho, ld, hyl, w1, y_lift, y_stepO, y_nil, y_out, y_normal, y_cond, y_bool, y_exits, y_block, y_bret, y_bnormal, y_yield, y_yX, AXY_exit, AXY_skip, AXY_ret, y_rets, Bool.not_false, Bool.not_true, rwA, rwB, Nat.reduceAdd, Nat.reduceMul, Nat.reduceLeDiff, Int.reduceEq, Int.reduceLT, Int.reduceLE, Int.reduceAdd, Int.reduceSub, Int.reduceMul, ↓reduceIte, Nat.reduceEqDiff, reduceCtorEq, ↓cnd_true, ↓cnd_false]
      exact ⟨_, _, _, _, rfl, .inl ⟨rfl, i, by omega, rfl, by omega, hI', by simp [Env.set, e0], by simp [Env.set, e1], by simp [Env.set]⟩⟩
    · simp only [backL, y_seq, y_region, y_op, y_mv, y_load, y_len, y_bin, y_idxASl, y_un, y_call, e0, e1, e3, oc, d0, ha, ho, ld, hyl, y_lift, y_stepO, y_nil, y_out, y_normal, y_cond, y_bool, y_exits, y_block, y_bret, y_yield, y_yX, AXY_exit, AXY_skip, AXY_ret, y_rets, Bool.not_false, Bool.not_true, rwA, rwB, Nat.reduceAdd, Nat.reduceMul, Nat.reduceLeDiff, Int.reduceEq, Int.reduceLT, Int.reduceLE, Int.reduceAdd, Int.reduceSub, Int.reduceMul, ↓reduceIte, Nat.reduceEqDiff, reduceCtorEq, ↓cnd_true, ↓cnd_false]
      exact ⟨_, _, _, _, rfl, .inr ⟨by simp, .inr ⟨rfl, hQ⟩⟩⟩

theorem outs_range {f : AOpd} {ps : List Nat} {ac bd : ACode} {env : Env} {H : AHeap} {g : FuncId} {first captured : List AVal} {fn : AFn} {Q : AExit → Env → AHeap → Prop} (hf : aev env f = .func g first captured) (hfn : A.fn g = some fn) (hres : fn.results = [])
    (h : OutsY (AXY A H.next (ayield (AX A ac) (AX A bd) ps env) fn.body none (ainit (first ++ [.yield H.next] ++ captured)) H.skip) fun e st _ H1 => (∀ id, e ≠ .exit id) ∧ Q (st.getD .normal) env H1) :
    Outs (AX A (.range f ps ac bd) env H) Q := by
  obtain ⟨st, H1, h1, h2⟩ := s_range (Q := fun st H1 => Q (st.getD .normal) env H1) hf hfn hres h
  exact ⟨_, _, _, h1, h2⟩
theorem outsY_gen {id : Nat} {b : ACode} {env : Env} {H : AHeap} {Q : AExit → APend → Env → AHeap → Prop} (P : Env → Prop) (hp : P env) (h : ∀ env, P env → OutsY (blockY id (AXY A tok yl b none env H)) Q) : OutsY (blockY id (AXY A tok yl b none env H)) Q := h env hp
theorem outs_gen {c : ACode} {env : Env} {H : AHeap} {Q : AExit → Env → AHeap → Prop} (P : Env → Prop) (hp : P env) (h : ∀ env, P env → Outs (AX A c env H) Q) : Outs (AX A c env H) Q := h env hp

theorem range_back {α : Type} {enc : α → List AVal} {es : Nat} (he : ∀ a, (enc a).length = es) (hes : 0 < es) {l : List α} {s : AVal} {c : Nat} (hl : l.length < 9223372036854775807)
    {f : AOpd} {ps : List Nat} {ac bd : ACode} {env : Env} {H : AHeap} {g : FuncId} {fn : AFn} (hf : aev env f = .func g [] [.ptr c 0]) (hfn : A.fn g = some fn) (hb : fn = ⟨backB es, []⟩)
    (I : Nat → AHeap → Prop) (Q : APend → AHeap → Prop)
    (hI : ∀ i K, I i K → (∃ own, K.obj c = some (.cells [s] own)) ∧ Sl K es s (l.flatMap enc))
    (hy : ∀ i (h : i < l.length) K, I (i + 1) K → ∃ b st K', ayield (AX A ac) (AX A bd) ps env none [.int .i64 (i : Int), .agg (enc l[i])] K = some (b, st, K') ∧ ((b = true ∧ st = none ∧ I i K') ∨ (b = false ∧ Q st K')))
    (h0 : I l.length H.skip) :
    Outs (AX A (.range f ps ac bd) env H) fun e env' K => env' = env ∧ ((e = .normal ∧ I 0 K) ∨ ∃ st, e = st.getD .normal ∧ Q st K) := by
  subst hb
  refine outs_range (g := g) (first := []) (captured := [.ptr c 0]) hf hfn rfl ?_
  obtain ⟨⟨own, oc⟩, hs⟩ := hI _ _ h0
  have hn := slen_fm he hes hs
  have hlen := hs.alen
  rw [hn] at hlen
  have w1 : IntKind.i64.wrap ((l.length : Int) - 1) = (l.length : Int) - 1 := by rw [wrap_i64]; omega
  have i0 : ainit ([] ++ [AVal.yield H.next] ++ [.ptr c 0]) 0 = .yield H.next := rfl
  have i1 : ainit ([] ++ [AVal.yield H.next] ++ [.ptr c 0]) 1 = .ptr c 0 := rfl
  have key := fun env0 e0 e1 e3 => back_loop (A := A) (tok := H.next) (yl := ayield (AX A ac) (AX A bd) ps env) he hes hl I Q hI hy h0 (env := env0) e0 e1 e3
  rcases sl_shape' hs with rfl | ⟨_, _, _, _, _, rfl⟩
  all_goals
    simp only [backB, y_seq, y_region, y_op, y_mv, y_load, y_len, y_bin, i0, i1, oc, hlen, w1, y_lift, y_stepO, y_nil, y_out, y_normal, y_block, rwA, rwB, Nat.reduceAdd, Nat.reduceMul, Nat.reduceLeDiff, Int.reduceEq, Int.reduceLT, Int.reduceLE, Int.reduceAdd, Int.reduceSub, Int.reduceMul, ↓reduceIte, Nat.reduceEqDiff, reduceCtorEq, ↓cnd_true, ↓cnd_false]
    refine outsY_gen (fun e0 => e0 0 = .yield H.next ∧ e0 1 = .ptr c 0 ∧ e0 3 = .int .i64 ((l.length : Int) - 1)) ⟨by simp [Env.set, ainit], by simp [Env.set, ainit], by simp [Env.set]⟩ ?_
    rintro env0 ⟨a0, a1, a3⟩
    obtain ⟨e, st, env', H', hx, hc⟩ := key env0 a0 a1 a3
    rcases hc with ⟨rfl, rfl, hk⟩ | ⟨rfl, hQ⟩
    · refine ⟨_, _, _, _, (congrArg (blockY 0) hx).trans (by rw [y_bexit, if_pos rfl]), by simp, trivial, .inl ⟨rfl, hk⟩⟩
    · refine ⟨_, _, _, _, (congrArg (blockY 0) hx).trans (by rw [y_bret]), by simp, trivial, .inr ⟨st, rfl, hQ⟩⟩
end

/-! ### Arguments of any shape -/
inductive Sh where
  | bool | int (k : IntKind) | str
  | slice (n bytes : Nat) (e : Sh)
  | fend | fld (off n : Nat) (x rest : Sh) | st (n : Nat) (fs : Sh)

def Shp (H : AHeap) : Sh → List AVal → Prop
  | .bool, cs => ∃ b, cs = [.bool b]
  | .int k, cs => ∃ n, cs = [.int k n] ∧ k.min ≤ n ∧ n ≤ k.max
  | .str, cs => ∃ s, cs = [.str s] ∧ s.length ≤ reachBytes
  | .slice n bytes e, cs => ∃ v xs, cs = [v] ∧ Sl H n v xs ∧ Cuts n v ∧ (∀ i, i ∈ v.ids → i < H.next) ∧ xs.length = slen v * n ∧ slen v ≤ maxLen ∧ slen v * bytes ≤ reachBytes ∧ ∀ i, i < slen v → Shp H e ((xs.drop (i * n)).take n)
  | .fend, _ => True
  | .fld off n x r, cs => Shp H x ((cs.drop off).take n) ∧ Shp H r cs
  | .st n fs, cs => cs.length = n ∧ Shp H fs cs

def shFs (g : TypeId → Option Sh) (c : TypeId → Nat) : List Field → Option Sh
  | [] => some .fend
  | fd :: l => (g fd.type).bind fun x => (shFs g c l).map fun r => .fld fd.offset (c fd.type) x r
def shOf (P : Program) : Nat → TypeId → Option Sh
  | 0, _ => none
  | f + 1, t => match P.underlying t with
    | some .bool => some .bool
    | some (.int k) => some (.int k)
    | some .string => some .str
    | some (.slice e) => (shOf P f e).map (.slice (P.cellsOf e) (P.bytesOf e))
    | some (.struct fs) => (shFs (shOf P f) P.cellsOf fs.toList).map (.st (P.cellsOf t))
    | _ => none

theorem shp_fs {P : Program} {H : AHeap} {f g : Nat} {cs : List AVal} (ih : ∀ t sh cs d, shOf P f t = some sh → AReads P H g t cs d → Shp H sh cs) :
    ∀ (l : List Field) (sh : Sh) (ds : List Dat), shFs (shOf P f) P.cellsOf l = some sh → ds.length = l.length → (∀ (i : Nat) (fd : Field) (x : Dat), l[i]? = some fd → ds[i]? = some x → AReads P H g fd.type ((cs.drop fd.offset).take (P.cellsOf fd.type)) x) → Shp H sh cs
  | [], sh, _, h, _, _ => by simp [shFs] at h; subst h; exact trivial
  | fd :: l, sh, [], h, hd, _ => by simp at hd
  | fd :: l, sh, d :: ds, h, hd, hr => by
    simp only [shFs, Option.bind_eq_some_iff, Option.map_eq_some_iff] at h
    obtain ⟨x, hx, r, hr', rfl⟩ := h
    exact ⟨ih _ _ _ _ hx (hr 0 fd d rfl rfl), shp_fs ih l r ds hr' (by simpa using hd) fun i fd' x h1 h2 => hr (i + 1) fd' x (by simpa using h1) (by simpa using h2)⟩

theorem reads_sh {P : Program} {H : AHeap} : ∀ (f g : Nat) (t : TypeId) (sh : Sh) (cs : List AVal) (d : Dat), shOf P f t = some sh → AReads P H g t cs d → Shp H sh cs
  | 0, _, _, _, _, _, h, _ => by simp [shOf] at h
  | f + 1, 0, _, _, _, _, _, h => by simp [AReads] at h
  | f + 1, g + 1, t, sh, cs, d, h, hr => by
    simp only [shOf] at h
    simp only [AReads] at hr
    split at h
    · rename_i hu
      rw [hu] at hr
      injection h with h; subst h
      obtain ⟨b, h1, _⟩ := hr
      exact ⟨b, h1⟩
    · rename_i k hu
      rw [hu] at hr
      injection h with h; subst h
      obtain ⟨n, h1, _, h2⟩ := hr
      exact ⟨n, h1, h2⟩
    · rename_i hu
      rw [hu] at hr
      injection h with h; subst h
      obtain ⟨s, h1, _, h2⟩ := hr
      exact ⟨s, h1, h2⟩
    · rename_i e hu
      rw [Option.map_eq_some_iff] at h
      obtain ⟨x, hx, rfl⟩ := h
      have ha : ∀ v, cs = [v] → AArg P H t v d := fun v hv => ⟨g + 1, cs, by simp only [AReads]; exact hr, by rw [hu]; exact hv⟩
      rw [hu] at hr
      have hcs : ∃ v, cs = [v] := by
        rcases hr with ⟨rfl, _⟩ | ⟨id, cap, l, ds, _, rfl, _⟩ <;> exact ⟨_, rfl⟩
      obtain ⟨v, hv⟩ := hcs
      have ha := ha v hv
      obtain ⟨f', ds, xs, h1, h2, h3, h4, h5, h6, h7⟩ := arg_slice hu ha
      refine ⟨v, xs, hv, h1, arg_cuts (P.cellsOf e) hu ha, h4, by rw [h2]; exact h3, by omega, by rw [h2]; exact h6, fun i hi => ?_⟩
      have hi' : i < ds.length := by omega
      exact reads_sh f f' e x _ _ hx (h7 i ds[i] (List.getElem?_eq_getElem hi'))
    · rename_i fs hu
      rw [hu] at hr
      rw [Option.map_eq_some_iff] at h
      obtain ⟨x, hx, rfl⟩ := h
      obtain ⟨ds, _, h1, h2, h3⟩ := hr
      refine ⟨h1, shp_fs (fun t sh cs d => reads_sh f g t sh cs d) fs.toList x ds hx (by simpa using h2) fun i fd y h4 h5 => h3 i fd y (by simpa using h4) h5⟩
    · cases h

def Sh.isSt : Sh → Bool
  | .st .. => true
  | _ => false
/-- An argument by its shape. -/
theorem arg_sh {P : Program} {H : AHeap} {f : Nat} {t : TypeId} {sh : Sh} {v : AVal} {d : Dat} (hs : shOf P f t = some sh) (h : AArg P H t v d) :
    ∃ cs, Shp H sh cs ∧ (sh.isSt = false → cs = [v]) ∧ (sh.isSt = true → v = .agg cs) := by
  obtain ⟨g, cs, hr, hc⟩ := h
  refine ⟨cs, reads_sh f g t sh cs d hs hr, ?_⟩
  cases f with
  | zero => simp [shOf] at hs
  | succ f =>
    simp only [shOf] at hs
    split at hs <;> rename_i hu <;> try rw [hu] at hc
    · injection hs with hs; subst hs; exact ⟨fun _ => hc, fun h => (nomatch h)⟩
    · injection hs with hs; subst hs; exact ⟨fun _ => hc, fun h => (nomatch h)⟩
    · injection hs with hs; subst hs; exact ⟨fun _ => hc, fun h => (nomatch h)⟩
    · rw [Option.map_eq_some_iff] at hs; obtain ⟨x, _, rfl⟩ := hs; exact ⟨fun _ => hc, fun h => (nomatch h)⟩
    · rw [Option.map_eq_some_iff] at hs; obtain ⟨x, _, rfl⟩ := hs; exact ⟨fun h => (nomatch h), fun _ => hc⟩
    · cases hs

/-- A list of elements, each of a shape that is an encoding. -/
theorem shp_list {H : AHeap} {α : Type} {enc : α → List AVal} {n bytes : Nat} {e : Sh} {cs : List AVal} (h : Shp H (.slice n bytes e) cs) (he : ∀ c, Shp H e c → ∃ a, c = enc a) :
    ∃ (v : AVal) (l : List α), cs = [v] ∧ Sl H n v (l.flatMap enc) ∧ Cuts n v ∧ (∀ i, i ∈ v.ids → i < H.next) ∧ slen v = l.length ∧ l.length ≤ maxLen ∧ l.length * bytes ≤ reachBytes := by
  obtain ⟨v, xs, h1, h2, h3, h4, h5, h6, h7, h8⟩ := h
  obtain ⟨l, hl, rfl⟩ := cells_of (enc := enc) (slen v) xs h5 (fun i hi => he _ (h8 i hi))
  exact ⟨v, l, h1, h2, h3, h4, hl.symm, by omega, by rw [hl]; exact h7⟩

theorem shp_listP {H : AHeap} {α : Type} {enc : α → List AVal} {Pr : α → Prop} {n bytes : Nat} {e : Sh} {cs : List AVal} (h : Shp H (.slice n bytes e) cs) (he : ∀ c, Shp H e c → ∃ a, Pr a ∧ c = enc a) :
    ∃ (v : AVal) (l : List α), cs = [v] ∧ Sl H n v (l.flatMap enc) ∧ Cuts n v ∧ (∀ i, i ∈ v.ids → i < H.next) ∧ slen v = l.length ∧ l.length ≤ maxLen ∧ l.length * bytes ≤ reachBytes ∧ ∀ a, a ∈ l → Pr a := by
  obtain ⟨v, l, h1, h2, h3, h4, h5, h6, h7⟩ := shp_list (α := { a : α // Pr a }) (enc := fun a => enc a.1) h (fun c hc => by
    obtain ⟨a, ha, rfl⟩ := he c hc
    exact ⟨⟨a, ha⟩, rfl⟩)
  refine ⟨v, l.map (·.1), h1, by rw [List.flatMap_map]; exact h2, h3, h4, by simpa using h5, by simpa using h6, by simpa using h7, ?_⟩
  intro a ha
  obtain ⟨x, _, rfl⟩ := List.mem_map.1 ha
  exact x.2
theorem fm1 {α : Type} (f : α → AVal) (l : List α) : (l.flatMap fun a => [f a]) = l.map f := flatMap_one f l

theorem wrapU64 (n : Int) : IntKind.u64.wrap n = n % 18446744073709551616 := by simp [IntKind.wrap, IntKind.signed, IntKind.bits]
theorem wrapU8 (n : Int) : IntKind.u8.wrap n = n % 256 := by simp [IntKind.wrap, IntKind.signed, IntKind.bits]
theorem wrapU32 (n : Int) : IntKind.u32.wrap n = n % 4294967296 := by simp [IntKind.wrap, IntKind.signed, IntKind.bits]

end Go.Proofs.Ytilhjcnkaelheaa.Am
