/- What the abstract machine's operations answer, the model's do: append, copy, clear, make, build, texts and bytes. -/
import Derived.Test.YtilhjcnkaelheaaAmSound3
set_option linter.unusedSimpArgs false
set_option linter.unusedVariables false
namespace Go.Proofs.Ytilhjcnkaelheaa.Am
open Go Go.RowKit

variable {P : Program} {w0 w : World} {B : Nat → Bool} {m : Inj} {H H' : AHeap}

theorem s_len {x : AVal} {x' : Value} (hx : VRel m x x') {n : Nat} (h : alen x = some n) (w : World) : (Builtin.lenOf x').run P w = .ok n w := by
  cases hx <;> simp [alen] at h <;> subst h <;> rfl

theorem all2_bytes (l : List UInt8) : All2 (VRel m) (l.map fun b => AVal.int .u8 (b.toNat : Int)) (l.map fun b => Value.int .u8 (b.toNat : Int)) := by
  induction l with
  | nil => exact .nil
  | cons b l ih => exact .cons (.int _ _) ih

theorem bytes_one (l : List UInt8) : ∀ y, y ∈ (l.map fun b => Value.int .u8 (b.toNat : Int)) → y.oneCell' = true := by
  intro y hy
  simp at hy
  obtain ⟨b, _, rfl⟩ := hy
  rfl

theorem s_cells (hS : SRel w0 B m H w) {es n : Nat} {x : AVal} {x' : Value} (hx : VRel m x x') {cs : List AVal} (h : acells H es n x = some cs) :
    ∃ vs : List Value, (Builtin.firstCells es n x').run P w = .ok vs.toArray w ∧ All2 (VRel m) cs vs ∧ (∀ y, y ∈ vs → y.oneCell' = true) ∧ vs.length = cs.length := by
  cases hx with
  | nils =>
    simp [acells] at h; subst h
    exact ⟨[], rfl, .nil, by simp, rfl⟩
  | str s =>
    simp only [acells] at h
    split at h
    case isFalse => simp at h
    rename_i hn
    simp only [Option.some.injEq] at h
    subst h
    refine ⟨(s.take n).map fun b => .int .u8 (b.toNat : Int), ?_, all2_bytes _, bytes_one _, by simp⟩
    simp only [Builtin.firstCells, Sem.run_pure]
    congr 1
    apply Array.ext'
    simp [List.extract_eq_take_drop]
  | slice id off len cap g a' c' hid hlc hcc hg hge ho =>
    simp only [acells] at h
    by_cases hz : n * es = 0
    · rw [if_pos hz] at h
      simp at h; subst h
      refine ⟨[], ?_, .nil, by simp, rfl⟩
      simp only [Builtin.firstCells, hz]
      rfl
    rw [if_neg hz] at h
    split at h
    · rename_i l own hobj
      split at h
      · rename_i hb
        simp at h; subst h
        · have hn : 0 < n := by
            rcases Nat.eq_zero_or_pos n with h0 | h0
            · subst h0; simp at hz
            · exact h0
          have ho : a' = ⟨(m.loc id).block, (m.loc id).off + off, none⟩ := by
            rcases ho with ho | ho
            · exact ho
            · omega
          subst ho
          obtain ⟨vs, hr, ha, h1, hlen⟩ := hS.loadCells (P := P) hobj hb.2
          exact ⟨vs, hr, ha, h1, (forall2_length ha).symm⟩
      · simp at h
    · simp at h
  | _ => simp [acells] at h

/-! ### Zero values -/
theorem all2_of_get {α β : Type} {R : α → β → Prop} : ∀ {l : List α} {l' : List β}, l.length = l'.length → (∀ (i : Nat) x y, l[i]? = some x → l'[i]? = some y → R x y) → All2 R l l'
  | [], [], _, _ => .nil
  | [], _ :: _, h, _ => by simp at h
  | _ :: _, [], h, _ => by simp at h
  | a :: l, b :: l', h, hr => .cons (hr 0 a b rfl rfl) (all2_of_get (by simpa using h) fun i x y hx hy => hr (i + 1) x y (by simpa using hx) (by simpa using hy))

theorem arep_length (z : List AVal) : ∀ n, (arep z n).length = n * z.length
  | 0 => by simp [arep]
  | n + 1 => by simp [arep, arep_length z n, Nat.add_mul, Nat.add_comm]

theorem arep_get (z : List AVal) : ∀ (n i : Nat), i < n * z.length → (arep z n)[i]? = z[i % z.length]?
  | 0, i, h => by simp at h
  | n + 1, i, h => by
    simp only [arep]
    by_cases hi : i < z.length
    · rw [List.getElem?_append_left hi, Nat.mod_eq_of_lt hi]
    · rw [List.getElem?_append_right (by omega), arep_get z n (i - z.length) (by rw [Nat.add_mul] at h; omega)]
      congr 1
      rw [Nat.mod_eq_sub_mod (by omega : i ≥ z.length)]

theorem all2_zeros {z : List AVal} {zv : List Value} (hz : All2 (VRel m) z zv) (n : Nat) {k : Nat} (hk : k = n * zv.length) :
    All2 (VRel m) (arep z n) (((Array.range k).map fun i => (zv.toArray)[i % zv.toArray.size]!).toList) := by
  have hlz := forall2_length hz
  subst hk
  apply all2_of_get
  · simp [arep_length, hlz]
  · intro i x y hx hy
    have hi : i < n * z.length := by
      rcases Nat.lt_or_ge i (n * z.length) with h | h
      · exact h
      · rw [List.getElem?_eq_none (by rw [arep_length]; exact h)] at hx; cases hx
    rw [arep_get z n i hi] at hx
    obtain ⟨v, hv, hr⟩ := forall2_get hz _ _ hx
    have hpos : 0 < z.length := by
      rcases Nat.eq_zero_or_pos z.length with h0 | h0
      · rw [h0] at hi; simp at hi
      · exact h0
    have hlt : i % zv.length < zv.length := Nat.mod_lt _ (by omega)
    have hy' : y = v := by
      rw [hlz] at hi hv
      simp [hi] at hy
      rw [List.getElem?_eq_getElem hlt] at hv
      simp at hv
      rw [← hy, ← hv]
      simp [hlt]
    rw [hy']; exact hr

theorem zeros_cells {zv : List Value} (h : ∀ y, y ∈ zv → y.oneCell' = true) {n k : Nat} (hk : k = n * zv.length) :
    ∀ y, y ∈ ((Array.range k).map fun i => (zv.toArray)[i % zv.toArray.size]!).toList → y.oneCell' = true := by
  intro y hy
  subst hk
  simp at hy
  obtain ⟨i, hi, rfl⟩ := hy
  have hpos : 0 < zv.length := by
    rcases Nat.eq_zero_or_pos zv.length with h0 | h0
    · rw [h0] at hi; simp at hi
    · exact h0
  have hlt : i % zv.length < zv.length := Nat.mod_lt _ hpos
  simp [hlt]
  exact h _ (List.getElem_mem hlt)

/-! ### make -/
theorem s_mkS (hS : SRel w0 B m H w) {t e : TypeId} {es bs : Nat} {z : List AVal} (ht : P.underlying t = some (.slice e)) (hes : tsize P e = some es) (hbs : tbytes P e = some bs) (hz : tzero P e = some z) (hzl : z.length = es) {x y v : AVal} {x' y' : Value} (hx : VRel m x x') (hy : VRel m y y')
    (h : amkS H es bs z x y = some (v, H')) : DoneV w0 B m H' v ((Instr.makeSlice t x' y').run P w) := by
  cases hx with
  | int kx l =>
    cases hy with
    | int ky c =>
      simp only [amkS] at h
      split at h
      · rename_i hc
        obtain ⟨h0, h1, h2, h3, _⟩ := hc
        simp at h
        obtain ⟨rfl, rfl⟩ := h
        obtain ⟨zv, hzr, hzc⟩ := run_zero hz w
        obtain ⟨hza, hz1⟩ := cvals_rel (m := m) hzc
        obtain ⟨i, hi, hib⟩ := run_bytes hbs w
        have hl : IntKind.i64.wrap l = l := IntWalk.i64_in l (by omega)
        have hcw : IntKind.i64.wrap c = c := IntWalk.i64_in c (by omega)
        have hzvl : zv.cells.toList.length = es := by rw [← forall2_length hza]; exact hzl
        have hn : c.toNat * es = c.toNat * zv.cells.toList.length := by rw [hzvl]
        have hA := all2_zeros hza c.toNat hn
        have h1c := zeros_cells hz1 hn
        generalize hVS : ((Array.range (c.toNat * es)).map fun i => (zv.cells.toList.toArray)[i % zv.cells.toList.toArray.size]!) = VS at hA h1c
        obtain ⟨m', hm, hloc, hn', hS'⟩ := s_new hS e hA h1c
        have hrun : (Instr.makeSlice t (.int kx l) (.int ky c)).run P w = .ok (.slice (some ⟨w.heap.size, 0, none⟩) l.toNat c.toNat) (w.alloc (.cells VS e (0, 0))) := by
          have ht1 : ¬ (c < 0) := by omega
          have ht2 : ¬ ((bs : Int) * c > 281474976710656) := by rw [Int.mul_comm]; omega
          have ht3 : ¬ (l < 0) := by omega
          have ht4 : ¬ (l > c) := by omega
          simp only [Instr.makeSlice, Sem.run_bind, run_underlying ht, Result.andThen_ok, asInt, asIntOf, Sem.run_pure, hi, hl, hcw, hib]
          have hcond : ((decide (c < 0) || decide ((bs : Int) * c > 2 ^ 48)) || decide (l < 0) || decide (l > c)) = false := by
            simp; omega
          simp only [hcond, Bool.false_eq_true, if_false, askRoom]
          have hmark : ((if c.toNat * bs > roomBytes then mark .noRoom else pure ()) : Sem Unit).run P w = .ok () w := by split <;> rfl
          simp only [Sem.run_bind, hmark, Result.andThen_ok, run_sizeOf' hes]
          by_cases hzz : c.toNat * es = 0
          · simp only [hzz, if_true, Sem.run_bind, Sem.run_pure, Result.andThen_ok, run_newRow]
            rw [← hVS, hzz]
            simp [Array.range_zero']
          · simp only [hzz, if_false, Sem.run_bind, Sem.run_pure, Result.andThen_ok, hzr, run_newRow]
            rw [← hVS]
        refine ⟨_, _, m', hrun, hm, ?_, ?_⟩
        · simpa using hS'
        · rw [hS.next]
          have := VRel.slice (m := m') m.n 0 l.toNat c.toNat none ⟨w.heap.size, 0, none⟩ c.toNat hn' (by omega) (Nat.le_refl _) (fun _ => rfl) (by simp) (.inl (by rw [hloc]))
          exact this
      · simp at h
    | _ => simp [amkS] at h
  | _ => simp [amkS] at h

/-! ### Texts and bytes -/
theorem s_sToB (hS : SRel w0 B m H w) {s d e : TypeId} (hs : P.underlying s = some .string) (hd : P.underlying d = some (.slice e)) (he : P.underlying e = some (.int .u8)) (x : List UInt8) :
    DoneV w0 B m (H.new (.cells (x.map fun b => .int .u8 (b.toNat : Int)) true)) (.slice H.next 0 x.length x.length (some 1)) ((convert s d (.string ⟨x.toArray⟩)).run P w) := by
  have hge := grownCap_ge w x.length 0 e
  generalize hcap : grownCap w x.length 0 e = cap at hge
  have hcut : (Question.appendCap x.length 0 e).cut (w.tape w.drawn (.appendCap x.length 0 e)) = cap := hcap
  let vs : List Value := x.map fun b => .int .u8 (b.toNat : Int)
  let rest : List Value := List.replicate (cap - x.length) (.int .u8 0)
  have hlen : (vs ++ rest).length = cap := by simp [vs, rest]; omega
  have hS' := hS.drew.new (rest := rest) (all2_bytes x) (bytes_one x) e (cap, cap + 1) (fun j hj => by simp [vs, rest] at hj; simp; omega) (.cells (vs ++ rest).toArray e (cap, cap + 1)) rfl
  refine ⟨.slice (some ⟨w.heap.size, 0, none⟩) x.length cap, w.drew.alloc (.cells (vs ++ rest).toArray e (cap, cap + 1)), _, ?_, m.les_ext _, hS', ?_⟩
  · have hsz : (⟨x.toArray⟩ : ByteArray).size = x.length := rfl
    simp only [convert, Sem.run_bind, run_underlying hs, run_underlying hd, run_underlying he, Result.andThen_ok, Conv.stringToBytes, hsz]
    have hch : (choose (.appendCap x.length 0 e)).run P w = .ok cap w.drew := by
      simp only [choose, Sem.run]
      rw [if_neg (by simp [Question.forced])]
      rw [hcut]
      rfl
    have hcells : ((⟨x.toArray⟩ : ByteArray).data.map fun b => Value.int .u8 (b.toNat : Int)) ++ Array.replicate (cap - x.length) (.int .u8 0) = (vs ++ rest).toArray := by
      apply Array.ext'
      simp [vs, rest]
    simp only [hch, Result.andThen_ok, hcells, run_newRow, Sem.run_bind, markStringish, shape, freeze, Sem.run, World.shape?]
    have hheap : (w.drew.alloc (.cells (vs ++ rest).toArray e (0, 0))).heap[w.drew.heap.size]? = some (.cells (vs ++ rest).toArray e (0, 0)) := by
      show (w.drew.heap.push _)[w.drew.heap.size]? = _
      rw [Array.getElem?_push, if_pos rfl]
    simp only [hheap, Result.andThen_ok, Sem.run_bind, Sem.run, Sem.run_pure]
    congr 1
    simp only [World.freeze, World.alloc]
    simp only [show ¬ (1 = 0) by omega, if_false]
    congr 1
    apply Array.ext_getElem?
    intro i
    rw [Array.getElem?_modify, Array.getElem?_push, Array.getElem?_push]
    by_cases hi : i = w.drew.heap.size
    · subst hi
      simp [hlen]
    · rw [if_neg hi, if_neg hi, if_neg (Ne.symm hi)]
  · rw [hS.next]
    have hloc := m.ext_new ⟨w.drew.heap.size, 0, (vs ++ rest).length⟩
    have := VRel.slice (m := m.ext ⟨w.drew.heap.size, 0, (vs ++ rest).length⟩) m.n 0 x.length x.length (some 1) ⟨w.heap.size, 0, none⟩ cap (Inj.ext_has _ _) (Nat.le_refl _) hge (by simp) (by intro e1 h1; simp at h1; subst h1; rw [hloc, hlen]; simp) (.inl (by rw [hloc]; rfl))
    exact this

theorem bytes_foldl (P : Program) (w : World) (f : Value → ByteArray → Sem (ForInStep ByteArray)) (hf : ∀ (n : Int) (r : ByteArray), (f (.int .u8 n) r).run P w = .ok (.yield (r.push (UInt8.ofNat n.toNat))) w) :
    ∀ (vs : List Value) (l : List UInt8) (cs : List AVal) (acc : ByteArray), All2 (VRel m) cs vs → aop.abytes cs = some l → (forIn vs acc f).run P w = .ok ⟨(acc.data.toList ++ l).toArray⟩ w
  | [], l, cs, acc, ha, h => by
    cases ha
    simp [aop.abytes] at h; subst h
    simp only [List.forIn_nil, Sem.run_pure]
    congr 1
    exact bytes_inj' (by simp)
  | v :: vs, l, cs, acc, ha, h => by
    cases ha with
    | cons hv ha =>
      rename_i c cs
      cases hv with
      | int k n =>
        cases k <;> simp [aop.abytes] at h
        obtain ⟨r, hr, rfl⟩ := h
        simp only [List.forIn_cons, Sem.run_bind, hf, Result.andThen_ok]
        rw [bytes_foldl P w f hf vs r cs _ ha hr]
        congr 1
        exact bytes_inj' (by simp [ByteArray.push])
      | _ => simp [aop.abytes] at h

theorem s_bToS (hS : SRel w0 B m H w) {s d e : TypeId} (hs : P.underlying s = some (.slice e)) (hd : P.underlying d = some .string) (he : P.underlying e = some (.int .u8)) {x : AVal} {x' : Value} (hx : VRel m x x') (hxs : ∀ l, x ≠ .str l) {n : Nat} (hn : alen x = some n) {cs : List AVal} (hc : acells H 1 n x = some cs) {l : List UInt8} (hl : aop.abytes cs = some l) :
    (convert s d x').run P w = .ok (.string ⟨l.toArray⟩) w := by
  have hconv : (convert s d x').run P w = (Conv.bytesToString x').run P w := by
    cases hx with
    | nils => simp [convert, run_underlying hs, run_underlying hd, run_underlying he]
    | slice => simp [convert, run_underlying hs, run_underlying hd, run_underlying he]
    | str l => exact absurd rfl (hxs l)
    | _ => simp [alen] at hn
  rw [hconv]
  obtain ⟨vs, hr, ha, h1, hlen⟩ := s_cells (P := P) hS hx hc
  cases hx with
  | nils =>
    simp [alen] at hn; subst hn
    simp [acells] at hc; subst hc
    simp [aop.abytes] at hl; subst hl
    rfl
  | slice id off len cap g a' c' hid hlc hcc hg hge ho =>
    simp [alen] at hn; subst hn
    simp only [Builtin.firstCells, Nat.mul_one] at hr
    unfold Conv.bytesToString
    simp only [Sem.run_bind, hr, Result.andThen_ok, List.forIn_toArray]
    rw [bytes_foldl (m := m) P w _ (by intro n r; simp [Sem.run_pure]) vs l cs ByteArray.empty ha hl]
    simp
  | str l => exact absurd rfl (hxs l)
  | _ => simp [alen] at hn

end Go.Proofs.Ytilhjcnkaelheaa.Am
