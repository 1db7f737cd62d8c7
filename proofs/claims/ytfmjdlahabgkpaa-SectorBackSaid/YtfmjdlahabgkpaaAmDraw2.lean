/- What the abstract machine answers, the model's machine does: regions that draw their order, whatever is drawn. -/
import Derived.Test.YtfmjdlahabgkpaaAmDraw
set_option linter.unusedSimpArgs false
set_option linter.unusedVariables false
namespace Go.Proofs.Ytfmjdlahabgkpaa.Am
open Go Go.RowKit

variable {P : Program} {w0 w : World} {B : Nat} {m : Inj} {H H' : AHeap} {nt : Nat} {env : Env} {a : Act}

theorem copers_get {ops : Array Oper} : ∀ {l : List Oper} {al : List AOper}, copers P ops nt l = some al → al.length = l.length ∧ ∀ (i : Nat) x, al[i]? = some x → ∃ o, l[i]? = some o ∧ coper P ops nt o = some x
  | [], al, h => by simp [copers] at h; subst h; simp
  | o :: l, al, h => by
    simp only [copers, Option.bind_eq_some_iff, Option.map_eq_some_iff] at h
    obtain ⟨x, hx, r, hr, rfl⟩ := h
    obtain ⟨h1, h2⟩ := copers_get hr
    refine ⟨by simp [h1], fun i y hy => ?_⟩
    cases i with
    | zero => simp at hy; subst hy; exact ⟨o, rfl, hx⟩
    | succ i => simpa using h2 i y (by simpa using hy)

/-- What is known of a region that draws its order. -/
structure Region1 (P : Program) (nt : Nat) (ops : Array Oper) (al : List AOper) (b : Nat → Nat) : Prop where
  len : al.length = ops.size
  get : ∀ (i : Nat) (x : AOper), al[i]? = some x → ∃ o : Oper, ops[i]? = some o ∧ cdst nt o.dst = true ∧ copc P nt o.op = some x.op ∧ cguard ops nt o.guard = some x.guard ∧ x.dst = o.dst
  edge : ∀ (i : Nat) (o : Oper), ops[i]? = some o → ∀ e, e ∈ o.after → Region.binds .any e = true → e.on < i
  bit : ∀ (i : Nat) (o : Oper) (j : Nat), ops[i]? = some o → (b i).testBit j = true → ∃ e, e ∈ o.after ∧ Region.binds .any e = true ∧ e.on < i ∧ (e.on = j ∨ (b e.on).testBit j = true)
  chain : ∀ i j, i < j → effb al i = true → effb al j = true → (b j).testBit i = true
  temps : ∀ (i j : Nat) (x y : AOper) (d : Nat), al[i]? = some x → al[j]? = some y → i ≠ j → x.dst = some d → (d ∈ y.looks ∨ y.dst = some d) → (b (max i j)).testBit (min i j) = true
  rd : ∀ (i : Nat) (x : AOper), al[i]? = some x → x.rd = rdOf al b x i

theorem withRds_get {al : List AOper} {b : Nat → Nat} {i : Nat} {x : AOper} (h : (withRds al b)[i]? = some x) : ∃ y, al[i]? = some y ∧ x = { y with rd := rdOf al b y i } := by
  simp only [withRds, List.getElem?_map, Option.map_eq_some_iff] at h
  obtain ⟨⟨y, j⟩, hy, rfl⟩ := h
  rw [List.getElem?_zipIdx] at hy
  simp only [Option.map_eq_some_iff, Prod.mk.injEq, Nat.zero_add] at hy
  obtain ⟨z, hz, rfl, rfl⟩ := hy
  exact ⟨_, hz, rfl⟩

theorem withRds_length (al : List AOper) (b : Nat → Nat) : (withRds al b).length = al.length := by simp [withRds]

theorem withRds_effb (al : List AOper) (b : Nat → Nat) (j : Nat) : effb (withRds al b) j = effb al j := by
  unfold effb
  cases h : (withRds al b)[j]? with
  | none =>
    have : al[j]? = none := by
      rw [List.getElem?_eq_none_iff] at h ⊢; rwa [withRds_length] at h
    rw [this]
  | some x =>
    obtain ⟨y, hy, rfl⟩ := withRds_get h
    rw [hy]; rfl

theorem withRds_rdOf (al : List AOper) (b : Nat → Nat) (x : AOper) (r : Option (Nat × Nat)) (j : Nat) : rdOf (withRds al b) b { x with rd := r } j = rdOf al b x j := by
  have : stagesOf (withRds al b) b j = stagesOf al b j := by
    simp only [stagesOf, withRds_length, withRds_effb]
  simp only [rdOf, this]

theorem region1_of {ops : Array Oper} {al : List AOper} {c : ACode} (hc : copers P ops nt ops.toList = some al) (h : drawOf ops al (CheckFast.beforeF ops).toList = some c) :
    ∃ al' b, c = .draw al' ∧ Region1 P nt ops al' b := by
  unfold drawOf at h
  split at h
  · rename_i hk
    simp only [Bool.and_eq_true] at hk
    obtain ⟨⟨he, hch⟩, ht⟩ := hk
    simp only [Option.some.injEq] at h; subst h
    obtain ⟨h1, h2⟩ := copers_get hc
    generalize hb : (CheckFast.beforeF ops).toList = bl at *
    refine ⟨withRds al (fun i => bl.getD i 0), fun i => bl.getD i 0, rfl, ?_⟩
    refine ⟨by rw [withRds_length, h1]; simp, ?_, ?_, ?_, ?_, ?_, ?_⟩
    · intro i x hx
      obtain ⟨y, hy, rfl⟩ := withRds_get hx
      obtain ⟨o, ho, hco⟩ := h2 i y hy
      obtain ⟨q1, q2, q3, q4⟩ := coper_spec hco
      exact ⟨o, by simpa using ho, q1, q2, q3, q4⟩
    · intro i o ho e hm hbd
      unfold edgesOk at he
      rw [List.all_eq_true] at he
      have := he (o, i) (by rw [List.mem_zipIdx_iff_getElem?]; simpa using ho)
      simp only [Array.all_eq_true_iff_forall_mem] at this
      simpa [hbd] using this e hm
    · intro i o j ho hbit
      exact before_bit hb.symm he ho hbit
    · intro i j hij hi hj
      unfold chained at hch
      rw [List.all_eq_true] at hch
      have hjl : j < (withRds al fun i => bl.getD i 0).length := by
        rcases Nat.lt_or_ge j (withRds al fun i => bl.getD i 0).length with h | h
        · exact h
        · unfold effb at hj
          rw [List.getElem?_eq_none h] at hj
          cases hj
      have := hch j (List.mem_range.2 hjl)
      simp only [hj, Bool.not_true, Bool.false_or, List.all_eq_true] at this
      have := this i (List.mem_range.2 hij)
      rw [hi] at this
      exact this
    · intro i j x y d hx hy hij hxd hor
      unfold tempsOk at ht
      rw [List.all_eq_true] at ht
      have := ht (x, i) (by rw [List.mem_zipIdx_iff_getElem?]; exact hx)
      simp only [hxd, List.all_eq_true] at this
      have := this (y, j) (by rw [List.mem_zipIdx_iff_getElem?]; exact hy)
      simp only [Bool.or_eq_true, beq_iff_eq, Bool.not_eq_true', Bool.or_eq_false_iff] at this
      rcases this with (h | h) | h
      · exact absurd h hij
      · exfalso
        rcases hor with hor | hor
        · have := h.1; simp at this; exact this hor
        · have := h.2; simp [hor] at this
      · exact h
    · intro i x hx
      obtain ⟨y, hy, rfl⟩ := withRds_get hx
      exact (withRds_rdOf al _ y _ i).symm
  · simp at h

section
variable {ops : Array Oper} {al : List AOper} {b : Nat → Nat}

/-- A set of operations that holds with each all that it waits for. -/
def Closed (ops : Array Oper) (S : Nat → Bool) : Prop := ∀ (i : Nat) (o : Oper), ops[i]? = some o → S i = true → ∀ e, e ∈ o.after → Region.binds .any e = true → S e.on = true

theorem closed_bit (R : Region1 P nt ops al b) {S : Nat → Bool} (hS : Closed ops S) : ∀ (i : Nat) (o : Oper) (j : Nat), ops[i]? = some o → (∀ e, e ∈ o.after → Region.binds .any e = true → S e.on = true) → (b i).testBit j = true → S j = true ∧ j < i
  | i, o, j, ho, hw, hb => by
    obtain ⟨e, hm, hbd, hlt, hor⟩ := R.bit i o j ho hb
    rcases hor with rfl | hb'
    · exact ⟨hw e hm hbd, hlt⟩
    · have hlt' : e.on < ops.size := by
        have := (Array.getElem?_eq_some_iff.1 ho).1; omega
      have ho' := Array.getElem?_eq_getElem hlt'
      obtain ⟨h1, h2⟩ := closed_bit R hS e.on _ j ho' (fun e' hm' hbd' => hS e.on _ ho' (hw e hm hbd) e' hm' hbd') hb'
      exact ⟨h1, by omega⟩
termination_by i => i

theorem closed_bit' (R : Region1 P nt ops al b) {S : Nat → Bool} (hS : Closed ops S) {i j : Nat} (hi : i < ops.size) (hs : S i = true) (hb : (b i).testBit j = true) : S j = true ∧ j < i :=
  closed_bit R hS i _ j (Array.getElem?_eq_getElem hi) (fun e hm hbd => hS i _ (Array.getElem?_eq_getElem hi) hs e hm hbd) hb

structure Inv (w0 : World) (B : Nat) (m0 : Inj) (nt : Nat) (al : List AOper) (env : Env) (V : Nat → AVal) (st : List AHeap) (df : List Deferred) (S : Nat → Bool) (a : Act) (w : World) : Prop where
  defers : a.defers = df
  size : nt ≤ a.tmps.size
  ex : ∃ m Hs, m0.le m ∧ st[(List.range al.length).countP fun j => effb al j && S j]? = some Hs ∧ SRel w0 B m Hs w ∧ ∀ t, t < nt → VRel m (curE al env V S al.length t) (a.eval (.tmp t))

theorem stage_at {call : ACall} {E : Nat → Env} {G : Nat → AHeap} {V : Nat → AVal} {st : List AHeap} (htr : Trace call al E G V) (h0 : st[0]? = some (G 0)) (heff : ∀ i x, al[i]? = some x → x.op.eff = true → st[1 + effc al i]? = some (G (i + 1))) : ∀ i, i ≤ al.length → st[effn al i]? = some (G i) := by
  intro i
  induction i with
  | zero => intro _; simpa [effn] using h0
  | succ i ih =>
    intro hi
    have hlt : i < al.length := by omega
    have hx := List.getElem?_eq_getElem hlt
    have ih' := ih (by omega)
    rw [effn_succ hlt]
    by_cases he : (al[i]).op.eff = true
    · have := heff i _ hx he
      rw [effc_eq (by omega)] at this
      rw [if_pos (by simp [effb, hx, he]), Nat.add_comm]
      exact this
    · rw [if_neg (by simp [effb, hx, he]), Nat.add_zero, ih']
      congr 1
      obtain ⟨_, h1, h2⟩ := htr.step i _ hx
      cases hg : agd (E i) (al[i]).guard with
      | true => exact ((aop_still (by simpa using he) (h1 hg)).1).symm
      | false => exact (h2 hg).2.symm

theorem getD_any {l : Array Bool} {i : Nat} (h : i < l.size) {d d' : Bool} : l.getD i d = l.getD i d' := by
  simp [Array.getD_eq_getD_getElem?, h]

theorem sound_draw {call : ACall} (hcs : CallSound P w0 B call) (hmix : P.follows .mixedOrders = true) (R : Region1 P nt ops al b) {Q : Exit → Act → World → Prop} {env' : Env} (hE : ERel m nt env a) (hS : SRel w0 B m H w) (h : adraw call al env H [H] [] = some (env', H'))
    (hQ : ∀ a' w' m', m.le m' → SRel w0 B m' H' w' → ERel m' nt env' a' → a'.defers = a.defers → Q .normal a' w') (id : Nat) : (Code.region id ops true).wp P Q a w := by
  obtain ⟨E, G, V, st, e0, g0, e1, g1, htr, hst0, hsteff, _, hrd⟩ := adraw_trace al env H [H] [] env' H' h
  have hst0' : st[0]? = some (G 0) := by rw [hst0 0 (by simp), g0]; rfl
  have hstage := stage_at htr hst0' (by intro i x hx he; have := hsteff i x hx he; simpa using this)
  refine wp_region_any hmix ?_
  -- the walk over whatever order
  have main : ∀ (fuel : Nat) (listed : Array Bool) (a' : Act) (w' : World), listed.size = ops.size → (List.range ops.size).countP (fun j => !listed.getD j false) = fuel → Closed ops (fun j => listed.getD j false) →
      Inv w0 B m nt al env V st a.defers (fun j => listed.getD j false) a' w' → wpAny P .any ops Q fuel listed a' w' := by
    intro fuel
    induction fuel with
    | zero =>
      intro listed a' w' hsz hcnt hcl hI
      have hall : ∀ j, j < ops.size → listed.getD j false = true := by
        intro j hj
        have := List.countP_eq_zero.1 hcnt j (List.mem_range.2 hj)
        simpa using this
      refine ⟨?_, ?_⟩
      · rw [List.eq_nil_iff_forall_not_mem]
        intro j hj
        obtain ⟨hj1, o, ho, _⟩ := mem_ready.1 hj
        have hlt := (Array.getElem?_eq_some_iff.1 ho).1
        have := hall j hlt
        rw [getD_any (d' := true) (by omega)] at this
        rw [this] at hj1; cases hj1
      · obtain ⟨m', Hs, hm, hst, hSr, hv⟩ := hI.ex
        have hcount : ((List.range al.length).countP fun j => effb al j && listed.getD j false) = effn al al.length := by
          unfold effn
          refine countP_congr' fun j hj => ?_
          rw [hall j (by rw [← R.len]; exact hj)]
          simp [hj]
        rw [hcount, hstage al.length (Nat.le_refl _), g1] at hst
        simp at hst; subst hst
        refine hQ a' w' m' hm hSr ⟨hI.size, fun t ht => ?_⟩ hI.defers
        have := hv t ht
        rw [curE_at e0 htr (Nat.le_refl _) (fun j x hx hd => ⟨fun hj => hall j (by rw [← R.len]; exact hj), fun hj => by
          rcases Nat.lt_or_ge j al.length with h | h
          · omega
          · rw [List.getElem?_eq_none h] at hx; cases hx⟩), e1] at this
        exact this
    | succ fuel ih =>
      intro listed a' w' hsz hcnt hcl hI
      refine ⟨?_, ?_⟩
      · -- something is ready
        intro hnil
        exfalso
        have hex : ∃ j, j < ops.size ∧ listed.getD j false = false := by
          have hp : 0 < (List.range ops.size).countP (fun j => !listed.getD j false) := by omega
          obtain ⟨j, hj, hp⟩ := List.countP_pos_iff.1 hp
          exact ⟨j, List.mem_range.1 hj, by simpa using hp⟩
        have hleast : ∀ k, (∃ j, j ≤ k ∧ j < ops.size ∧ listed.getD j false = false) → ∃ j, j < ops.size ∧ listed.getD j false = false ∧ ∀ i, i < j → listed.getD i false = true := by
          intro k
          induction k with
          | zero =>
            rintro ⟨j, hj, h1, h2⟩
            have : j = 0 := by omega
            subst this
            exact ⟨0, h1, h2, by omega⟩
          | succ k ihk =>
            rintro ⟨j, hj, h1, h2⟩
            by_cases hk : ∃ j, j ≤ k ∧ j < ops.size ∧ listed.getD j false = false
            · exact ihk hk
            · refine ⟨j, h1, h2, fun i hi => ?_⟩
              cases hl : listed.getD i false with
              | true => rfl
              | false => exact absurd ⟨i, by omega, by omega, hl⟩ hk
        obtain ⟨j0, hj0⟩ := hex
        obtain ⟨j, hj, hjf, hjl⟩ := hleast j0 ⟨j0, Nat.le_refl _, hj0⟩
        have ho := Array.getElem?_eq_getElem hj
        have hmem : j ∈ Region.ready .any ops listed := by
          rw [mem_ready]
          exact ⟨(getD_any (by omega)).trans hjf, _, ho, fun e hm hbd => hjl _ (R.edge j _ ho e hm hbd)⟩
        rw [hnil] at hmem
        cases hmem
      · intro i hi
        obtain ⟨hi1, o, ho, hwait⟩ := mem_ready.1 hi
        have hilt := (Array.getElem?_eq_some_iff.1 ho).1
        have hil : i < al.length := by rw [R.len]; exact hilt
        have hx := List.getElem?_eq_getElem hil
        generalize hxd : al[i] = x at hx
        obtain ⟨o', ho', hcd, hco, hcg, hdx⟩ := R.get i x hx
        rw [ho] at ho'; simp at ho'; subst ho'
        have hSi : listed.getD i false = false := (getD_any (by omega)).trans hi1
        let S : Nat → Bool := fun j => listed.getD j false
        let S' : Nat → Bool := fun j => (listed.setIfInBounds i true).getD j false
        have hS' : ∀ j, S' j = (S j || j == i) := by
          intro j
          show (listed.setIfInBounds i true).getD j false = _
          by_cases hji : j = i
          · subst hji
            simp [show j < listed.size by omega]
          · rw [getD_set_ne false (Ne.symm hji)]
            simp [S, hji]
        have hcl' : Closed ops S' := by
          intro k ok hk hsk e hm hbd
          rw [hS'] at hsk ⊢
          simp only [Bool.or_eq_true, beq_iff_eq] at hsk
          rcases hsk with hsk | rfl
          · rw [show S e.on = true from hcl k ok hk hsk e hm hbd]; rfl
          · rw [ho] at hk; simp at hk; subst hk
            rw [show S e.on = true from hwait e hm hbd]; rfl
        have hbefore : ∀ j, (b i).testBit j = true → S j = true ∧ j < i := fun j hj => closed_bit R hcl i o j ho hwait hj
        have hafter : ∀ j, j < ops.size → (b j).testBit i = true → S j = false := by
          intro j hj hb
          cases hs : S j with
          | false => rfl
          | true =>
            have this : listed.getD i false = true := (closed_bit' R hcl hj hs hb).1
            rw [hSi] at this; cases this
        have hlt_of : ∀ j y, al[j]? = some y → j < ops.size := by
          intro j y hy
          rw [← R.len]
          rcases Nat.lt_or_ge j al.length with h | h
          · exact h
          · rw [List.getElem?_eq_none h] at hy; cases hy
        obtain ⟨m', Hs, hm, hst, hSr, hv⟩ := hI.ex
        have hEr : ERel m' nt (curE al env V S al.length) a' := ⟨hI.size, hv⟩
        -- what is looked at reads as in the order of the text
        have hlook : ∀ t, t ∈ x.looks → curE al env V S al.length t = E i t := by
          intro t ht
          refine curE_at e0 htr (by omega) fun j y hy hyd => ?_
          by_cases hji : j = i
          · subst hji
            exact ⟨by omega, fun _ => hSi⟩
          · have hbit := R.temps j i y x t hy hx hji hyd (.inl ht)
            refine ⟨fun hlt => ?_, fun hle => ?_⟩
            · rw [Nat.max_eq_right (by omega), Nat.min_eq_left (by omega)] at hbit
              exact (hbefore j hbit).1
            · rw [Nat.max_eq_left (by omega), Nat.min_eq_right (by omega)] at hbit
              exact hafter j (hlt_of j y hy) hbit
        have hopd : ∀ y, y ∈ x.op.opds → aev (curE al env V S al.length) y = aev (E i) y := by
          intro y hy
          cases y with
          | con v => rfl
          | tmp t =>
            refine hlook t ?_
            simp only [AOper.looks, List.mem_append, List.mem_filterMap]
            exact .inl ⟨_, hy, rfl⟩
        have hguard : agd (curE al env V S al.length) x.guard = agd (E i) x.guard := by
          cases hg : x.guard with
          | none => rfl
          | some g =>
            obtain ⟨d, wnt⟩ := g
            simp only [agd]
            rw [hlook d (by simp [AOper.looks, hg])]
        have hwr := wanted_rel (ops := ops) hEr hcg
        rw [hguard] at hwr
        -- which stage the memory is at
        have hstEff : effb al i = true → ((List.range al.length).countP fun j => effb al j && S j) = effn al i := by
          intro he
          unfold effn
          refine countP_congr' fun j hj => ?_
          cases hej : effb al j with
          | false => rfl
          | true =>
            simp only [Bool.true_and]
            by_cases hji : j = i
            · subst hji; rw [show S j = false from hSi]; simp
            · by_cases hlt : j < i
              · rw [(hbefore j (R.chain j i hlt hej he)).1]; simp [hlt]
              · rw [hafter j (by rw [← R.len]; exact hj) (R.chain i j (by omega) he hej)]; simp [hlt]
        have hkey : effb al i = true → ∀ j, j < al.length → effb al j = true → (S j || j == i) = decide (j < i + 1) := by
          intro he j hj hej
          rcases Nat.lt_trichotomy j i with hlt | heq | hgt
          · rw [(hbefore j (R.chain j i hlt hej he)).1, decide_eq_true (by omega)]; rfl
          · subst heq; rw [decide_eq_true (by omega)]; simp
          · rw [hafter j (by rw [← R.len]; exact hj) (R.chain i j hgt he hej), decide_eq_false (by omega)]
            simp; omega
        obtain ⟨hEi, hrun, hskip⟩ := htr.step i x hx
        -- the operation's answer here is the one of the text's order, and the memory goes on as there
        have hans : agd (E i) x.guard = true → ∃ H1, ado call x.op (aev (curE al env V S al.length)) Hs = some (V i, H1) ∧ st[(List.range al.length).countP fun j => effb al j && S' j]? = some H1 := by
          intro hg
          have hr := hrun hg
          cases he : effb al i with
          | true =>
            refine ⟨G (i + 1), ?_, ?_⟩
            · have hG : Hs = G i := by
                rw [hstEff he, hstage i (by omega)] at hst; simpa using hst.symm
              rw [aop_congr hopd, hG]; exact hr
            · have : ((List.range al.length).countP fun j => effb al j && S' j) = effn al (i + 1) := by
                unfold effn
                refine countP_congr' fun j hj => ?_
                rw [hS']
                cases hej : effb al j with
                | false => rfl
                | true =>
                  simp only [Bool.true_and]
                  exact hkey he j hj hej
              rw [this]; exact hstage (i + 1) (by omega)
          | false =>
            have hxe : x.op.eff = false := by simpa [effb, hx] using he
            obtain ⟨hstill, hpure⟩ := aop_still hxe hr
            have hcnt' : ((List.range al.length).countP fun j => effb al j && S' j) = ((List.range al.length).countP fun j => effb al j && S j) := by
              refine countP_congr' fun j hj => ?_
              rw [hS']
              by_cases hji : j = i
              · subst hji; rw [he]; rfl
              · rw [show (j == i) = false by simpa using hji, Bool.or_false]
            refine ⟨Hs, ?_, by rw [hcnt']; exact hst⟩
            rw [aop_congr hopd]
            cases hre : x.op.reads with
            | false => exact hpure hre Hs
            | true =>
              -- a reader: between its stages it reads the same
              have hrdx := R.rd i x hx
              simp only [rdOf, hre, if_true] at hrdx
              have hlo : (stagesOf al b i).1 ≤ (List.range al.length).countP fun j => effb al j && S j := by
                simp only [stagesOf]
                refine countP_le' fun j hj hp => ?_
                simp only [Bool.and_eq_true] at hp ⊢
                exact ⟨hp.1, (hbefore j hp.2).1⟩
              have hhi : ((List.range al.length).countP fun j => effb al j && S j) ≤ (stagesOf al b i).2 := by
                simp only [stagesOf]
                refine countP_le' fun j hj hp => ?_
                simp only [Bool.and_eq_true, Bool.not_eq_true'] at hp ⊢
                refine ⟨hp.1, ?_⟩
                cases hb : (b j).testBit i with
                | false => rfl
                | true => rw [hafter j (by rw [← R.len]; exact hj) hb] at hp; cases hp.2
              by_cases heq : (stagesOf al b i).1 = (stagesOf al b i).2
              · -- one stage alone
                have hlo' : (stagesOf al b i).1 ≤ effn al i := by
                  simp only [stagesOf, effn]
                  refine countP_le' fun j hj hp => ?_
                  simp only [Bool.and_eq_true] at hp ⊢
                  exact ⟨hp.1, by simpa using (hbefore j hp.2).2⟩
                have hhi' : effn al i ≤ (stagesOf al b i).2 := by
                  simp only [stagesOf, effn]
                  refine countP_le' fun j hj hp => ?_
                  simp only [Bool.and_eq_true, Bool.not_eq_true', decide_eq_true_eq] at hp ⊢
                  refine ⟨hp.1, ?_⟩
                  cases hb : (b j).testBit i with
                  | false => rfl
                  | true =>
                    exfalso
                    have hjs : j < ops.size := by rw [← R.len]; exact hj
                    have := closed_bit R (S := fun _ => true) (fun _ _ _ _ _ _ _ => rfl) j _ i (Array.getElem?_eq_getElem hjs) (fun _ _ _ => rfl) hb
                    omega
                have hsame : ((List.range al.length).countP fun j => effb al j && S j) = effn al i := by omega
                rw [hsame, hstage i (by omega)] at hst
                simp at hst
                rw [← hst, hr, hstill]
              · rw [if_neg heq] at hrdx
                have hok := hrd i x (stagesOf al b i).1 (stagesOf al b i).2 hx hrdx hg
                simp only [ARead.ok, List.all_eq_true] at hok
                generalize hk0 : ((List.range al.length).countP fun j => effb al j && S j) = k0 at *
                generalize (stagesOf al b i).1 = lo0 at *
                generalize (stagesOf al b i).2 = hi0 at *
                have := hok (k0 - lo0) (List.mem_range.2 (by omega))
                rw [show lo0 + (k0 - lo0) = k0 by omega, hst] at this
                simp only at this
                have hado : ado call x.op (aev (E i)) Hs = aop x.op (aev (E i)) Hs := by
                  cases hop : x.op with
                  | call f l => rw [hop] at hre; simp [AOp.reads] at hre
                  | _ => rfl
                split at this
                · rename_i v1 H1 hv1
                  have hvv := AVal.eq_of_beq _ _ this
                  rw [hado, hv1, hvv]
                  have := (aop_still (call := call) hxe (by rw [hado]; exact hv1)).1
                  rw [this]
                · cases this
        -- going on
        have hgo : ∀ (v' : Value) (w2 : World) (m2 : Inj) (H1 : AHeap), m'.le m2 → SRel w0 B m2 H1 w2 → VRel m2 (V i) v' → st[(List.range al.length).countP fun j => effb al j && S' j]? = some H1 → wpAny P .any ops Q fuel (listed.setIfInBounds i true) (a'.put o.dst v') w2 := by
          intro v' w2 m2 H1 hm2 hS2 hv2 hst2
          have hEp := (hEr.mono hm2).put hcd hv2
          refine ih _ _ _ (by simp [hsz]) ?_ hcl' ⟨(put_defers _ _).trans hI.defers, hEp.size, m2, H1, Inj.le_trans hm hm2, hst2, hS2, ?_⟩
          · have hc1 : (List.range ops.size).countP (fun j => !listed.getD j false) = (List.range ops.size).countP (fun j => !(listed.setIfInBounds i true).getD j false) + 1 := by
              have hsplit : ∀ n, n ≤ ops.size → (List.range n).countP (fun j => !listed.getD j false) = (List.range n).countP (fun j => !(listed.setIfInBounds i true).getD j false) + if i < n then 1 else 0 := by
                intro n
                induction n with
                | zero => intro _; simp
                | succ n ihn =>
                  intro hn
                  rw [List.range_succ, List.countP_append, List.countP_append, ihn (by omega)]
                  by_cases hni : n = i
                  · subst hni
                    have h1 : (listed.setIfInBounds n true).getD n false = true := by simp [show n < listed.size by omega]
                    simp only [List.countP_cons, List.countP_nil, hSi, h1]
                    simp
                  · have hsame : (listed.setIfInBounds i true).getD n false = listed.getD n false := getD_set_ne false (Ne.symm hni)
                    have hsing : List.countP (fun j => !(listed.setIfInBounds i true).getD j false) [n] = List.countP (fun j => !listed.getD j false) [n] := by
                      simp only [List.countP_cons, List.countP_nil, hsame]
                    rw [hsing]
                    have hif : (if i < n + 1 then 1 else 0) = (if i < n then 1 else 0) := by
                      by_cases hin : i < n
                      · rw [if_pos hin, if_pos (by omega)]
                      · rw [if_neg hin, if_neg (by omega)]
                    rw [hif]; omega
              rw [hsplit _ (Nat.le_refl _), if_pos hilt]
            omega
          · intro t ht
            rw [curE_insert hx hSi hS' (fun j y hy hxd hyd hij => by
              have hbit := R.temps i j x y t hx hy (by omega) hxd (.inr hyd)
              rw [Nat.max_eq_right (by omega), Nat.min_eq_left (by omega)] at hbit
              exact hafter j (hlt_of j y hy) hbit)]
            have := hEp.rel t ht
            by_cases hd : x.dst = some t
            · rw [if_pos hd]
              have h1 : setd (curE al env V S al.length) o.dst (V i) t = V i := by rw [← hdx, hd]; simp [setd, Env.set]
              rw [h1] at this; exact this
            · rw [if_neg hd]
              rw [setd_other (by rw [← hdx]; exact hd)] at this
              exact this
        unfold wpOp
        simp only [ho]
        cases hg : agd (E i) x.guard with
        | true =>
          rw [if_pos (by rw [hwr, hg])]
          obtain ⟨H1, hado, hst1⟩ := hans hg
          exact .inl (sound_ado hcs hco hEr hSr hado fun v' w2 m2 hm2 hS2 hv2 => hgo v' w2 m2 H1 hm2 hS2 hv2 hst1)
        | false =>
          rw [if_neg (by rw [hwr, hg]; simp)]
          obtain ⟨hV, hG⟩ := hskip hg
          have hcnt' : st[(List.range al.length).countP fun j => effb al j && S' j]? = some Hs := by
            cases he : effb al i with
            | false =>
              have : ((List.range al.length).countP fun j => effb al j && S' j) = ((List.range al.length).countP fun j => effb al j && S j) := by
                refine countP_congr' fun j hj => ?_
                rw [hS']
                by_cases hji : j = i
                · subst hji; rw [he]; rfl
                · rw [show (j == i) = false by simpa using hji, Bool.or_false]
              rw [this]; exact hst
            | true =>
              have h1 := hstEff he
              have : ((List.range al.length).countP fun j => effb al j && S' j) = effn al (i + 1) := by
                unfold effn
                refine countP_congr' fun j hj => ?_
                rw [hS']
                cases hej : effb al j with
                | false => rfl
                | true =>
                  simp only [Bool.true_and]
                  exact hkey he j hj hej
              rw [this, hstage (i + 1) (by omega), hG]
              rw [h1, hstage i (by omega)] at hst
              exact hst
          exact hgo undef w' m' Hs m'.le_refl hSr (by rw [hV]; exact undef_rel m') hcnt'
  refine main ops.size (Array.replicate ops.size false) a _ (by simp) ?_ ?_ ⟨rfl, hE.size, m, H, m.le_refl, ?_, hS.drew, ?_⟩
  · have : (List.range ops.size).countP (fun j => !(Array.replicate ops.size false).getD j false) = (List.range ops.size).countP (fun _ => true) := by
      refine countP_congr' fun j hj => ?_
      simp [hj]
    rw [this, List.countP_true, List.length_range]
  · intro i o ho hs
    have hlt := (Array.getElem?_eq_some_iff.1 ho).1
    simp [hlt] at hs
  · have : ((List.range al.length).countP fun j => effb al j && (Array.replicate ops.size false).getD j false) = 0 := by
      rw [List.countP_eq_zero]
      intro j hj
      have : j < ops.size := by rw [← R.len]; exact List.mem_range.1 hj
      simp [this]
    rw [this, hst0', g0]
  · intro t ht
    have : curE al env V (fun j => (Array.replicate ops.size false).getD j false) al.length t = env t := by
      have hz : ∀ n, n ≤ al.length → curE al env V (fun j => (Array.replicate ops.size false).getD j false) n t = env t := by
        intro n
        induction n with
        | zero => intro _; rfl
        | succ n ihn =>
          intro hn
          have hlt : n < ops.size := by rw [← R.len]; omega
          simp only [curE]
          rw [if_neg (by simp [hlt])]
          exact ihn (by omega)
      exact hz _ (Nat.le_refl _)
    rw [this]
    exact hE.rel t ht

end
end Go.Proofs.Ytfmjdlahabgkpaa.Am
