/- What holds of objects, claims and memory at every moment; how it goes on. -/
import Derived.Test.YthmocicjocjdoaaAf
set_option linter.unusedVariables false
set_option linter.unusedSimpArgs false
namespace Go.Proofs.Ythmocicjocjdoaa.V
open Go

/-- Where a frame began, and which blocks it may write besides its own. -/
structure Fr where
  w0 : World
  O : Nat → Prop
  S0 : Nat → Nat → Option Value
  mu0 : Nat → Option Nat
  mudom : ∀ j b, mu0 j = some b → j < 1000
def Fr.own (F : Fr) (b : Nat) : Prop := F.w0.heap.size ≤ b ∨ F.O b

structure Step (F : Fr) (w : World) : Prop where
  os : w.os = F.w0.os
  tape : w.tape = F.w0.tape
  output : w.output = F.w0.output
  size : F.w0.heap.size ≤ w.heap.size
  block : ∀ i, i < F.w0.heap.size → ¬ F.O i → w.heap[i]? = F.w0.heap[i]?

/-- What a whole row holds: elements, flat or references, and the cells that they are. -/
structure SrcR (E : E3) (sz : Nat) (r : List AV) (news : List Value) : Prop where
  size : news.length = r.length * sz
  get : ∀ (i : Nat) (x : AV), r[i]? = some x → (x.flat = true ∨ holdsRef x = true) ∧ ∃ u, Rep E x u ∧ u.cells.size = sz ∧ ∀ j, j < sz → news[i * sz + j]? = u.cells[j]?
theorem SrcR.mono {E E' : E3} (h : E.le E') {sz : Nat} {r : List AV} {news : List Value} (k : SrcR E sz r news) : SrcR E' sz r news :=
  ⟨k.size, fun i x hx => by
    obtain ⟨h1, u, h2, h3⟩ := k.get i x hx
    exact ⟨h1, u, h2.mono h, h3⟩⟩

structure WI (F : Fr) (E : E3) (objs : Os) (cl : Cl) (w : World) : Prop where
  agree : ∀ b i v, E.S b i = some v → w.cell? ⟨b, i, none⟩ = some v
  live : ∀ o cs, objs o = some (.live cs) → ∃ b t vs, E.mu o = some b ∧ w.heap[b]? = some (.cells vs.toArray t (0, 0)) ∧ RepL E cs vs ∧ (∀ i, E.S b i = none) ∧ F.own b
  frz : ∀ o cs, objs o = some (.frz cs) → ∃ b vs, E.mu o = some b ∧ cs.all AV.flat1 = true ∧ RepL E cs vs ∧ ∀ j, j < vs.length → E.S b j = vs[j]?
  claim : ∀ q, isAl (cl q) = true → ∃ v sz t n xs, E.ka q = some (v, sz) ∧ 0 < sz ∧ w.ownsRow 0 t sz v n xs ∧ ∀ g, v.ownBlock = some g → F.own g ∧ ∀ i, n * sz ≤ i → E.S g i = none
  rows : ∀ q l, cl q = some (.row l) → ∃ v sz t n xs, E.ka q = some (v, sz) ∧ w.ownsRow 0 t sz v n xs ∧ SrcR E sz l xs ∧ l.length = n ∧ ∀ g, v.ownBlock = some g → ∀ i, E.S g i = none
  oo : ∀ o o' cs cs' b, objs o = some (.live cs) → objs o' = some (.live cs') → E.mu o = some b → E.mu o' = some b → o = o'
  cc : ∀ q q' v v' s s' g, isAl (cl q) = true → isAl (cl q') = true → E.ka q = some (v, s) → E.ka q' = some (v', s') → v.ownBlock = some g → v'.ownBlock = some g → q = q'
  oc : ∀ o cs b q v s, objs o = some (.live cs) → E.mu o = some b → isAl (cl q) = true → E.ka q = some (v, s) → v.ownBlock ≠ some b
  mdom : ∀ o b, E.mu o = some b → objs o ≠ none
  kdom : ∀ q x, E.ka q = some x → cl q ≠ none
  step : Step F w
  base : ∀ b i v, F.S0 b i = some v → E.S b i = some v
  sdom : ∀ b i v, E.S b i = some v → F.S0 b i = some v ∨ F.own b
  pm : ∀ j b cs, F.mu0 j = some b → objs j = some (.live cs) → E.mu j = some b

variable {F : Fr} {E : E3} {objs : Os} {cl : Cl} {w : World}

@[simp] theorem upd_same {β : Type} (f : Nat → Option β) (k : Nat) (v : β) : upd f k v k = some v := by simp [upd]
theorem upd_ne {β : Type} (f : Nat → Option β) {k j : Nat} (v : β) (h : k ≠ j) : upd f k v j = f j := by
  have : Nat.beq k j = false := by rw [Bool.eq_false_iff]; intro e; exact h (Nat.eq_of_beq_eq_true e)
  simp [upd, this]
theorem Nm.beq_iff : ∀ {a b : Nm}, Nm.beq a b = true ↔ a = b := by
  intro a b
  cases a <;> cases b <;> simp [Nm.beq, and_assoc]
@[simp] theorem updN_same (f : Cl) (k : Nm) (v : Cs) : updN f k v k = some v := by
  have : Nm.beq k k = true := Nm.beq_iff.2 rfl
  simp [updN, this]
theorem updN_ne (f : Cl) {k j : Nm} (v : Cs) (h : k ≠ j) : updN f k v j = f j := by
  have : Nm.beq k j = false := by rw [Bool.eq_false_iff]; intro e; exact h (Nm.beq_iff.1 e)
  simp [updN, this]

theorem WI.known (h : WI F E objs cl w) : Known E w := ⟨h.agree⟩
theorem WI.objK (h : WI F E objs cl w) : ObjK E objs (· = w) := by
  rintro o cs (ho | ho)
  · obtain ⟨b, t, vs, h1, h2, h3, _⟩ := h.live o cs ho
    exact ⟨b, vs, h1, h3, fun w' e j v hj => by subst e; rw [cell_of_row _ b j vs.toArray t (0, 0) h2]; simpa using hj⟩
  · obtain ⟨b, vs, h1, _, h3, h4⟩ := h.frz o cs ho
    exact ⟨b, vs, h1, h3, fun w' e j v hj => by subst e; exact h.agree b j v (by rw [h4 j (List.getElem?_eq_some_iff.1 hj).1, hj])⟩

theorem Step.same_heap {w' : World} (h : Step F w) (h1 : w'.os = w.os) (h2 : w'.tape = w.tape) (h3 : w'.output = w.output) (h4 : w'.heap = w.heap) : Step F w' :=
  ⟨h1.trans h.os, h2.trans h.tape, h3.trans h.output, by rw [h4]; exact h.size, fun i hi ho => by rw [h4]; exact h.block i hi ho⟩
theorem ownsRow_heap {w' : World} {base : Nat} {e : TypeId} {size : Nat} {v : Value} {n : Nat} {xs : List Value} (h : w.ownsRow base e size v n xs)
    (hb : ∀ g, v.ownBlock = some g → w'.heap[g]? = w.heap[g]?) : w'.ownsRow base e size v n xs := by
  refine ⟨h.1, ?_⟩
  rcases h.2 with hn | ⟨g, cap, cur, rfl, hbg, hgg, rest⟩
  · exact .inl hn
  · refine .inr ⟨g, cap, cur, rfl, hbg, ?_, rest⟩
    rw [hb g (by simp [Value.ownBlock])]
    exact hgg
theorem isAl_row {o : Option Cs} {l : List AV} (h : o = some (.row l)) : isAl o = true := by subst h; rfl
theorem isAl_own {o : Option Cs} (h : o = some .own) : isAl o = true := by subst h; rfl
theorem isAl_none {o : Option Cs} (h : isAl o = true) (k : o = none) : False := by subst k; cases h
theorem isAl_dead {o : Option Cs} (h : isAl o = true) (k : o = some .dead) : False := by subst k; cases h
/-- The world turns where nobody looks. -/
theorem WI.world {w' : World} (h : WI F E objs cl w) (hs : Step F w') (hS : ∀ b i v, E.S b i = some v → w'.cell? ⟨b, i, none⟩ = some v)
    (ho : ∀ o cs b, objs o = some (.live cs) → E.mu o = some b → w'.heap[b]? = w.heap[b]?)
    (hc : ∀ q v s g, isAl (cl q) = true → E.ka q = some (v, s) → v.ownBlock = some g → w'.heap[g]? = w.heap[g]?) : WI F E objs cl w' :=
  { h with
    agree := hS
    live := fun o cs hoc => by
      obtain ⟨b, t, vs, h1, h2, h3⟩ := h.live o cs hoc
      exact ⟨b, t, vs, h1, by rw [ho o cs b hoc h1]; exact h2, h3⟩
    claim := fun q hq => by
      obtain ⟨v, sz, t, n, xs, h1, h2, h3, h4⟩ := h.claim q hq
      exact ⟨v, sz, t, n, xs, h1, h2, ownsRow_heap h3 fun g hg => hc q v sz g hq h1 hg, h4⟩
    rows := fun q l hq => by
      obtain ⟨v, sz, t, n, xs, h1, h2, h3⟩ := h.rows q l hq
      exact ⟨v, sz, t, n, xs, h1, ownsRow_heap h2 fun g hg => hc q v sz g (isAl_row hq) h1 hg, h3⟩
    step := hs }
theorem WI.drew (h : WI F E objs cl w) : WI F E objs cl w.drew :=
  h.world (h.step.same_heap rfl rfl rfl rfl) (fun b i v hv => by simpa using h.agree b i v hv) (fun _ _ _ _ _ => rfl) (fun _ _ _ _ _ _ _ => rfl)
theorem WI.alloc (h : WI F E objs cl w) (o : Obj) : WI F E objs cl (w.alloc o) := by
  refine h.world ⟨h.step.os, h.step.tape, h.step.output, by have := h.step.size; simp; omega, fun i hi ho => ?_⟩ ?_ ?_ ?_
  · rw [heap_alloc_old w o (by have := h.step.size; omega)]; exact h.step.block i hi ho
  · intro b i v hv
    have := h.agree b i v hv
    rw [World.cell?_alloc_lt w o _ (World.block_lt_of_cell? w _ this)]
    exact this
  · intro o' cs b ho hm
    obtain ⟨b', t, vs, h1, h2, _⟩ := h.live o' cs ho
    rw [hm] at h1; cases h1
    exact heap_alloc_old w o (Array.getElem?_eq_some_iff.1 h2).1
  · intro q v s g hq hk hg
    obtain ⟨v', sz, t, n, xs, h1, _, h3, _⟩ := h.claim q hq
    rw [hk] at h1; cases h1
    exact heap_alloc_old w o (h3.lt g hg).2
theorem WI.lt_of_live (h : WI F E objs cl w) {o : Nat} {cs : List AV} {b : Nat} (ho : objs o = some (.live cs)) (hm : E.mu o = some b) : b < w.heap.size := by
  obtain ⟨b', t, vs, h1, h2, _⟩ := h.live o cs ho
  rw [hm] at h1; cases h1
  exact (Array.getElem?_eq_some_iff.1 h2).1
theorem WI.lt_of_claim (h : WI F E objs cl w) {q : Nm} {v : Value} {s g : Nat} (hq : isAl (cl q) = true) (hk : E.ka q = some (v, s)) (hg : v.ownBlock = some g) : g < w.heap.size := by
  obtain ⟨v', sz, t, n, xs, h1, _, h3, _⟩ := h.claim q hq
  rw [hk] at h1; cases h1
  exact (h3.lt g hg).2
theorem WI.S_lt (h : WI F E objs cl w) {b i : Nat} (hb : w.heap.size ≤ b) : E.S b i = none := by
  cases hs : E.S b i with
  | none => rfl
  | some v => have := World.block_lt_of_cell? w _ (h.agree b i v hs); simp at this; omega
/-- A block of one's own kind: from the begin of the frame on. -/
theorem WI.own_new (h : WI F E objs cl w) {b : Nat} (hb : w.heap.size ≤ b) : F.own b := .inl (Nat.le_trans h.step.size hb)

theorem le_mu {d b : Nat} (h : E.mu d = none) : E.le { E with mu := upd E.mu d b } :=
  ⟨fun _ _ _ h => h, fun o b' ho => by
    by_cases hd : d = o
    · subst hd; rw [h] at ho; cases ho
    · rw [← ho]; exact upd_ne _ _ hd, fun _ _ h => h⟩
/-- A new object. -/
theorem WI.new_obj (h : WI F E objs cl w) {d : Nat} (hd1 : 1000 ≤ d) (hd : objs d = none) {cs : List AV} {vs : List Value} {t : TypeId} (hr : RepL E cs vs) :
    E.le { E with mu := upd E.mu d w.heap.size } ∧ WI F { E with mu := upd E.mu d w.heap.size } (upd objs d (.live cs)) cl (w.alloc (.cells vs.toArray t)) := by
  have hmd : E.mu d = none := by
    cases hm : E.mu d with
    | none => rfl
    | some b => exact absurd hd (h.mdom d b hm)
  have hle := le_mu (b := w.heap.size) hmd
  have ha := h.alloc (.cells vs.toArray t)
  refine ⟨hle, ?_⟩
  have old : ∀ {o : Nat} {b : Nat}, (upd E.mu d w.heap.size) o = some b → (o = d ∧ b = w.heap.size) ∨ (o ≠ d ∧ E.mu o = some b) := by
    intro o b ho
    by_cases hod : d = o
    · subst hod; rw [upd_same] at ho; cases ho; exact .inl ⟨rfl, rfl⟩
    · rw [upd_ne _ _ hod] at ho; exact .inr ⟨fun e => hod e.symm, ho⟩
  have oldo : ∀ {o : Nat} {x : Ob}, (upd objs d (.live cs)) o = some x → (o = d ∧ x = .live cs) ∨ (o ≠ d ∧ objs o = some x) := by
    intro o b ho
    by_cases hod : d = o
    · subst hod; rw [upd_same] at ho; cases ho; exact .inl ⟨rfl, rfl⟩
    · rw [upd_ne _ _ hod] at ho; exact .inr ⟨fun e => hod e.symm, ho⟩
  refine ⟨ha.agree, ?_, ?_, ha.claim, fun q l hq => (by
    obtain ⟨v, sz, t, n, xs, h1, h2, h3, h4⟩ := ha.rows q l hq
    exact ⟨v, sz, t, n, xs, h1, h2, h3.mono hle, h4⟩), ?_, ha.cc, ?_, ?_, ha.kdom, ha.step, ha.base, ha.sdom, ?_⟩
  · intro o cs' ho
    rcases oldo ho with ⟨rfl, e⟩ | ⟨hne, ho⟩
    · cases e
      exact ⟨w.heap.size, t, vs, upd_same _ _ _, heap_alloc_new w _, hr.mono hle, fun i => h.S_lt (Nat.le_refl _), h.own_new (Nat.le_refl _)⟩
    · obtain ⟨b, t', vs', h1, h2, h3, h4⟩ := ha.live o cs' ho
      exact ⟨b, t', vs', (upd_ne _ _ (Ne.symm hne)).trans h1, h2, h3.mono hle, h4⟩
  · intro o cs' ho
    rcases oldo ho with ⟨rfl, e⟩ | ⟨hne, ho⟩
    · cases e
    · obtain ⟨b, vs', h1, h2, h3, h4⟩ := ha.frz o cs' ho
      exact ⟨b, vs', (upd_ne _ _ (Ne.symm hne)).trans h1, h2, h3.mono hle, h4⟩
  · intro o o' c c' b ho ho' hm hm'
    rcases oldo ho with ⟨e1, _⟩ | ⟨hne, ho1⟩ <;> rcases oldo ho' with ⟨e2, _⟩ | ⟨hne', ho2⟩
    · rw [e1, e2]
    · exfalso
      rcases old hm with ⟨_, e3⟩ | ⟨h1, _⟩
      · rcases old hm' with ⟨h2, _⟩ | ⟨_, h2⟩
        · exact hne' h2
        · have := h.lt_of_live ho2 h2; omega
      · exact h1 e1
    · exfalso
      rcases old hm' with ⟨_, e3⟩ | ⟨h1, _⟩
      · rcases old hm with ⟨h2, _⟩ | ⟨_, h2⟩
        · exact hne h2
        · have := h.lt_of_live ho1 h2; omega
      · exact h1 e2
    · rcases old hm with ⟨h1, _⟩ | ⟨_, hm1⟩
      · exact absurd h1 hne
      · rcases old hm' with ⟨h1, _⟩ | ⟨_, hm2⟩
        · exact absurd h1 hne'
        · exact h.oo o o' c c' b ho1 ho2 hm1 hm2
  · intro o c b q v s ho hm hq hk
    rcases oldo ho with ⟨rfl, _⟩ | ⟨hne, ho⟩
    · rcases old hm with ⟨_, rfl⟩ | ⟨h1, _⟩
      · intro e
        have := h.lt_of_claim hq hk e
        omega
      · exact absurd rfl h1
    · rcases old hm with ⟨h1, _⟩ | ⟨_, hm⟩
      · exact absurd h1 hne
      · exact h.oc o c b q v s ho hm hq hk
  · intro o b hm
    rcases old hm with ⟨rfl, _⟩ | ⟨hne, hm⟩
    · rw [upd_same]; simp
    · rw [upd_ne _ _ (Ne.symm hne)]; exact h.mdom o b hm
  · intro j b c hj ho
    have hlt := F.mudom j b hj
    have hne : d ≠ j := by omega
    rw [upd_ne _ _ hne] at ho
    exact (upd_ne _ _ hne).trans (h.pm j b c hj ho)

theorem setRow_other' (w : World) (g k : Nat) (cs : Array Value) (h : k ≠ g) : (w.setRow g cs).heap[k]? = w.heap[k]? := by
  simp only [World.setRow, Array.getElem?_modify]
  rw [if_neg (fun e => h e.symm)]
theorem cell_heap {w w' : World} {b i : Nat} (h : w'.heap[b]? = w.heap[b]?) : w'.cell? ⟨b, i, none⟩ = w.cell? ⟨b, i, none⟩ := by simp [World.cell?, h]
/-- An object is written. -/
theorem WI.store (h : WI F E objs cl w) {o b : Nat} {cs cs' : List AV} {vs : List Value} {t : TypeId} (ho : objs o = some (.live cs)) (hm : E.mu o = some b) (hb : ∃ vs0, w.heap[b]? = some (.cells vs0 t (0, 0)))
    (hr : RepL E cs' vs) : WI F E (upd objs o (.live cs')) cl (w.setRow b vs.toArray) := by
  obtain ⟨vs0, hb⟩ := hb
  obtain ⟨b', t', vs1, h1, h2, h3, h4, h5⟩ := h.live o cs ho
  rw [hm] at h1; cases h1
  have hS : ∀ b' i v, E.S b' i = some v → b' ≠ b := by
    rintro b' i v hv rfl
    rw [h4 i] at hv; cases hv
  have oldo : ∀ {p : Nat} {x : Ob}, (upd objs o (.live cs')) p = some x → (p = o ∧ x = .live cs') ∨ (p ≠ o ∧ objs p = some x) := by
    intro p x hp
    by_cases hod : o = p
    · subst hod; rw [upd_same] at hp; cases hp; exact .inl ⟨rfl, rfl⟩
    · rw [upd_ne _ _ hod] at hp; exact .inr ⟨fun e => hod e.symm, hp⟩
  refine ⟨?_, ?_, ?_, ?_, fun q l hq => (by
    obtain ⟨v, sz, t, n, xs, g1, g2, g3⟩ := h.rows q l hq
    exact ⟨v, sz, t, n, xs, g1, ownsRow_heap g2 fun g hg => setRow_other' w b g _ (fun e => h.oc o cs b q v sz ho hm (isAl_row hq) g1 (e ▸ hg)), g3⟩), ?_, h.cc, ?_, ?_, h.kdom, ?_, h.base, h.sdom, ?_⟩
  · intro b' i v hv
    rw [cell_heap (setRow_other' w b b' _ (hS b' i v hv))]
    exact h.agree b' i v hv
  · intro p c hp
    rcases oldo hp with ⟨e1, e2⟩ | ⟨hne, hp⟩
    · cases e2; subst e1
      exact ⟨b, t, vs, hm, setRow_heap w b vs0 vs.toArray t (0, 0) hb, hr, h4, h5⟩
    · obtain ⟨b2, t2, vs2, g1, g2, g3⟩ := h.live p c hp
      refine ⟨b2, t2, vs2, g1, ?_, g3⟩
      rw [setRow_other' w b b2 _ (fun e => hne (h.oo p o c cs b hp ho (e ▸ g1) hm))]
      exact g2
  · intro p c hp
    rcases oldo hp with ⟨_, e2⟩ | ⟨hne, hp⟩
    · cases e2
    · exact h.frz p c hp
  · intro q hq
    obtain ⟨v, sz, t, n, xs, g1, g2, g3, g4⟩ := h.claim q hq
    exact ⟨v, sz, t, n, xs, g1, g2, ownsRow_heap g3 fun g hg => setRow_other' w b g _ (fun e => h.oc o cs b q v sz ho hm hq g1 (e ▸ hg)), g4⟩
  · intro p p' c c' b2 hp hp' hm1 hm2
    have e : ∀ {p : Nat} {c : List AV}, (upd objs o (.live cs')) p = some (.live c) → ∃ c0, objs p = some (.live c0) := by
      intro p c hp
      rcases oldo hp with ⟨e1, _⟩ | ⟨_, hp⟩
      · exact ⟨cs, e1 ▸ ho⟩
      · exact ⟨c, hp⟩
    obtain ⟨c0, hc0⟩ := e hp
    obtain ⟨c1, hc1⟩ := e hp'
    exact h.oo p p' c0 c1 b2 hc0 hc1 hm1 hm2
  · intro p c b2 q v s hp hm1 hq hk
    rcases oldo hp with ⟨e1, _⟩ | ⟨_, hp⟩
    · exact h.oc o cs b2 q v s ho (e1 ▸ hm1) hq hk
    · exact h.oc p c b2 q v s hp hm1 hq hk
  · intro p b2 hp
    by_cases hop : o = p
    · subst hop; rw [upd_same]; simp
    · rw [upd_ne _ _ hop]; exact h.mdom p b2 hp
  · refine ⟨h.step.os, h.step.tape, h.step.output, by rw [size_setRow]; exact h.step.size, fun i hi ho' => ?_⟩
    rw [setRow_other' w b i _ (fun e => by rcases h5 with h5 | h5; · omega
                                           · exact ho' (e ▸ h5))]
    exact h.step.block i hi ho'
  · intro j b2 c hj hp
    rcases oldo hp with ⟨e1, _⟩ | ⟨_, hp⟩
    · exact h.pm j b2 cs hj (e1 ▸ ho)
    · exact h.pm j b2 c hj hp

/-- Cells stand still from now on. -/
def addS (E : E3) (b lo : Nat) (vs : List Value) : E3 :=
  { E with S := fun b' i => match E.S b' i with | some v => some v | none => if b' = b ∧ lo ≤ i ∧ i < lo + vs.length then vs[i - lo]? else none }
theorem addS_le (E : E3) (b lo : Nat) (vs : List Value) : E.le (addS E b lo vs) :=
  ⟨fun b' i v h => by simp [addS, h], fun _ _ h => h, fun _ _ h => h⟩
theorem addS_some {b lo : Nat} {vs : List Value} {b' i : Nat} {v : Value} (h : (addS E b lo vs).S b' i = some v) : E.S b' i = some v ∨ (E.S b' i = none ∧ b' = b ∧ lo ≤ i ∧ i < lo + vs.length ∧ vs[i - lo]? = some v) := by
  simp only [addS] at h
  split at h
  · rename_i v' hv'; injection h with h; subst h; exact .inl hv'
  · rename_i hn
    split at h
    · rename_i hc; exact .inr ⟨hn, hc.1, hc.2.1, hc.2.2, h⟩
    · cases h
theorem addS_at {b lo : Nat} {vs : List Value} (h : ∀ i v, E.S b i = some v → w.cell? ⟨b, i, none⟩ = some v) (hc : ∀ (j : Nat) (v : Value), vs[j]? = some v → w.cell? ⟨b, lo + j, none⟩ = some v) (j : Nat) (hj : j < vs.length) :
    (addS E b lo vs).S b (lo + j) = vs[j]? := by
  have hv : vs[j]? = some vs[j] := by simp [hj]
  simp only [addS]
  cases hs : E.S b (lo + j) with
  | some v' =>
    have h1 := h _ _ hs
    rw [hc j _ hv] at h1
    rw [hv]
    exact h1.symm
  | none =>
    dsimp only
    rw [if_pos (by refine ⟨?_, by omega, by omega⟩; first | rfl | trivial)]
    congr 1
    omega
theorem addS_other {b lo : Nat} {vs : List Value} {b' i : Nat} (h : ¬ (b' = b ∧ lo ≤ i ∧ i < lo + vs.length)) : (addS E b lo vs).S b' i = E.S b' i := by
  simp only [addS]
  cases hs : E.S b' i with
  | some v => rfl
  | none => simp [h]
theorem WI.addS (h : WI F E objs cl w) {b lo : Nat} {vs : List Value} (hb : F.own b) (hc : ∀ (j : Nat) (v : Value), vs[j]? = some v → w.cell? ⟨b, lo + j, none⟩ = some v)
    (ho : ∀ o cs, objs o = some (.live cs) → E.mu o ≠ some b)
    (hq : ∀ q v s t n xs, isAl (cl q) = true → E.ka q = some (v, s) → v.ownBlock = some b → w.ownsRow 0 t s v n xs → (∀ i, n * s ≤ i → E.S b i = none) → lo + vs.length ≤ n * s)
    (hrow : ∀ q l v s, cl q = some (.row l) → E.ka q = some (v, s) → v.ownBlock ≠ some b) : WI F (addS E b lo vs) objs cl w := by
  have hle := addS_le E b lo vs
  refine { h with agree := ?_, live := ?_, frz := ?_, claim := ?_, rows := fun q l hq' => (by
    obtain ⟨v, sz, t, n, xs, h1, h2, h3, h4, h5⟩ := h.rows q l hq'
    refine ⟨v, sz, t, n, xs, h1, h2, h3.mono hle, h4, fun g hg i => ?_⟩
    rw [addS_other (fun e => hrow q l v sz hq' h1 (by rw [hg, e.1]))]
    exact h5 g hg i), oo := h.oo, cc := h.cc, oc := h.oc, mdom := h.mdom, kdom := h.kdom, base := fun b i v hv => hle.S b i v (h.base b i v hv), sdom := fun b' i v hv => ?_ }
  · intro b' i v hv
    rcases addS_some hv with hv | ⟨_, rfl, h1, h2, h3⟩
    · exact h.agree b' i v hv
    · have := hc _ _ h3
      rwa [show lo + (i - lo) = i from by omega] at this
  · intro o cs hcs
    obtain ⟨b', t, us, h1, h2, h3, h4, h5⟩ := h.live o cs hcs
    refine ⟨b', t, us, h1, h2, h3.mono hle, fun i => ?_, h5⟩
    rw [addS_other (fun e => ho o cs hcs (by rw [h1, e.1]))]
    exact h4 i
  · intro o cs hcs
    obtain ⟨b', us, h1, h2, h3, h4⟩ := h.frz o cs hcs
    exact ⟨b', us, h1, h2, h3.mono hle, fun j hj => S_some hle.S (get_isSome hj) (h4 j hj)⟩
  · intro q hq'
    obtain ⟨v, sz, t, n, xs, h1, h2, h3, h4⟩ := h.claim q hq'
    refine ⟨v, sz, t, n, xs, h1, h2, h3, fun g hg => ⟨(h4 g hg).1, fun i hi => ?_⟩⟩
    rw [addS_other]
    · exact (h4 g hg).2 i hi
    · rintro ⟨rfl, h5, h6⟩
      have := hq q v sz t n xs hq' h1 hg h3 (h4 g hg).2
      omega
  · rcases addS_some hv with hv | ⟨_, rfl, _⟩
    · exact h.sdom b' i v hv
    · exact .inr hb

def updK (f : Nm → Option (Value × Nat)) (k : Nm) (v : Value × Nat) : Nm → Option (Value × Nat) := fun j => if k = j then some v else f j
theorem le_ka {q : Nm} {x : Value × Nat} (h : E.ka q = none) : E.le { E with ka := updK E.ka q x } :=
  ⟨fun _ _ _ h => h, fun _ _ h => h, fun q' v hq => by
    simp only [updK]
    rw [if_neg (fun e => by subst e; rw [h] at hq; cases hq)]
    exact hq⟩
theorem WI.ka_none (h : WI F E objs cl w) {q : Nm} (hq : cl q = none) : E.ka q = none := by
  cases hk : E.ka q with
  | none => rfl
  | some x => exact absurd hq (h.kdom q x hk)
/-- A new claim. -/
theorem WI.new_claimC (h : WI F E objs cl w) {q : Nm} (hq : cl q = none) {c : Cs} (hca : isAl (some c) = true) {v : Value} {sz : Nat} {t : TypeId} {n : Nat} {xs : List Value} (hsz : 0 < sz) (hown : w.ownsRow 0 t sz v n xs)
    (hg : ∀ g, v.ownBlock = some g → F.own g ∧ (∀ i, n * sz ≤ i → E.S g i = none) ∧ (∀ o cs, objs o = some (.live cs) → E.mu o ≠ some g) ∧ (∀ q' v' s', isAl (cl q') = true → E.ka q' = some (v', s') → v'.ownBlock ≠ some g))
    (hrow : ∀ l, c = .row l → SrcR E sz l xs ∧ l.length = n ∧ ∀ g, v.ownBlock = some g → ∀ i, E.S g i = none) :
    E.le { E with ka := updK E.ka q (v, sz) } ∧ WI F { E with ka := updK E.ka q (v, sz) } objs (updN cl q c) w := by
  have hle := le_ka (x := (v, sz)) (h.ka_none hq)
  have oldc : ∀ {p : Nm}, isAl ((updN cl q c) p) = true → p = q ∨ (p ≠ q ∧ isAl (cl p) = true) := by
    intro p hp
    by_cases hqp : q = p
    · exact .inl hqp.symm
    · rw [updN_ne _ _ hqp] at hp; exact .inr ⟨fun e => hqp e.symm, hp⟩
  have oldk : ∀ {p : Nm} {x : Value × Nat}, updK E.ka q (v, sz) p = some x → (p = q ∧ x = (v, sz)) ∨ (p ≠ q ∧ E.ka p = some x) := by
    intro p x hp
    simp only [updK] at hp
    split at hp
    · rename_i e; injection hp with hp; exact .inl ⟨e.symm, hp.symm⟩
    · rename_i e; exact .inr ⟨fun e' => e e'.symm, hp⟩
  refine ⟨hle, { h with live := ?_, frz := ?_, claim := ?_, rows := fun p l hp => (by
    by_cases hqp : q = p
    · subst hqp
      rw [updN_same] at hp
      injection hp with hp
      obtain ⟨r1, r2, r3⟩ := hrow l hp
      exact ⟨v, sz, t, n, xs, by simp [updK], hown, r1.mono hle, r2, r3⟩
    · rw [updN_ne _ _ hqp] at hp
      obtain ⟨v', s', t', n', xs', h1, h2, h3, h4⟩ := h.rows p l hp
      exact ⟨v', s', t', n', xs', by simp only [updK]; rw [if_neg hqp]; exact h1, h2, h3.mono hle, h4⟩), cc := ?_, oc := ?_, kdom := ?_ }⟩
  · intro o cs ho
    obtain ⟨b, t, vs, h1, h2, h3, h4⟩ := h.live o cs ho
    exact ⟨b, t, vs, h1, h2, h3.mono hle, h4⟩
  · intro o cs ho
    obtain ⟨b, vs, h1, h2, h3, h4⟩ := h.frz o cs ho
    exact ⟨b, vs, h1, h2, h3.mono hle, h4⟩
  · intro p hp
    rcases oldc hp with rfl | ⟨hne, hp⟩
    · exact ⟨v, sz, t, n, xs, by simp [updK], hsz, hown, fun g e => ⟨(hg g e).1, (hg g e).2.1⟩⟩
    · obtain ⟨v', s', t', n', xs', h1, h2⟩ := h.claim p hp
      exact ⟨v', s', t', n', xs', by simp only [updK]; rw [if_neg (Ne.symm hne)]; exact h1, h2⟩
  · intro p p' v1 v2 s1 s2 g hp hp' hk hk' hg1 hg2
    rcases oldc hp with e1 | ⟨hne, hp⟩ <;> rcases oldc hp' with e2 | ⟨hne', hp2⟩
    · rw [e1, e2]
    · exfalso
      rcases oldk hk with ⟨_, e⟩ | ⟨h1, _⟩
      · rcases oldk hk' with ⟨h2, _⟩ | ⟨_, h2⟩
        · exact hne' h2
        · injection e with e _
          subst e
          exact (hg g hg1).2.2.2 p' v2 s2 hp2 h2 hg2
      · exact h1 e1
    · exfalso
      rcases oldk hk' with ⟨_, e⟩ | ⟨h1, _⟩
      · rcases oldk hk with ⟨h2, _⟩ | ⟨_, h2⟩
        · exact hne h2
        · injection e with e _
          subst e
          exact (hg g hg2).2.2.2 p v1 s1 hp h2 hg1
      · exact h1 e2
    · rcases oldk hk with ⟨h1, _⟩ | ⟨_, hk⟩
      · exact absurd h1 hne
      · rcases oldk hk' with ⟨h1, _⟩ | ⟨_, hk'⟩
        · exact absurd h1 hne'
        · exact h.cc p p' v1 v2 s1 s2 g hp hp2 hk hk' hg1 hg2
  · intro o c b p v1 s1 ho hm hp hk
    rcases oldc hp with e1 | ⟨hne, hp⟩
    · rcases oldk hk with ⟨_, e⟩ | ⟨h1, _⟩
      · injection e with e _
        subst e
        exact fun e => (hg b e).2.2.1 o c ho hm
      · exact absurd e1 h1
    · rcases oldk hk with ⟨h1, _⟩ | ⟨_, hk⟩
      · exact absurd h1 hne
      · exact h.oc o c b p v1 s1 ho hm hp hk
  · intro p x hp
    rcases oldk hp with ⟨rfl, _⟩ | ⟨hne, hp⟩
    · rw [updN_same]; simp
    · rw [updN_ne _ _ (Ne.symm hne)]; exact h.kdom p x hp
theorem WI.new_claim (h : WI F E objs cl w) {q : Nm} (hq : cl q = none) {v : Value} {sz : Nat} {t : TypeId} {n : Nat} {xs : List Value} (hsz : 0 < sz) (hown : w.ownsRow 0 t sz v n xs)
    (hg : ∀ g, v.ownBlock = some g → F.own g ∧ (∀ i, n * sz ≤ i → E.S g i = none) ∧ (∀ o cs, objs o = some (.live cs) → E.mu o ≠ some g) ∧ (∀ q' v' s', isAl (cl q') = true → E.ka q' = some (v', s') → v'.ownBlock ≠ some g)) :
    E.le { E with ka := updK E.ka q (v, sz) } ∧ WI F { E with ka := updK E.ka q (v, sz) } objs (updN cl q .own) w :=
  h.new_claimC hq rfl hsz hown hg (fun l e => by cases e)
/-- A claim is given up. -/
theorem WI.kill_claim (h : WI F E objs cl w) (q : Nm) : WI F E objs (updN cl q .dead) w := by
  have oldc : ∀ {p : Nm}, isAl ((updN cl q .dead) p) = true → isAl (cl p) = true := by
    intro p hp
    by_cases hqp : q = p
    · subst hqp; rw [updN_same] at hp; cases hp
    · rwa [updN_ne _ _ hqp] at hp
  refine { h with claim := fun p hp => h.claim p (oldc hp), rows := fun p l hp => h.rows p l (by
    by_cases hqp : q = p
    · subst hqp; rw [updN_same] at hp; cases hp
    · rwa [updN_ne _ _ hqp] at hp), cc := fun p p' v v' s s' g hp hp' => h.cc p p' v v' s s' g (oldc hp) (oldc hp'), oc := fun o c b p v s ho hm hp => h.oc o c b p v s ho hm (oldc hp), kdom := ?_ }
  intro p x hp
  by_cases hqp : q = p
  · subst hqp; rw [updN_same]; simp
  · rw [updN_ne _ _ hqp]; exact h.kdom p x hp
/-- An object is given up. -/
theorem WI.kill_obj (h : WI F E objs cl w) (o : Nat) : WI F E (upd objs o .dead) cl w := by
  have oldo : ∀ {p : Nat} {c : Ob}, c ≠ .dead → (upd objs o .dead) p = some c → objs p = some c := by
    intro p c hc hp
    by_cases hqp : o = p
    · subst hqp; rw [upd_same] at hp; injection hp with hp; exact absurd hp.symm hc
    · rwa [upd_ne _ _ hqp] at hp
  refine { h with live := fun p c hp => h.live p c (oldo (by simp) hp), frz := fun p c hp => h.frz p c (oldo (by simp) hp), oo := fun p p' c c' b hp hp' => h.oo p p' c c' b (oldo (by simp) hp) (oldo (by simp) hp'), oc := fun p c b q v s hp => h.oc p c b q v s (oldo (by simp) hp), mdom := ?_, pm := fun j b c hj hp => h.pm j b c hj (oldo (by simp) hp) }
  intro p x hp
  by_cases hqp : o = p
  · subst hqp; rw [upd_same]; simp
  · rw [upd_ne _ _ hqp]; exact h.mdom p x hp

theorem rep_ro {m : Md} {wd : Nat} {l : List AV} {v : Value} (h : Rep E (.lst m wd l) v) : Rep E (.lst .ro wd l) v := by
  simp only [Rep] at h ⊢
  obtain ⟨a, len, cap, h1, h2, h3, h4, h5, h6, h7⟩ := h
  exact ⟨a, len, cap, h1, h2, h3, h4, h5, by simp, by simp⟩
theorem rep_dem1 {x : AV} {v : Value} (h : Rep E x v) : Rep E x.dem1 v := by
  cases x <;> simp only [AV.dem1] <;> first | exact rep_ro h | exact h
theorem one_dem1 {x : AV} (h : x.one = true) : x.dem1.one = true := by cases x <;> simp_all [AV.dem1, AV.one]
theorem repL_dem1 : ∀ {l : List AV} {vs : List Value}, RepL E l vs → RepL E (l.map AV.dem1) vs
  | [], vs, h => by simpa [RepL] using h
  | x :: l, vs, h => by
    simp only [RepL, List.map_cons] at h ⊢
    obtain ⟨v, r, rfl, h1, h2, h3, h4⟩ := h
    exact ⟨v, r, rfl, one_dem1 h1, h2, rep_dem1 h3, repL_dem1 h4⟩
/-- An object stands still from now on. -/
theorem WI.freeze (h : WI F E objs cl w) {o : Nat} {cs : List AV} (ho : objs o = some (.live cs)) (hf : (cs.map AV.dem1).all AV.flat1 = true) :
    ∃ b vs, E.mu o = some b ∧ RepL (V.addS E b 0 vs) (cs.map AV.dem1) vs ∧ (∀ j, j < vs.length → (V.addS E b 0 vs).S b j = vs[j]?) ∧ E.le (V.addS E b 0 vs) ∧ WI F (V.addS E b 0 vs) (upd objs o (.frz (cs.map AV.dem1))) cl w := by
  obtain ⟨b, t, vs, h1, h2, h3, h4, h5⟩ := h.live o cs ho
  have hcell : ∀ (j : Nat) (v : Value), vs[j]? = some v → w.cell? ⟨b, 0 + j, none⟩ = some v := fun j v hj => by
    rw [Nat.zero_add, cell_of_row w b j vs.toArray t (0, 0) h2]; simpa using hj
  have hle := addS_le E b 0 vs
  have hat : ∀ j, j < vs.length → (V.addS E b 0 vs).S b j = vs[j]? := fun j hj => by
    have := addS_at (E := E) (w := w) (b := b) (lo := 0) (vs := vs) (fun i v hv => h.agree b i v hv) hcell j hj
    rwa [Nat.zero_add] at this
  have hk := (h.kill_obj o).addS (b := b) (lo := 0) (vs := vs) h5 hcell (by
      intro p c hp hm
      by_cases hop : o = p
      · subst hop; rw [upd_same] at hp; cases hp
      · rw [upd_ne _ _ hop] at hp
        exact hop (h.oo o p cs c b ho hp h1 hm)) (by
      intro q v s t n xs hq hk hg
      exact absurd hg (h.oc o cs b q v s ho h1 hq hk)) (fun q l v s hq hk => h.oc o cs b q v s ho h1 (isAl_row hq) hk)
  have oldo : ∀ {p : Nat} {c : List AV}, (upd objs o (.frz (cs.map AV.dem1))) p = some (.live c) → (upd objs o .dead) p = some (.live c) := by
    intro p c hp
    by_cases hqp : o = p
    · subst hqp; rw [upd_same] at hp; cases hp
    · rw [upd_ne _ _ hqp] at hp ⊢; exact hp
  refine ⟨b, vs, h1, (repL_dem1 h3).mono hle, hat, hle, { hk with live := fun p c hp => hk.live p c (oldo hp), frz := ?_, oo := fun p p' c c' b hp hp' => hk.oo p p' c c' b (oldo hp) (oldo hp'), oc := fun p c b q v s hp => hk.oc p c b q v s (oldo hp), mdom := ?_, pm := fun j b c hj hp => hk.pm j b c hj (oldo hp) }⟩
  · intro p c hp
    by_cases hqp : o = p
    · subst hqp; rw [upd_same] at hp; injection hp with hp; injection hp with hp; subst hp
      exact ⟨b, vs, h1, hf, (repL_dem1 h3).mono hle, hat⟩
    · rw [upd_ne _ _ hqp] at hp
      exact hk.frz p c (by rw [upd_ne _ _ hqp]; exact hp)
  · intro p x hp
    by_cases hqp : o = p
    · subst hqp; rw [upd_same]; simp
    · rw [upd_ne _ _ hqp]; exact h.mdom p x hp
end Go.Proofs.Ythmocicjocjdoaa.V
