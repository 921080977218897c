/- How an abstract value stands for a value of the machine. -/
import Derived.Test.YthmocicjocjdoaaAb
import Derived.Laws.AppendOwn
set_option linter.unusedVariables false
set_option linter.unusedSimpArgs false
namespace Go.Proofs.Ythmocicjocjdoaa.V
open Go

/-- What is known of memory: cells that stand still (S), the blocks of objects (mu), the slices that hold their rows' spare cells (ka). -/
structure E3 where
  S : Nat → Nat → Option Value
  mu : Nat → Option Nat
  ka : Nm → Option (Value × Nat)

mutual
def Rep (E : E3) : AV → Value → Prop
  | .int k n, v => v = .int k n
  | .bool b, v => v = .bool b
  | .str s, v => v = .string ⟨s.toArray⟩ ∧ s.length ≤ maxL
  | .lst m w l, v => ∃ a len cap, v = .slice a len cap ∧ len = l.length ∧ len ≤ cap ∧ cap ≤ maxL ∧
      (l ≠ [] → ∃ b off, a = some ⟨b, off, none⟩ ∧ RepE E w b off l) ∧ (m = .nil → a = none ∧ cap = 0 ∧ l = []) ∧ (∀ q, m = .own q → E.ka q = some (v, w))
  | .agg l, v => ∃ vs : List Value, v = .agg vs.toArray ∧ RepL E l vs
  | .ref o i, v => ∃ b, E.mu o = some b ∧ v = .pointer (some ⟨b, i, none⟩)
  | .rp l i, v => ∃ b off, v = .pointer (some ⟨b, off + i, none⟩) ∧ l.all AV.flat1 = true ∧ ∃ vs, RepL E l vs ∧ ∀ j, j < vs.length → E.S b (off + j) = vs[j]?
  | .nilp, v => v = .pointer none
  | .clo f caps, v => ∃ vs : List Value, v = .func (.func f) #[] vs.toArray ∧ caps.all AV.flat1 = true ∧ RepL E caps vs
  | .tup l, v => ∃ vs : List Value, v = .tuple vs.toArray ∧ RepT E l vs
  | .undef, _ => True
  | .sq q w, v => E.ka q = some (v, w) ∧ ∃ a n cap, v = .slice a n cap
  | .ua q w i j, v => ∃ b n cap, E.ka q = some (.slice (some ⟨b, 0, none⟩) n cap, w) ∧ i < n ∧ v = .pointer (some ⟨b, i * w + j, none⟩)
def RepE (E : E3) (w : Nat) (b : Nat) : Nat → List AV → Prop
  | _, [] => True
  | off, x :: l => (x.flat = true ∧ ∃ u, Rep E x u ∧ u.cells.size = w ∧ ∀ j, j < w → E.S b (off + j) = u.cells[j]?) ∧ RepE E w b (off + w) l
def RepL (E : E3) : List AV → List Value → Prop
  | [], vs => vs = []
  | x :: l, vs => ∃ v r, vs = v :: r ∧ x.one = true ∧ v.oneCell' = true ∧ Rep E x v ∧ RepL E l r
def RepT (E : E3) : List AV → List Value → Prop
  | [], vs => vs = []
  | x :: l, vs => ∃ v r, vs = v :: r ∧ Rep E x v ∧ RepT E l r
end

/-- More is known. -/
structure E3.le (E F : E3) : Prop where
  S : ∀ b i v, E.S b i = some v → F.S b i = some v
  mu : ∀ o b, E.mu o = some b → F.mu o = some b
  ka : ∀ q v, E.ka q = some v → F.ka q = some v
theorem E3.le.refl (E : E3) : E.le E := ⟨fun _ _ _ h => h, fun _ _ h => h, fun _ _ h => h⟩
theorem E3.le.trans {E F G : E3} (h : E.le F) (k : F.le G) : E.le G := ⟨fun b i v x => k.S b i v (h.S b i v x), fun o b x => k.mu o b (h.mu o b x), fun q v x => k.ka q v (h.ka q v x)⟩

theorem S_some {E F : E3} (h : ∀ b i v, E.S b i = some v → F.S b i = some v) {b i : Nat} {o : Option Value} (ho : o.isSome) (e : E.S b i = o) : F.S b i = o := by
  cases o with
  | none => cases ho
  | some v => exact h b i v e
theorem get_isSome {β : Type} {l : List β} {j : Nat} (h : j < l.length) : (l[j]?).isSome := by simp [h]
theorem geta_isSome {β : Type} {l : Array β} {j : Nat} (h : j < l.size) : (l[j]?).isSome := by simp [h]

/-- What a value's standing leans on: for flat values the cells alone. -/
theorem rep_mono_aux (E F : E3) (hS : ∀ b i v, E.S b i = some v → F.S b i = some v) (x : AV) :
    (∀ v, ((∀ o b, E.mu o = some b → F.mu o = some b) ∧ (∀ q v, E.ka q = some v → F.ka q = some v) ∨ x.flat = true) → Rep E x v → Rep F x v) := by
  refine AV.rec (motive_1 := fun x => ∀ v, ((∀ o b, E.mu o = some b → F.mu o = some b) ∧ (∀ q v, E.ka q = some v → F.ka q = some v) ∨ x.flat = true) → Rep E x v → Rep F x v)
    (motive_2 := fun l => (∀ w b off, RepE E w b off l → RepE F w b off l) ∧
      (∀ vs, ((∀ o b, E.mu o = some b → F.mu o = some b) ∧ (∀ q v, E.ka q = some v → F.ka q = some v) ∨ l.all AV.flat1 = true) → RepL E l vs → RepL F l vs) ∧
      (∀ vs, ((∀ o b, E.mu o = some b → F.mu o = some b) ∧ (∀ q v, E.ka q = some v → F.ka q = some v)) → RepT E l vs → RepT F l vs)) ?_ ?_ ?_ ?_ ?_ ?_ ?_ ?_ ?_ ?_ ?_ ?_ ?_ ?_ ?_ x
  · intro k n v _ h; simpa [Rep] using h
  · intro b v _ h; simpa [Rep] using h
  · intro s v _ h; simpa [Rep] using h
  · intro m w l ih v hm h
    simp only [Rep] at h ⊢
    obtain ⟨a, len, cap, h1, h2, h3, h4, h5, h6, h7⟩ := h
    refine ⟨a, len, cap, h1, h2, h3, h4, ?_, h6, ?_⟩
    · intro hl
      obtain ⟨b, off, e, r⟩ := h5 hl
      exact ⟨b, off, e, ih.1 w b off r⟩
    · intro q hq
      rcases hm with hm | hm
      · exact hm.2 q _ (h7 q hq)
      · subst hq; simp [AV.flat, AV.flat1] at hm
  · intro l ih v hm h
    simp only [Rep] at h ⊢
    obtain ⟨vs, h1, h2⟩ := h
    refine ⟨vs, h1, ih.2.1 vs ?_ h2⟩
    rcases hm with hm | hm
    · exact .inl hm
    · exact .inr (by simpa [AV.flat] using hm)
  · intro o i v hm h
    simp only [Rep] at h ⊢
    obtain ⟨b, h1, h2⟩ := h
    rcases hm with hm | hm
    · exact ⟨b, hm.1 o b h1, h2⟩
    · simp [AV.flat, AV.flat1] at hm
  · intro l i ih v hm h
    simp only [Rep] at h ⊢
    obtain ⟨b, off, h1, h2, vs, h3, h4⟩ := h
    exact ⟨b, off, h1, h2, vs, ih.2.1 vs (.inr h2) h3, fun j hj => S_some hS (get_isSome hj) (h4 j hj)⟩
  · intro v _ h; simpa [Rep] using h
  · intro f caps ih v hm h
    simp only [Rep] at h ⊢
    obtain ⟨vs, h1, h2, h3⟩ := h
    exact ⟨vs, h1, h2, ih.2.1 vs (.inr h2) h3⟩
  · intro l ih v hm h
    simp only [Rep] at h ⊢
    obtain ⟨vs, h1, h2⟩ := h
    rcases hm with hm | hm
    · exact ⟨vs, h1, ih.2.2 vs hm h2⟩
    · simp [AV.flat, AV.flat1] at hm
  · intro v _ _; simp [Rep]
  · intro q w v hm h
    simp only [Rep] at h ⊢
    rcases hm with hm | hm
    · exact ⟨hm.2 q _ h.1, h.2⟩
    · simp [AV.flat, AV.flat1] at hm
  · intro q w i j v hm h
    simp only [Rep] at h ⊢
    obtain ⟨b, n, cap, h1, h2⟩ := h
    rcases hm with hm | hm
    · exact ⟨b, n, cap, hm.2 q _ h1, h2⟩
    · simp [AV.flat, AV.flat1] at hm
  · refine ⟨fun _ _ _ _ => by simp [RepE], fun vs _ h => by simpa [RepL] using h, fun vs _ h => by simpa [RepT] using h⟩
  · intro x l ihx ihl
    refine ⟨?_, ?_, ?_⟩
    · intro w b off h
      simp only [RepE] at h ⊢
      obtain ⟨⟨h1, u, h2, h3, h4⟩, h5⟩ := h
      exact ⟨⟨h1, u, ihx u (.inr h1) h2, h3, fun j hj => S_some hS (geta_isSome (by omega)) (h4 j hj)⟩, ihl.1 w b _ h5⟩
    · intro vs hm h
      simp only [RepL] at h ⊢
      obtain ⟨v, r, h1, h2, h3, h4, h5⟩ := h
      refine ⟨v, r, h1, h2, h3, ihx v ?_ h4, ihl.2.1 r ?_ h5⟩
      · rcases hm with hm | hm
        · exact .inl hm
        · simp only [List.all_cons, Bool.and_eq_true] at hm
          refine .inr ?_
          have := hm.1
          cases x <;> simp_all [AV.flat, AV.flat1]
      · rcases hm with hm | hm
        · exact .inl hm
        · simp only [List.all_cons, Bool.and_eq_true] at hm
          exact .inr hm.2
    · intro vs hm h
      simp only [RepT] at h ⊢
      obtain ⟨v, r, h1, h2, h3⟩ := h
      exact ⟨v, r, h1, ihx v (.inl hm) h2, ihl.2.2 r hm h3⟩
theorem Rep.mono {E F : E3} (h : E.le F) {x : AV} {v : Value} (r : Rep E x v) : Rep F x v := rep_mono_aux E F h.S x v (.inl ⟨h.mu, h.ka⟩) r
theorem Rep.flat_mono {E F : E3} (hS : ∀ b i v, E.S b i = some v → F.S b i = some v) {x : AV} (hx : x.flat = true) {v : Value} (r : Rep E x v) : Rep F x v := rep_mono_aux E F hS x v (.inr hx) r
theorem RepL.mono {E F : E3} (h : E.le F) {l : List AV} {vs : List Value} (r : RepL E l vs) : RepL F l vs := by
  have h1 : Rep E (.agg l) (.agg vs.toArray) := by simp only [Rep]; exact ⟨vs, rfl, r⟩
  have h2 := h1.mono h
  simp only [Rep] at h2
  obtain ⟨vs', e, r'⟩ := h2
  have : vs = vs' := by simpa using e
  exact this ▸ r'
theorem RepL.flat_mono {E F : E3} (hS : ∀ b i v, E.S b i = some v → F.S b i = some v) {l : List AV} (hl : l.all AV.flat1 = true) {vs : List Value} (r : RepL E l vs) : RepL F l vs := by
  have h1 : Rep E (.agg l) (.agg vs.toArray) := by simp only [Rep]; exact ⟨vs, rfl, r⟩
  have h2 := h1.flat_mono hS (by simpa [AV.flat] using hl)
  simp only [Rep] at h2
  obtain ⟨vs', e, r'⟩ := h2
  have : vs = vs' := by simpa using e
  exact this ▸ r'
theorem RepT.mono {E F : E3} (h : E.le F) : ∀ {l : List AV} {vs : List Value}, RepT E l vs → RepT F l vs
  | [], vs, r => by simpa [RepT] using r
  | x :: l, vs, r => by
    simp only [RepT] at r ⊢
    obtain ⟨v, r', h1, h2, h3⟩ := r
    exact ⟨v, r', h1, h2.mono h, RepT.mono h h3⟩
theorem RepL.length {E : E3} : ∀ {l : List AV} {vs : List Value}, RepL E l vs → l.length = vs.length
  | [], vs, r => by simp [RepL] at r; simp [r]
  | x :: l, vs, r => by
    simp only [RepL] at r
    obtain ⟨v, r', rfl, _, _, _, h⟩ := r
    simp [RepL.length h]
theorem RepL.get {E : E3} : ∀ {l : List AV} {vs : List Value}, RepL E l vs → ∀ (i : Nat) (x : AV), l[i]? = some x → ∃ v, vs[i]? = some v ∧ x.one = true ∧ v.oneCell' = true ∧ Rep E x v
  | [], vs, _, i, x, hx => by simp at hx
  | y :: l, vs, r, i, x, hx => by
    simp only [RepL] at r
    obtain ⟨v, r', rfl, h1, h2, h3, h⟩ := r
    cases i with
    | zero => simp at hx; subst hx; exact ⟨v, by simp, h1, h2, h3⟩
    | succ i => simp at hx; simpa using RepL.get h i x hx
theorem RepL.of_get {E : E3} : ∀ {l : List AV} {vs : List Value}, l.length = vs.length → (∀ (i : Nat) (x : AV) (v : Value), l[i]? = some x → vs[i]? = some v → x.one = true ∧ v.oneCell' = true ∧ Rep E x v) → RepL E l vs
  | [], vs, hl, _ => by simp at hl; simp [RepL, List.eq_nil_of_length_eq_zero hl.symm]
  | x :: l, [], hl, _ => by simp at hl
  | x :: l, v :: vs, hl, h => by
    simp only [RepL]
    obtain ⟨h1, h2, h3⟩ := h 0 x v (by simp) (by simp)
    exact ⟨v, vs, rfl, h1, h2, h3, RepL.of_get (by simpa using hl) fun i y u hy hu => h (i + 1) y u (by simpa using hy) (by simpa using hu)⟩
theorem RepL.all_one {E : E3} {l : List AV} {vs : List Value} (r : RepL E l vs) : ∀ u ∈ vs, u.oneCell' = true := by
  intro u hu
  obtain ⟨i, hi⟩ := List.getElem?_of_mem hu
  have hlt : i < l.length := by rw [r.length]; exact (List.getElem?_eq_some_iff.1 hi).1
  obtain ⟨v, hv, _, h2, _⟩ := r.get i l[i] (by simp [hlt])
  rw [hi] at hv
  cases hv
  exact h2
theorem RepE.get {E : E3} {w b : Nat} : ∀ {off : Nat} {l : List AV}, RepE E w b off l → ∀ (i : Nat) (x : AV), l[i]? = some x → x.flat = true ∧ ∃ u, Rep E x u ∧ u.cells.size = w ∧ ∀ j, j < w → E.S b (off + i * w + j) = u.cells[j]?
  | off, [], _, i, x, hx => by simp at hx
  | off, y :: l, r, i, x, hx => by
    simp only [RepE] at r
    obtain ⟨⟨h1, u, h2, h3, h4⟩, h⟩ := r
    cases i with
    | zero => simp at hx; subst hx; exact ⟨h1, u, h2, h3, by simpa using h4⟩
    | succ i =>
      simp at hx
      obtain ⟨g1, u', g2, g3, g4⟩ := RepE.get h i x hx
      refine ⟨g1, u', g2, g3, fun j hj => ?_⟩
      have := g4 j hj
      rw [show off + (i + 1) * w + j = off + w + i * w + j from by rw [Nat.add_mul]; omega]
      exact this
theorem RepE.of_get {E : E3} {w b : Nat} : ∀ {off : Nat} {l : List AV}, (∀ (i : Nat) (x : AV), l[i]? = some x → x.flat = true ∧ ∃ u, Rep E x u ∧ u.cells.size = w ∧ ∀ j, j < w → E.S b (off + i * w + j) = u.cells[j]?) → RepE E w b off l
  | off, [], _ => by simp [RepE]
  | off, y :: l, h => by
    simp only [RepE]
    refine ⟨?_, RepE.of_get fun i x hx => ?_⟩
    · simpa using h 0 y (by simp)
    · obtain ⟨g1, u', g2, g3, g4⟩ := h (i + 1) x (by simpa using hx)
      refine ⟨g1, u', g2, g3, fun j hj => ?_⟩
      have := g4 j hj
      rw [show off + (i + 1) * w + j = off + w + i * w + j from by rw [Nat.add_mul]; omega] at this
      exact this
end Go.Proofs.Ythmocicjocjdoaa.V
