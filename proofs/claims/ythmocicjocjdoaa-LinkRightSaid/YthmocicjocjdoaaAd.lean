/- What the interpreter's tables must say of a program; the algebra of propositions; pure operations are sound. -/
import Derived.Test.YthmocicjocjdoaaAc
import Derived.WalkKit
import Derived.Laws.StructEq
import Derived.Laws.BytesArg
set_option linter.unusedVariables false
set_option linter.unusedSimpArgs false
namespace Go.Proofs.Ythmocicjocjdoaa.V
open Go

structure TyOK (P : Program) (T : Tab) (t : Nat) : Prop where
  desc : match (T.ty t).k with
    | .int k => P.underlying t = some (.int k)
    | .bool => P.underlying t = some .bool
    | .str => P.underlying t = some .string
    | .ptr e => P.underlying t = some (.pointer e)
    | .slice e => P.underlying t = some (.slice e)
    | .struct fs => ∃ fields : Array Field, P.underlying t = some (.struct fields) ∧ fields.toList.map (fun f => (f.offset, f.type)) = fs
    | .array n e => P.underlying t = some (.array n e)
    | .fn => ∃ ps rs v, P.underlying t = some (.func ps rs v)
    | .other => True
  info : (T.ty t).known = true → ∃ i, P.info? t = some i ∧ i.size = (T.ty t).size ∧ i.bytes = (T.ty t).bytes ∧
    ((T.ty t).zero.isEmpty = false → ∃ z, i.zero = some z ∧ z.cells.size = (T.ty t).size ∧ ((T.ty t).isAgg = true → ∃ cs, z = .agg cs) ∧ ((T.ty t).isAgg = false → (T.ty t).size = 1 ∧ z.oneCell' = true) ∧ ∀ E, RepL E (T.ty t).zero z.cells.toList)
  eq : ∀ (E : E3) (l r : List AV) (xs ys : List Value) (b : Bool) (w : World), (T.ty t).eqs l r = true → RepL E l xs → RepL E r ys → eqL l r = some b →
    P.eqGuardType P.depth t = false ∧ (Op.equalIn 10000 t (.agg xs.toArray) (.agg ys.toArray)).run P w = .ok b w
def TabOK (P : Program) (T : Tab) : Prop := ∀ t, TyOK P T t

section
variable {P : Program} {T : Tab}
theorem TabOK.int (h : TabOK P T) {t : Nat} {k : IntKind} (e : (T.ty t).k = .int k) : P.underlying t = some (.int k) := by have := (h t).desc; rw [e] at this; exact this
theorem TabOK.bool (h : TabOK P T) {t : Nat} (e : (T.ty t).k = .bool) : P.underlying t = some .bool := by have := (h t).desc; rw [e] at this; exact this
theorem TabOK.str (h : TabOK P T) {t : Nat} (e : (T.ty t).k = .str) : P.underlying t = some .string := by have := (h t).desc; rw [e] at this; exact this
theorem TabOK.ptr (h : TabOK P T) {t e : Nat} (he : (T.ty t).k = .ptr e) : P.underlying t = some (.pointer e) := by have := (h t).desc; rw [he] at this; exact this
theorem TabOK.slice (h : TabOK P T) {t e : Nat} (he : (T.ty t).k = .slice e) : P.underlying t = some (.slice e) := by have := (h t).desc; rw [he] at this; exact this
theorem TabOK.array (h : TabOK P T) {t n e : Nat} (he : (T.ty t).k = .array n e) : P.underlying t = some (.array n e) := by have := (h t).desc; rw [he] at this; exact this
theorem TabOK.struct (h : TabOK P T) {t : Nat} {fs : List (Nat × Nat)} (he : (T.ty t).k = .struct fs) :
    ∃ fields : Array Field, P.underlying t = some (.struct fields) ∧ fields.toList.map (fun f => (f.offset, f.type)) = fs := by have := (h t).desc; rw [he] at this; exact this
theorem TabOK.sizeAt (h : TabOK P T) {t : Nat} (hk : (T.ty t).known = true) (w : World) : (sizeOf t).run P w = .ok (T.ty t).size w := by
  obtain ⟨i, h1, h2, _⟩ := (h t).info hk
  simp [sizeOf, typeInfo, h1, h2]
theorem TabOK.aggOf (h : TabOK P T) {t : Nat} (hk : (T.ty t).known = true) (w : World) : (Go.isAgg t).run P w = .ok (T.ty t).isAgg w := by
  have hd := (h t).desc
  unfold TD.isAgg TD.known at *
  cases hh : (T.ty t).k <;> rw [hh] at hd hk <;> dsimp only at hd hk ⊢
  all_goals first
    | (cases hk; done)
    | (obtain ⟨a, b, c, hd⟩ := hd; simp [Go.isAgg, run_underlying hd]; done)
    | (obtain ⟨a, hd, _⟩ := hd; simp [Go.isAgg, run_underlying hd]; done)
    | (simp [Go.isAgg, run_underlying hd]; done)
end

/-- Yields a value and changes nothing. -/
def Gives (P : Program) (E : E3) (W : World → Prop) (s : Sem Value) (k : AV → Prop) : Prop := ∃ x v, k x ∧ Rep E x v ∧ ∀ w, W w → s.run P w = .ok v w
theorem gives {P : Program} {E : E3} {W : World → Prop} {s : Sem Value} {k : AV → Prop} (x : AV) (v : Value) (h : k x) (hr : Rep E x v) (hs : ∀ w, W w → s.run P w = .ok v w) : Gives P E W s k := ⟨x, v, h, hr, hs⟩

/-- What a proposition makes of it. 'calls' is the meaning of a call. -/
abbrev LoopM := Nat → List AV → List (List AV) → (Nat → List AV → List (List AV) → Prop) → Prop
structure Meaning where
  call : Nat → List AV → List (Nat × List AV) → (List AV → List (Nat × List AV) → Prop) → Prop
  loop : LoopM
def PA (M : Meaning) : Alg Prop where
  fail := False
  chk b x := b = true ∧ x
  asm p x := p → x
  amb f := f true ∧ f false
  call := M.call
  callx f as k := ∃ res, M.call f as [] (fun r o => r = res ∧ o = []) ∧ k res
  both x y := x ∧ y
  join r k := ∃ b, r (fun b' => b' = b) ∧ k b
  loop := M.loop

section
variable {M : Meaning}
@[simp] theorem PA_fail : (PA M).fail = False := rfl
@[simp] theorem PA_chk (b : Bool) (x : Prop) : (PA M).chk b x = (b = true ∧ x) := rfl
@[simp] theorem PA_asm (p x : Prop) : (PA M).asm p x = (p → x) := rfl
@[simp] theorem PA_amb (f : Bool → Prop) : (PA M).amb f = (f true ∧ f false) := rfl
@[simp] theorem PA_both (x y : Prop) : (PA M).both x y = (x ∧ y) := rfl
@[simp] theorem PA_lit (b : Bool) (x : Prop) : lit (PA M) b x = (b = true ∧ x) := by cases b <;> simp [lit]
@[simp] theorem PA_orFail {β : Type} (o : Option β) (k : β → Prop) : orFail (PA M) o k = ∃ b, o = some b ∧ k b := by cases o <;> simp [orFail]
@[simp] theorem PA_nthE {β : Type} (l : List β) (i : Nat) (k : β → Prop) : nthE (PA M) l i k = ∃ e, l[i]? = some e ∧ k e := by unfold nthE; cases l[i]? <;> simp
@[simp] theorem PA_nthI {β : Type} (n : Int) (l : List β) (k : β → Prop) : nthI (PA M) n l k = (0 ≤ n ∧ ∃ e, l[n.toNat]? = some e ∧ k e) := by simp [nthI]
@[simp] theorem PA_idxN (n : Int) (len : Nat) (k : Nat → Prop) : idxN (PA M) n len k = ((0 ≤ n ∧ n < (len : Int)) ∧ k n.toNat) := by simp [idxN]
@[simp] theorem PA_asB (v : AV) (k : Bool → Prop) : asB (PA M) v k = ∃ b, v = .bool b ∧ k b := by cases v <;> simp [asB]
@[simp] theorem PA_asI (ik : IntKind) (v : AV) (k : Int → Prop) : asI (PA M) ik v k = ∃ n, v = .int ik n ∧ k n := by
  cases v <;> simp [asI]
  rename_i j n
  constructor
  · rintro ⟨rfl, h⟩; exact ⟨n, ⟨rfl, rfl⟩, h⟩
  · rintro ⟨m, ⟨rfl, rfl⟩, h⟩; exact ⟨rfl, h⟩
@[simp] theorem PA_asS (v : AV) (k : List UInt8 → Prop) : asS (PA M) v k = ∃ b, v = .str b ∧ k b := by cases v <;> simp [asS]
@[simp] theorem PA_asA (v : AV) (k : List AV → Prop) : asA (PA M) v k = ∃ b, v = .agg b ∧ k b := by cases v <;> simp [asA]
@[simp] theorem PA_asC {β : Type} (l : List β) (k : β → List β → Prop) : asC (PA M) l k = ∃ x r, l = x :: r ∧ k x r := by
  cases l <;> simp [asC]
  exact ⟨fun h => ⟨_, _, ⟨rfl, rfl⟩, h⟩, fun ⟨_, _, ⟨h1, h2⟩, h⟩ => by subst h1; subst h2; exact h⟩
@[simp] theorem PA_asN {β : Type} (l : List β) (k : Prop) : asN (PA M) l k = (l = [] ∧ k) := by cases l <;> simp [asN]
@[simp] theorem PA_asL (w : Nat) (v : AV) (k : List AV → Prop) : asL (PA M) w v k = ∃ l, v = .lst .ro w l ∧ k l := by
  cases v <;> simp [asL]
  rename_i m w' l
  cases m <;> simp
  constructor
  · rintro ⟨rfl, h⟩; exact ⟨l, ⟨rfl, rfl⟩, h⟩
  · rintro ⟨m, ⟨rfl, rfl⟩, h⟩; exact ⟨rfl, h⟩
@[simp] theorem PA_asOwn (w : Nat) (v : AV) (k : Nm → List AV → Prop) : asOwn (PA M) w v k = ∃ q l, v = .lst (.own q) w l ∧ k q l := by
  cases v <;> simp [asOwn]
  rename_i m w' l
  cases m <;> simp
  rename_i q
  constructor
  · rintro ⟨rfl, h⟩; exact ⟨q, l, ⟨rfl, rfl, rfl⟩, h⟩
  · rintro ⟨q, m, ⟨rfl, rfl, rfl⟩, h⟩; exact ⟨rfl, h⟩
@[simp] theorem PA_asUq (w : Nat) (v : AV) (k : List AV → Prop) : asUq (PA M) w v k = ∃ l, v = .lst .uq w l ∧ k l := by
  cases v <;> simp [asUq]
  rename_i m w' l
  cases m <;> simp
  constructor
  · rintro ⟨rfl, h⟩; exact ⟨l, ⟨rfl, rfl⟩, h⟩
  · rintro ⟨m, ⟨rfl, rfl⟩, h⟩; exact ⟨rfl, h⟩
@[simp] theorem PA_asRow (o : Option Cs) (k : List AV → Prop) : asRow (PA M) o k = ∃ l, o = some (.row l) ∧ k l := by
  cases o with
  | none => simp [asRow]
  | some c => cases c <;> simp [asRow]
/-- Taking apart by a shape puts the same together again. -/
theorem shape1_same {sh : Sh} {v : AV} {k : AV → Prop} (h : shape1 (PA M) sh v k) : k v := by
  cases sh <;> simp only [shape1, PA_asI, PA_asB, PA_asS, PA_asL, PA_asOwn, PA_asUq] at h
  all_goals first
    | (unfold asNilp at h; split at h <;> first | exact h | exact h.elim)
    | exact h
    | (obtain ⟨n, rfl, h⟩ := h; exact h)
    | (obtain ⟨q, n, rfl, h⟩ := h; exact h)
theorem shapes_same : ∀ {shs : List Sh} {l : List AV} {k : List AV → Prop}, shapes (PA M) shs l k → k l
  | [], l, k, h => by simp only [shapes, PA_asN] at h; obtain ⟨rfl, h⟩ := h; exact h
  | sh :: shs, l, k, h => by
    have key : asC (PA M) l (fun v r => shape1 (PA M) sh v fun v' => shapes (PA M) shs r fun r' => k (v' :: r')) → k l := by
      intro g
      simp only [PA_asC] at g
      obtain ⟨x, r, e, g⟩ := g
      rw [e]
      exact shapes_same (k := fun r' => k (x :: r')) (shape1_same (k := fun v' => shapes (PA M) shs r fun r' => k (v' :: r')) g)
    cases sh <;> cases shs <;> first | exact key h | exact h
theorem shape_same {sh : Sh} {v : AV} {k : AV → Prop} (h : shape (PA M) sh v k) : k v := by
  cases sh <;> simp only [shape, PA_asA] at h <;> first
    | exact shape1_same h
    | (obtain ⟨l, rfl, h⟩ := h; exact shapes_same h)
end
end Go.Proofs.Ythmocicjocjdoaa.V
