/- Data of known types, taken apart. -/
import Derived.Test.YthmocicjocjdoaaBg
set_option linter.unusedVariables false
set_option linter.unusedSimpArgs false
namespace Go.Proofs.Ythmocicjocjdoaa.V
open Go
variable {H : Type} {T : Tab} {n t : Nat} {d : DataW H} {xs : List AV}
theorem fit_int {k : IntKind} (h : (T.ty t).k = .int k) (hf : Fit T (n + 1) t d xs) : ∃ z, (k.min ≤ z ∧ z ≤ k.max) ∧ d = .lit (.int k z) ∧ xs = [.int k z] := by
  unfold Fit at hf
  rw [h] at hf
  obtain ⟨z, hw, h1, h2⟩ := hf
  exact ⟨z, by simpa [Lit.wf] using hw, h1, h2⟩
theorem fit_i64 (h : (T.ty t).k = .int .i64) (hf : Fit T (n + 1) t d xs) : ∃ z : Int, (-9223372036854775808 ≤ z ∧ z ≤ 9223372036854775807) ∧ d = .lit (.int .i64 z) ∧ xs = [.int .i64 z] := by
  obtain ⟨z, hz, h1, h2⟩ := fit_int h hf
  exact ⟨z, by simpa [IntKind.min, IntKind.max, IntKind.signed, IntKind.bits] using hz, h1, h2⟩
theorem fit_u8 (h : (T.ty t).k = .int .u8) (hf : Fit T (n + 1) t d xs) : ∃ c : UInt8, d = .lit (.int .u8 (c.toNat : Int)) ∧ xs = [.int .u8 (c.toNat : Int)] := by
  obtain ⟨z, hz, h1, h2⟩ := fit_int h hf
  have hz : 0 ≤ z ∧ z ≤ 255 := by simpa [IntKind.min, IntKind.max, IntKind.signed, IntKind.bits] using hz
  refine ⟨byt z.toNat, ?_, ?_⟩
  · rw [byt_toNat (by omega), Int.toNat_of_nonneg hz.1]; exact h1
  · rw [byt_toNat (by omega), Int.toNat_of_nonneg hz.1]; exact h2
theorem fit_bool (h : (T.ty t).k = .bool) (hf : Fit T (n + 1) t d xs) : ∃ b, d = .lit (.bool b) ∧ xs = [.bool b] := by
  unfold Fit at hf
  rw [h] at hf
  exact hf
theorem fit_str (h : (T.ty t).k = .str) (hf : Fit T (n + 1) t d xs) : ∃ s : List UInt8, d = .lit (.string s) ∧ xs = [.str s] := by
  unfold Fit at hf
  rw [h] at hf
  exact hf
theorem fit_slice {e : Nat} (h : (T.ty t).k = .slice e) (hf : Fit T (n + 1) t d xs) : ∃ (ds sp : List (DataW H)) (l : List AV), (d = .slice ds sp ∨ (d = .nil ∧ ds = [])) ∧ xs = [.lst .ro (T.ty e).size l] ∧ Each (fun d x => ∃ ys, Fit T n e d ys ∧ ElemOf (T.ty e) x ys) ds l := by
  unfold Fit at hf
  rw [h] at hf
  exact hf
theorem fit_struct {fs : List (Nat × Nat)} (h : (T.ty t).k = .struct fs) (hf : Fit T (n + 1) t d xs) : ∃ (ds : List (DataW H)) (yss : List (List AV)), d = .agg ds ∧ xs = yss.flatten ∧ Each3 (fun f d ys => Fit T n f.2 d ys) fs ds yss := by
  unfold Fit at hf
  rw [h] at hf
  exact hf
theorem each3_nil {α β γ : Type} {R : α → β → γ → Prop} {l : List β} {r : List γ} (h : Each3 R [] l r) : l = [] ∧ r = [] := by
  cases l <;> cases r <;> first | exact ⟨rfl, rfl⟩ | exact h.elim
theorem each3_cons {α β γ : Type} {R : α → β → γ → Prop} {a : α} {as : List α} {l : List β} {r : List γ} (h : Each3 R (a :: as) l r) : ∃ b bs c cs, l = b :: bs ∧ r = c :: cs ∧ R a b c ∧ Each3 R as bs cs := by
  cases l <;> cases r <;> first | exact h.elim | exact ⟨_, _, _, _, rfl, rfl, h.1, h.2⟩
/-- A slice's elements are all of one form. -/
theorem each_map {α β γ : Type} {R : α → β → Prop} {f : γ → β} {Q : α → γ → Prop} (hR : ∀ a b, R a b → ∃ c, b = f c ∧ Q a c) : ∀ {l : List α} {r : List β}, Each R l r → ∃ cs : List γ, r = cs.map f ∧ Each Q l cs
  | [], [], _ => ⟨[], rfl, trivial⟩
  | a :: l, b :: r, h => by
    obtain ⟨c, e, q⟩ := hR a b h.1
    obtain ⟨cs, e2, q2⟩ := each_map hR h.2
    exact ⟨c :: cs, by rw [e, e2]; rfl, q, q2⟩
  | [], _ :: _, h => h.elim
  | _ :: _, [], h => h.elim
theorem elem_agg {td : TD} (h : td.isAgg = true) {x : AV} {ys : List AV} (he : ElemOf td x ys) : x = .agg ys := by
  unfold ElemOf at he; rw [h] at he; simpa using he
theorem elem_one {td : TD} (h : td.isAgg = false) {x : AV} {ys : List AV} (he : ElemOf td x ys) : ys = [x] := by
  unfold ElemOf at he; rw [h] at he; simpa using he
theorem trodAll_length {enc : TypeId × Value → H} {P : Program} {w : World} {base : Nat} {spare : Nat → Bool} {held : Bool} : ∀ {ts : List TypeId} {vs : List Value} {ds : List (DataW H)} {ps : List MemPlace}, DataW.TrodAll enc P w base spare held ts vs ds ps → ds.length = ts.length
  | [], [], [], _, _ => rfl
  | _ :: _, _ :: _, _ :: _, _, ⟨_, _, _, h, _⟩ => by simp [trodAll_length h]
  | [], [], _ :: _, _, h => h.elim
  | [], _ :: _, _, _, h => by cases ‹List (DataW H)› <;> exact h.elim
  | _ :: _, [], _, _, h => by cases ‹List (DataW H)› <;> exact h.elim
  | _ :: _, _ :: _, [], _, h => h.elim
end Go.Proofs.Ythmocicjocjdoaa.V
