/- The interpreter is the same at two algebras that are alike: values and operations. -/
import Derived.Test.YthmocicjocjdoaaAb
set_option linter.unusedVariables false
set_option linter.unusedSimpArgs false
namespace Go.Proofs.Ythmocicjocjdoaa.V
open Go
/-- Two algebras are alike by a family of relations. -/
structure AlgRel {α β ι : Type} (A : Alg α) (B : Alg β) (R : ι → α → β → Prop) : Prop where
  fail : ∀ i y, R i A.fail y
  chk : ∀ i b x y, R i x y → R i (A.chk b x) (B.chk b y)
  asm : ∀ i p x y, R i x y → R i (A.asm p x) (B.asm p y)
  amb : ∀ i f g, (∀ b, R i (f b) (g b)) → R i (A.amb f) (B.amb g)
  call : ∀ i f as ins k k', (∀ r o, R i (k r o) (k' r o)) → R i (A.call f as ins k) (B.call f as ins k')
  callx : ∀ i f as k k', (∀ r, R i (k r) (k' r)) → R i (A.callx f as k) (B.callx f as k')
  both : ∀ i x y x' y', R i x x' → R i y y' → R i (A.both x y) (B.both x' y')
  join : ∀ i f f' k k', (∀ j kb kb', (∀ b, R j (kb b) (kb' b)) → R j (f kb) (f' kb')) → (∀ b, R i (k b) (k' b)) → R i (A.join f k) (B.join f' k')
  loop : ∀ i id vs os k k', (∀ j vs os, R i (k j vs os) (k' j vs os)) → R i (A.loop id vs os k) (B.loop id vs os k')

section
variable {α β ι : Type} {A : Alg α} {B : Alg β} {R : ι → α → β → Prop} (H : AlgRel A B R) {i : ι}
include H
theorem r_fail {y : β} : R i A.fail y := H.fail i y
theorem r_lit {b : Bool} {x : α} {y : β} (h : R i x y) : R i (lit A b x) (lit B b y) := by cases b; exact H.fail _ _; exact h
theorem r_chk {b : Bool} {x : α} {y : β} (h : R i x y) : R i (A.chk b x) (B.chk b y) := H.chk _ _ _ _ h
theorem r_orFail {γ : Type} {o : Option γ} {k : γ → α} {k' : γ → β} (h : ∀ b, R i (k b) (k' b)) : R i (orFail A o k) (orFail B o k') := by cases o; exact H.fail _ _; exact h _
theorem r_nthE {γ : Type} {l : List γ} {n : Nat} {k : γ → α} {k' : γ → β} (h : ∀ b, R i (k b) (k' b)) : R i (nthE A l n k) (nthE B l n k') := by unfold nthE; cases l[n]?; exact H.fail _ _; exact h _
theorem r_nthI {γ : Type} {l : List γ} {n : Int} {k : γ → α} {k' : γ → β} (h : ∀ b, R i (k b) (k' b)) : R i (nthI A n l k) (nthI B n l k') := r_chk H (r_nthE H h)
theorem r_idxN {n : Int} {m : Nat} {k : Nat → α} {k' : Nat → β} (h : ∀ b, R i (k b) (k' b)) : R i (idxN A n m k) (idxN B n m k') := r_chk H (h _)
theorem r_asI' {ik : IntKind} {v : AV} {k : Int → α} {k' : Int → β} (h : ∀ b, R i (k b) (k' b)) : R i (asI A ik v k) (asI B ik v k') := by
  cases v <;> first | exact H.fail _ _ | exact r_lit H (h _)
theorem r_asB' {v : AV} {k : Bool → α} {k' : Bool → β} (h : ∀ b, R i (k b) (k' b)) : R i (asB A v k) (asB B v k') := by
  cases v <;> first | exact H.fail _ _ | exact h _
theorem r_asS' {v : AV} {k : List UInt8 → α} {k' : List UInt8 → β} (h : ∀ b, R i (k b) (k' b)) : R i (asS A v k) (asS B v k') := by
  cases v <;> first | exact H.fail _ _ | exact h _
theorem r_asL' {w : Nat} {v : AV} {k : List AV → α} {k' : List AV → β} (h : ∀ b, R i (k b) (k' b)) : R i (asL A w v k) (asL B w v k') := by
  cases v
  case lst m w' l => cases m <;> first | exact r_lit H (h _) | exact H.fail _ _
  all_goals exact H.fail _ _
theorem r_asOwn' {w : Nat} {v : AV} {k : Nm → List AV → α} {k' : Nm → List AV → β} (h : ∀ q b, R i (k q b) (k' q b)) : R i (asOwn A w v k) (asOwn B w v k') := by
  cases v
  case lst m w' l => cases m <;> first | exact r_lit H (h _ _) | exact H.fail _ _
  all_goals exact H.fail _ _
theorem r_asUq' {w : Nat} {v : AV} {k : List AV → α} {k' : List AV → β} (h : ∀ b, R i (k b) (k' b)) : R i (asUq A w v k) (asUq B w v k') := by
  cases v
  case lst m w' l => cases m <;> first | exact r_lit H (h _) | exact H.fail _ _
  all_goals exact H.fail _ _
theorem r_asRow' {o : Option Cs} {k : List AV → α} {k' : List AV → β} (h : ∀ b, R i (k b) (k' b)) : R i (asRow A o k) (asRow B o k') := by
  cases o with
  | none => exact H.fail _ _
  | some c => cases c <;> first | exact h _ | exact H.fail _ _
theorem r_asA' {v : AV} {k : List AV → α} {k' : List AV → β} (h : ∀ b, R i (k b) (k' b)) : R i (asA A v k) (asA B v k') := by
  cases v <;> first | exact H.fail _ _ | exact h _
theorem r_asNilp' {v : AV} {k : α} {k' : β} (h : R i k k') : R i (asNilp A v k) (asNilp B v k') := by
  cases v <;> first | exact H.fail _ _ | exact h
theorem r_asC' {γ : Type} {l : List γ} {k : γ → List γ → α} {k' : γ → List γ → β} (h : ∀ x r, R i (k x r) (k' x r)) : R i (asC A l k) (asC B l k') := by
  cases l; exact H.fail _ _; exact h _ _
theorem r_asN' {γ : Type} {l : List γ} {k : α} {k' : β} (h : R i k k') : R i (asN A l k) (asN B l k') := by
  cases l; exact h; exact H.fail _ _
theorem r_shape1 {sh : Sh} {v : AV} {k : AV → α} {k' : AV → β} (h : ∀ b, R i (k b) (k' b)) : R i (shape1 A sh v k) (shape1 B sh v k') := by
  cases sh <;> simp only [shape1] <;> first
    | exact r_asI' H fun _ => h _ | exact r_asB' H fun _ => h _ | exact r_asS' H fun _ => h _ | exact r_asL' H fun _ => h _ | exact r_asOwn' H fun _ _ => h _ | exact r_asNilp' H (h _) | exact r_asUq' H fun _ => h _ | exact h _
theorem r_shapes : ∀ {shs : List Sh} {l : List AV} {k : List AV → α} {k' : List AV → β}, (∀ b, R i (k b) (k' b)) → R i (shapes A shs l k) (shapes B shs l k')
  | [], l, k, k', h => by simp only [shapes]; exact r_asN' H (h _)
  | [sh], l, k, k', h => by
    cases sh <;> simp only [shapes] <;> first
      | exact h _
      | exact r_asC' H fun v r => r_shape1 H fun v' => r_asN' H (h _)
  | sh :: sh2 :: shs, l, k, k', h => by
    have ih := fun r v' => r_shapes (shs := sh2 :: shs) (l := r) (k := fun r' => k (v' :: r')) (k' := fun r' => k' (v' :: r')) fun r' => h _
    cases sh <;> simp only [shapes] <;> exact r_asC' H fun v r => r_shape1 H fun v' => ih r v'
theorem r_shape {sh : Sh} {v : AV} {k : AV → α} {k' : AV → β} (h : ∀ b, R i (k b) (k' b)) : R i (shape A sh v k) (shape B sh v k') := by
  cases sh <;> simp only [shape] <;> first
    | exact r_shape1 H h
    | exact r_asA' H fun l => r_shapes H fun _ => h _
theorem r_part {td : TD} {l : List AV} {n : Nat} {k : AV → α} {k' : AV → β} (h : ∀ b, R i (k b) (k' b)) : R i (part A td l n k) (part B td l n k') := by
  unfold part; refine r_lit H ?_; cases td.isAgg; exact r_nthE H h; exact r_chk H (h _)
theorem r_padd {x : AV} {n : Nat} {k : AV → α} {k' : AV → β} (h : ∀ b, R i (k b) (k' b)) : R i (padd A x n k) (padd B x n k') := by
  cases x <;> first | exact H.fail _ _ | exact h _
theorem r_nilEq {m : Md} {l : List AV} {k : Bool → α} {k' : Bool → β} (h : ∀ b, R i (k b) (k' b)) : R i (nilEq A m l k) (nilEq B m l k') := by
  cases m <;> cases l <;> first | exact h _ | exact H.amb _ _ _ h
theorem r_binI {op : BinOp} {ik : IntKind} {a b : Int} {k : AV → α} {k' : AV → β} (h : ∀ b, R i (k b) (k' b)) : R i (binI A op ik a b k) (binI B op ik a b k') := by
  cases op <;> first | exact h _ | exact H.fail _ _ | exact r_chk H (h _)
theorem r_eqB {op : BinOp} {b : Bool} {k : AV → α} {k' : AV → β} (h : ∀ b, R i (k b) (k' b)) : R i (eqB A op b k) (eqB B op b k') := by
  cases op <;> first | exact h _ | exact H.fail _ _
theorem r_bin {td : TD} {op : BinOp} {x y : AV} {k : AV → α} {k' : AV → β} (h : ∀ b, R i (k b) (k' b)) : R i (bin A td op x y k) (bin B td op x y k') := by
  unfold bin
  split
  · cases op <;> first | exact r_chk H (h _) | exact r_lit H (r_binI H h)
  · exact r_lit H (r_eqB H h)
  · cases op <;> first | exact r_chk H (h _) | exact h _ | exact H.fail _ _
  · exact r_lit H (r_eqB H h)
  · exact r_lit H (r_eqB H h)
  · exact r_lit H (r_eqB H h)
  · exact r_lit H (r_nilEq H fun b => r_eqB H h)
  · exact r_lit H (r_eqB H h)
  · exact r_lit H (r_orFail H fun b => r_eqB H h)
  · exact H.fail _ _
theorem r_un {op : UnOp} {x : AV} {k : AV → α} {k' : AV → β} (h : ∀ b, R i (k b) (k' b)) : R i (un A op x k) (un B op x k') := by
  cases op <;> cases x <;> first | exact h _ | exact H.fail _ _
theorem r_conv {T : Tab} {s d : Nat} {x : AV} {k : AV → α} {k' : AV → β} (h : ∀ b, R i (k b) (k' b)) : R i (conv A T s d x k) (conv B T s d x k') := by
  unfold conv
  generalize (T.ty d).k = t
  cases t <;> first | exact H.fail _ _ | (cases x <;> first | exact r_lit H (h _) | exact H.fail _ _ | exact r_lit H (r_orFail H fun _ => h _))
theorem r_cut {γ : Type} {l : List γ} {lo hi mx : Int} {k : List γ → α} {k' : List γ → β} (h : ∀ b, R i (k b) (k' b)) : R i (cut A l lo hi mx k) (cut B l lo hi mx k') := r_chk H (h _)
theorem r_bnds {lo hi mx : Option Operand} {dlo dhi : Int} {vs : List AV} {k : Int → Int → Int → α} {k' : Int → Int → Int → β} (h : ∀ a b c, R i (k a b c) (k' a b c)) : R i (bnds A lo hi mx dlo dhi vs k) (bnds B lo hi mx dlo dhi vs k') := by
  unfold bnds; split <;> first | exact h _ _ _ | exact H.fail _ _
theorem r_sliceV {T : Tab} {t : Nat} {x : AV} {lo hi mx : Option Operand} {vs : List AV} {k : AV → α} {k' : AV → β} (h : ∀ b, R i (k b) (k' b)) : R i (sliceV A T t x lo hi mx vs k) (sliceV B T t x lo hi mx vs k') := by
  unfold sliceV
  generalize (T.ty t).k = tk
  cases tk <;> first | exact H.fail _ _ | skip
  · cases x <;> first | exact H.fail _ _ | skip
    cases mx <;> first | exact H.fail _ _ | exact r_bnds H fun _ _ _ => r_cut H fun _ => h _
  · cases x <;> first | exact H.fail _ _ | skip
    rename_i m _ _
    cases m <;> exact r_lit H (r_bnds H fun _ _ _ => r_chk H (h _))
theorem r_cellsAs {td : TD} {x : AV} {k : List AV → α} {k' : List AV → β} (h : ∀ b, R i (k b) (k' b)) : R i (cellsAs A td x k) (cellsAs B td x k') := by
  unfold cellsAs; refine r_lit H ?_; cases td.isAgg; exact r_lit H (h _); exact r_asA' H fun _ => r_chk H (h _)
theorem r_fillV {place : Nat → Option (Nat × TD)} : ∀ {ps : List (Nat × Operand)} {z vs : List AV} {k : List AV → α} {k' : List AV → β}, (∀ b, R i (k b) (k' b)) → R i (fillV A place z ps vs k) (fillV B place z ps vs k')
  | [], z, vs, k, k', h => by cases vs; exact h _; exact H.fail _ _
  | (j, o) :: ps, z, vs, k, k', h => by
    cases vs
    · exact H.fail _ _
    · unfold fillV
      cases place j with
      | none => exact H.fail _ _
      | some p => exact r_cellsAs H fun _ => r_chk H (r_fillV h)
theorem r_lenOf {sl : Bool} {x : AV} {k : Nat → α} {k' : Nat → β} (h : ∀ b, R i (k b) (k' b)) : R i (lenOf A sl x k) (lenOf B sl x k') := by
  cases sl <;> cases x <;> first | exact h _ | exact H.fail _ _
theorem r_mm {b : Bool} : ∀ {l : List AV} {x : AV} {k : AV → α} {k' : AV → β}, (∀ b, R i (k b) (k' b)) → R i (mm A b x l k) (mm B b x l k')
  | [], x, k, k', h => by unfold mm; exact h _
  | y :: l, x, k, k', h => by
    cases x <;> cases y <;> first | exact H.fail _ _ | exact r_lit H (r_mm h)
theorem r_pureV {T : Tab} {op : Op} {vs : List AV} {objs : Os} {k : AV → α} {k' : AV → β} (h : ∀ b, R i (k b) (k' b)) : R i (pureV A T op vs objs k) (pureV B T op vs objs k') := by
  unfold pureV
  split
  · exact h _
  · exact h _
  · exact r_asB' H fun b => by cases b <;> exact h _
  · exact r_bin H h
  · exact r_un H h
  · split <;> first | exact h _ | exact H.fail _ _
  · split <;> first | exact H.fail _ _ | exact r_lit H (r_padd H h)
  · refine r_asA' H fun l => ?_
    split <;> first | exact H.fail _ _ | exact r_part H h
  · split <;> first
      | exact r_part H h
      | (split <;> first | exact r_part H h | exact H.fail _ _)
      | exact H.fail _ _
  · split <;> first
      | exact r_lit H (r_nthI H fun _ => r_shape H fun _ => h _)
      | exact r_lit H (r_idxN H fun _ => h _)
      | exact H.fail _ _
  · split <;> first
      | exact r_nthI H fun _ => h _
      | exact r_lit H (r_idxN H fun _ => r_part H h)
      | exact H.fail _ _
  · exact r_sliceV H h
  · split <;> first | exact r_nthE H h | exact H.fail _ _
  · exact r_lit H (r_fillV H fun _ => h _)
  · split <;> first
      | (split <;> first | exact h _ | exact r_lenOf H fun _ => H.asm _ _ _ _ (h _) | exact H.fail _ _)
      | exact r_mm H h
      | exact H.fail _ _
  · exact H.fail _ _
theorem r_freshN {f : Cl} {n : Nm} {x : α} {y : β} (h : R i x y) : R i (freshN A f n x) (freshN B f n y) := by unfold freshN; cases f n; exact h; exact H.fail _ _
theorem r_fresh {γ : Type} {f : Nat → Option γ} {n : Nat} {x : α} {y : β} (h : R i x y) : R i (fresh A f n x) (fresh B f n y) := by unfold fresh; cases f n; exact h; exact H.fail _ _
theorem r_exp0 {sh : Sh} {nm : Nm} {c : AV} {cl : Cl} {k : AV → Cl → α} {k' : AV → Cl → β} (h : ∀ a b, R i (k a b) (k' a b)) : R i (exp0 A sh nm c cl k) (exp0 B sh nm c cl k') := by
  unfold exp0
  split <;> first
    | exact H.fail _ _
    | exact r_lit H (h _ _)
    | exact h _ _
    | exact r_lit H (r_asRow' H fun _ => r_lit H (h _ _))
theorem r_expA {nm : Nat → Nm} : ∀ {shs : List Sh} {n : Nat} {cs : List AV} {cl : Cl} {k : List AV → Cl → α} {k' : List AV → Cl → β}, (∀ a b, R i (k a b) (k' a b)) → R i (expA A nm shs n cs cl k) (expA B nm shs n cs cl k')
  | [], n, cs, cl, k, k', h => by simp only [expA]; exact r_asN' H (h _ _)
  | sh :: shs, n, cs, cl, k, k', h => by
    simp only [expA]
    exact r_asC' H fun v r => r_lit H (r_exp0 H fun _ _ => r_expA fun _ _ => h _ _)
theorem r_exp1 {sh : Sh} {nm : Nm} {c : AV} {cl : Cl} {k : AV → Cl → α} {k' : AV → Cl → β} (h : ∀ a b, R i (k a b) (k' a b)) : R i (exp1 A sh nm c cl k) (exp1 B sh nm c cl k') := by
  unfold exp1
  cases isUqs sh
  · exact r_exp0 H h
  · exact r_asA' H fun _ => r_expA H fun _ _ => h _ _
theorem r_expC {nm : Nat → Nm} : ∀ {shs : List Sh} {n : Nat} {cs : List AV} {cl : Cl} {k : List AV → Cl → α} {k' : List AV → Cl → β}, (∀ a b, R i (k a b) (k' a b)) → R i (expC A nm shs n cs cl k) (expC B nm shs n cs cl k')
  | [], n, cs, cl, k, k', h => by simp only [expC]; exact r_asN' H (h _ _)
  | [sh], n, cs, cl, k, k', h => by
    cases sh <;> simp only [expC] <;> first
      | exact r_chk H (h _ _)
      | exact r_asC' H fun v r => r_lit H (r_exp0 H fun _ _ => r_asN' H (h _ _))
  | sh :: sh2 :: shs, n, cs, cl, k, k', h => by
    have ih := fun r cl v' => r_expC (nm := nm) (shs := sh2 :: shs) (n := n + 1) (cs := r) (cl := cl) (k := fun r' => k (v' :: r')) (k' := fun r' => k' (v' :: r')) fun r' _ => h _ _
    cases sh <;> simp only [expC] <;> exact r_asC' H fun v r => r_lit H (r_exp0 H fun v' cl => ih r cl v')
theorem r_imp0 {nm : Nm} {c : AV} {cl : Cl} {k : AV → Cl → α} {k' : AV → Cl → β} (h : ∀ a b, R i (k a b) (k' a b)) : R i (imp0 A nm c cl k) (imp0 B nm c cl k') := by
  unfold imp0
  split <;> first | exact r_freshN H (h _ _) | exact r_lit H (h _ _)
theorem r_impC {nm : Nat → Nm} : ∀ {cs : List AV} {n : Nat} {cl : Cl} {k : List AV → Cl → α} {k' : List AV → Cl → β}, (∀ a b, R i (k a b) (k' a b)) → R i (impC A nm n cs cl k) (impC B nm n cs cl k')
  | [], n, cl, k, k', h => h _ _
  | c :: cs, n, cl, k, k', h => r_imp0 H fun _ _ => r_impC fun _ _ => h _ _
theorem r_imp1 {u : Bool} {nm : Nm} {c : AV} {cl : Cl} {k : AV → Cl → α} {k' : AV → Cl → β} (h : ∀ a b, R i (k a b) (k' a b)) : R i (imp1 A u nm c cl k) (imp1 B u nm c cl k') := by
  unfold imp1
  cases u
  · exact r_imp0 H h
  · exact r_asA' H fun _ => r_impC H fun _ _ => h _ _
theorem r_impO {shs : List Sh} {nm : Nat → Nm} {cs : List AV} {cl : Cl} {k : List AV → Cl → α} {k' : List AV → Cl → β} (h : ∀ a b, R i (k a b) (k' a b)) : R i (impO A shs nm cs cl k) (impO B shs nm cs cl k') := by
  unfold impO
  split
  · exact r_chk H (h _ _)
  · exact r_shapes H fun _ => r_impC H h
end
end Go.Proofs.Ythmocicjocjdoaa.V
