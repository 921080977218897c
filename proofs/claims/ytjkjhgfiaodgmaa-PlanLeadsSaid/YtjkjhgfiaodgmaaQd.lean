/- Part 4 of the proof that: What is answered makes of the first schema the forms of the other one, and no way of fewer links is there. -/
import Derived.Test.YtjkjhgfiaodgmaaQc
set_option linter.unusedVariables false
set_option linter.unusedSimpArgs false
namespace Go.Proofs.Ytjkjhgfiaodgmaa.V
open Go
theorem zvl {E : Env} {f : Nat} {fn : Func} {body : Code} {args : List AV} {ins : List (Nat × List AV)} {r : CR} (hf : E.P.funcs[f]? = some fn) (hb : fn.body = some body) (hc : (codeOK fn.ntmps body && ckOK (E.an f (E.key f args)) body && Nat.ble args.length fn.ntmps) = true)
    (hX : E.X f args ins = none)
    (h : runF (OA (tbl E) (ltbl E f (E.key f args))) E.T (E.an f (E.key f args)) fn body (E.T.res f) (oshOf E.T 0 args fn.params.toList) args ins (fun r o => some (r, o)) = some r) : tbl E f args ins = some r := by
  refine zhg ?_; unfold stepC; rw [hX]; unfold stepC0 withB
  rw [hf]; dsimp only; rw [hb]; dsimp only; rw [hc]; exact h
theorem zth {E : Env} {f key id : Nat} {fn : Func} {body : Code} {vs : List AV} {os : List (List AV)} {r : LR} (hf : E.P.funcs[f]? = some fn) (hb : fn.body = some body) (hc : (codeOK fn.ntmps (loopB (E.an f key) body id) && ckOK (E.an f key) body) = true)
    (h : roundV (OA (tbl E) (ltbl E f key)) id ((E.an f key).loop id) ((E.an f key).out id) (fun env objs cl k => run (OA (tbl E) (ltbl E f key)) E.T (E.an f key) (loopB (E.an f key) body id) env objs cl k) vs os (fun vs os => ltbl E f key id vs os) (fun j vs os => some (j, vs, os)) = some r) : ltbl E f key id vs os = some r := by
  refine zo2 ?_; unfold stepL withB
  rw [hf]; dsimp only; rw [hb]; dsimp only; rw [hc]; exact h
def asRef0 {α : Type} (A : Alg α) (v : AV) (k : Nat → α) : α := match v with | .ref o 0 => k o | _ => A.fail
section
variable {R : Type} [Tok R] {c : CT} {l : LT}
@[simp] theorem zxy : (OA (R := R) c l).fail = none := Eq.trans rfl rfl
@[simp] theorem z9 (b : Bool) (x : Option R) : (OA c l).chk b x = bif b then x else none := Eq.trans rfl rfl
@[simp] theorem ze (p : Prop) (x : Option R) : (OA c l).asm p x = x := Eq.trans rfl rfl
@[simp] theorem zh (f : Nat) (as1 : List AV) (ins : List (Nat × List AV)) (k : List AV → List (Nat × List AV) → Option R) : (OA c l).call f as1 ins k = (c f as1 ins).bind fun ro => k ro.1 ro.2 := Eq.trans rfl rfl
@[simp] theorem za (f : Nat) (as1 : List AV) (k : List AV → Option R) : (OA c l).callx f as1 k = (c f as1 []).bind fun ro => match ro.2 with | [] => k ro.1 | _ => none := Eq.trans rfl rfl
@[simp] theorem zm (id : Nat) (vs : List AV) (os : List (List AV)) (k : Nat → List AV → List (List AV) → Option R) : (OA c l).loop id vs os k = (l id vs os).bind fun x => k x.1 x.2.1 x.2.2 := Eq.trans rfl rfl
theorem zkt (x y : Option R) : (OA c l).both x y = bif sameO x y then x else none := rfl
theorem zvm (f : Bool → Option R) : (OA c l).amb f = bif sameO (f true) (f false) then f true else none := rfl
@[simp] theorem zq (f : (Bool → Option R) → Option R) (k : Bool → Option R) : (OA c l).join f k = (f fun b => some (Tok.tok b)).bind fun r => (Tok.untok r).bind k := Eq.trans rfl rfl
@[simp] theorem zcm (x : R) : sameO (some x) (some x) = true := Tok.same_refl x
theorem zhj {x y : Option R} {r : R} (hx : x = some r) (hy : y = some r) : (OA c l).both x y = some r := by rw [zkt, hx, hy, zcm]; rfl
@[simp] theorem z12 (x : Option R) : (OA c l).both x x = x := by cases x <;> simp [zkt, sameO, Tok.same_refl]
def dbl {α : Type} (A : Alg α) (x : α) : α := A.both x x
@[simp] theorem z2h (x : Option R) : dbl (OA c l) x = x := Eq.trans rfl (z12 x)
@[simp] theorem zvn (r : R) : (OA c l).both (some r) (some r) = some r := zhj rfl rfl
theorem z6l {f : Bool → Option R} {r : R} (h : ∀ b, f b = some r) : (OA c l).amb f = some r := by rw [zvm, h, h, zcm]; rfl
attribute [simp] Tok.untok_tok
@[simp] theorem z5f (b x y : Bool) : (bif b then some (Tok.tok (R := R) x) else some (Tok.tok y)) = some (Tok.tok (bif b then x else y)) := by cases b <;> rfl
@[simp] theorem zxz (p : Prop) [Decidable p] (x y : Bool) : (if p then some (Tok.tok (R := R) x) else some (Tok.tok y)) = some (Tok.tok (if p then x else y)) := by by_cases h : p <;> simp [h]
end
section
variable {α : Type} {A : Alg α}
@[simp] theorem u_asC {β : Type} (x : β) (r : List β) (k : β → List β → α) : asC A (x :: r) k = k x r := Eq.trans rfl rfl
@[simp] theorem u_asN {β : Type} (k : α) : asN A ([] : List β) k = k := Eq.trans rfl rfl
@[simp] theorem u_asI (ik : IntKind) (n : Int) (k : Int → α) : asI A ik (.int ik n) k = k n := by simp [asI, lit]
@[simp] theorem u_asB (b : Bool) (k : Bool → α) : asB A (.bool b) k = k b := Eq.trans rfl rfl
@[simp] theorem u_asS (b : List UInt8) (k : List UInt8 → α) : asS A (.str b) k = k b := Eq.trans rfl rfl
@[simp] theorem u_asL (w : Nat) (l : List AV) (k : List AV → α) : asL A w (.lst .ro w l) k = k l := by simp [asL, lit]
@[simp] theorem zy (w : Nat) (q : Nm) (l : List AV) (k : Nm → List AV → α) : asOwn A w (.lst (.own q) w l) k = k q l := by simp [asOwn, lit]
@[simp] theorem u_asA (l : List AV) (k : List AV → α) : asA A (.agg l) k = k l := Eq.trans rfl rfl
@[simp] theorem zt (w : Nat) (l : List AV) (k : List AV → α) : asUq A w (.lst .uq w l) k = k l := by simp [asUq, lit]
@[simp] theorem zy0 (l : List AV) (k : List AV → α) : asRow A (some (.row l)) k = k l := Eq.trans rfl rfl
@[simp] theorem zxi (k : α) : asNilp A .nilp k = k := Eq.trans rfl rfl
@[simp] theorem z3m (o : Nat) (k : Nat → α) : asRef0 A (.ref o 0) k = k o := Eq.trans rfl rfl
@[simp] theorem zcn (x : AV) (l : List AV) (k : Bool → α) : nilEq A .ro (x :: l) k = k false := Eq.trans rfl rfl
@[simp] theorem zwz (q : Nm) (x : AV) (l : List AV) (k : Bool → α) : nilEq A (.own q) (x :: l) k = k false := Eq.trans rfl rfl
end
abbrev iV (n : Int) : AV := .int .i64 n
abbrev aI {α : Type} (A : Alg α) (l : List AV) (f : Int → List AV → α) : α := asC A l fun v l => asI A .i64 v fun n => f n l
abbrev aB {α : Type} (A : Alg α) (l : List AV) (f : Bool → List AV → α) : α := asC A l fun v l => asB A v fun n => f n l
abbrev aA {α : Type} (A : Alg α) (l : List AV) (f : List AV → List AV → α) : α := asC A l fun v l => asA A v fun n => f n l
abbrev aS {α : Type} (A : Alg α) (l : List AV) (f : List UInt8 → List AV → α) : α := asC A l fun v l => asS A v fun n => f n l
abbrev aL {α : Type} (A : Alg α) (w : Nat) (l : List AV) (f : List AV → List AV → α) : α := asC A l fun v l => asL A w v fun n => f n l
abbrev aU {α : Type} (A : Alg α) (w : Nat) (l : List AV) (f : List AV → List AV → α) : α := asC A l fun v l => asUq A w v fun n => f n l
theorem tblF {E : Env} {f : Nat} {fn : Func} {args : List AV} {ins : List (Nat × List AV)} {r : CR} {X : Option CR} (hf : E.P.funcs[f]? = some fn) (h : X = some r) (hb : fn.body = some (bodyOf fn) := by kernel_rfl)
    (hc : (codeOK fn.ntmps (bodyOf fn) && ckOK (E.an f (E.key f args)) (bodyOf fn) && Nat.ble args.length fn.ntmps) = true := by kernel_rfl) (hX : E.X f args ins = none := by kernel_rfl)
    (hr : runF (OA (tbl E) (ltbl E f (E.key f args))) E.T (E.an f (E.key f args)) fn (bodyOf fn) (E.T.res f) (oshOf E.T 0 args fn.params.toList) args ins (fun r o => some (r, o)) = X := by kernel_rfl) : tbl E f args ins = some r :=
  zvl hf hb hc hX (hr.trans h)
theorem ltblF {E : Env} {f key id : Nat} {fn : Func} {vs : List AV} {os : List (List AV)} {r : LR} {X : Option LR} (hf : E.P.funcs[f]? = some fn) (h : X = some r) (hb : fn.body = some (bodyOf fn) := by kernel_rfl)
    (hc : (codeOK fn.ntmps (loopB (E.an f key) (bodyOf fn) id) && ckOK (E.an f key) (bodyOf fn)) = true := by kernel_rfl)
    (hr : roundV (OA (tbl E) (ltbl E f key)) id ((E.an f key).loop id) ((E.an f key).out id) (fun env objs cl k => run (OA (tbl E) (ltbl E f key)) E.T (E.an f key) (loopB (E.an f key) (bodyOf fn) id) env objs cl k) vs os (fun vs os => ltbl E f key id vs os) (fun j vs os => some (j, vs, os)) = X := by kernel_rfl) : ltbl E f key id vs os = some r :=
  zth hf hb hc (hr.trans h)
@[simp] theorem r_b0' {β : Type} (x y : β) : (bif Nat.beq 0 0 then x else y) = x := Eq.trans rfl rfl
@[simp] theorem nbeq (a b : Nat) : Nat.beq a b = decide (a = b) := by rw [Bool.eq_iff_iff, Nat.beq_eq, decide_eq_true_eq]
theorem beq_f {α : Type} [BEq α] [LawfulBEq α] {a b : α} (h : a ≠ b) : (a == b) = false := by simpa using h
theorem bne_t {α : Type} [BEq α] [LawfulBEq α] {a b : α} (h : a ≠ b) : (a != b) = true := by simpa using h
@[simp] theorem zqx {α β : Type} [DecidableEq α] [BEq α] [LawfulBEq α] (a b : α) (x y : β) : (bif a == b then x else y) = if a = b then x else y := by
  by_cases h : a = b
  · subst h; simp
  · rw [beq_f h, if_neg h]; rfl
@[simp] theorem zxj {α β : Type} [DecidableEq α] [BEq α] [LawfulBEq α] (a b : α) (x y : β) : (bif a != b then x else y) = if a = b then y else x := by
  by_cases h : a = b
  · subst h; simp
  · rw [bne_t h, if_neg h]; rfl
@[simp] theorem z17 (a : Nm) : Nm.beq a a = true := Nm.beq_iff.2 rfl
end Go.Proofs.Ytjkjhgfiaodgmaa.V
namespace Go.Proofs.Ytjkjhgfiaodgmaa.V
open Go
theorem zku (n : Int) : IntKind.u8.wrap n = n % 256 := by simp [IntKind.wrap, IntKind.signed, IntKind.bits]
theorem zhk (n : Int) : IntKind.u64.wrap n = n % 18446744073709551616 := by simp [IntKind.wrap, IntKind.signed, IntKind.bits]
theorem wrap_i64 (n : Int) (h : -9223372036854775808 ≤ n) (h' : n ≤ 9223372036854775807) : IntKind.i64.wrap n = n := by
  have e : IntKind.i64.wrap n = if decide (n % 18446744073709551616 ≥ (9223372036854775808 : Int)) = true then n % 18446744073709551616 - 18446744073709551616 else n % 18446744073709551616 := by
    simp [IntKind.wrap, IntKind.signed, IntKind.bits]
  rw [e]
  split <;> rename_i hh <;> simp only [decide_eq_true_eq] at hh <;> omega
@[simp] theorem zwr : IntKind.i64.wrap 0 = 0 := wrap_i64 0 (by decide) (by decide)
theorem z3g {n : Int} (h : 0 ≤ n) (h' : n < 18446744073709551616) : IntKind.u64.wrap n = n := by rw [zhk]; omega
theorem zco {n : Int} (h : 0 ≤ n) (h' : n < 256) : IntKind.u8.wrap n = n := by rw [zku]; omega
theorem z2c : encB [] = [] := rfl
theorem z4v (c : UInt8) (b : List UInt8) : encB (c :: b) = .int .u8 (c.toNat : Int) :: encB b := rfl
theorem zk (a b : List UInt8) : encB (a ++ b) = encB a ++ encB b := by simp [encB]
@[simp] theorem z3h (b : List UInt8) : (encB b).length = b.length := by simp [encB]
@[simp] theorem z8t : ∀ (b : List UInt8), bytesOf (encB b) = some b
  | [] => rfl
  | c :: b => by rw [z4v, bytesOf, z8t b]; simp
def byt (n : Nat) : UInt8 := UInt8.ofNat n
theorem z1t {n : Nat} (h : n < 256) : (byt n).toNat = n := by simp [byt]; omega
theorem or128 : ∀ n : Nat, n < 256 → bits .or .u8 (n : Int) 128 = ((n % 128 + 128 : Nat) : Int) := by decide +kernel
theorem toNat_ofInt (n : Int) : (BitVec.ofInt 64 n).toNat = (n % 18446744073709551616).toNat := by simp [BitVec.toNat_ofInt]
def zz (n : Int) : Nat := if n < 0 then (2 * (-(n + 1)) + 1).toNat else (2 * n).toNat
theorem zz_lt {n : Int} (h : -9223372036854775808 ≤ n) (h' : n ≤ 9223372036854775807) : zz n < 18446744073709551616 := by unfold zz; split <;> omega
theorem zqz (x : BitVec 64) : x ^^^ BitVec.ofInt 64 18446744073709551615 = ~~~x := by
  rw [show BitVec.ofInt 64 18446744073709551615 = BitVec.allOnes 64 by decide, BitVec.xor_allOnes]
theorem fdiv63 {n : Int} (h : -9223372036854775808 ≤ n) (h' : n ≤ 9223372036854775807) : n.fdiv ((2 : Int) ^ (63 : Nat)) = if n < 0 then -1 else 0 := by
  rw [Int.fdiv_eq_ediv_of_nonneg _ (by decide), show (2 : Int) ^ 63 = 9223372036854775808 by decide]
  split <;> omega
theorem zoc {n : Int} (h : -9223372036854775808 ≤ n) (h' : n ≤ 9223372036854775807) :
    bits .xor .u64 (IntKind.u64.wrap (IntKind.u64.wrap n * (2 : Int) ^ (1 : Nat))) (IntKind.u64.wrap (n.fdiv ((2 : Int) ^ (63 : Nat)))) = ((zz n : Nat) : Int) := by
  rw [fdiv63 h h']; have h2 : ∀ x y : Int, bits .xor .u64 x y = IntKind.u64.wrap ((BitVec.ofInt 64 x ^^^ BitVec.ofInt 64 y).toNat : Nat) := fun _ _ => rfl; rw [h2]; simp only [zhk]; unfold zz
  split
  · rw [show (-1 : Int) % 18446744073709551616 = 18446744073709551615 by decide, zqz, BitVec.toNat_not, toNat_ofInt]
    omega
  · rw [show (0 : Int) % 18446744073709551616 = 0 by decide, show BitVec.ofInt 64 0 = 0#64 by decide, BitVec.xor_zero, toNat_ofInt]
    omega
end Go.Proofs.Ytjkjhgfiaodgmaa.V
namespace Go.Proofs.Ytjkjhgfiaodgmaa.V
open Go
variable {H : Type} {T : Tab} {n t : Nat} {d : DataW H} {xs : List AV}
theorem zkv {k : IntKind} (h : (T.ty t).k = .int k) (hf : Fit T (n + 1) t d xs) : ∃ z, (k.min ≤ z ∧ z ≤ k.max) ∧ d = .lit (.int k z) ∧ xs = [.int k z] := by
  unfold Fit at hf; rw [h] at hf; obtain ⟨z, hw, h1, h2⟩ := hf
  exact ⟨z, by simpa [Lit.wf] using hw, h1, h2⟩
theorem z1i (h : (T.ty t).k = .int .i64) (hf : Fit T (n + 1) t d xs) : ∃ z : Int, (-9223372036854775808 ≤ z ∧ z ≤ 9223372036854775807) ∧ d = .lit (.int .i64 z) ∧ xs = [.int .i64 z] := by
  obtain ⟨z, hz, h1, h2⟩ := zkv h hf
  exact ⟨z, by simpa [IntKind.min, IntKind.max, IntKind.signed, IntKind.bits] using hz, h1, h2⟩
theorem zti (h : (T.ty t).k = .str) (hf : Fit T (n + 1) t d xs) : ∃ s : List UInt8, d = .lit (.string s) ∧ xs = [.str s] := by
  unfold Fit at hf; rw [h] at hf; exact hf
theorem z3z {e : Nat} (h : (T.ty t).k = .slice e) (hf : Fit T (n + 1) t d xs) : ∃ (ds sp : List (DataW H)) (l : List AV), (d = .slice ds sp ∨ (d = .nil ∧ ds = [])) ∧ xs = [.lst .ro (T.ty e).size l] ∧ Each (fun d x => ∃ ys, Fit T n e d ys ∧ ElemOf (T.ty e) x ys) ds l := by
  unfold Fit at hf; rw [h] at hf; exact hf
theorem z3b {fs : List (Nat × Nat)} (h : (T.ty t).k = .struct fs) (hf : Fit T (n + 1) t d xs) : ∃ (ds : List (DataW H)) (yss : List (List AV)), d = .agg ds ∧ xs = yss.flatten ∧ Each3 (fun f d ys => Fit T n f.2 d ys) fs ds yss := by
  unfold Fit at hf; rw [h] at hf; exact hf
theorem z29 {α β γ : Type} {R : α → β → γ → Prop} {l : List β} {r : List γ} (h : Each3 R [] l r) : l = [] ∧ r = [] := by
  cases l <;> cases r <;> first | exact ⟨rfl, rfl⟩ | exact h.elim
theorem zg {α β γ : Type} {R : α → β → γ → Prop} {a : α} {as1 : List α} {l : List β} {r : List γ} (h : Each3 R (a :: as1) l r) : ∃ b bs c cs, l = b :: bs ∧ r = c :: cs ∧ R a b c ∧ Each3 R as1 bs cs := by
  cases l <;> cases r <;> first | exact h.elim | exact ⟨_, _, _, _, rfl, rfl, h.1, h.2⟩
theorem z3n {α β γ : Type} {R : α → β → Prop} {f : γ → β} {Q : α → γ → Prop} (hR : ∀ a b, R a b → ∃ c, b = f c ∧ Q a c) : ∀ {l : List α} {r : List β}, Each R l r → ∃ cs : List γ, r = cs.map f ∧ Each Q l cs
  | [], [], _ => ⟨[], rfl, trivial⟩
  | a :: l, b :: r, h => by
    obtain ⟨c, e, q⟩ := hR a b h.1; obtain ⟨cs, e2, q2⟩ := z3n hR h.2
    exact ⟨c :: cs, by rw [e, e2]; rfl, q, q2⟩
  | [], _ :: _, h => h.elim
  | _ :: _, [], h => h.elim
theorem z4k {td : TD} (h : td.isAgg = true) {x : AV} {ys : List AV} (he : ElemOf td x ys) : x = .agg ys := by
  unfold ElemOf at he; rw [h] at he; simpa using he
theorem zbb {td : TD} (h : td.isAgg = false) {x : AV} {ys : List AV} (he : ElemOf td x ys) : ys = [x] := by
  unfold ElemOf at he; rw [h] at he; simpa using he
theorem z6w {enc : TypeId × Value → H} {P : Program} {w : World} {base : Nat} {spare : Nat → Bool} {held : Bool} : ∀ {ts : List TypeId} {vs : List Value} {ds : List (DataW H)} {ps : List MemPlace}, DataW.TrodAll enc P w base spare held ts vs ds ps → ds.length = ts.length
  | [], [], [], _, _ => rfl
  | _ :: _, _ :: _, _ :: _, _, ⟨_, _, _, h, _⟩ => by simp [z6w h]
  | [], [], _ :: _, _, h => h.elim
  | [], _ :: _, _, _, h => by cases ‹List (DataW H)› <;> exact h.elim
  | _ :: _, [], _, _, h => by cases ‹List (DataW H)› <;> exact h.elim
  | _ :: _, _ :: _, [], _, h => h.elim
end Go.Proofs.Ytjkjhgfiaodgmaa.V
namespace Go.Proofs.Ytjkjhgfiaodgmaa.V
open Go
structure Fld where
  id : Int
  kind : Int
  lo : Int
  hi : Int
  most : Int
  deriving DecidableEq
structure Frm where
  id : Int
  fields : List Fld
  deriving DecidableEq
structure Sch where
  ver : Int
  forms : List Frm
  deriving DecidableEq
abbrev fldC (f : Fld) : List AV := [.int .i64 f.id, .int .i64 f.kind, .int .i64 f.lo, .int .i64 f.hi, .int .i64 f.most]
abbrev fldV (f : Fld) : AV := AV.agg (fldC f)
abbrev fldsV (l : List Fld) : AV := AV.lst .ro 5 (l.map fldV)
abbrev frmV (f : Frm) : AV := AV.agg [.int .i64 f.id, fldsV f.fields]
abbrev frmsV (l : List Frm) : AV := AV.lst .ro 2 (l.map frmV)
abbrev schV (s : Sch) : AV := AV.agg [.int .i64 s.ver, frmsV s.forms]
def i64 (n : Int) : Prop := -9223372036854775808 ≤ n ∧ n ≤ 9223372036854775807
def Fld.ok (f : Fld) : Prop := i64 f.id ∧ i64 f.kind ∧ i64 f.lo ∧ i64 f.hi ∧ i64 f.most
def Frm.ok (f : Frm) : Prop := i64 f.id ∧ ∀ x ∈ f.fields, x.ok
def Sch.ok (s : Sch) : Prop := i64 s.ver ∧ ∀ x ∈ s.forms, x.ok
def rgtS (f : Fld) : Bool :=
  decide (0 ≤ f.id ∧ f.id ≤ 255) &&
  (if f.kind = 1 then decide (-1099511627776 ≤ f.lo ∧ f.lo ≤ f.hi ∧ f.hi ≤ 1099511627776 ∧ f.most = 0)
   else if f.kind = 2 then decide (f.lo = 0 ∧ f.hi = 0 ∧ f.most = 0)
   else if f.kind = 3 then decide (f.lo = 0 ∧ f.hi = 0 ∧ 1 ≤ f.most ∧ f.most ≤ 1000)
   else if f.kind = 4 then decide (f.lo = 0 ∧ f.hi = 0 ∧ 0 ≤ f.most ∧ f.most ≤ 32)
   else false)
def wdS (n : Nat) : Nat := if h : n = 0 then 0 else wdS (n / 256) + 1
termination_by n
decreasing_by omega
def loS (f : Fld) : Int := if f.kind = 1 then f.lo else 0
def hiS (f : Fld) : Int := if f.kind = 1 then f.hi else if f.kind = 2 then 1 else if f.kind = 3 then f.most - 1 else 0
def sizeS (f : Fld) : Int := if rgtS f then (if f.kind = 4 then f.most + 1 else (wdS (hiS f - loS f).toNat : Nat)) else 0
def longS (l : List Fld) : Int := (l.map sizeS).sum
def nodupI : List Int → Bool
  | [] => true
  | x :: l => !(l.any fun y => y == x) && nodupI l
def fineS (f : Frm) : Bool := decide (0 ≤ f.id ∧ f.id ≤ 200) && decide (1 ≤ f.fields.length ∧ f.fields.length ≤ 8) && decide (longS f.fields ≤ 64) && f.fields.all rgtS && nodupI (f.fields.map Fld.id)
def risingS : Int → List Frm → Bool
  | _, [] => true
  | last, f :: l => fineS f && decide (last < f.id) && risingS f.id l
def schS (s : Sch) : Bool := decide (1 ≤ s.ver ∧ s.ver ≤ 65535) && decide (s.forms.length ≤ 8) && risingS (-1) s.forms
def firstS {α : Type} (p : α → Bool) (l : List α) : Int := match l.findIdx? p with | some i => (i : Nat) | none => -1
end Go.Proofs.Ytjkjhgfiaodgmaa.V
namespace Go.Proofs.Ytjkjhgfiaodgmaa.V
open Go
open AV (int lst agg str bool ref clo)
open List (map)
def zhm {α : Type} (A : Alg α) (f : Fld) (kc : List AV → List (Nat × List AV) → α) : α :=
  A.join (fun x0 => bif (decide (f.id < (0 : Int))) then (x0 true) else (x0 (decide (f.id > (255 : Int))))) fun b1 => bif b1 then (kc [bool false] []) else (A.join (fun x2 => bif (f.lo == (0 : Int)) then (x2 (f.hi == (0 : Int))) else (x2 false)) fun b3 => bif (f.kind == (1 : Int)) then (A.join (fun x4 => bif (decide (f.lo ≥ (-1099511627776 : Int))) then (bif (decide (f.lo ≤ f.hi)) then (bif (decide (f.hi ≤ (1099511627776 : Int))) then (x4 (f.most == (0 : Int))) else (x4 false)) else (x4 false)) else (x4 false)) fun b5 => kc [bool b5] []) else (bif (f.kind == (2 : Int)) then (A.join (fun x6 => bif b3 then (x6 (f.most == (0 : Int))) else (x6 false)) fun b7 => kc [bool b7] []) else (bif (f.kind == (3 : Int)) then (A.join (fun x8 => bif b3 then (bif (decide (f.most ≥ (1 : Int))) then (x8 (decide (f.most ≤ (1000 : Int)))) else (x8 false)) else (x8 false)) fun b9 => kc [bool b9] []) else (bif (f.kind == (4 : Int)) then (A.join (fun x10 => bif b3 then (bif (decide (f.most ≥ (0 : Int))) then (x10 (decide (f.most ≤ (32 : Int)))) else (x10 false)) else (x10 false)) fun b11 => kc [bool b11] []) else (kc [bool false] [])))))
def z8w {α : Type} (A : Alg α) (f : Fld) (kc : List AV → List (Nat × List AV) → α) : α :=
  bif (f.kind == (1 : Int)) then (kc [iV f.lo, iV f.hi] []) else (bif (f.kind == (2 : Int)) then (kc [iV 0, iV 1] []) else (bif (f.kind == (3 : Int)) then (kc [iV 0, iV (IntKind.i64.wrap (f.most - (1 : Int)))] []) else (kc [iV 0, iV 0] [])))
def zbc {α : Type} (A : Alg α) (n : Int) (kc : List AV → List (Nat × List AV) → α) : α :=
  A.loop 2 [iV n, iV 0] [] fun j0 l1 l2 => bif (j0.beq 1) then (aI A l1 fun n5 l4 => asN A l4 (asN A l2 (kc [iV n5] []))) else A.fail
def zkw {α : Type} (A : Alg α) (f : Fld) (kc : List AV → List (Nat × List AV) → α) : α :=
  A.callx 78 [agg [iV f.id, iV f.kind, iV f.lo, iV f.hi, iV f.most]] fun l0 => aI A l0 fun n3 l2 => aI A l2 fun n6 l5 => asN A l5 (A.callx 81 [iV (IntKind.i64.wrap (n6 - n3))] fun l7 => aI A l7 fun n10 l9 => asN A l9 (kc [iV n10] []))
def zkx {α : Type} (A : Alg α) (f : Fld) (kc : List AV → List (Nat × List AV) → α) : α :=
  A.callx 30 [agg [iV f.id, iV f.kind, iV f.lo, iV f.hi, iV f.most]] fun l0 => aB A l0 fun b3 l2 => asN A l2 (bif (!b3) then (kc [iV 0] []) else (bif (f.kind == (4 : Int)) then (kc [iV (IntKind.i64.wrap (f.most + (1 : Int)))] []) else (bif (f.kind == (2 : Int)) then (kc [iV 1] []) else (A.callx 69 [agg [iV f.id, iV f.kind, iV f.lo, iV f.hi, iV f.most]] fun l4 => aI A l4 fun n7 l6 => asN A l6 (kc [iV n7] [])))))
def zky {α : Type} (A : Alg α) (f : Frm) (kc : List AV → List (Nat × List AV) → α) : α :=
  A.loop 3 [iV 0, lst .ro 5 (map fldV f.fields), iV (↑(map fldV f.fields).length : Int), iV 0] [] fun j0 l1 l2 => bif (j0.beq 1) then (aI A l1 fun n5 l4 => asN A l4 (asN A l2 (kc [iV n5] []))) else A.fail
def zkz {α : Type} (A : Alg α) (f : Frm) (kc : List AV → List (Nat × List AV) → α) : α :=
  A.join (fun x0 => bif (decide (f.id < (0 : Int))) then (x0 true) else (bif (decide (f.id > (200 : Int))) then (x0 true) else (bif (decide ((↑(map fldV f.fields).length : Int) < (1 : Int))) then (x0 true) else (bif (decide ((↑(map fldV f.fields).length : Int) > (8 : Int))) then (x0 true) else (A.callx 29 [agg [iV f.id, lst .ro 5 (map fldV f.fields)]] fun l1 => aI A l1 fun n4 l3 => asN A l3 (x0 (decide (n4 > (64 : Int))))))))) fun b5 => bif b5 then (kc [bool false] []) else (A.loop 5 [lst .ro 5 (map fldV f.fields), iV (↑(map fldV f.fields).length : Int), iV 0] [[bool false, bool false, bool false, bool false, bool false, bool false, bool false, bool false, bool false, bool false, bool false, bool false, bool false, bool false, bool false, bool false, bool false, bool false, bool false, bool false, bool false, bool false, bool false, bool false, bool false, bool false, bool false, bool false, bool false, bool false, bool false, bool false, bool false, bool false, bool false, bool false, bool false, bool false, bool false, bool false, bool false, bool false, bool false, bool false, bool false, bool false, bool false, bool false, bool false, bool false, bool false, bool false, bool false, bool false, bool false, bool false, bool false, bool false, bool false, bool false, bool false, bool false, bool false, bool false, bool false, bool false, bool false, bool false, bool false, bool false, bool false, bool false, bool false, bool false, bool false, bool false, bool false, bool false, bool false, bool false, bool false, bool false, bool false, bool false, bool false, bool false, bool false, bool false, bool false, bool false, bool false, bool false, bool false, bool false, bool false, bool false, bool false, bool false, bool false, bool false, bool false, bool false, bool false, bool false, bool false, bool false, bool false, bool false, bool false, bool false, bool false, bool false, bool false, bool false, bool false, bool false, bool false, bool false, bool false, bool false, bool false, bool false, bool false, bool false, bool false, bool false, bool false, bool false, bool false, bool false, bool false, bool false, bool false, bool false, bool false, bool false, bool false, bool false, bool false, bool false, bool false, bool false, bool false, bool false, bool false, bool false, bool false, bool false, bool false, bool false, bool false, bool false, bool false, bool false, bool false, bool false, bool false, bool false, bool false, bool false, bool false, bool false, bool false, bool false, bool false, bool false, bool false, bool false, bool false, bool false, bool false, bool false, bool false, bool false, bool false, bool false, bool false, bool false, bool false, bool false, bool false, bool false, bool false, bool false, bool false, bool false, bool false, bool false, bool false, bool false, bool false, bool false, bool false, bool false, bool false, bool false, bool false, bool false, bool false, bool false, bool false, bool false, bool false, bool false, bool false, bool false, bool false, bool false, bool false, bool false, bool false, bool false, bool false, bool false, bool false, bool false, bool false, bool false, bool false, bool false, bool false, bool false, bool false, bool false, bool false, bool false, bool false, bool false, bool false, bool false, bool false, bool false, bool false, bool false, bool false, bool false, bool false, bool false, bool false, bool false, bool false, bool false, bool false, bool false, bool false, bool false, bool false, bool false, bool false, bool false, bool false, bool false, bool false, bool false, bool false, bool false]] fun j6 l7 l8 => bif (j6.beq 0) then (aB A l7 fun b11 l10 => asN A l10 (asN A l8 (kc [bool b11] []))) else (bif (j6.beq 1) then (asN A l7 (asN A l8 (kc [bool true] []))) else A.fail))
def s_sAt {α : Type} (A : Alg α) (f : Frm) (id : Int) (kc : List AV → List (Nat × List AV) → α) : α :=
  A.callx 61 [lst .ro 5 (map fldV f.fields), clo 62 [AV.rp [iV id] 0]] fun l0 => aI A l0 fun n3 l2 => asN A l2 (kc [iV n3] [])
def zod {α : Type} (A : Alg α) (f : Fld) (id : Int) (kc : List AV → List (Nat × List AV) → α) : α :=
  kc [bool (f.id == id)] []
def zao {α : Type} (A : Alg α) (l : List Fld) (id : Int) (kc : List AV → List (Nat × List AV) → α) : α :=
  A.loop 2 [lst .ro 5 (map fldV l), clo 62 [AV.rp [iV id] 0], iV (↑(map fldV l).length : Int), iV 0] [] fun j0 l1 l2 => bif (j0.beq 0) then (aI A l1 fun n5 l4 => asN A l4 (asN A l2 (kc [iV n5] []))) else (bif (j0.beq 1) then (asN A l1 (asN A l2 (kc [iV (-1)] []))) else A.fail)
def zhn {α : Type} (A : Alg α) (s : Sch) (kc : List AV → List (Nat × List AV) → α) : α :=
  A.join (fun x0 => bif (decide (s.ver < (1 : Int))) then (x0 true) else (bif (decide (s.ver > (65535 : Int))) then (x0 true) else (x0 (decide ((↑(map frmV s.forms).length : Int) > (8 : Int)))))) fun b1 => bif b1 then (kc [bool false] []) else (A.loop 5 [iV (-1), lst .ro 2 (map frmV s.forms), iV (↑(map frmV s.forms).length : Int), iV 0] [] fun j2 l3 l4 => bif (j2.beq 0) then (aB A l3 fun b7 l6 => asN A l6 (asN A l4 (kc [bool b7] []))) else (bif (j2.beq 1) then (asN A l3 (asN A l4 (kc [bool true] []))) else A.fail))
def zdx {α : Type} (A : Alg α) (s : Sch) (id : Int) (kc : List AV → List (Nat × List AV) → α) : α :=
  A.loop 2 [iV id, lst .ro 2 (map frmV s.forms), iV (↑(map frmV s.forms).length : Int), iV 0] [[iV 0, lst .ro 5 []]] fun j0 l1 l2 => bif (j0.beq 0) then (aB A l1 fun b5 l4 => asN A l4 (asC A l2 fun l6 l7 => aI A l6 fun n10 l9 => aL A 5 l9 fun l13 l12 => asN A l12 (asN A l7 (kc [agg [iV n10, lst .ro 5 l13], bool b5] [])))) else (bif (j0.beq 1) then (asN A l1 (asC A l2 fun l14 l15 => aI A l14 fun n18 l17 => aL A 5 l17 fun l21 l20 => asN A l20 (asN A l15 (kc [agg [iV 0, lst .ro 5 []], bool false] [])))) else A.fail)
def zl0 {α : Type} (A : Alg α) (a : Sch) (b : Sch) (kc : List AV → List (Nat × List AV) → α) : α :=
  A.join (fun x0 => bif (a.ver == b.ver) then (A.callx 16 [lst .ro 2 (map frmV a.forms), lst .ro 2 (map frmV b.forms), clo 17 []] fun l1 => aB A l1 fun b4 l3 => asN A l3 (x0 b4)) else (x0 false)) fun b5 => kc [bool b5] []
def zho {α : Type} (A : Alg α) (a : Frm) (b : Frm) (kc : List AV → List (Nat × List AV) → α) : α :=
  A.join (fun x0 => bif (a.id == b.id) then (A.callx 18 [lst .ro 5 (map fldV a.fields), lst .ro 5 (map fldV b.fields)] fun l1 => aB A l1 fun b4 l3 => asN A l3 (x0 b4)) else (x0 false)) fun b5 => kc [bool b5] []
def zap {α : Type} (A : Alg α) (a : List Frm) (b : List Frm) (kc : List AV → List (Nat × List AV) → α) : α :=
  bif ((↑(map frmV a).length : Int) != (↑(map frmV b).length : Int)) then (kc [bool false] []) else (A.loop 4 [lst .ro 2 (map frmV b), clo 17 [], lst .ro 2 (map frmV a), iV (↑(map frmV a).length : Int), iV 0] [] fun j0 l1 l2 => bif (j0.beq 0) then (aB A l1 fun b5 l4 => asN A l4 (asN A l2 (kc [bool b5] []))) else (bif (j0.beq 1) then (asN A l1 (asN A l2 (kc [bool true] []))) else A.fail))
def zhp {α : Type} (A : Alg α) (a : List Fld) (b : List Fld) (kc : List AV → List (Nat × List AV) → α) : α :=
  bif ((↑(map fldV a).length : Int) != (↑(map fldV b).length : Int)) then (kc [bool false] []) else (A.loop 4 [lst .ro 5 (map fldV a), lst .ro 5 (map fldV b), iV (↑(map fldV a).length : Int), iV 0] [] fun j0 l1 l2 => bif (j0.beq 0) then (aB A l1 fun b5 l4 => asN A l4 (asN A l2 (kc [bool b5] []))) else (bif (j0.beq 1) then (asN A l1 (asN A l2 (kc [bool true] []))) else A.fail))
def z66 {α : Type} (A : Alg α) (n : Int) (w : Int) (next : List AV → List (List AV) → α) (kc : Nat → List AV → List (List AV) → α) : α :=
  bif (decide (n > (0 : Int))) then (next [iV (n.fdiv ((2 : Int) ^ (8 : Nat))), iV (IntKind.i64.wrap (w + (1 : Int)))] []) else (kc 1 [iV w] [])
def zbd {α : Type} (A : Alg α) (l : List Fld) (n : Int) (m : Int) (i : Int) (next : List AV → List (List AV) → α) (kc : Nat → List AV → List (List AV) → α) : α :=
  bif (decide (i < m)) then (A.chk (decide ((0 : Int) ≤ i)) (nthE A (map fldV l) i.toNat fun v0 => asA A v0 fun l1 => aI A l1 fun n4 l3 => aI A l3 fun n7 l6 => aI A l6 fun n10 l9 => aI A l9 fun n13 l12 => aI A l12 fun n16 l15 => asN A l15 (A.callx 48 [agg [iV n4, iV n7, iV n10, iV n13, iV n16]] fun l17 => aI A l17 fun n20 l19 => asN A l19 (next [iV (IntKind.i64.wrap (n + n20)), lst .ro 5 (map fldV l), iV m, iV (IntKind.i64.wrap (i + (1 : Int)))] [])))) else (kc 1 [iV n] [])
def zbe {α : Type} (A : Alg α) (l : List Fld) (seen : List Bool) (m : Int) (i : Int) (next : List AV → List (List AV) → α) (kc : Nat → List AV → List (List AV) → α) : α :=
  bif (decide (i < m)) then (A.chk (decide ((0 : Int) ≤ i)) (nthE A (map fldV l) i.toNat fun v0 => asA A v0 fun l1 => aI A l1 fun n4 l3 => aI A l3 fun n7 l6 => aI A l6 fun n10 l9 => aI A l9 fun n13 l12 => aI A l12 fun n16 l15 => asN A l15 (A.join (fun x17 => A.callx 30 [agg [iV n4, iV n7, iV n10, iV n13, iV n16]] fun l18 => aB A l18 fun b21 l20 => asN A l20 (bif (!b21) then (x17 true) else (A.chk (decide ((0 : Int) ≤ n4) && decide (n4 < (↑(256 : Nat) : Int))) (nthE A (map bool seen) ((0 : Nat) + n4.toNat * 1) fun v22 => asB A v22 fun b23 => x17 b23)))) fun b24 => bif b24 then (kc 0 [bool false] []) else (A.chk (decide ((0 : Int) ≤ n4) && decide (n4 < (↑(256 : Nat) : Int))) (A.chk (((0 : Nat) + n4.toNat * 1 + (1 : Nat)).ble (map bool seen).length) (A.chk ((setAt (map bool seen) ((0 : Nat) + n4.toNat * 1) [bool true]).all AV.flat1) (next [lst .ro 5 (map fldV l), iV m, iV (IntKind.i64.wrap (i + (1 : Int)))] [(setAt (map bool seen) ((0 : Nat) + n4.toNat * 1) [bool true])]))))))) else (kc 1 [] [])
def z5g {α : Type} (A : Alg α) (l : List Fld) (id : Int) (m : Int) (i : Int) (next : List AV → List (List AV) → α) (kc : Nat → List AV → List (List AV) → α) : α :=
  bif (decide (i < m)) then (A.chk (decide ((0 : Int) ≤ i)) (nthE A (map fldV l) i.toNat fun v0 => asA A v0 fun l1 => aI A l1 fun n4 l3 => aI A l3 fun n7 l6 => aI A l6 fun n10 l9 => aI A l9 fun n13 l12 => aI A l12 fun n16 l15 => asN A l15 (A.callx 62 [agg [iV n4, iV n7, iV n10, iV n13, iV n16], AV.rp [iV id] 0] fun l17 => aB A l17 fun b20 l19 => asN A l19 (bif b20 then (kc 0 [iV i] []) else (next [lst .ro 5 (map fldV l), clo 62 [AV.rp [iV id] 0], iV m, iV (IntKind.i64.wrap (i + (1 : Int)))] []))))) else (kc 1 [] [])
def z8x {α : Type} (A : Alg α) (l : List Frm) (last : Int) (m : Int) (i : Int) (next : List AV → List (List AV) → α) (kc : Nat → List AV → List (List AV) → α) : α :=
  bif (decide (i < m)) then (A.chk (decide ((0 : Int) ≤ i)) (nthE A (map frmV l) i.toNat fun v0 => asA A v0 fun l1 => aI A l1 fun n4 l3 => aL A 5 l3 fun l7 l6 => asN A l6 (A.join (fun x8 => A.callx 20 [agg [iV n4, lst .ro 5 l7]] fun l9 => aB A l9 fun b12 l11 => asN A l11 (bif (!b12) then (x8 true) else (x8 (decide (n4 ≤ last))))) fun b13 => bif b13 then (kc 0 [bool false] []) else (next [iV n4, lst .ro 2 (map frmV l), iV m, iV (IntKind.i64.wrap (i + (1 : Int)))] [])))) else (kc 1 [] [])
def zbf {α : Type} (A : Alg α) (l : List Frm) (g : Frm) (id : Int) (m : Int) (i : Int) (next : List AV → List (List AV) → α) (kc : Nat → List AV → List (List AV) → α) : α :=
  bif (decide (i < m)) then (A.chk (decide ((0 : Int) ≤ i)) (nthE A (map frmV l) i.toNat fun v0 => asA A v0 fun l1 => aI A l1 fun n4 l3 => aL A 5 l3 fun l7 l6 => asN A l6 (bif (n4 == id) then (kc 0 [bool true] [[iV n4, lst .ro 5 l7]]) else (next [iV id, lst .ro 2 (map frmV l), iV m, iV (IntKind.i64.wrap (i + (1 : Int)))] [[iV g.id, lst .ro 5 (map fldV g.fields)]])))) else (kc 1 [] [[iV g.id, lst .ro 5 (map fldV g.fields)]])
def z5h {α : Type} (A : Alg α) (a : List Frm) (b : List Frm) (m : Int) (i : Int) (next : List AV → List (List AV) → α) (kc : Nat → List AV → List (List AV) → α) : α :=
  bif (decide (i < m)) then (A.chk (decide ((0 : Int) ≤ i)) (nthE A (map frmV a) i.toNat fun v0 => asA A v0 fun l1 => aI A l1 fun n4 l3 => aL A 5 l3 fun l7 l6 => asN A l6 (A.chk (decide ((0 : Int) ≤ i)) (nthE A (map frmV b) i.toNat fun v8 => asA A v8 fun l9 => aI A l9 fun n12 l11 => aL A 5 l11 fun l15 l14 => asN A l14 (A.callx 17 [agg [iV n4, lst .ro 5 l7], agg [iV n12, lst .ro 5 l15]] fun l16 => aB A l16 fun b19 l18 => asN A l18 (bif (!b19) then (kc 0 [bool false] []) else (next [lst .ro 2 (map frmV b), clo 17 [], lst .ro 2 (map frmV a), iV m, iV (IntKind.i64.wrap (i + (1 : Int)))] []))))))) else (kc 1 [] [])
def z8y {α : Type} (A : Alg α) (a : List Fld) (b : List Fld) (m : Int) (i : Int) (next : List AV → List (List AV) → α) (kc : Nat → List AV → List (List AV) → α) : α :=
  bif (decide (i < m)) then (A.chk (decide ((0 : Int) ≤ i)) (nthE A (map fldV a) i.toNat fun v0 => asA A v0 fun l1 => aI A l1 fun n4 l3 => aI A l3 fun n7 l6 => aI A l6 fun n10 l9 => aI A l9 fun n13 l12 => aI A l12 fun n16 l15 => asN A l15 (A.chk (decide ((0 : Int) ≤ i)) (nthE A (map fldV b) i.toNat fun v17 => asA A v17 fun l18 => aI A l18 fun n21 l20 => aI A l20 fun n24 l23 => aI A l23 fun n27 l26 => aI A l26 fun n30 l29 => aI A l29 fun n33 l32 => asN A l32 (bif (!(n4 == n21 && (n7 == n24 && (n10 == n27 && (n13 == n30 && (n16 == n33 && true)))))) then (kc 0 [bool false] []) else (next [lst .ro 5 (map fldV a), lst .ro 5 (map fldV b), iV m, iV (IntKind.i64.wrap (i + (1 : Int)))] [])))))) else (kc 1 [] [])
theorem zr0 (f : Fld) {r : CR} (h : zhm (OA (tbl E0) (ltbl E0 30 0)) f (fun r o => some (r, o)) = some r) : tbl E0 30 [fldV f] [] = some r :=
  tblF Try.func30 h
theorem zet (f : Fld) {r : CR} (h : z8w (OA (tbl E0) (ltbl E0 78 0)) f (fun r o => some (r, o)) = some r) : tbl E0 78 [fldV f] [] = some r :=
  tblF Try.func78 h
theorem zr1 (n : Int) {r : CR} (h : zbc (OA (tbl E0) (ltbl E0 81 0)) n (fun r o => some (r, o)) = some r) : tbl E0 81 [iV n] [] = some r :=
  tblF Try.func81 h
theorem ztj (f : Fld) {r : CR} (h : zkw (OA (tbl E0) (ltbl E0 69 0)) f (fun r o => some (r, o)) = some r) : tbl E0 69 [fldV f] [] = some r :=
  tblF Try.func69 h
theorem ztk (f : Fld) {r : CR} (h : zkx (OA (tbl E0) (ltbl E0 48 0)) f (fun r o => some (r, o)) = some r) : tbl E0 48 [fldV f] [] = some r :=
  tblF Try.func48 h
theorem ztl (f : Frm) {r : CR} (h : zky (OA (tbl E0) (ltbl E0 29 0)) f (fun r o => some (r, o)) = some r) : tbl E0 29 [frmV f] [] = some r :=
  tblF Try.func29 h
theorem ztm (f : Frm) {r : CR} (h : zkz (OA (tbl E0) (ltbl E0 20 0)) f (fun r o => some (r, o)) = some r) : tbl E0 20 [frmV f] [] = some r :=
  tblF Try.func20 h
theorem t_sAt (f : Frm) (id : Int) {r : CR} (h : s_sAt (OA (tbl E0) (ltbl E0 39 0)) f id (fun r o => some (r, o)) = some r) : tbl E0 39 [frmV f, iV id] [] = some r :=
  tblF Try.func39 h
theorem zvr (f : Fld) (id : Int) {r : CR} (h : zod (OA (tbl E0) (ltbl E0 62 0)) f id (fun r o => some (r, o)) = some r) : tbl E0 62 [fldV f, .rp [iV id] 0] [] = some r :=
  tblF Try.func62 h
theorem zjx (l : List Fld) (id : Int) {r : CR} (h : zao (OA (tbl E0) (ltbl E0 61 0)) l id (fun r o => some (r, o)) = some r) : tbl E0 61 [fldsV l, .clo 62 [.rp [iV id] 0]] [] = some r :=
  tblF Try.func61 h
theorem zr2 (s : Sch) {r : CR} (h : zhn (OA (tbl E0) (ltbl E0 11 0)) s (fun r o => some (r, o)) = some r) : tbl E0 11 [schV s] [] = some r :=
  tblF Try.func11 h
theorem ztn (s : Sch) (id : Int) {r : CR} (h : zdx (OA (tbl E0) (ltbl E0 77 0)) s id (fun r o => some (r, o)) = some r) : tbl E0 77 [schV s, iV id] [] = some r :=
  tblF Try.func77 h
theorem zto (a b : Sch) {r : CR} (h : zl0 (OA (tbl E0) (ltbl E0 9 0)) a b (fun r o => some (r, o)) = some r) : tbl E0 9 [schV a, schV b] [] = some r :=
  tblF Try.func9 h
theorem zr3 (a b : Frm) {r : CR} (h : zho (OA (tbl E0) (ltbl E0 17 0)) a b (fun r o => some (r, o)) = some r) : tbl E0 17 [frmV a, frmV b] [] = some r :=
  tblF Try.func17 h
theorem zjy (a b : List Frm) {r : CR} (h : zap (OA (tbl E0) (ltbl E0 16 0)) a b (fun r o => some (r, o)) = some r) : tbl E0 16 [frmsV a, frmsV b, .clo 17 []] [] = some r :=
  tblF Try.func16 h
theorem zr4 (a b : List Fld) {r : CR} (h : zhp (OA (tbl E0) (ltbl E0 18 0)) a b (fun r o => some (r, o)) = some r) : tbl E0 18 [fldsV a, fldsV b] [] = some r :=
  tblF Try.func18 h
theorem z8z (n w : Int) {r : LR} (h : z66 (OA (tbl E0) (ltbl E0 81 0)) n w (fun vs os => ltbl E0 81 0 2 vs os) (fun j vs os => some (j, vs, os)) = some r) : ltbl E0 81 0 2 [iV n, iV w] [] = some r :=
  ltblF Try.func81 h
theorem zhq (l : List Fld) (n m i : Int) {r : LR} (h : zbd (OA (tbl E0) (ltbl E0 29 0)) l n m i (fun vs os => ltbl E0 29 0 3 vs os) (fun j vs os => some (j, vs, os)) = some r) : ltbl E0 29 0 3 [iV n, fldsV l, iV m, iV i] [] = some r :=
  ltblF Try.func29 h
theorem zhr (l : List Fld) (seen : List Bool) (m i : Int) {r : LR} (h : zbe (OA (tbl E0) (ltbl E0 20 0)) l seen m i (fun vs os => ltbl E0 20 0 5 vs os) (fun j vs os => some (j, vs, os)) = some r) : ltbl E0 20 0 5 [fldsV l, iV m, iV i] [seen.map AV.bool] = some r :=
  ltblF Try.func20 h
theorem z90 (l : List Fld) (id m i : Int) {r : LR} (h : z5g (OA (tbl E0) (ltbl E0 61 0)) l id m i (fun vs os => ltbl E0 61 0 2 vs os) (fun j vs os => some (j, vs, os)) = some r) : ltbl E0 61 0 2 [fldsV l, .clo 62 [.rp [iV id] 0], iV m, iV i] [] = some r :=
  ltblF Try.func61 h
theorem zeu (l : List Frm) (last m i : Int) {r : LR} (h : z8x (OA (tbl E0) (ltbl E0 11 0)) l last m i (fun vs os => ltbl E0 11 0 5 vs os) (fun j vs os => some (j, vs, os)) = some r) : ltbl E0 11 0 5 [iV last, frmsV l, iV m, iV i] [] = some r :=
  ltblF Try.func11 h
theorem zhs (l : List Frm) (g : Frm) (id m i : Int) {r : LR} (h : zbf (OA (tbl E0) (ltbl E0 77 0)) l g id m i (fun vs os => ltbl E0 77 0 2 vs os) (fun j vs os => some (j, vs, os)) = some r) : ltbl E0 77 0 2 [iV id, frmsV l, iV m, iV i] [[iV g.id, fldsV g.fields]] = some r :=
  ltblF Try.func77 h
theorem z91 (a b : List Frm) (m i : Int) {r : LR} (h : z5h (OA (tbl E0) (ltbl E0 16 0)) a b m i (fun vs os => ltbl E0 16 0 4 vs os) (fun j vs os => some (j, vs, os)) = some r) : ltbl E0 16 0 4 [frmsV b, .clo 17 [], frmsV a, iV m, iV i] [] = some r :=
  ltblF Try.func16 h
theorem zev (a b : List Fld) (m i : Int) {r : LR} (h : z8y (OA (tbl E0) (ltbl E0 18 0)) a b m i (fun vs os => ltbl E0 18 0 4 vs os) (fun j vs os => some (j, vs, os)) = some r) : ltbl E0 18 0 4 [fldsV a, fldsV b, iV m, iV i] [] = some r :=
  ltblF Try.func18 h
end Go.Proofs.Ytjkjhgfiaodgmaa.V
namespace Go.Proofs.Ytjkjhgfiaodgmaa.V
open Go
structure Stp where
  op : Int
  form : Int
  field : Int
  place : Int
  to : Int
  a : Int
  b : Int
  f : Fld
  n : Int
  s : List UInt8
  t : List Int
  fields : List Fld
  deriving DecidableEq
abbrev intsV (l : List Int) : AV := AV.lst .ro 1 (l.map fun n => AV.int .i64 n)
abbrev stpC (x : Stp) : List AV := [.int .i64 x.op, .int .i64 x.form, .int .i64 x.field, .int .i64 x.place, .int .i64 x.to, .int .i64 x.a, .int .i64 x.b, .int .i64 x.f.id, .int .i64 x.f.kind, .int .i64 x.f.lo, .int .i64 x.f.hi, .int .i64 x.f.most, .int .i64 x.n, .str x.s, intsV x.t, fldsV x.fields]
abbrev stpV (x : Stp) : AV := AV.agg (stpC x)
abbrev stpsV (l : List Stp) : AV := AV.lst .ro 16 (l.map stpV)
end Go.Proofs.Ytjkjhgfiaodgmaa.V
namespace Go.Proofs.Ytjkjhgfiaodgmaa.V
open Go
open AV (int lst agg str bool ref clo)
open List (map)
def zl1 {α : Type} (A : Alg α) (op : Int) (kc : List AV → List (Nat × List AV) → α) : α :=
  bif (op == (1 : Int)) then (A.loop 1000004 [iV op, bool true] [] fun j0 l1 l2 => bif (j0.beq 50001) then (asN A l1 (asN A l2 (kc [lst .ro 1 []] []))) else (bif (j0.beq 0) then (aL A 1 l1 fun l5 l4 => asN A l4 (asN A l2 (kc [lst .ro 1 l5] []))) else A.fail)) else (A.loop 1000004 [iV op, bool (op == (22 : Int))] [] fun j6 l7 l8 => bif (j6.beq 50001) then (asN A l7 (asN A l8 (kc [lst .ro 1 []] []))) else (bif (j6.beq 0) then (aL A 1 l7 fun l11 l10 => asN A l10 (asN A l8 (kc [lst .ro 1 l11] []))) else A.fail))
def zht {α : Type} (A : Alg α) (op : Int) (b : Bool) (next : List AV → List (List AV) → α) (kc : Nat → List AV → List (List AV) → α) : α :=
  bif b then (kc 0 [lst .ro 1 [iV 0, iV 2, iV 6, iV 7]] []) else (bif (op == (2 : Int)) then (kc 0 [lst .ro 1 [iV 0, iV 1, iV 7]] []) else (bif (op == (3 : Int)) then (A.loop 1000009 [iV op, bool true] [] fun j0 l1 l2 => bif (j0.beq 50001) then (asN A l1 (asN A l2 (kc 50001 [] []))) else (bif (j0.beq 0) then (aL A 1 l1 fun l5 l4 => asN A l4 (asN A l2 (kc 0 [lst .ro 1 l5] []))) else A.fail)) else (A.loop 1000009 [iV op, bool (op == (23 : Int))] [] fun j6 l7 l8 => bif (j6.beq 50001) then (asN A l7 (asN A l8 (kc 50001 [] []))) else (bif (j6.beq 0) then (aL A 1 l7 fun l11 l10 => asN A l10 (asN A l8 (kc 0 [lst .ro 1 l11] []))) else A.fail))))
def zhu {α : Type} (A : Alg α) (op : Int) (b : Bool) (next : List AV → List (List AV) → α) (kc : Nat → List AV → List (List AV) → α) : α :=
  bif b then (kc 0 [lst .ro 1 [iV 0, iV 1, iV 6]] []) else (bif (op == (4 : Int)) then (kc 0 [lst .ro 1 [iV 0, iV 1, iV 5]] []) else (bif (op == (24 : Int)) then (kc 0 [lst .ro 1 [iV 0, iV 1, iV 5, iV 6]] []) else (bif (op == (5 : Int)) then (kc 0 [lst .ro 1 [iV 0, iV 1, iV 4, iV 8]] []) else (bif (op == (25 : Int)) then (kc 0 [lst .ro 1 [iV 0, iV 1, iV 8]] []) else (bif (op == (6 : Int)) then (kc 0 [lst .ro 1 [iV 0, iV 1, iV 4, iV 3]] []) else (bif (op == (26 : Int)) then (kc 0 [lst .ro 1 [iV 0, iV 1, iV 4, iV 3, iV 6]] []) else (bif (op == (7 : Int)) then (kc 0 [lst .ro 1 [iV 0, iV 1, iV 2]] []) else (bif (op == (27 : Int)) then (kc 0 [lst .ro 1 [iV 0, iV 1, iV 2]] []) else (bif (op == (8 : Int)) then (kc 0 [lst .ro 1 [iV 0, iV 1, iV 3]] []) else (bif (op == (28 : Int)) then (kc 0 [lst .ro 1 [iV 0, iV 1, iV 3]] []) else (bif (op == (9 : Int)) then (kc 0 [lst .ro 1 [iV 0, iV 9]] []) else (bif (op == (30 : Int)) then (kc 0 [lst .ro 1 [iV 0, iV 9]] []) else (bif (op == (10 : Int)) then (kc 0 [lst .ro 1 [iV 0]] []) else (bif (op == (29 : Int)) then (kc 0 [lst .ro 1 [iV 0]] []) else (bif (op == (21 : Int)) then (kc 0 [lst .ro 1 [iV 0, iV 1]] []) else (kc 50001 [] []))))))))))))))))
def s_tin {α : Type} (A : Alg α) (n : Int) (lo : Int) (hi : Int) (kc : List AV → List (Nat × List AV) → α) : α :=
  A.join (fun x0 => bif (decide (n ≥ lo)) then (x0 (decide (n ≤ hi))) else (x0 false)) fun b1 => kc [bool b1] []
def zl2 {α : Type} (A : Alg α) (x : Stp) (kc : List AV → List (Nat × List AV) → α) : α :=
  A.callx 35 [iV x.op] fun l0 => aL A 1 l0 fun l3 l2 => asN A l2 (A.loop 3 [lst .ro 1 l3, iV (↑l3.length : Int), iV 0] [[iV x.op, iV x.form, iV x.field, iV x.place, iV x.to, iV x.a, iV x.b, iV x.f.id, iV x.f.kind, iV x.f.lo, iV x.f.hi, iV x.f.most, iV x.n, str x.s, lst .ro 1 (map (fun n => iV n) x.t), lst .ro 5 (map fldV x.fields)], [iV 0, iV 0, iV 0, iV 0, iV 0, iV 0, iV 0, iV 0, iV 0, iV 0, iV 0, iV 0, iV 0, str [], lst .ro 1 [], lst .ro 5 []], [iV x.op, iV 0, iV 0, iV 0, iV 0, iV 0, iV 0, iV 0, iV 0, iV 0, iV 0, iV 0, iV 0, str [], lst .ro 1 [], lst .ro 5 []]] fun j4 l5 l6 => bif (j4.beq 1) then (asN A l5 (asC A l6 fun l7 l8 => aI A l7 fun n11 l10 => aI A l10 fun n14 l13 => aI A l13 fun n17 l16 => aI A l16 fun n20 l19 => aI A l19 fun n23 l22 => aI A l22 fun n26 l25 => aI A l25 fun n29 l28 => aI A l28 fun n32 l31 => aI A l31 fun n35 l34 => aI A l34 fun n38 l37 => aI A l37 fun n41 l40 => aI A l40 fun n44 l43 => aI A l43 fun n47 l46 => aS A l46 fun l50 l49 => aL A 1 l49 fun l53 l52 => aL A 5 l52 fun l56 l55 => asN A l55 (asC A l8 fun l57 l58 => aI A l57 fun n61 l60 => aI A l60 fun n64 l63 => aI A l63 fun n67 l66 => aI A l66 fun n70 l69 => aI A l69 fun n73 l72 => aI A l72 fun n76 l75 => aI A l75 fun n79 l78 => aI A l78 fun n82 l81 => aI A l81 fun n85 l84 => aI A l84 fun n88 l87 => aI A l87 fun n91 l90 => aI A l90 fun n94 l93 => aI A l93 fun n97 l96 => aS A l96 fun l100 l99 => aL A 1 l99 fun l103 l102 => aL A 5 l102 fun l106 l105 => asN A l105 (asN A l58 (kc [agg [iV n61, iV n64, iV n67, iV n70, iV n73, iV n76, iV n79, iV n82, iV n85, iV n88, iV n91, iV n94, iV n97, str l100, lst .ro 1 l103, lst .ro 5 l106]] []))))) else A.fail)
def zhv {α : Type} (A : Alg α) (x : Stp) (y : Stp) (z : Stp) (l : List Int) (m : Int) (i : Int) (next : List AV → List (List AV) → α) (kc : Nat → List AV → List (List AV) → α) : α :=
  bif (decide (i < m)) then (A.chk (decide ((0 : Int) ≤ i)) (nthE A (map (fun n => iV n) l) i.toNat fun v0 => asI A .i64 v0 fun n1 => bif (n1 == (0 : Int)) then (next [lst .ro 1 (map (fun n => iV n) l), iV m, iV (IntKind.i64.wrap (i + (1 : Int)))] [[iV x.op, iV x.form, iV x.field, iV x.place, iV x.to, iV x.a, iV x.b, iV x.f.id, iV x.f.kind, iV x.f.lo, iV x.f.hi, iV x.f.most, iV x.n, str x.s, lst .ro 1 (map (fun n => iV n) x.t), lst .ro 5 (map fldV x.fields)], [iV y.op, iV y.form, iV y.field, iV y.place, iV y.to, iV y.a, iV y.b, iV y.f.id, iV y.f.kind, iV y.f.lo, iV y.f.hi, iV y.f.most, iV y.n, str y.s, lst .ro 1 (map (fun n => iV n) y.t), lst .ro 5 (map fldV y.fields)], [iV z.op, iV x.form, iV z.field, iV z.place, iV z.to, iV z.a, iV z.b, iV z.f.id, iV z.f.kind, iV z.f.lo, iV z.f.hi, iV z.f.most, iV z.n, str z.s, lst .ro 1 (map (fun n => iV n) z.t), lst .ro 5 (map fldV z.fields)]]) else (bif (n1 == (1 : Int)) then (next [lst .ro 1 (map (fun n => iV n) l), iV m, iV (IntKind.i64.wrap (i + (1 : Int)))] [[iV x.op, iV x.form, iV x.field, iV x.place, iV x.to, iV x.a, iV x.b, iV x.f.id, iV x.f.kind, iV x.f.lo, iV x.f.hi, iV x.f.most, iV x.n, str x.s, lst .ro 1 (map (fun n => iV n) x.t), lst .ro 5 (map fldV x.fields)], [iV y.op, iV y.form, iV y.field, iV y.place, iV y.to, iV y.a, iV y.b, iV y.f.id, iV y.f.kind, iV y.f.lo, iV y.f.hi, iV y.f.most, iV y.n, str y.s, lst .ro 1 (map (fun n => iV n) y.t), lst .ro 5 (map fldV y.fields)], [iV z.op, iV z.form, iV x.field, iV z.place, iV z.to, iV z.a, iV z.b, iV z.f.id, iV z.f.kind, iV z.f.lo, iV z.f.hi, iV z.f.most, iV z.n, str z.s, lst .ro 1 (map (fun n => iV n) z.t), lst .ro 5 (map fldV z.fields)]]) else (bif (n1 == (2 : Int)) then (next [lst .ro 1 (map (fun n => iV n) l), iV m, iV (IntKind.i64.wrap (i + (1 : Int)))] [[iV x.op, iV x.form, iV x.field, iV x.place, iV x.to, iV x.a, iV x.b, iV x.f.id, iV x.f.kind, iV x.f.lo, iV x.f.hi, iV x.f.most, iV x.n, str x.s, lst .ro 1 (map (fun n => iV n) x.t), lst .ro 5 (map fldV x.fields)], [iV y.op, iV y.form, iV y.field, iV y.place, iV y.to, iV y.a, iV y.b, iV y.f.id, iV y.f.kind, iV y.f.lo, iV y.f.hi, iV y.f.most, iV y.n, str y.s, lst .ro 1 (map (fun n => iV n) y.t), lst .ro 5 (map fldV y.fields)], [iV z.op, iV z.form, iV z.field, iV x.place, iV z.to, iV z.a, iV z.b, iV z.f.id, iV z.f.kind, iV z.f.lo, iV z.f.hi, iV z.f.most, iV z.n, str z.s, lst .ro 1 (map (fun n => iV n) z.t), lst .ro 5 (map fldV z.fields)]]) else (bif (n1 == (3 : Int)) then (next [lst .ro 1 (map (fun n => iV n) l), iV m, iV (IntKind.i64.wrap (i + (1 : Int)))] [[iV x.op, iV x.form, iV x.field, iV x.place, iV x.to, iV x.a, iV x.b, iV x.f.id, iV x.f.kind, iV x.f.lo, iV x.f.hi, iV x.f.most, iV x.n, str x.s, lst .ro 1 (map (fun n => iV n) x.t), lst .ro 5 (map fldV x.fields)], [iV y.op, iV y.form, iV y.field, iV y.place, iV y.to, iV y.a, iV y.b, iV y.f.id, iV y.f.kind, iV y.f.lo, iV y.f.hi, iV y.f.most, iV y.n, str y.s, lst .ro 1 (map (fun n => iV n) y.t), lst .ro 5 (map fldV y.fields)], [iV z.op, iV z.form, iV z.field, iV z.place, iV x.to, iV z.a, iV z.b, iV z.f.id, iV z.f.kind, iV z.f.lo, iV z.f.hi, iV z.f.most, iV z.n, str z.s, lst .ro 1 (map (fun n => iV n) z.t), lst .ro 5 (map fldV z.fields)]]) else (bif (n1 == (5 : Int)) then (next [lst .ro 1 (map (fun n => iV n) l), iV m, iV (IntKind.i64.wrap (i + (1 : Int)))] [[iV x.op, iV x.form, iV x.field, iV x.place, iV x.to, iV x.a, iV x.b, iV x.f.id, iV x.f.kind, iV x.f.lo, iV x.f.hi, iV x.f.most, iV x.n, str x.s, lst .ro 1 (map (fun n => iV n) x.t), lst .ro 5 (map fldV x.fields)], [iV y.op, iV y.form, iV y.field, iV y.place, iV y.to, iV y.a, iV y.b, iV y.f.id, iV y.f.kind, iV y.f.lo, iV y.f.hi, iV y.f.most, iV y.n, str y.s, lst .ro 1 (map (fun n => iV n) y.t), lst .ro 5 (map fldV y.fields)], [iV z.op, iV z.form, iV z.field, iV z.place, iV z.to, iV x.a, iV x.b, iV z.f.id, iV z.f.kind, iV z.f.lo, iV z.f.hi, iV z.f.most, iV z.n, str z.s, lst .ro 1 (map (fun n => iV n) z.t), lst .ro 5 (map fldV z.fields)]]) else (bif (n1 == (4 : Int)) then (next [lst .ro 1 (map (fun n => iV n) l), iV m, iV (IntKind.i64.wrap (i + (1 : Int)))] [[iV x.op, iV x.form, iV x.field, iV x.place, iV x.to, iV x.a, iV x.b, iV x.f.id, iV x.f.kind, iV x.f.lo, iV x.f.hi, iV x.f.most, iV x.n, str x.s, lst .ro 1 (map (fun n => iV n) x.t), lst .ro 5 (map fldV x.fields)], [iV y.op, iV y.form, iV y.field, iV y.place, iV y.to, iV y.a, iV y.b, iV y.f.id, iV y.f.kind, iV y.f.lo, iV y.f.hi, iV y.f.most, iV y.n, str y.s, lst .ro 1 (map (fun n => iV n) y.t), lst .ro 5 (map fldV y.fields)], [iV z.op, iV z.form, iV z.field, iV z.place, iV z.to, iV x.a, iV z.b, iV z.f.id, iV z.f.kind, iV z.f.lo, iV z.f.hi, iV z.f.most, iV z.n, str z.s, lst .ro 1 (map (fun n => iV n) z.t), lst .ro 5 (map fldV z.fields)]]) else (bif (n1 == (6 : Int)) then (next [lst .ro 1 (map (fun n => iV n) l), iV m, iV (IntKind.i64.wrap (i + (1 : Int)))] [[iV x.op, iV x.form, iV x.field, iV x.place, iV x.to, iV x.a, iV x.b, iV x.f.id, iV x.f.kind, iV x.f.lo, iV x.f.hi, iV x.f.most, iV x.n, str x.s, lst .ro 1 (map (fun n => iV n) x.t), lst .ro 5 (map fldV x.fields)], [iV y.op, iV y.form, iV y.field, iV y.place, iV y.to, iV y.a, iV y.b, iV y.f.id, iV y.f.kind, iV y.f.lo, iV y.f.hi, iV y.f.most, iV y.n, str y.s, lst .ro 1 (map (fun n => iV n) y.t), lst .ro 5 (map fldV y.fields)], [iV z.op, iV z.form, iV z.field, iV z.place, iV z.to, iV z.a, iV z.b, iV x.f.id, iV x.f.kind, iV x.f.lo, iV x.f.hi, iV x.f.most, iV z.n, str z.s, lst .ro 1 (map (fun n => iV n) z.t), lst .ro 5 (map fldV z.fields)]]) else (bif (n1 == (7 : Int)) then (next [lst .ro 1 (map (fun n => iV n) l), iV m, iV (IntKind.i64.wrap (i + (1 : Int)))] [[iV x.op, iV x.form, iV x.field, iV x.place, iV x.to, iV x.a, iV x.b, iV x.f.id, iV x.f.kind, iV x.f.lo, iV x.f.hi, iV x.f.most, iV x.n, str x.s, lst .ro 1 (map (fun n => iV n) x.t), lst .ro 5 (map fldV x.fields)], [iV y.op, iV y.form, iV y.field, iV y.place, iV y.to, iV y.a, iV y.b, iV y.f.id, iV y.f.kind, iV y.f.lo, iV y.f.hi, iV y.f.most, iV y.n, str y.s, lst .ro 1 (map (fun n => iV n) y.t), lst .ro 5 (map fldV y.fields)], [iV z.op, iV z.form, iV z.field, iV z.place, iV z.to, iV z.a, iV z.b, iV z.f.id, iV z.f.kind, iV z.f.lo, iV z.f.hi, iV z.f.most, iV x.n, str x.s, lst .ro 1 (map (fun n => iV n) z.t), lst .ro 5 (map fldV z.fields)]]) else (bif (n1 == (8 : Int)) then (next [lst .ro 1 (map (fun n => iV n) l), iV m, iV (IntKind.i64.wrap (i + (1 : Int)))] [[iV x.op, iV x.form, iV x.field, iV x.place, iV x.to, iV x.a, iV x.b, iV x.f.id, iV x.f.kind, iV x.f.lo, iV x.f.hi, iV x.f.most, iV x.n, str x.s, lst .ro 1 (map (fun n => iV n) x.t), lst .ro 5 (map fldV x.fields)], [iV y.op, iV y.form, iV y.field, iV y.place, iV y.to, iV y.a, iV y.b, iV y.f.id, iV y.f.kind, iV y.f.lo, iV y.f.hi, iV y.f.most, iV y.n, str y.s, lst .ro 1 (map (fun n => iV n) y.t), lst .ro 5 (map fldV y.fields)], [iV z.op, iV z.form, iV z.field, iV z.place, iV z.to, iV z.a, iV z.b, iV z.f.id, iV z.f.kind, iV z.f.lo, iV z.f.hi, iV z.f.most, iV z.n, str z.s, lst .ro 1 (map (fun n => iV n) x.t), lst .ro 5 (map fldV z.fields)]]) else (bif (n1 == (9 : Int)) then (next [lst .ro 1 (map (fun n => iV n) l), iV m, iV (IntKind.i64.wrap (i + (1 : Int)))] [[iV x.op, iV x.form, iV x.field, iV x.place, iV x.to, iV x.a, iV x.b, iV x.f.id, iV x.f.kind, iV x.f.lo, iV x.f.hi, iV x.f.most, iV x.n, str x.s, lst .ro 1 (map (fun n => iV n) x.t), lst .ro 5 (map fldV x.fields)], [iV y.op, iV y.form, iV y.field, iV y.place, iV y.to, iV y.a, iV y.b, iV y.f.id, iV y.f.kind, iV y.f.lo, iV y.f.hi, iV y.f.most, iV y.n, str y.s, lst .ro 1 (map (fun n => iV n) y.t), lst .ro 5 (map fldV y.fields)], [iV z.op, iV z.form, iV z.field, iV z.place, iV z.to, iV z.a, iV z.b, iV z.f.id, iV z.f.kind, iV z.f.lo, iV z.f.hi, iV z.f.most, iV z.n, str z.s, lst .ro 1 (map (fun n => iV n) z.t), lst .ro 5 (map fldV x.fields)]]) else (next [lst .ro 1 (map (fun n => iV n) l), iV m, iV (IntKind.i64.wrap (i + (1 : Int)))] [[iV x.op, iV x.form, iV x.field, iV x.place, iV x.to, iV x.a, iV x.b, iV x.f.id, iV x.f.kind, iV x.f.lo, iV x.f.hi, iV x.f.most, iV x.n, str x.s, lst .ro 1 (map (fun n => iV n) x.t), lst .ro 5 (map fldV x.fields)], [iV y.op, iV y.form, iV y.field, iV y.place, iV y.to, iV y.a, iV y.b, iV y.f.id, iV y.f.kind, iV y.f.lo, iV y.f.hi, iV y.f.most, iV y.n, str y.s, lst .ro 1 (map (fun n => iV n) y.t), lst .ro 5 (map fldV y.fields)], [iV z.op, iV z.form, iV z.field, iV z.place, iV z.to, iV z.a, iV z.b, iV z.f.id, iV z.f.kind, iV z.f.lo, iV z.f.hi, iV z.f.most, iV z.n, str z.s, lst .ro 1 (map (fun n => iV n) z.t), lst .ro 5 (map fldV z.fields)]])))))))))))) else (kc 1 [] [[iV y.op, iV y.form, iV y.field, iV y.place, iV y.to, iV y.a, iV y.b, iV y.f.id, iV y.f.kind, iV y.f.lo, iV y.f.hi, iV y.f.most, iV y.n, str y.s, lst .ro 1 (map (fun n => iV n) y.t), lst .ro 5 (map fldV y.fields)], [iV z.op, iV z.form, iV z.field, iV z.place, iV z.to, iV z.a, iV z.b, iV z.f.id, iV z.f.kind, iV z.f.lo, iV z.f.hi, iV z.f.most, iV z.n, str z.s, lst .ro 1 (map (fun n => iV n) z.t), lst .ro 5 (map fldV z.fields)]])
def zhw {α : Type} (A : Alg α) (l : List Int) (below : Int) (kc : List AV → List (Nat × List AV) → α) : α :=
  A.loop 3 [lst .ro 1 (map (fun n => iV n) l), iV below, lst .ro 1 (map (fun n => iV n) l), iV (↑(map (fun n => iV n) l).length : Int), iV 0] [(List.replicate 1000 (bool false))] fun j0 l1 l2 => bif (j0.beq 0) then (aB A l1 fun b5 l4 => asN A l4 (asN A l2 (kc [bool b5] []))) else (bif (j0.beq 1) then (aL A 1 l1 fun l8 l7 => asN A l7 (asN A l2 (A.callx 58 [iV (↑l8.length : Int), iV 1, iV 64] fun l9 => aB A l9 fun b12 l11 => asN A l11 (kc [bool b12] [])))) else A.fail)
def z92 {α : Type} (A : Alg α) (l : List Int) (below : Int) (m : Int) (i : Int) (seen : List Bool) (next : List AV → List (List AV) → α) (kc : Nat → List AV → List (List AV) → α) : α :=
  bif (decide (i < m)) then (A.chk (decide ((0 : Int) ≤ i)) (nthE A (map (fun n => iV n) l) i.toNat fun v0 => asI A .i64 v0 fun n1 => A.join (fun x2 => A.callx 58 [iV n1, iV 0, iV (IntKind.i64.wrap (below - (1 : Int)))] fun l3 => aB A l3 fun b6 l5 => asN A l5 (bif (!b6) then (x2 true) else (A.chk (decide ((0 : Int) ≤ n1) && decide (n1 < (↑(1000 : Nat) : Int))) (nthE A (map bool seen) ((0 : Nat) + n1.toNat * 1) fun v7 => asB A v7 fun b8 => x2 b8)))) fun b9 => bif b9 then (kc 0 [bool false] []) else (A.chk (decide ((0 : Int) ≤ n1) && decide (n1 < (↑(1000 : Nat) : Int))) (A.chk (((0 : Nat) + n1.toNat * 1 + (1 : Nat)).ble (map bool seen).length) (A.chk ((setAt (map bool seen) ((0 : Nat) + n1.toNat * 1) [bool true]).all AV.flat1) (next [lst .ro 1 (map (fun n => iV n) l), iV below, lst .ro 1 (map (fun n => iV n) l), iV m, iV (IntKind.i64.wrap (i + (1 : Int)))] [(setAt (map bool seen) ((0 : Nat) + n1.toNat * 1) [bool true])])))))) else (kc 1 [lst .ro 1 (map (fun n => iV n) l)] [])
def zl3 {α : Type} (A : Alg α) (x : Stp) (p : Int) (kc : List AV → List (Nat × List AV) → α) : α :=
  bif (p == (0 : Int)) then (A.callx 58 [iV x.form, iV 0, iV 200] fun l0 => aB A l0 fun b3 l2 => asN A l2 (kc [bool b3] [])) else (bif (p == (1 : Int)) then (A.callx 58 [iV x.field, iV 0, iV 255] fun l4 => aB A l4 fun b7 l6 => asN A l6 (kc [bool b7] [])) else (bif (p == (2 : Int)) then (A.callx 58 [iV x.place, iV 0, iV 8] fun l8 => aB A l8 fun b11 l10 => asN A l10 (kc [bool b11] [])) else (bif (p == (3 : Int)) then (A.join (fun x12 => A.callx 58 [iV x.to, iV 0, iV 255] fun l13 => aB A l13 fun b16 l15 => asN A l15 (bif b16 then (x12 (x.to != x.field)) else (x12 false))) fun b17 => kc [bool b17] []) else (bif (p == (4 : Int)) then (A.join (fun x18 => bif (x.op == (5 : Int)) then (A.callx 58 [iV x.a, iV 1, iV 1000] fun l19 => aB A l19 fun b22 l21 => asN A l21 (bif b22 then (x18 true) else (bif (x.op != (5 : Int)) then (A.callx 58 [iV x.a, iV 2, iV 1048576] fun l23 => aB A l23 fun b26 l25 => asN A l25 (x18 b26)) else (x18 false)))) else (bif (x.op != (5 : Int)) then (A.callx 58 [iV x.a, iV 2, iV 1048576] fun l27 => aB A l27 fun b30 l29 => asN A l29 (x18 b30)) else (x18 false))) fun b31 => kc [bool b31] []) else (bif (p == (5 : Int)) then (A.join (fun x32 => A.callx 58 [iV x.a, iV (-1048576), iV 1048576] fun l33 => aB A l33 fun b36 l35 => asN A l35 (bif b36 then (bif (x.a != (0 : Int)) then (A.callx 58 [iV x.b, iV (-1099511627776), iV 1099511627776] fun l37 => aB A l37 fun b40 l39 => asN A l39 (x32 b40)) else (x32 false)) else (x32 false))) fun b41 => kc [bool b41] []) else (bif (p == (6 : Int)) then (A.join (fun x42 => bif (x.op == (1 : Int)) then (x42 true) else (bif (x.op == (22 : Int)) then (x42 true) else (x42 (x.f.id == x.field)))) fun b43 => A.join (fun x44 => A.callx 30 [agg [iV x.f.id, iV x.f.kind, iV x.f.lo, iV x.f.hi, iV x.f.most]] fun l45 => aB A l45 fun b48 l47 => asN A l47 (bif b48 then (x44 b43) else (x44 false))) fun b49 => kc [bool b49] []) else (bif (p == (7 : Int)) then (bif (x.op == (2 : Int)) then (A.join (fun x50 => A.callx 58 [iV x.n, iV (-1099511627776), iV 1099511627776] fun l51 => aB A l51 fun b54 l53 => asN A l53 (bif b54 then (x50 (decide ((↑x.s.length : Int) ≤ (32 : Int)))) else (x50 false))) fun b55 => kc [bool b55] []) else (A.callx 59 [agg [iV x.f.id, iV x.f.kind, iV x.f.lo, iV x.f.hi, iV x.f.most], agg [iV x.n, str x.s]] fun l56 => aB A l56 fun b59 l58 => asN A l58 (kc [bool b59] []))) else (bif (p == (8 : Int)) then (bif (x.op == (5 : Int)) then (A.callx 60 [lst .ro 1 (map (fun n => iV n) x.t), iV x.a] fun l60 => aB A l60 fun b63 l62 => asN A l62 (kc [bool b63] [])) else (A.callx 60 [lst .ro 1 (map (fun n => iV n) x.t), iV 1000] fun l64 => aB A l64 fun b67 l66 => asN A l66 (kc [bool b67] []))) else (A.callx 20 [agg [iV x.form, lst .ro 5 (map fldV x.fields)]] fun l68 => aB A l68 fun b71 l70 => asN A l70 (kc [bool b71] []))))))))))
def zhx {α : Type} (A : Alg α) (x : Stp) (kc : List AV → List (Nat × List AV) → α) : α :=
  A.callx 35 [iV x.op] fun l0 => aL A 1 l0 fun l3 l2 => asN A l2 (A.loop 3 [lst .ro 1 l3, lst .ro 1 l3, iV (↑l3.length : Int), iV 0] [[iV x.op, iV x.form, iV x.field, iV x.place, iV x.to, iV x.a, iV x.b, iV x.f.id, iV x.f.kind, iV x.f.lo, iV x.f.hi, iV x.f.most, iV x.n, str x.s, lst .ro 1 (map (fun n => iV n) x.t), lst .ro 5 (map fldV x.fields)]] fun j4 l5 l6 => bif (j4.beq 0) then (aB A l5 fun b9 l8 => asN A l8 (asN A l6 (kc [bool b9] []))) else (bif (j4.beq 1) then (aL A 1 l5 fun l12 l11 => asN A l11 (asC A l6 fun l13 l14 => aI A l13 fun n17 l16 => aI A l16 fun n20 l19 => aI A l19 fun n23 l22 => aI A l22 fun n26 l25 => aI A l25 fun n29 l28 => aI A l28 fun n32 l31 => aI A l31 fun n35 l34 => aI A l34 fun n38 l37 => aI A l37 fun n41 l40 => aI A l40 fun n44 l43 => aI A l43 fun n47 l46 => aI A l46 fun n50 l49 => aI A l49 fun n53 l52 => aS A l52 fun l56 l55 => aL A 1 l55 fun l59 l58 => aL A 5 l58 fun l62 l61 => asN A l61 (asN A l14 (bif (decide ((↑l12.length : Int) > (0 : Int))) then (A.callx 37 [agg [iV n17, iV n20, iV n23, iV n26, iV n29, iV n32, iV n35, iV n38, iV n41, iV n44, iV n47, iV n50, iV n53, str l56, lst .ro 1 l59, lst .ro 5 l62]] fun l63 => aA A l63 fun l66 l65 => aI A l66 fun n69 l68 => aI A l68 fun n72 l71 => aI A l71 fun n75 l74 => aI A l74 fun n78 l77 => aI A l77 fun n81 l80 => aI A l80 fun n84 l83 => aI A l83 fun n87 l86 => aI A l86 fun n90 l89 => aI A l89 fun n93 l92 => aI A l92 fun n96 l95 => aI A l95 fun n99 l98 => aI A l98 fun n102 l101 => aI A l101 fun n105 l104 => aS A l104 fun l108 l107 => aL A 1 l107 fun l111 l110 => aL A 5 l110 fun l114 l113 => asN A l113 (asN A l65 (A.callx 34 [agg [iV n17, iV n20, iV n23, iV n26, iV n29, iV n32, iV n35, iV n38, iV n41, iV n44, iV n47, iV n50, iV n53, str l56, lst .ro 1 l59, lst .ro 5 l62], agg [iV n69, iV n72, iV n75, iV n78, iV n81, iV n84, iV n87, iV n90, iV n93, iV n96, iV n99, iV n102, iV n105, str l108, lst .ro 1 l111, lst .ro 5 l114]] fun l115 => aB A l115 fun b118 l117 => asN A l117 (kc [bool b118] [])))) else (kc [bool false] []))))) else A.fail))
def z93 {α : Type} (A : Alg α) (x : Stp) (l : List Int) (q : List Int) (m : Int) (i : Int) (next : List AV → List (List AV) → α) (kc : Nat → List AV → List (List AV) → α) : α :=
  bif (decide (i < m)) then (A.chk (decide ((0 : Int) ≤ i)) (nthE A (map (fun n => iV n) q) i.toNat fun v0 => asI A .i64 v0 fun n1 => A.callx 36 [agg [iV x.op, iV x.form, iV x.field, iV x.place, iV x.to, iV x.a, iV x.b, iV x.f.id, iV x.f.kind, iV x.f.lo, iV x.f.hi, iV x.f.most, iV x.n, str x.s, lst .ro 1 (map (fun n => iV n) x.t), lst .ro 5 (map fldV x.fields)], iV n1] fun l2 => aB A l2 fun b5 l4 => asN A l4 (bif (!b5) then (kc 0 [bool false] []) else (next [lst .ro 1 (map (fun n => iV n) l), lst .ro 1 (map (fun n => iV n) q), iV m, iV (IntKind.i64.wrap (i + (1 : Int)))] [[iV x.op, iV x.form, iV x.field, iV x.place, iV x.to, iV x.a, iV x.b, iV x.f.id, iV x.f.kind, iV x.f.lo, iV x.f.hi, iV x.f.most, iV x.n, str x.s, lst .ro 1 (map (fun n => iV n) x.t), lst .ro 5 (map fldV x.fields)]])))) else (kc 1 [lst .ro 1 (map (fun n => iV n) l)] [[iV x.op, iV x.form, iV x.field, iV x.place, iV x.to, iV x.a, iV x.b, iV x.f.id, iV x.f.kind, iV x.f.lo, iV x.f.hi, iV x.f.most, iV x.n, str x.s, lst .ro 1 (map (fun n => iV n) x.t), lst .ro 5 (map fldV x.fields)]])
def zl4 {α : Type} (A : Alg α) (x : Stp) (y : Stp) (kc : List AV → List (Nat × List AV) → α) : α :=
  A.join (fun x0 => A.callx 57 [lst .ro 1 (map (fun n => iV n) x.t), lst .ro 1 (map (fun n => iV n) y.t)] fun l1 => aB A l1 fun b4 l3 => asN A l3 (bif b4 then (A.callx 18 [lst .ro 5 (map fldV x.fields), lst .ro 5 (map fldV y.fields)] fun l5 => aB A l5 fun b8 l7 => asN A l7 (x0 b8)) else (x0 false))) fun b9 => A.join (fun x10 => bif b9 then (bif (IntKind.i64.wrap (x.op - y.op) == (0 : Int) && (IntKind.i64.wrap (x.form - y.form) == (0 : Int) && (IntKind.i64.wrap (x.field - y.field) == (0 : Int) && (IntKind.i64.wrap (x.place - y.place) == (0 : Int) && (IntKind.i64.wrap (x.to - y.to) == (0 : Int) && (IntKind.i64.wrap (x.a - y.a) == (0 : Int) && (IntKind.i64.wrap (x.b - y.b) == (0 : Int) && true))))))) then (bif (x.f.id == y.f.id && (x.f.kind == y.f.kind && (x.f.lo == y.f.lo && (x.f.hi == y.f.hi && (x.f.most == y.f.most && true))))) then (x10 (x.n == y.n && (x.s == y.s && true))) else (x10 false)) else (x10 false)) else (x10 false)) fun b11 => kc [bool b11] []
def zhy {α : Type} (A : Alg α) (a : List Int) (b : List Int) (kc : List AV → List (Nat × List AV) → α) : α :=
  bif ((↑(map (fun n => iV n) a).length : Int) != (↑(map (fun n => iV n) b).length : Int)) then (kc [bool false] []) else (A.loop 4 [lst .ro 1 (map (fun n => iV n) a), lst .ro 1 (map (fun n => iV n) b), iV (↑(map (fun n => iV n) a).length : Int), iV 0] [] fun j0 l1 l2 => bif (j0.beq 0) then (aB A l1 fun b5 l4 => asN A l4 (asN A l2 (kc [bool b5] []))) else (bif (j0.beq 1) then (asN A l1 (asN A l2 (kc [bool true] []))) else A.fail))
def z94 {α : Type} (A : Alg α) (a : List Int) (b : List Int) (m : Int) (i : Int) (next : List AV → List (List AV) → α) (kc : Nat → List AV → List (List AV) → α) : α :=
  bif (decide (i < m)) then (A.chk (decide ((0 : Int) ≤ i)) (nthE A (map (fun n => iV n) a) i.toNat fun v0 => asI A .i64 v0 fun n1 => A.chk (decide ((0 : Int) ≤ i)) (nthE A (map (fun n => iV n) b) i.toNat fun v2 => asI A .i64 v2 fun n3 => bif (n1 != n3) then (kc 0 [bool false] []) else (next [lst .ro 1 (map (fun n => iV n) a), lst .ro 1 (map (fun n => iV n) b), iV m, iV (IntKind.i64.wrap (i + (1 : Int)))] [])))) else (kc 1 [] [])
def zoe {α : Type} (A : Alg α) (f : Fld) (n : Int) (s : List UInt8) (kc : List AV → List (Nat × List AV) → α) : α :=
  A.callx 78 [agg [iV f.id, iV f.kind, iV f.lo, iV f.hi, iV f.most]] fun l0 => aI A l0 fun n3 l2 => aI A l2 fun n6 l5 => asN A l5 (bif (f.kind == (4 : Int)) then (A.join (fun x7 => A.callx 30 [agg [iV f.id, iV f.kind, iV f.lo, iV f.hi, iV f.most]] fun l8 => aB A l8 fun b11 l10 => asN A l10 (bif b11 then (bif (decide (n ≥ n3)) then (bif (decide (n ≤ n6)) then (x7 (decide ((↑s.length : Int) ≤ f.most))) else (x7 false)) else (x7 false)) else (x7 false))) fun b12 => kc [bool b12] []) else (A.join (fun x13 => A.callx 30 [agg [iV f.id, iV f.kind, iV f.lo, iV f.hi, iV f.most]] fun l14 => aB A l14 fun b17 l16 => asN A l16 (bif b17 then (bif (decide (n ≥ n3)) then (bif (decide (n ≤ n6)) then (x13 (decide ((↑s.length : Int) ≤ (0 : Int)))) else (x13 false)) else (x13 false)) else (x13 false))) fun b18 => kc [bool b18] []))
def zhz {α : Type} (A : Alg α) (l : List Stp) (kc : List AV → List (Nat × List AV) → α) : α :=
  A.loop 2 [lst .ro 16 (map stpV l), iV 0] [] fun j0 l1 l2 => bif (j0.beq 0) then (aB A l1 fun b5 l4 => asN A l4 (asN A l2 (kc [bool b5] []))) else (bif (j0.beq 1) then (aL A 16 l1 fun l8 l7 => asN A l7 (asN A l2 (kc [bool (decide ((↑l8.length : Int) > (60 : Int)))] []))) else A.fail)
def z67 {α : Type} (A : Alg α) (l : List Stp) (i : Int) (next : List AV → List (List AV) → α) (kc : Nat → List AV → List (List AV) → α) : α :=
  A.join (fun x0 => bif (decide (i < (↑(map stpV l).length : Int))) then (x0 (decide (i < (61 : Int)))) else (x0 false)) fun b1 => bif b1 then (A.join (fun x2 => A.chk (decide ((0 : Int) ≤ i)) (nthE A (map stpV l) i.toNat fun v3 => asA A v3 fun l4 => aI A l4 fun n7 l6 => aI A l6 fun n10 l9 => aI A l9 fun n13 l12 => aI A l12 fun n16 l15 => aI A l15 fun n19 l18 => aI A l18 fun n22 l21 => aI A l21 fun n25 l24 => aI A l24 fun n28 l27 => aI A l27 fun n31 l30 => aI A l30 fun n34 l33 => aI A l33 fun n37 l36 => aI A l36 fun n40 l39 => aI A l39 fun n43 l42 => aS A l42 fun l46 l45 => aL A 1 l45 fun l49 l48 => aL A 5 l48 fun l52 l51 => asN A l51 (bif (decide ((↑l49.length : Int) > (100 : Int))) then (x2 true) else (A.chk (decide ((0 : Int) ≤ i)) (nthE A (map stpV l) i.toNat fun v53 => asA A v53 fun l54 => aI A l54 fun n57 l56 => aI A l56 fun n60 l59 => aI A l59 fun n63 l62 => aI A l62 fun n66 l65 => aI A l65 fun n69 l68 => aI A l68 fun n72 l71 => aI A l71 fun n75 l74 => aI A l74 fun n78 l77 => aI A l77 fun n81 l80 => aI A l80 fun n84 l83 => aI A l83 fun n87 l86 => aI A l86 fun n90 l89 => aI A l89 fun n93 l92 => aS A l92 fun l96 l95 => aL A 1 l95 fun l99 l98 => aL A 5 l98 fun l102 l101 => asN A l101 (x2 (decide ((↑l102.length : Int) > (40 : Int))))))))) fun b103 => bif b103 then (kc 0 [bool true] []) else (next [lst .ro 16 (map stpV l), iV (IntKind.i64.wrap (i + (1 : Int)))] [])) else (kc 1 [lst .ro 16 (map stpV l)] [])
theorem ztp (op : Int) {r : CR} (h : zl1 (OA (tbl E0) (ltbl E0 35 0)) op (fun r o => some (r, o)) = some r) : tbl E0 35 [iV op] [] = some r :=
  tblF Try.func35 h
theorem zr5 (op : Int) (b : Bool) {r : LR} (h : zht (OA (tbl E0) (ltbl E0 35 0)) op b (fun vs os => ltbl E0 35 0 1000004 vs os) (fun j vs os => some (j, vs, os)) = some r) : ltbl E0 35 0 1000004 [iV op, .bool b] [] = some r :=
  ltblF Try.func35 h
theorem zr6 (op : Int) (b : Bool) {r : LR} (h : zhu (OA (tbl E0) (ltbl E0 35 0)) op b (fun vs os => ltbl E0 35 0 1000009 vs os) (fun j vs os => some (j, vs, os)) = some r) : ltbl E0 35 0 1000009 [iV op, .bool b] [] = some r :=
  ltblF Try.func35 h
theorem t_tin (n lo hi : Int) {r : CR} (h : s_tin (OA (tbl E0) (ltbl E0 58 0)) n lo hi (fun r o => some (r, o)) = some r) : tbl E0 58 [iV n, iV lo, iV hi] [] = some r :=
  tblF Try.func58 h
theorem ztq (x : Stp) {r : CR} (h : zl2 (OA (tbl E0) (ltbl E0 37 0)) x (fun r o => some (r, o)) = some r) : tbl E0 37 [stpV x] [] = some r :=
  tblF Try.func37 h
theorem zr7 (x y z : Stp) (l : List Int) (m i : Int) {r : LR} (h : zhv (OA (tbl E0) (ltbl E0 37 0)) x y z l m i (fun vs os => ltbl E0 37 0 3 vs os) (fun j vs os => some (j, vs, os)) = some r) : ltbl E0 37 0 3 [intsV l, iV m, iV i] [stpC x, stpC y, stpC z] = some r :=
  ltblF Try.func37 h
theorem zr8 (l : List Int) (below : Int) {r : CR} (h : zhw (OA (tbl E0) (ltbl E0 60 0)) l below (fun r o => some (r, o)) = some r) : tbl E0 60 [intsV l, iV below] [] = some r :=
  tblF Try.func60 h
theorem zew (l : List Int) (below m i : Int) (seen : List Bool) {r : LR} (h : z92 (OA (tbl E0) (ltbl E0 60 0)) l below m i seen (fun vs os => ltbl E0 60 0 3 vs os) (fun j vs os => some (j, vs, os)) = some r) : ltbl E0 60 0 3 [intsV l, iV below, intsV l, iV m, iV i] [seen.map AV.bool] = some r :=
  ltblF Try.func60 h
theorem ztr (x : Stp) (p : Int) {r : CR} (h : zl3 (OA (tbl E0) (ltbl E0 36 0)) x p (fun r o => some (r, o)) = some r) : tbl E0 36 [stpV x, iV p] [] = some r :=
  tblF Try.func36 h
theorem zr9 (x : Stp) {r : CR} (h : zhx (OA (tbl E0) (ltbl E0 24 0)) x (fun r o => some (r, o)) = some r) : tbl E0 24 [stpV x] [] = some r :=
  tblF Try.func24 h
theorem zex (x : Stp) (l q : List Int) (m i : Int) {r : LR} (h : z93 (OA (tbl E0) (ltbl E0 24 0)) x l q m i (fun vs os => ltbl E0 24 0 3 vs os) (fun j vs os => some (j, vs, os)) = some r) : ltbl E0 24 0 3 [intsV l, intsV q, iV m, iV i] [stpC x] = some r :=
  ltblF Try.func24 h
theorem zts (x y : Stp) {r : CR} (h : zl4 (OA (tbl E0) (ltbl E0 34 0)) x y (fun r o => some (r, o)) = some r) : tbl E0 34 [stpV x, stpV y] [] = some r :=
  tblF Try.func34 h
theorem zra (a b : List Int) {r : CR} (h : zhy (OA (tbl E0) (ltbl E0 57 0)) a b (fun r o => some (r, o)) = some r) : tbl E0 57 [intsV a, intsV b] [] = some r :=
  tblF Try.func57 h
theorem zey (a b : List Int) (m i : Int) {r : LR} (h : z94 (OA (tbl E0) (ltbl E0 57 0)) a b m i (fun vs os => ltbl E0 57 0 4 vs os) (fun j vs os => some (j, vs, os)) = some r) : ltbl E0 57 0 4 [intsV a, intsV b, iV m, iV i] [] = some r :=
  ltblF Try.func57 h
theorem zvs (f : Fld) (n : Int) (s : List UInt8) {r : CR} (h : zoe (OA (tbl E0) (ltbl E0 59 0)) f n s (fun r o => some (r, o)) = some r) : tbl E0 59 [fldV f, .agg [iV n, .str s]] [] = some r :=
  tblF Try.func59 h
theorem zrb (l : List Stp) {r : CR} (h : zhz (OA (tbl E0) (ltbl E0 19 0)) l (fun r o => some (r, o)) = some r) : tbl E0 19 [stpsV l] [] = some r :=
  tblF Try.func19 h
theorem z95 (l : List Stp) (i : Int) {r : LR} (h : z67 (OA (tbl E0) (ltbl E0 19 0)) l i (fun vs os => ltbl E0 19 0 2 vs os) (fun j vs os => some (j, vs, os)) = some r) : ltbl E0 19 0 2 [stpsV l, iV i] [] = some r :=
  ltblF Try.func19 h
end Go.Proofs.Ytjkjhgfiaodgmaa.V
namespace Go.Proofs.Ytjkjhgfiaodgmaa.V
open Go
open AV (int lst agg str bool ref clo)
open List (map)
-- folds: dbl
-- folds: cse
noncomputable def zbg {α : Type} (A : Alg α) (l : List Int) (kc : List AV → List (Nat × List AV) → α) : α :=
  nilEq A Md.ro (map (fun n => iV n) l) fun b0 => bif b0 then (kc [lst .ro 1 []] []) else (A.chk (decide (((0 : Nat) + (map (fun n => iV n) l).length) * 8 ≤ 211106232532992)) (kc [lst .ro 1 (map (fun n => iV n) l)] []))
noncomputable def zdy {α : Type} (A : Alg α) (s : Sch) (x : Stp) (kc : List AV → List (Nat × List AV) → α) : α :=
  A.callx 77 [agg [iV s.ver, lst .ro 2 (map frmV s.forms)], iV x.form] fun l0 => aA A l0 fun l3 l2 => aI A l3 fun n6 l5 => aL A 5 l5 fun l9 l8 => asN A l8 (aB A l2 fun b12 l11 => asN A l11 (A.callx 39 [agg [iV n6, lst .ro 5 l9], iV x.field] fun l13 => aI A l13 fun n16 l15 => asN A l15 (bif (decide (n16 ≥ (0 : Int))) then (A.chk (decide ((0 : Int) ≤ n16)) (nthE A l9 n16.toNat fun v17 => asA A v17 fun l18 => aI A l18 fun n21 l20 => aI A l20 fun n24 l23 => aI A l23 fun n27 l26 => aI A l26 fun n30 l29 => aI A l29 fun n33 l32 => asN A l32 (kc [agg [iV n21, iV n24, iV n27, iV n30, iV n33], iV n16] []))) else (kc [agg [iV 0, iV 0, iV 0, iV 0, iV 0], iV 0] []))))
noncomputable def z96 {α : Type} (A : Alg α) (s : Sch) (x : Stp) (kc : List AV → List (Nat × List AV) → α) : α :=
  A.callx 14 [agg [iV s.ver, lst .ro 2 (map frmV s.forms)], agg [iV x.op, iV x.form, iV x.field, iV x.place, iV x.to, iV x.a, iV x.b, iV x.f.id, iV x.f.kind, iV x.f.lo, iV x.f.hi, iV x.f.most, iV x.n, str x.s, lst .ro 1 (map (fun n => iV n) x.t), lst .ro 5 (map fldV x.fields)]] fun l0 => aA A l0 fun l3 l2 => aI A l3 fun n6 l5 => aL A 2 l5 fun l9 l8 => asN A l8 (aI A l2 fun n12 l11 => asN A l11 (bif (n12 != (0 : Int)) then (kc [agg [iV 0, iV 0, iV 0, iV 0, iV 0, iV 0, iV 0, iV 0, iV 0, iV 0, iV 0, iV 0, iV 0, str [], lst .ro 1 [], lst .ro 5 []], iV n12] []) else (A.callx 75 [agg [iV s.ver, lst .ro 2 (map frmV s.forms)], agg [iV x.op, iV x.form, iV x.field, iV x.place, iV x.to, iV x.a, iV x.b, iV x.f.id, iV x.f.kind, iV x.f.lo, iV x.f.hi, iV x.f.most, iV x.n, str x.s, lst .ro 1 (map (fun n => iV n) x.t), lst .ro 5 (map fldV x.fields)]] fun l13 => aA A l13 fun l16 l15 => aI A l16 fun n19 l18 => aI A l18 fun n22 l21 => aI A l21 fun n25 l24 => aI A l24 fun n28 l27 => aI A l27 fun n31 l30 => asN A l30 (aI A l15 fun n34 l33 => asN A l33 (bif (x.op == (1 : Int)) then (kc [agg [iV (IntKind.i64.wrap (x.op + (20 : Int))), iV x.form, iV x.f.id, iV 0, iV 0, iV 0, iV 0, iV 0, iV 0, iV 0, iV 0, iV 0, iV 0, str [], lst .ro 1 [], lst .ro 5 []], iV 0] []) else (bif (x.op == (2 : Int)) then (kc [agg [iV (IntKind.i64.wrap (x.op + (20 : Int))), iV x.form, iV 0, iV n34, iV 0, iV 0, iV 0, iV n19, iV n22, iV n25, iV n28, iV n31, iV x.n, str x.s, lst .ro 1 [], lst .ro 5 []], iV 0] []) else (bif (x.op == (4 : Int)) then (kc [agg [iV (IntKind.i64.wrap (x.op + (20 : Int))), iV x.form, iV x.field, iV 0, iV 0, iV x.a, iV x.b, iV n19, iV n22, iV n25, iV n28, iV n31, iV 0, str [], lst .ro 1 [], lst .ro 5 []], iV 0] []) else (bif (x.op == (6 : Int)) then (kc [agg [iV (IntKind.i64.wrap (x.op + (20 : Int))), iV x.form, iV x.field, iV 0, iV x.to, iV x.a, iV 0, iV n19, iV n22, iV n25, iV n28, iV n31, iV 0, str [], lst .ro 1 [], lst .ro 5 []], iV 0] []) else (bif (x.op == (3 : Int)) then (kc [agg [iV (IntKind.i64.wrap (x.op + (20 : Int))), iV x.form, iV x.field, iV 0, iV 0, iV 0, iV 0, iV n19, iV n22, iV n25, iV n28, iV n31, iV 0, str [], lst .ro 1 [], lst .ro 5 []], iV 0] []) else (bif (x.op == (5 : Int)) then (A.callx 76 [lst .ro 1 (map (fun n => iV n) x.t)] fun l35 => aL A 1 l35 fun l38 l37 => asN A l37 (kc [agg [iV (IntKind.i64.wrap (x.op + (20 : Int))), iV x.form, iV x.field, iV 0, iV 0, iV 0, iV 0, iV 0, iV 0, iV 0, iV 0, iV 0, iV 0, str [], lst .ro 1 l38, lst .ro 5 []], iV 0] [])) else (bif (x.op == (7 : Int)) then (kc [agg [iV (IntKind.i64.wrap (x.op + (20 : Int))), iV x.form, iV x.field, iV n34, iV 0, iV 0, iV 0, iV 0, iV 0, iV 0, iV 0, iV 0, iV 0, str [], lst .ro 1 [], lst .ro 5 []], iV 0] []) else (bif (x.op == (8 : Int)) then (kc [agg [iV (IntKind.i64.wrap (x.op + (20 : Int))), iV x.form, iV x.to, iV 0, iV x.field, iV 0, iV 0, iV 0, iV 0, iV 0, iV 0, iV 0, iV 0, str [], lst .ro 1 [], lst .ro 5 []], iV 0] []) else (bif (x.op == (10 : Int)) then (A.callx 77 [agg [iV s.ver, lst .ro 2 (map frmV s.forms)], iV x.form] fun l39 => aA A l39 fun l42 l41 => aI A l42 fun n45 l44 => aL A 5 l44 fun l48 l47 => asN A l47 (aB A l41 fun b51 l50 => asN A l50 (A.call 23 [lst .ro 5 l48] [] fun l52 l53 => aU A 5 l52 fun l56 l55 => asN A l55 (asN A l53 (bif (l56.all AV.flat) then (kc [agg [iV (IntKind.i64.wrap (x.op + (20 : Int))), iV x.form, iV x.field, iV 0, iV 0, iV 0, iV 0, iV 0, iV 0, iV 0, iV 0, iV 0, iV 0, str [], lst .ro 1 [], lst .ro 5 l56], iV 0] []) else A.fail))))) else (kc [agg [iV (IntKind.i64.wrap (x.op + (20 : Int))), iV x.form, iV x.field, iV 0, iV 0, iV 0, iV 0, iV 0, iV 0, iV 0, iV 0, iV 0, iV 0, str [], lst .ro 1 [], lst .ro 5 []], iV 0] []))))))))))))))
noncomputable def zl5 {α : Type} (A : Alg α) (s : Sch) (l : List Stp) (kc : List AV → List (Nat × List AV) → α) : α :=
  A.loop 3 [lst .uq 16 [], lst .ro 16 (map stpV l), iV (↑(map stpV l).length : Int), iV 0] [[iV s.ver, lst .ro 2 (map frmV s.forms)]] fun j0 l1 l2 => bif (j0.beq 0) then (aL A 16 l1 fun l5 l4 => aI A l4 fun n8 l7 => asN A l7 (asN A l2 (kc [lst .ro 16 l5, iV n8] []))) else (bif (j0.beq 1) then (aU A 16 l1 fun l11 l10 => asN A l10 (asN A l2 (bif (l11.reverse.all AV.flat) then (kc [lst .ro 16 l11.reverse, iV 0] []) else A.fail))) else A.fail)
noncomputable def z7h {α : Type} (A : Alg α) (l : List Stp) (s : Sch) (d : List Stp) (m : Int) (i : Int) (next : List AV → List (List AV) → α) (kc : Nat → List AV → List (List AV) → α) : α :=
  bif (decide (i < m)) then (A.chk (decide ((0 : Int) ≤ i)) (nthE A (map stpV l) i.toNat fun v0 => asA A v0 fun l1 => aI A l1 fun n4 l3 => aI A l3 fun n7 l6 => aI A l6 fun n10 l9 => aI A l9 fun n13 l12 => aI A l12 fun n16 l15 => aI A l15 fun n19 l18 => aI A l18 fun n22 l21 => aI A l21 fun n25 l24 => aI A l24 fun n28 l27 => aI A l27 fun n31 l30 => aI A l30 fun n34 l33 => aI A l33 fun n37 l36 => aI A l36 fun n40 l39 => aS A l39 fun l43 l42 => aL A 1 l42 fun l46 l45 => aL A 5 l45 fun l49 l48 => asN A l48 (A.callx 55 [agg [iV s.ver, lst .ro 2 (map frmV s.forms)], agg [iV n4, iV n7, iV n10, iV n13, iV n16, iV n19, iV n22, iV n25, iV n28, iV n31, iV n34, iV n37, iV n40, str l43, lst .ro 1 l46, lst .ro 5 l49]] fun l50 => aA A l50 fun l53 l52 => aI A l53 fun n56 l55 => aI A l55 fun n59 l58 => aI A l58 fun n62 l61 => aI A l61 fun n65 l64 => aI A l64 fun n68 l67 => aI A l67 fun n71 l70 => aI A l70 fun n74 l73 => aI A l73 fun n77 l76 => aI A l76 fun n80 l79 => aI A l79 fun n83 l82 => aI A l82 fun n86 l85 => aI A l85 fun n89 l88 => aI A l88 fun n92 l91 => aS A l91 fun l95 l94 => aL A 1 l94 fun l98 l97 => aL A 5 l97 fun l101 l100 => asN A l100 (aI A l52 fun n104 l103 => asN A l103 (bif (n104 != (0 : Int)) then (kc 0 [lst .ro 16 [], iV n104] []) else (A.chk (decide (((map stpV d).length + [agg [iV n56, iV n59, iV n62, iV n65, iV n68, iV n71, iV n74, iV n77, iV n80, iV n83, iV n86, iV n89, iV n92, str l95, lst .ro (nat_lit 1) l98, lst .ro (nat_lit 5) l101]].length) * 168 ≤ 211106232532992)) (A.callx 14 [agg [iV s.ver, lst .ro 2 (map frmV s.forms)], agg [iV n4, iV n7, iV n10, iV n13, iV n16, iV n19, iV n22, iV n25, iV n28, iV n31, iV n34, iV n37, iV n40, str l43, lst .ro 1 l46, lst .ro 5 l49]] fun l105 => aA A l105 fun l108 l107 => aI A l108 fun n111 l110 => aL A 2 l110 fun l114 l113 => asN A l113 (aI A l107 fun n117 l116 => asN A l116 (bif ((map stpV d ++ [agg [iV n56, iV n59, iV n62, iV n65, iV n68, iV n71, iV n74, iV n77, iV n80, iV n83, iV n86, iV n89, iV n92, str l95, lst .ro (nat_lit 1) l98, lst .ro (nat_lit 5) l101]]).all AV.flat) then (next [lst .uq 16 (map stpV d ++ [agg [iV n56, iV n59, iV n62, iV n65, iV n68, iV n71, iV n74, iV n77, iV n80, iV n83, iV n86, iV n89, iV n92, str l95, lst .ro (nat_lit 1) l98, lst .ro (nat_lit 5) l101]]), lst .ro 16 (map stpV l), iV m, iV (IntKind.i64.wrap (i + (1 : Int)))] [[iV n111, lst .ro 2 l114]]) else A.fail))))))))) else (bif ((map stpV d).all AV.flat) then (kc 1 [lst .uq 16 (map stpV d)] []) else A.fail)
noncomputable def zez {α : Type} (A : Alg α) (a : List Stp) (b : List Stp) (kc : List AV → List (Nat × List AV) → α) : α :=
  A.loop 2 [lst .ro 16 (map stpV a), lst .ro 16 (map stpV b), clo 34 [], iV 0] [] fun j0 l1 l2 => bif (j0.beq 1) then (aI A l1 fun n5 l4 => asN A l4 (asN A l2 (kc [iV n5] []))) else A.fail
noncomputable def z51 {α : Type} (A : Alg α) (a : List Stp) (b : List Stp) (i : Int) (next : List AV → List (List AV) → α) (kc : Nat → List AV → List (List AV) → α) : α :=
  bif (decide (i < if (↑(map stpV b).length : Int) < (↑(map stpV a).length : Int) then (↑(map stpV b).length : Int) else (↑(map stpV a).length : Int))) then (A.chk (decide ((0 : Int) ≤ i)) (nthE A (map stpV a) i.toNat fun v0 => asA A v0 fun l1 => aI A l1 fun n4 l3 => aI A l3 fun n7 l6 => aI A l6 fun n10 l9 => aI A l9 fun n13 l12 => aI A l12 fun n16 l15 => aI A l15 fun n19 l18 => aI A l18 fun n22 l21 => aI A l21 fun n25 l24 => aI A l24 fun n28 l27 => aI A l27 fun n31 l30 => aI A l30 fun n34 l33 => aI A l33 fun n37 l36 => aI A l36 fun n40 l39 => aS A l39 fun l43 l42 => aL A 1 l42 fun l46 l45 => aL A 5 l45 fun l49 l48 => asN A l48 (A.chk (decide ((0 : Int) ≤ i)) (nthE A (map stpV b) i.toNat fun v50 => asA A v50 fun l51 => aI A l51 fun n54 l53 => aI A l53 fun n57 l56 => aI A l56 fun n60 l59 => aI A l59 fun n63 l62 => aI A l62 fun n66 l65 => aI A l65 fun n69 l68 => aI A l68 fun n72 l71 => aI A l71 fun n75 l74 => aI A l74 fun n78 l77 => aI A l77 fun n81 l80 => aI A l80 fun n84 l83 => aI A l83 fun n87 l86 => aI A l86 fun n90 l89 => aS A l89 fun l93 l92 => aL A 1 l92 fun l96 l95 => aL A 5 l95 fun l99 l98 => asN A l98 (A.callx 34 [agg [iV n4, iV n7, iV n10, iV n13, iV n16, iV n19, iV n22, iV n25, iV n28, iV n31, iV n34, iV n37, iV n40, str l43, lst .ro 1 l46, lst .ro 5 l49], agg [iV n54, iV n57, iV n60, iV n63, iV n66, iV n69, iV n72, iV n75, iV n78, iV n81, iV n84, iV n87, iV n90, str l93, lst .ro 1 l96, lst .ro 5 l99]] fun l100 => aB A l100 fun b103 l102 => asN A l102 (bif b103 then (next [lst .ro 16 (map stpV a), lst .ro 16 (map stpV b), clo 34 [], iV (IntKind.i64.wrap (i + (1 : Int)))] []) else (kc 1 [iV i] []))))))) else (kc 1 [iV i] [])
noncomputable def zi0 {α : Type} (A : Alg α) (s : Sch) (a : List Stp) (b : List Stp) (kc : List AV → List (Nat × List AV) → α) : α :=
  A.callx 7 [agg [iV s.ver, lst .ro 2 (map frmV s.forms)], lst .ro 16 (map stpV a)] fun l0 => aA A l0 fun l3 l2 => aI A l3 fun n6 l5 => aL A 2 l5 fun l9 l8 => asN A l8 (aI A l2 fun n12 l11 => aI A l11 fun n15 l14 => asN A l14 (bif (n15 != (0 : Int)) then (kc [iV n12, iV n15] []) else (A.callx 32 [agg [iV s.ver, lst .ro 2 (map frmV s.forms)], lst .ro 16 (map stpV a)] fun l16 => aL A 16 l16 fun l19 l18 => aI A l18 fun n22 l21 => asN A l21 (bif (n22 != (0 : Int)) then (kc [iV 0, iV n22] []) else (A.callx 33 [lst .ro 16 l19, lst .ro 16 (map stpV b), clo 34 []] fun l23 => aI A l23 fun n26 l25 => asN A l25 (bif (decide (n26 < if (↑l19.length : Int) < (↑(map stpV b).length : Int) then (↑(map stpV b).length : Int) else (↑l19.length : Int))) then (kc [iV n26, iV 18] []) else (kc [iV 0, iV 0] [])))))))
theorem zrc (l : List Int) {r : CR} (h : zbg (OA (tbl E0) (ltbl E0 76 0)) l (fun r o => some (r, o)) = some r) : tbl E0 76 [intsV l] [] = some r :=
  tblF Try.func76 h
theorem ztt (s : Sch) (x : Stp) {r : CR} (h : zdy (OA (tbl E0) (ltbl E0 75 0)) s x (fun r o => some (r, o)) = some r) : tbl E0 75 [schV s, stpV x] [] = some r :=
  tblF Try.func75 h
theorem zof (s : Sch) (x : Stp) {r : CR} (h : z96 (OA (tbl E0) (ltbl E0 55 0)) s x (fun r o => some (r, o)) = some r) : tbl E0 55 [schV s, stpV x] [] = some r :=
  tblF Try.func55 h
theorem ztu (s : Sch) (l : List Stp) {r : CR} (h : zl5 (OA (tbl E0) (ltbl E0 32 0)) s l (fun r o => some (r, o)) = some r) : tbl E0 32 [schV s, stpsV l] [] = some r :=
  tblF Try.func32 h
theorem zi1 (l : List Stp) (s : Sch) (d : List Stp) (m i : Int) {r : LR} (h : z7h (OA (tbl E0) (ltbl E0 32 0)) l s d m i (fun vs os => ltbl E0 32 0 3 vs os) (fun j vs os => some (j, vs, os)) = some r) : ltbl E0 32 0 3 [.lst .uq 16 (d.map stpV), stpsV l, iV m, iV i] [[iV s.ver, frmsV s.forms]] = some r :=
  ltblF Try.func32 h
theorem zog (a b : List Stp) {r : CR} (h : zez (OA (tbl E0) (ltbl E0 33 0)) a b (fun r o => some (r, o)) = some r) : tbl E0 33 [stpsV a, stpsV b, .clo 34 []] [] = some r :=
  tblF Try.func33 h
theorem z7i (a b : List Stp) (i : Int) {r : LR} (h : z51 (OA (tbl E0) (ltbl E0 33 0)) a b i (fun vs os => ltbl E0 33 0 2 vs os) (fun j vs os => some (j, vs, os)) = some r) : ltbl E0 33 0 2 [stpsV a, stpsV b, .clo 34 [], iV i] [] = some r :=
  ltblF Try.func33 h
theorem zrd (s : Sch) (a b : List Stp) {r : CR} (h : zi0 (OA (tbl E0) (ltbl E0 22 0)) s a b (fun r o => some (r, o)) = some r) : tbl E0 22 [schV s, stpsV a, stpsV b] [] = some r :=
  tblF Try.func22 h
end Go.Proofs.Ytjkjhgfiaodgmaa.V
namespace Go.Proofs.Ytjkjhgfiaodgmaa.V
open Go
open AV (int lst agg str bool ref clo)
open List (map)
abbrev penA (b : List AV) (e : Int) : List (Nat × List AV) := [(0, [.lst (.own (.E 0 0)) 1 b, iV e])]
abbrev penV (b : List UInt8) (e : Int) : List (Nat × List AV) := penA (encB b) e
def s_put {α : Type} (A : Alg α) (b : List AV) (m : List AV) (e : Int) (kc : List AV → List (Nat × List AV) → α) : α :=
  A.chk (decide ((b.length + m.length) * 1 ≤ 211106232532992)) (kc [] [(0, [lst (.own (.E 0 0)) 1 (b ++ m), iV e])])
def zi2 {α : Type} (A : Alg α) (b : List AV) (u : Int) (e : Int) (kc : List AV → List (Nat × List AV) → α) : α :=
  A.loop 0 [int .u64 u] [[lst (.own (.O 0 0)) 1 b, iV e]] fun j0 l1 l2 => bif (j0.beq 1) then (asC A l1 fun v3 l4 => asI A .u64 v3 fun n5 => asN A l4 (asC A l2 fun l6 l7 => asC A l6 fun v8 l9 => asOwn A 1 v8 fun x10 l11 => bif (x10.beq (.O (0 : Nat) (0 : Nat))) then (aI A l9 fun n14 l13 => asN A l13 (asN A l7 (A.call 73 [ref 0 0, lst .ro 1 [int .u8 (IntKind.u8.wrap n5)]] [(0, [lst (.own (.E 0 0)) 1 l11, iV n14])] fun l15 l16 => asC A l16 fun x17 l18 => bif (x17.1.beq 0) then (asC A x17.2 fun v19 l20 => asOwn A 1 v19 fun x21 l22 => aI A l20 fun n25 l24 => asN A l24 (asN A l15 (asN A l18 (kc [] [(0, [lst (.own (.E 0 0)) 1 l22, iV n25])])))) else A.fail))) else A.fail)) else A.fail
def z97 {α : Type} (A : Alg α) (b : List AV) (u : Int) (e : Int) (next : List AV → List (List AV) → α) (kc : Nat → List AV → List (List AV) → α) : α :=
  bif (decide (u ≥ (128 : Int))) then (A.call 73 [ref 0 0, lst .ro 1 [int .u8 (bits Go.BinOp.or IntKind.u8 (IntKind.u8.wrap u) (128 : Int))]] [(0, [lst (.own (.E 0 0)) 1 b, iV e])] fun l0 l1 => asC A l1 fun x2 l3 => bif (x2.1.beq 0) then (asC A x2.2 fun v4 l5 => asOwn A 1 v4 fun x6 l7 => aI A l5 fun n10 l9 => asN A l9 (asN A l0 (asN A l3 (next [int .u64 (u.fdiv ((2 : Int) ^ (7 : Nat)))] [[lst (.own (.O 0 0)) 1 l7, iV n10]])))) else A.fail) else (kc 1 [int .u64 u] [[lst (.own (.O 0 0)) 1 b, iV e]])
def zbh {α : Type} (A : Alg α) (b : List AV) (n : Int) (e : Int) (kc : List AV → List (Nat × List AV) → α) : α :=
  bif (decide (n < (0 : Int))) then (kc [] [(0, [lst (.own (.E 0 0)) 1 b, iV 2])]) else (A.call 72 [ref 0 0, int .u64 (IntKind.u64.wrap n)] [(0, [lst (.own (.E 0 0)) 1 b, iV e])] fun l0 l1 => asC A l1 fun x2 l3 => bif (x2.1.beq 0) then (asC A x2.2 fun v4 l5 => asOwn A 1 v4 fun x6 l7 => aI A l5 fun n10 l9 => asN A l9 (asN A l0 (asN A l3 (kc [] [(0, [lst (.own (.E 0 0)) 1 l7, iV n10])])))) else A.fail)
def zoi {α : Type} (A : Alg α) (b : List AV) (n : Int) (e : Int) (kc : List AV → List (Nat × List AV) → α) : α :=
  A.call 72 [ref 0 0, int .u64 (bits Go.BinOp.xor IntKind.u64 (IntKind.u64.wrap (IntKind.u64.wrap n * (2 : Int) ^ (1 : Nat))) (IntKind.u64.wrap (n.fdiv ((2 : Int) ^ (63 : Nat)))))] [(0, [lst (.own (.E 0 0)) 1 b, iV e])] fun l0 l1 => asC A l1 fun x2 l3 => bif (x2.1.beq 0) then (asC A x2.2 fun v4 l5 => asOwn A 1 v4 fun x6 l7 => aI A l5 fun n10 l9 => asN A l9 (asN A l0 (asN A l3 (kc [] [(0, [lst (.own (.E 0 0)) 1 l7, iV n10])])))) else A.fail
def zl7 {α : Type} (A : Alg α) (b : List AV) (s : List UInt8) (e : Int) (kc : List AV → List (Nat × List AV) → α) : α :=
  A.call 52 [ref 0 0, iV (↑s.length : Int)] [(0, [lst (.own (.E 0 0)) 1 b, iV e])] fun l0 l1 => asC A l1 fun x2 l3 => bif (x2.1.beq 0) then (asC A x2.2 fun v4 l5 => asOwn A 1 v4 fun x6 l7 => aI A l5 fun n10 l9 => asN A l9 (asN A l0 (asN A l3 (A.call 73 [ref 0 0, lst .ro 1 (encB s)] [(0, [lst (.own (.E 0 0)) 1 l7, iV n10])] fun l11 l12 => asC A l12 fun x13 l14 => bif (x13.1.beq 0) then (asC A x13.2 fun v15 l16 => asOwn A 1 v15 fun x17 l18 => aI A l16 fun n21 l20 => asN A l20 (asN A l11 (asN A l14 (kc [] [(0, [lst (.own (.E 0 0)) 1 l18, iV n21])])))) else A.fail)))) else A.fail
def zi4 {α : Type} (A : Alg α) (b : List UInt8) (kc : List AV → List (Nat × List AV) → α) : α :=
  nilEq A Md.ro (encB b) fun b0 => bif b0 then (kc [lst .ro 1 []] []) else (A.chk (decide (((0 : Nat) + (encB b).length) * 1 ≤ 211106232532992)) (kc [lst .ro 1 (encB b)] []))
def zdz {α : Type} (A : Alg α) (b : List AV) (e : Int) (kc : List AV → List (Nat × List AV) → α) : α :=
  bif (e != (0 : Int)) then (kc [lst .ro 1 [], iV e] [(0, [lst (.own (.E 0 0)) 1 b, iV e])]) else (A.callx 74 [lst .ro 1 b] fun l0 => aL A 1 l0 fun l3 l2 => asN A l2 (kc [lst .ro 1 l3, iV 0] [(0, [lst (.own (.E 0 0)) 1 b, iV e])]))
def s_New {α : Type} (A : Alg α) (kc : List AV → List (Nat × List AV) → α) : α :=
  kc [ref 64 0] [(64, [lst (.own (.E 64 0)) 1 [], iV 0])]
theorem t_put (b m : List AV) (e : Int) {r : CR} (h : s_put (OA (tbl E0) (ltbl E0 73 0)) b m e (fun r o => some (r, o)) = some r) : tbl E0 73 [.ref 0 0, .lst .ro 1 m] (penA b e) = some r :=
  tblF Try.func73 h
theorem zrf (b : List AV) (u : Int) (e : Int) {r : CR} (h : zi2 (OA (tbl E0) (ltbl E0 72 0)) b u e (fun r o => some (r, o)) = some r) : tbl E0 72 [.ref 0 0, .int .u64 u] (penA b e) = some r :=
  tblF Try.func72 h
theorem zf1 (b : List AV) (u : Int) (e : Int) {r : LR} (h : z97 (OA (tbl E0) (ltbl E0 72 0)) b u e (fun vs os => ltbl E0 72 0 0 vs os) (fun j vs os => some (j, vs, os)) = some r) : ltbl E0 72 0 0 [.int .u64 u] [[.lst (.own (.O 0 0)) 1 b, iV e]] = some r :=
  ltblF Try.func72 h
theorem zrg (b : List AV) (n : Int) (e : Int) {r : CR} (h : zbh (OA (tbl E0) (ltbl E0 52 0)) b n e (fun r o => some (r, o)) = some r) : tbl E0 52 [.ref 0 0, iV n] (penA b e) = some r :=
  tblF Try.func52 h
theorem zvu (b : List AV) (n : Int) (e : Int) {r : CR} (h : zoi (OA (tbl E0) (ltbl E0 82 0)) b n e (fun r o => some (r, o)) = some r) : tbl E0 82 [.ref 0 0, iV n] (penA b e) = some r :=
  tblF Try.func82 h
theorem ztw (b : List AV) (s : List UInt8) (e : Int) {r : CR} (h : zl7 (OA (tbl E0) (ltbl E0 53 0)) b s e (fun r o => some (r, o)) = some r) : tbl E0 53 [.ref 0 0, .str s] (penA b e) = some r :=
  tblF Try.func53 h
theorem zri (b : List UInt8) {r : CR} (h : zi4 (OA (tbl E0) (ltbl E0 74 0)) b (fun r o => some (r, o)) = some r) : tbl E0 74 [.lst .ro 1 (encB b)] [] = some r :=
  tblF Try.func74 h
theorem ztx (b : List AV) (e : Int) {r : CR} (h : zdz (OA (tbl E0) (ltbl E0 54 0)) b e (fun r o => some (r, o)) = some r) : tbl E0 54 [.ref 0 0] (penA b e) = some r :=
  tblF Try.func54 h
theorem t_New  {r : CR} (h : s_New (OA (tbl E0) (ltbl E0 51 0))  (fun r o => some (r, o)) = some r) : tbl E0 51 [] [] = some r :=
  tblF Try.func51 h
end Go.Proofs.Ytjkjhgfiaodgmaa.V
namespace Go.Proofs.Ytjkjhgfiaodgmaa.V
open Go
open AV (int lst agg str bool ref clo)
open List (map)
end Go.Proofs.Ytjkjhgfiaodgmaa.V
namespace Go.Proofs.Ytjkjhgfiaodgmaa.V
open Go
def cnt (u : Nat) : List UInt8 := if u < 128 then [byt u] else byt (u % 128 + 128) :: cnt (u / 128)
termination_by u
decreasing_by omega
def cntI (u : Nat) : List UInt8 := if u < 128 then [] else byt (u % 128 + 128) :: cntI (u / 128)
termination_by u
decreasing_by omega
def cntL (u : Nat) : Nat := if u < 128 then u else cntL (u / 128)
termination_by u
decreasing_by omega
theorem zol (u : Nat) : cnt u = cntI u ++ [byt (cntL u)] := by
  induction u using cnt.induct with
  | case1 u h => rw [cnt, cntI, cntL]; simp [h]
  | case2 u h ih => rw [cnt, cntI, cntL]; simp [h, ih]
theorem zty (u : Nat) : cntL u < 128 := by
  induction u using cntL.induct with
  | case1 u h => rw [cntL]; simp [h]
  | case2 u h ih => rw [cntL]; simp [h, ih]
theorem ztz (k u : Nat) (h : u < 128 ^ (k + 1)) : (cnt u).length ≤ k + 1 := by
  induction k generalizing u with
  | zero => rw [cnt]; simp at h; simp [h]
  | succ k ih =>
    rw [cnt]
    split
    · simp
    · have : u / 128 < 128 ^ (k + 1) := by rw [Nat.div_lt_iff_lt_mul (by omega)]; rw [Nat.pow_succ] at h; exact h
      have := ih _ this
      simp; omega
theorem zd {u : Nat} (h : u < 18446744073709551616) : (cnt u).length ≤ 10 := ztz 9 u (Nat.lt_of_lt_of_le h (by decide))
theorem zrj {u : Nat} (h : u < 18446744073709551616) : (cntI u).length + 1 ≤ 10 := by
  have := zd h; rw [zol] at this
  simpa using this
theorem c_put (b m : List AV) (e : Int) (h : b.length + m.length ≤ 211106232532992) : tbl E0 73 [.ref 0 0, .lst .ro 1 m] (penA b e) = some ([], penA (b ++ m) e) :=
  t_put b m e (by simp [s_put, h, penA])
theorem fdiv7 (u : Nat) : (u : Int).fdiv ((2 : Int) ^ (7 : Nat)) = ((u / 128 : Nat) : Int) := by
  rw [Int.fdiv_eq_ediv_of_nonneg _ (by decide)]; omega
theorem or128' (u : Nat) : bits .or .u8 (IntKind.u8.wrap (u : Int)) 128 = ((u % 128 + 128 : Nat) : Int) := by
  rw [zku, show (u : Int) % 256 = ((u % 256 : Nat) : Int) by omega, or128 _ (by omega)]
  have : u % 256 % 128 = u % 128 := by omega
  rw [this]
theorem zmx (u : Nat) : ∀ (b : List AV) (e : Int), u < 18446744073709551616 → b.length + (cntI u).length ≤ 211106232532992 → ltbl E0 72 0 0 [.int .u64 u] [[.lst (.own (.O 0 0)) 1 b, iV e]] = some (1, [.int .u64 (cntL u : Nat)], [[.lst (.own (.O 0 0)) 1 (b ++ encB (cntI u)), iV e]]) := by
  induction u using cnt.induct with
  | case1 u h =>
    intro b e hu hb; refine zf1 b u e ?_; rw [cntL, cntI]
    have : ¬ (128 : Int) ≤ (u : Int) := by omega
    simp [z97, h, this, z2c]
  | case2 u h ih =>
    intro b e hu hb; refine zf1 b u e ?_; rw [cntI] at hb; simp only [h, if_false, List.length_cons] at hb; rw [cntL, cntI]
    have h1 : (128 : Int) ≤ (u : Int) := by omega
    have hp := c_put b [.int .u8 ((u % 128 + 128 : Nat) : Int)] e (by simp; omega)
    simp only [penA] at hp
    have h2 := ih (b ++ [.int .u8 ((u % 128 + 128 : Nat) : Int)]) e (by omega) (by simp; omega)
    simp only [z97, or128', fdiv7]; simp only [ge_iff_le, h1, decide_true, cond_true, zh, hp, Option.bind_some, u_asC, zy, u_asI, u_asN, z9, Nat.beq_eq_true_eq, h2, h, if_false]
    simp only [z4v, z1t (show u % 128 + 128 < 256 by omega), List.append_assoc, List.singleton_append]
    rfl
theorem zf2 (b : List AV) (u : Nat) (e : Int) (hu : u < 18446744073709551616) (hb : b.length + 10 ≤ 211106232532992) : tbl E0 72 [.ref 0 0, .int .u64 u] (penA b e) = some ([], penA (b ++ encB (cnt u)) e) :=
  zrf b u e (by
    have hl := zrj hu
    have h1 := zmx u b e hu (by omega)
    have h2 := c_put (b ++ encB (cntI u)) [.int .u8 (cntL u : Nat)] e (by simp; omega)
    have h3 := zty u; simp only [penA] at h2
    simp [zi2, h1, zco (show (0 : Int) ≤ (cntL u : Nat) by omega) (by omega), h2, penA, zol, zk, z4v, z2c, z1t (show cntL u < 256 by omega)])
end Go.Proofs.Ytjkjhgfiaodgmaa.V
namespace Go.Proofs.Ytjkjhgfiaodgmaa.V
open Go
theorem z2q (b : List AV) (n e : Int) (hb : b.length + 10 ≤ 211106232532992) (hn : n ≤ 9223372036854775807) : tbl E0 52 [.ref 0 0, iV n] (penA b e) = some ([], if n < 0 then penA b 2 else penA (b ++ encB (cnt n.toNat)) e) :=
  zrg b n e (by
    by_cases h : n < 0
    · simp [zbh, h]
    · have h1 := zf2 b n.toNat e (by omega) hb
      rw [Int.toNat_of_nonneg (by omega)] at h1
      simp [zbh, h, z3g (show 0 ≤ n by omega) (by omega), h1])
theorem zi5 (b : List AV) (n e : Int) (hb : b.length + 10 ≤ 211106232532992) (h : -9223372036854775808 ≤ n) (h' : n ≤ 9223372036854775807) : tbl E0 82 [.ref 0 0, iV n] (penA b e) = some ([], penA (b ++ encB (cnt (zz n))) e) :=
  zvu b n e (by simp [zoi, zoc h h', zf2 b (zz n) e (zz_lt h h') hb, -Int.reducePow])
theorem ze0 (b : List AV) (s : List UInt8) (e : Int) (hb : b.length + 10 + s.length ≤ 211106232532992) : tbl E0 53 [.ref 0 0, .str s] (penA b e) = some ([], penA (b ++ encB (cnt s.length ++ s)) e) :=
  ztw b s e (by
    have h1 := z2q b s.length e (by omega) (by omega)
    have h0 : ¬ ((s.length : Int) < 0) := by omega
    have hc := zd (u := s.length) (by omega)
    simp only [h0, if_false, Int.toNat_natCast] at h1
    have h2 := c_put (b ++ encB (cnt s.length)) (encB s) e (by simp; omega)
    simp [zl7, h1, h2, zk])
theorem zrk (b : List UInt8) (hb : b.length ≤ 211106232532992) : tbl E0 74 [.lst .ro 1 (encB b)] [] = some ([.lst .ro 1 (encB b)], []) :=
  zri b (by
    unfold zi4
    cases b with
    | nil => exact z6l fun b => by cases b <;> rfl
    | cons c l => simp only [z4v, zcn, cond_false, List.length_cons, z3h, z9]; simp at hb; simp [hb])
theorem ze1 (b : List UInt8) (e : Int) (hb : b.length ≤ 211106232532992) : tbl E0 54 [.ref 0 0] (penV b e) = some ([.lst .ro 1 (if e = 0 then encB b else []), iV e], penV b e) :=
  ztx (encB b) e (by
    by_cases h : e = 0
    · subst h; simp [zdz, zrk b hb]
    · simp [zdz, h, bne_t h])
theorem c_New : tbl E0 51 [] [] = some ([.ref 64 0], [(64, [.lst (.own (.E 64 0)) 1 [], iV 0])]) := t_New rfl
end Go.Proofs.Ytjkjhgfiaodgmaa.V
namespace Go.Proofs.Ytjkjhgfiaodgmaa.V
open Go
end Go.Proofs.Ytjkjhgfiaodgmaa.V
namespace Go.Proofs.Ytjkjhgfiaodgmaa.V
open Go
end Go.Proofs.Ytjkjhgfiaodgmaa.V
namespace Go.Proofs.Ytjkjhgfiaodgmaa.V
open Go
end Go.Proofs.Ytjkjhgfiaodgmaa.V
namespace Go.Proofs.Ytjkjhgfiaodgmaa.V
open Go
end Go.Proofs.Ytjkjhgfiaodgmaa.V
namespace Go.Proofs.Ytjkjhgfiaodgmaa.V
open Go
theorem zon {f : Fld} (k : f.kind = 1) : rgtS f = (decide (0 ≤ f.id) && (decide (f.id ≤ 255) && (decide (-1099511627776 ≤ f.lo) && (decide (f.lo ≤ f.hi) && (decide (f.hi ≤ 1099511627776) && decide (f.most = 0)))))) := by
  simp [rgtS, k, Bool.and_assoc, Bool.decide_and]
theorem zoo {f : Fld} (k : f.kind = 2) : rgtS f = (decide (0 ≤ f.id) && (decide (f.id ≤ 255) && (decide (f.lo = 0) && (decide (f.hi = 0) && decide (f.most = 0))))) := by
  simp [rgtS, k, Bool.and_assoc, Bool.decide_and]
theorem zi7 {f : Fld} (k : f.kind = 3) : rgtS f = (decide (0 ≤ f.id) && (decide (f.id ≤ 255) && (decide (f.lo = 0) && (decide (f.hi = 0) && (decide (1 ≤ f.most) && decide (f.most ≤ 1000)))))) := by
  simp [rgtS, k, Bool.and_assoc, Bool.decide_and]
theorem zi8 {f : Fld} (k : f.kind = 4) : rgtS f = (decide (0 ≤ f.id) && (decide (f.id ≤ 255) && (decide (f.lo = 0) && (decide (f.hi = 0) && (decide (0 ≤ f.most) && decide (f.most ≤ 32)))))) := by
  simp [rgtS, k, Bool.and_assoc, Bool.decide_and]
theorem zop {f : Fld} (k1 : f.kind ≠ 1) (k2 : f.kind ≠ 2) (k3 : f.kind ≠ 3) (k4 : f.kind ≠ 4) : rgtS f = false := by
  simp [rgtS, k1, k2, k3, k4]
theorem z3o (f : Fld) : tbl E0 30 [fldV f] [] = some ([.bool (rgtS f)], []) :=
  zr0 f (by
    unfold zhm
    by_cases i0 : f.id < 0
    · have : rgtS f = false := by have : ¬ (0 ≤ f.id) := by omega
                                  simp [rgtS, this]
      simp [i0, this]
    · by_cases i1 : 255 < f.id
      · have : rgtS f = false := by have : ¬ (f.id ≤ 255) := by omega
                                    simp [rgtS, this]
        simp [i0, i1, this]
      · have j0 : 0 ≤ f.id := by omega
        have j1 : f.id ≤ 255 := by omega
        simp only [z9, cond_true, zq, i0, decide_false, cond_false, show ¬ (f.id > 255) from i1, Option.bind_some, Tok.untok_tok, z5f]
        by_cases k1 : f.kind = 1
        · rw [zon k1]
          by_cases a : -1099511627776 ≤ f.lo <;> by_cases b : f.lo ≤ f.hi <;> by_cases c : f.hi ≤ 1099511627776 <;> by_cases d : f.lo = 0 <;> by_cases e : f.most = 0 <;> simp [*]
        · by_cases k2 : f.kind = 2
          · rw [zoo k2]
            by_cases a : f.lo = 0 <;> by_cases b : f.hi = 0 <;> by_cases e : f.most = 0 <;> simp [*]
          · by_cases k3 : f.kind = 3
            · rw [zi7 k3]
              by_cases a : f.lo = 0 <;> by_cases b : f.hi = 0 <;> by_cases c : 1 ≤ f.most <;> simp [*]
            · by_cases k4 : f.kind = 4
              · rw [zi8 k4]
                by_cases a : f.lo = 0 <;> by_cases b : f.hi = 0 <;> by_cases c : 0 ≤ f.most <;> simp [*]
              · rw [zop k1 k2 k3 k4]
                by_cases a : f.lo = 0 <;> simp [*])
theorem z68 (f : Fld) (h : f.kind = 3 → rgtS f = true) : tbl E0 78 [fldV f] [] = some ([iV (loS f), iV (hiS f)], []) :=
  zet f (by
    unfold z8w
    by_cases k1 : f.kind = 1
    · simp [k1, loS, hiS]
    · by_cases k2 : f.kind = 2
      · simp [k2, loS, hiS]
      · by_cases k3 : f.kind = 3
        · have h' := h k3
          rw [zi7 k3] at h'; simp only [Bool.and_eq_true, decide_eq_true_eq] at h'
          rw [wrap_i64 _ (by omega) (by omega)]
          simp [k3, loS, hiS]
        · simp [k1, k2, k3, loS, hiS])
theorem zoq (n : Nat) : ∀ (w : Nat), n < 9223372036854775808 → w + n < 9223372036854775808 → ltbl E0 81 0 2 [iV (n : Int), iV (w : Int)] [] = some (1, [iV ((w + wdS n : Nat) : Int)], []) := by
  induction n using wdS.induct with
  | case1 =>
    intro w hn hw
    exact z8z _ _ (by rw [wdS]; simp [z66])
  | case2 n h ih =>
    intro w hn hw; refine z8z _ _ ?_
    have h0 : (n : Int) > 0 := by omega
    have e : (n : Int).fdiv ((2 : Int) ^ (8 : Nat)) = ((n / 256 : Nat) : Int) := by rw [Int.fdiv_eq_ediv_of_nonneg _ (by decide)]; omega
    have e2 : IntKind.i64.wrap ((w : Int) + 1) = ((w + 1 : Nat) : Int) := by rw [wrap_i64 _ (by omega) (by omega)]; omega
    have e3 : wdS n = wdS (n / 256) + 1 := by rw [wdS]; simp [h]
    have := ih (w + 1) (by omega) (by omega)
    rw [e3, show w + (wdS (n / 256) + 1) = w + 1 + wdS (n / 256) by omega, ← this]
    simp only [z66, h0, decide_true, cond_true, z9, e, e2]
theorem zrn (n : Int) (h : n < 9223372036854775808) : tbl E0 81 [iV n] [] = some ([iV (wdS n.toNat : Nat)], []) :=
  zr1 n (by
    by_cases h0 : 0 ≤ n
    · have := zoq n.toNat 0 (by omega) (by omega)
      rw [show (n.toNat : Int) = n by omega] at this
      simp only [Int.natCast_zero] at this; simp [zbc, this]
    · have e : ltbl E0 81 0 2 [iV n, iV 0] [] = some (1, [iV 0], []) := z8z _ _ (by
        have : ¬ (0 < n) := by omega
        simp [z66, this])
      have e0 : n.toNat = 0 := by omega
      rw [e0, wdS]; simp [zbc, e])
theorem z1u {f : Fld} (h : rgtS f = true) : 0 ≤ f.id ∧ f.id ≤ 255 ∧ (f.kind = 1 ∨ f.kind = 2 ∨ f.kind = 3 ∨ f.kind = 4) ∧ 0 ≤ hiS f - loS f ∧ hiS f - loS f ≤ 2199023255552 ∧ (f.kind ≠ 1 → f.lo = 0 ∧ f.hi = 0) ∧ (f.kind = 1 → -1099511627776 ≤ f.lo ∧ f.lo ≤ f.hi ∧ f.hi ≤ 1099511627776 ∧ f.most = 0) ∧ 0 ≤ f.most ∧ f.most ≤ 1000 ∧ (f.kind = 4 → f.most ≤ 32) ∧ (f.kind = 3 → 1 ≤ f.most) ∧ (f.kind = 2 → f.most = 0) := by
  by_cases k1 : f.kind = 1
  · rw [zon k1] at h; simp [k1, loS, hiS] at h ⊢; omega
  · by_cases k2 : f.kind = 2
    · rw [zoo k2] at h; simp [k2, loS, hiS] at h ⊢; omega
    · by_cases k3 : f.kind = 3
      · rw [zi7 k3] at h; simp [k3, loS, hiS] at h ⊢; omega
      · by_cases k4 : f.kind = 4
        · rw [zi8 k4] at h; simp [k4, loS, hiS] at h ⊢; omega
        · rw [zop k1 k2 k3 k4] at h; cases h
theorem zu2 (f : Fld) (h : rgtS f = true) : tbl E0 69 [fldV f] [] = some ([iV (wdS (hiS f - loS f).toNat : Nat)], []) :=
  ztj f (by
    have r := z1u h; have e := z68 f (fun _ => h)
    have e2 := zrn (hiS f - loS f) (by omega)
    simp only [zkw, z9, cond_true, za, e, Option.bind_some, u_asC, u_asI, u_asN, wrap_i64 (hiS f - loS f) (by omega) (by omega), e2])
theorem zu3 (f : Fld) : tbl E0 48 [fldV f] [] = some ([iV (sizeS f)], []) :=
  ztk f (by
    have e := z3o f; simp only [zkx, z9, cond_true, za, e, Option.bind_some, u_asC, u_asB, u_asI, u_asN]
    cases h : rgtS f with
    | false => simp [sizeS, h]
    | true =>
      have r := z1u h; have e2 := zu2 f h
      by_cases k4 : f.kind = 4
      · rw [wrap_i64 (f.most + 1) (by omega) (by omega)]
        simp [sizeS, h, k4]
      · by_cases k2 : f.kind = 2
        · simp [sizeS, h, k2, hiS, loS, wdS]
        · simp only [sizeS, h, k4, k2, beq_f k4, beq_f k2, if_true, if_false, Bool.not_true, cond_false, e2, Option.bind_some, u_asC, u_asI, u_asN])
end Go.Proofs.Ytjkjhgfiaodgmaa.V
namespace Go.Proofs.Ytjkjhgfiaodgmaa.V
open Go
theorem zw {α : Type} {l r : List α} {i : Nat} {a : α} (h : l.drop i = a :: r) : i < l.length ∧ l[i]? = some a ∧ l.drop (i + 1) = r := by
  have hlt : i < l.length := by
    rcases Nat.lt_or_ge i l.length with h' | h'
    · exact h'
    · rw [List.drop_eq_nil_of_le h'] at h; cases h
  rw [List.drop_eq_getElem_cons hlt] at h; injection h with h1 h2
  exact ⟨hlt, by rw [List.getElem?_eq_getElem hlt, h1], h2⟩
theorem zn {i : Nat} (h : i < 9223372036854775807) : IntKind.i64.wrap ((i : Int) + 1) = ((i + 1 : Nat) : Int) := by rw [wrap_i64 _ (by omega) (by omega)]; omega
theorem zvx (k : Nat) : ∀ n, n < 256 ^ k → wdS n ≤ k := by
  induction k with
  | zero => intro n h; simp at h; subst h; rw [wdS]; simp
  | succ k ih =>
    intro n h; rw [wdS]
    split
    · omega
    · have := ih (n / 256) (by rw [Nat.div_lt_iff_lt_mul (by omega)]; rw [Nat.pow_succ] at h; exact h)
      omega
theorem zf5 (f : Fld) : 0 ≤ sizeS f ∧ sizeS f ≤ 33 := by
  unfold sizeS
  split
  · rename_i h
    have r := z1u h
    split
    · rename_i k; have := r.2.2.2.2.2.2.2.2.2.1 k; omega
    · have := zvx 6 (hiS f - loS f).toNat (by have e6 : (256 : Nat) ^ 6 = 281474976710656 := (by decide); omega)
      omega
  · omega
theorem zn0 (f : Fld) (l : List Fld) : longS (f :: l) = sizeS f + longS l := by simp [longS]
theorem zro (l : List Fld) (hl : l.length ≤ 211106232532992) : ∀ (r : List Fld) (i : Nat) (n : Int), l.drop i = r → 0 ≤ n → n ≤ 33 * i →
    ltbl E0 29 0 3 [iV n, fldsV l, iV l.length, iV i] [] = some (1, [iV (n + longS r)], []) := by
  intro r
  induction r with
  | nil =>
    intro i n hr h0 h1
    have h : l.length ≤ i := by simpa using hr
    refine zhq _ _ _ _ ?_
    have : ¬ ((i : Int) < l.length) := by omega
    simp [zbd, this, longS]
  | cons f r ih =>
    intro i n hr h0 h1; obtain ⟨hlt, hget, hr2⟩ := zw hr; have hs := zf5 f
    have h2 : (i : Int) < l.length := by omega
    have e1 := zn (i := i) (by omega)
    have e2 : IntKind.i64.wrap (n + sizeS f) = n + sizeS f := wrap_i64 _ (by omega) (by omega)
    have h := ih (i + 1) (n + sizeS f) hr2 (by omega) (by omega)
    have c := zu3 f; refine zhq _ _ _ _ ?_; rw [zn0, ← Int.add_assoc, ← h]; simp only [zbd, h2, decide_true, cond_true, z9, Int.natCast_nonneg, nthE, Int.toNat_natCast, List.getElem?_map, hget, Option.map_some, u_asA, u_asC, u_asI, u_asN, za, c, Option.bind_some, e1, e2]
theorem zu4 (f : Frm) (h : f.fields.length ≤ 211106232532992) : tbl E0 29 [frmV f] [] = some ([iV (longS f.fields)], []) :=
  ztl f (by
    have e := zro f.fields h f.fields 0 0 rfl (by omega) (by omega)
    simp only [Int.natCast_zero, Int.zero_add] at e; simp [zky, e])
def atS (l : List Fld) (id : Int) : Int := firstS (fun f : Fld => f.id == id) l
def fromS {α : Type} (p : α → Bool) (i : Nat) (l : List α) : LR := match l.findIdx? p with | some j => (0, [iV ((i + j : Nat) : Int)], []) | none => (1, [], [])
theorem zos {α : Type} (p : α → Bool) (i : Nat) : fromS p i [] = (1, [], []) := rfl
theorem zn1 {α : Type} (p : α → Bool) (i : Nat) (a : α) (l : List α) : fromS p i (a :: l) = if p a then (0, [iV (i : Int)], []) else fromS p (i + 1) l := by
  unfold fromS; rw [List.findIdx?_cons]
  cases p a with
  | true => simp
  | false =>
    simp only [Bool.false_eq_true, if_false]
    cases l.findIdx? p with
    | none => rfl
    | some j => simp [Nat.add_assoc, Nat.add_comm 1 j]
theorem zvy (f : Fld) (id : Int) : tbl E0 62 [fldV f, .rp [iV id] 0] [] = some ([.bool (f.id == id)], []) := zvr f id (by simp [zod])
theorem zi9 (l : List Fld) (id : Int) (hl : l.length ≤ 211106232532992) : ∀ (r : List Fld) (i : Nat), l.drop i = r →
    ltbl E0 61 0 2 [fldsV l, .clo 62 [.rp [iV id] 0], iV l.length, iV i] [] = some (fromS (fun f : Fld => f.id == id) i r) := by
  intro r
  induction r with
  | nil =>
    intro i hr
    have h : l.length ≤ i := by simpa using hr
    refine z90 _ _ _ _ ?_
    have : ¬ ((i : Int) < l.length) := by omega
    simp [z5g, this, zos]
  | cons f r ih =>
    intro i hr; obtain ⟨hlt, hget, hr2⟩ := zw hr
    have h2 : (i : Int) < l.length := by omega
    have e1 := zn (i := i) (by omega)
    have h := ih (i + 1) hr2; have c := zvy f id; refine z90 _ _ _ _ ?_; rw [zn1]; simp only [z5g, h2, decide_true, cond_true, z9, Int.natCast_nonneg, nthE, Int.toNat_natCast, List.getElem?_map, hget, Option.map_some, u_asA, u_asC, u_asI, u_asB, u_asN, za, c, Option.bind_some, e1, h]
    cases f.id == id <;> rfl
theorem c_sAt (f : Frm) (id : Int) (h : f.fields.length ≤ 211106232532992) : tbl E0 39 [frmV f, iV id] [] = some ([iV (atS f.fields id)], []) :=
  t_sAt f id (by
    have e : tbl E0 61 [fldsV f.fields, .clo 62 [.rp [iV id] 0]] [] = some ([iV (atS f.fields id)], []) := zjx f.fields id (by
      have e := zi9 f.fields id h f.fields 0 rfl; simp only [Int.natCast_zero] at e; simp only [zao, ze, zm, List.length_map, e, Option.bind_some, fromS, atS, firstS]
      cases f.fields.findIdx? (fun f : Fld => f.id == id) <;> simp)
    simp [s_sAt, e])
theorem zcr (s : List Bool) (k : Nat) (b : Bool) : setAt (s.map AV.bool) k [AV.bool b] = (s.set k b).map AV.bool := by
  simp [setAt, List.map_set]
theorem z7x (s : List Bool) : (s.map AV.bool).all AV.flat1 = true := by
  simp [List.all_map, Function.comp_def, AV.flat1]
def freshS : List Bool → List Fld → Bool
  | _, [] => true
  | s, f :: l => rgtS f && !((s[f.id.toNat]?).getD false) && freshS (s.set f.id.toNat true) l
theorem zrp (l : List Fld) (hl : l.length ≤ 211106232532992) : ∀ (r : List Fld) (i : Nat) (s : List Bool), l.drop i = r → s.length = 256 →
    ltbl E0 20 0 5 [fldsV l, iV l.length, iV i] [s.map AV.bool] = some (if freshS s r then (1, [], []) else (0, [.bool false], [])) := by
  intro r
  induction r with
  | nil =>
    intro i s hr hs
    have h : l.length ≤ i := by simpa using hr
    refine zhr _ _ _ _ ?_
    have : ¬ ((i : Int) < l.length) := by omega
    simp [zbe, this, freshS]
  | cons f r ih =>
    intro i s hr hs; obtain ⟨hlt, hget, hr2⟩ := zw hr
    have h2 : (i : Int) < l.length := by omega
    have e1 := zn (i := i) (by omega)
    have h := ih (i + 1) (s.set f.id.toNat true) hr2 (by simpa using hs)
    have c := z3o f; refine zhr _ _ _ _ ?_; simp only [zbe, h2, decide_true, cond_true, z9, Int.natCast_nonneg, nthE, Int.toNat_natCast, List.getElem?_map, hget, Option.map_some, u_asA, u_asC, u_asI, u_asB, u_asN, za, zq, c, Option.bind_some, e1, freshS]
    by_cases hg : rgtS f = true
    · have rr := z1u hg
      have hk : f.id.toNat < s.length := by omega
      have g : s[f.id.toNat]? = some s[f.id.toNat] := List.getElem?_eq_getElem hk; have a1 : 0 ≤ f.id := rr.1
      have a2 : f.id < ((256 : Nat) : Int) := by omega
      have a3 : 0 + f.id.toNat * 1 = f.id.toNat := by omega
      have a4 : (f.id.toNat + 1).ble (List.map AV.bool s).length = true := by rw [Nat.ble_eq, List.length_map]; omega
      simp only [hg, a1, a2, a3, a4, decide_true, Bool.and_self, cond_true, g, Option.map_some, u_asB, Bool.not_true, cond_false, Option.bind_some, Tok.untok_tok, zcr, z7x, h, Option.getD_some, Bool.true_and]
      by_cases hb : s[f.id.toNat] = true
      · simp [hb]
      · have hb : s[f.id.toNat] = false := by simpa using hb
        simp [hb]
    · have hg : rgtS f = false := by simpa using hg
      simp [hg]
theorem zcs : ∀ (l : List Fld) (s : List Bool), s.length = 256 → (freshS s l = true ↔ (∀ f ∈ l, rgtS f = true ∧ s[f.id.toNat]? = some false) ∧ nodupI (l.map Fld.id) = true)
  | [], s, _ => by simp [freshS, nodupI]
  | f :: l, s, hs => by
    have ih := zcs l (s.set f.id.toNat true) (by simpa using hs)
    simp only [freshS, Bool.and_eq_true, ih, List.map_cons, nodupI, Bool.not_eq_true', List.mem_cons, forall_eq_or_imp]
    have key : rgtS f = true → ((s[f.id.toNat]?).getD false = false ↔ s[f.id.toNat]? = some false) := by
      intro hg; have rr := z1u hg
      have hk : f.id.toNat < s.length := by omega
      rw [List.getElem?_eq_getElem hk]; simp
    have key2 : rgtS f = true → ∀ g, rgtS g = true → ((s.set f.id.toNat true)[g.id.toNat]? = some false ↔ (s[g.id.toNat]? = some false ∧ g.id ≠ f.id)) := by
      intro hg g hgg; have r1 := z1u hg; have r2 := z1u hgg; rw [List.getElem?_set]
      by_cases e : f.id.toNat = g.id.toNat
      · have e' : g.id = f.id := by omega
        rw [if_pos e, if_pos (by omega)]
        simp [e']
      · have e' : g.id ≠ f.id := by omega
        rw [if_neg e]; simp [e']
    constructor
    · rintro ⟨⟨h1, h2⟩, h3, h4⟩
      refine ⟨⟨⟨h1, (key h1).1 h2⟩, fun g hg => ⟨(h3 g hg).1, ((key2 h1 g (h3 g hg).1).1 (h3 g hg).2).1⟩⟩, ?_, h4⟩; simp only [List.any_map, List.any_eq_false, Function.comp_apply, beq_iff_eq]; intro g hg; exact ((key2 h1 g (h3 g hg).1).1 (h3 g hg).2).2
    · rintro ⟨⟨⟨h1, h2⟩, h3⟩, h4, h5⟩
      refine ⟨⟨h1, (key h1).2 h2⟩, fun g hg => ⟨(h3 g hg).1, (key2 h1 g (h3 g hg).1).2 ⟨(h3 g hg).2, ?_⟩⟩, h5⟩; simp only [List.any_map, List.any_eq_false, Function.comp_apply, beq_iff_eq] at h4; exact h4 g hg
theorem zrq (l : List Fld) : freshS (List.replicate 256 false) l = (l.all rgtS && nodupI (l.map Fld.id)) := by
  rw [Bool.eq_iff_iff, zcs _ _ List.length_replicate]; simp only [Bool.and_eq_true, List.all_eq_true]; constructor
  · rintro ⟨h1, h2⟩; exact ⟨fun f hf => (h1 f hf).1, h2⟩
  · rintro ⟨h1, h2⟩
    refine ⟨fun f hf => ⟨h1 f hf, ?_⟩, h2⟩; have r := z1u (h1 f hf)
    rw [List.getElem?_replicate, if_pos (by omega)]
set_option maxRecDepth 20000 in
theorem bools256 : (List.replicate 256 false).map AV.bool = [.bool false, .bool false, .bool false, .bool false, .bool false, .bool false, .bool false, .bool false, .bool false, .bool false, .bool false, .bool false, .bool false, .bool false, .bool false, .bool false, .bool false, .bool false, .bool false, .bool false, .bool false, .bool false, .bool false, .bool false, .bool false, .bool false, .bool false, .bool false, .bool false, .bool false, .bool false, .bool false, .bool false, .bool false, .bool false, .bool false, .bool false, .bool false, .bool false, .bool false, .bool false, .bool false, .bool false, .bool false, .bool false, .bool false, .bool false, .bool false, .bool false, .bool false, .bool false, .bool false, .bool false, .bool false, .bool false, .bool false, .bool false, .bool false, .bool false, .bool false, .bool false, .bool false, .bool false, .bool false, .bool false, .bool false, .bool false, .bool false, .bool false, .bool false, .bool false, .bool false, .bool false, .bool false, .bool false, .bool false, .bool false, .bool false, .bool false, .bool false, .bool false, .bool false, .bool false, .bool false, .bool false, .bool false, .bool false, .bool false, .bool false, .bool false, .bool false, .bool false, .bool false, .bool false, .bool false, .bool false, .bool false, .bool false, .bool false, .bool false, .bool false, .bool false, .bool false, .bool false, .bool false, .bool false, .bool false, .bool false, .bool false, .bool false, .bool false, .bool false, .bool false, .bool false, .bool false, .bool false, .bool false, .bool false, .bool false, .bool false, .bool false, .bool false, .bool false, .bool false, .bool false, .bool false, .bool false, .bool false, .bool false, .bool false, .bool false, .bool false, .bool false, .bool false, .bool false, .bool false, .bool false, .bool false, .bool false, .bool false, .bool false, .bool false, .bool false, .bool false, .bool false, .bool false, .bool false, .bool false, .bool false, .bool false, .bool false, .bool false, .bool false, .bool false, .bool false, .bool false, .bool false, .bool false, .bool false, .bool false, .bool false, .bool false, .bool false, .bool false, .bool false, .bool false, .bool false, .bool false, .bool false, .bool false, .bool false, .bool false, .bool false, .bool false, .bool false, .bool false, .bool false, .bool false, .bool false, .bool false, .bool false, .bool false, .bool false, .bool false, .bool false, .bool false, .bool false, .bool false, .bool false, .bool false, .bool false, .bool false, .bool false, .bool false, .bool false, .bool false, .bool false, .bool false, .bool false, .bool false, .bool false, .bool false, .bool false, .bool false, .bool false, .bool false, .bool false, .bool false, .bool false, .bool false, .bool false, .bool false, .bool false, .bool false, .bool false, .bool false, .bool false, .bool false, .bool false, .bool false, .bool false, .bool false, .bool false, .bool false, .bool false, .bool false, .bool false, .bool false, .bool false, .bool false, .bool false, .bool false, .bool false, .bool false, .bool false, .bool false, .bool false, .bool false, .bool false, .bool false, .bool false, .bool false, .bool false, .bool false, .bool false, .bool false, .bool false, .bool false, .bool false, .bool false, .bool false, .bool false, .bool false, .bool false, .bool false, .bool false] := rfl
set_option maxRecDepth 20000 in
theorem zl8 (f : Frm) (h : f.fields.length ≤ 211106232532992) : tbl E0 20 [frmV f] [] = some ([.bool (fineS f)], []) :=
  ztm f (by
    have e := zrp f.fields h f.fields 0 (List.replicate 256 false) rfl List.length_replicate; simp only [Int.natCast_zero, zrq] at e; rw [bools256] at e; have c := zu4 f h; simp only [zkz, z9, cond_true, zq, ze, List.length_map, za, c, Option.bind_some, u_asC, u_asI, u_asB, u_asN, zm, e]; unfold fineS
    by_cases a1 : f.id < 0
    · have : ¬ (0 ≤ f.id) := by omega
      simp [a1, this]
    · by_cases a2 : f.id > 200
      · have : ¬ (f.id ≤ 200) := by omega
        simp [a1, a2, this]
      · by_cases a3 : (f.fields.length : Int) < 1
        · have : ¬ (1 ≤ f.fields.length) := by omega
          simp [a1, a2, a3, this]
        · by_cases a4 : (f.fields.length : Int) > 8
          · have : ¬ (f.fields.length ≤ 8) := by omega
            simp [a1, a2, a3, a4, this]
          · by_cases a5 : longS f.fields > 64
            · have : ¬ (longS f.fields ≤ 64) := by omega
              simp [a1, a2, a3, a4, a5, this]
            · have b1 : 0 ≤ f.id ∧ f.id ≤ 200 := by omega
              have b2 : 1 ≤ f.fields.length ∧ f.fields.length ≤ 8 := by omega
              have b3 : longS f.fields ≤ 64 := by omega
              simp only [a1, a2, a3, a4, a5, b1, b2, b3, decide_true, decide_false, cond_false, Option.bind_some, Tok.untok_tok, Bool.true_and, and_self]
              cases (f.fields.all rgtS && nodupI (f.fields.map Fld.id)) <;> simp)
end Go.Proofs.Ytjkjhgfiaodgmaa.V
namespace Go.Proofs.Ytjkjhgfiaodgmaa.V
open Go
theorem bor (b : Bool) : b = true ∨ b = false := by cases b <;> simp
def Sml (s : Sch) : Prop := s.forms.length ≤ 211106232532992 ∧ ∀ f ∈ s.forms, f.fields.length ≤ 211106232532992
theorem z1e {α : Type} {l r : List α} {i : Nat} {a : α} (h : l.drop i = a :: r) : a ∈ l := List.mem_of_mem_drop (h ▸ List.mem_cons_self : a ∈ l.drop i)
theorem zot (l : List Frm) (hl : l.length ≤ 211106232532992) (hf : ∀ f ∈ l, f.fields.length ≤ 211106232532992) : ∀ (r : List Frm) (i : Nat) (last : Int), l.drop i = r →
    ltbl E0 11 0 5 [iV last, frmsV l, iV l.length, iV i] [] = some (if risingS last r then (1, [], []) else (0, [.bool false], [])) := by
  intro r
  induction r with
  | nil =>
    intro i last hr
    have h : l.length ≤ i := by simpa using hr
    refine zeu _ _ _ _ ?_
    have : ¬ ((i : Int) < l.length) := by omega
    simp [z8x, this, risingS]
  | cons f r ih =>
    intro i last hr; obtain ⟨hlt, hget, hr2⟩ := zw hr
    have h2 : (i : Int) < l.length := by omega
    have e1 := zn (i := i) (by omega)
    have h := ih (i + 1) f.id hr2; have c := zl8 f (hf f (z1e hr)); refine zeu _ _ _ _ ?_; simp only [z8x, h2, decide_true, cond_true, z9, Int.natCast_nonneg, nthE, Int.toNat_natCast, List.getElem?_map, hget, Option.map_some, u_asA, u_asC, u_asI, u_asB, u_asL, u_asN, za, zq, c, Option.bind_some, e1, h, risingS]
    by_cases a : f.id ≤ last
    · have : ¬ (last < f.id) := by omega
      rcases bor (fineS f) with hb | hb <;> simp [hb, a, this]
    · have b : last < f.id := by omega
      rcases bor (fineS f) with hb | hb <;> simp [hb, a, b]
theorem z5i (s : Sch) (h : Sml s) : tbl E0 11 [schV s] [] = some ([.bool (schS s)], []) :=
  zr2 s (by
    have e := zot s.forms h.1 h.2 s.forms 0 (-1) rfl; simp only [Int.natCast_zero] at e; simp only [zhn, z9, cond_true, zq, ze, List.length_map, Option.bind_some, u_asC, u_asI, u_asB, u_asN, zm, e]; unfold schS
    by_cases a1 : s.ver < 1
    · have : ¬ (1 ≤ s.ver) := by omega
      simp [a1, this]
    · by_cases a2 : s.ver > 65535
      · have : ¬ (s.ver ≤ 65535) := by omega
        simp [a1, a2, this]
      · by_cases a4 : (s.forms.length : Int) > 8
        · have : ¬ (s.forms.length ≤ 8) := by omega
          simp [a1, a2, a4, this]
        · have b1 : 1 ≤ s.ver ∧ s.ver ≤ 65535 := by omega
          have b2 : s.forms.length ≤ 8 := by omega
          simp only [a1, a2, a4, b1, b2, decide_true, decide_false, cond_false, Option.bind_some, Tok.untok_tok, Bool.true_and, and_self]
          rcases bor (risingS (-1) s.forms) with hb | hb <;> simp [hb])
end Go.Proofs.Ytjkjhgfiaodgmaa.V
namespace Go.Proofs.Ytjkjhgfiaodgmaa.V
open Go
def big (f : Frm) : Bool := decide (40 < f.fields.length)
def greatS (s : Sch) : Bool := (s.forms.take 41).any big || decide (40 < s.forms.length)
theorem zvz {s : Sch} (h : greatS s = false) : Sml s := by
  unfold greatS at h; simp only [Bool.or_eq_false_iff, decide_eq_false_iff_not, List.any_eq_false, big, decide_eq_true_eq] at h
  refine ⟨by omega, fun f hf => ?_⟩
  have := h.1 f (by rw [List.take_of_length_le (by omega)]; exact hf)
  omega
def findS (l : List Frm) (id : Int) : Int := firstS (fun f : Frm => f.id == id) l
theorem zrr (l : List Frm) (id : Int) (hl : l.length ≤ 211106232532992) : ∀ (r : List Frm) (i : Nat), l.drop i = r →
    ltbl E0 77 0 2 [iV id, frmsV l, iV l.length, iV i] [[iV 0, fldsV []]] = some (match r.find? (fun f : Frm => f.id == id) with | some f => (0, [.bool true], [[iV f.id, fldsV f.fields]]) | none => (1, [], [[iV 0, fldsV []]])) := by
  intro r
  induction r with
  | nil =>
    intro i hr
    have h : l.length ≤ i := by simpa using hr
    refine zhs l ⟨0, []⟩ id _ _ ?_
    have : ¬ ((i : Int) < l.length) := by omega
    simp [zbf, this]
  | cons x r ih =>
    intro i hr; obtain ⟨hlt, hget, hr2⟩ := zw hr
    have h2 : (i : Int) < l.length := by omega
    have e1 := zn (i := i) (by omega)
    have h := ih (i + 1) hr2; refine zhs l ⟨0, []⟩ id _ _ ?_; rw [List.find?_cons]; simp only [zbf, h2, decide_true, cond_true, z9, Int.natCast_nonneg, nthE, Int.toNat_natCast, List.getElem?_map, hget, Option.map_some, u_asA, u_asC, u_asI, u_asB, u_asL, u_asN, e1, h]
    rcases bor (x.id == id) with hb | hb <;> simp only [hb, cond_true, cond_false]
def formS (l : List Frm) (id : Int) : Option Frm := l.find? (fun f : Frm => f.id == id)
theorem zl9 (s : Sch) (id : Int) (h : Sml s) : tbl E0 77 [schV s, iV id] [] = some (match formS s.forms id with | some f => [frmV f, .bool true] | none => [frmV ⟨0, []⟩, .bool false], []) :=
  ztn s id (by
    have e := zrr s.forms id h.1 s.forms 0 rfl; unfold formS
    cases hf : s.forms.find? (fun f : Frm => f.id == id) with
    | none =>
      rw [hf] at e; simp only [fldsV, frmsV, List.map_nil, Int.natCast_zero] at e; simp [zdx, e]
    | some f =>
      rw [hf] at e; simp only [fldsV, frmsV, List.map_nil, Int.natCast_zero] at e; simp [zdx, e])
theorem zf6 (l : List Frm) (id : Int) : (∃ j f, formS l id = some f ∧ findS l id = (j : Nat) ∧ l[j]? = some f) ∨ (formS l id = none ∧ findS l id = -1) := by
  unfold formS findS firstS
  cases h : l.findIdx? (fun f : Frm => f.id == id) with
  | none =>
    right; refine ⟨?_, rfl⟩; rw [List.findIdx?_eq_none_iff] at h; rw [List.find?_eq_none]; intro x hx; simp [h x hx]
  | some j =>
    left; obtain ⟨hj, h1, h2⟩ := List.findIdx?_eq_some_iff_getElem.1 h; refine ⟨j, l[j], ?_, rfl, List.getElem?_eq_getElem hj⟩; rw [List.find?_eq_some_iff_getElem]
    exact ⟨h1, j, hj, rfl, fun k hk => by simpa using h2 k hk⟩
theorem zou (a b : Fld) : (a.id == b.id && (a.kind == b.kind && (a.lo == b.lo && (a.hi == b.hi && (a.most == b.most && true))))) = decide (a = b) := by
  rw [Bool.eq_iff_iff]
  cases a; cases b
  simp
theorem zw0 (a b : Frm) : decide (a = b) = (decide (a.id = b.id) && decide (a.fields = b.fields)) := by
  rw [Bool.eq_iff_iff]
  cases a; cases b
  simp
theorem zw1 (a b : Sch) : decide (a = b) = (decide (a.ver = b.ver) && decide (a.forms = b.forms)) := by
  rw [Bool.eq_iff_iff]
  cases a; cases b
  simp
theorem zov (a b : List Fld) (hl : a.length ≤ 211106232532992) (hab : a.length = b.length) : ∀ (r r' : List Fld) (i : Nat), a.drop i = r → b.drop i = r' →
    ltbl E0 18 0 4 [fldsV a, fldsV b, iV a.length, iV i] [] = some (if r = r' then (1, [], []) else (0, [.bool false], [])) := by
  intro r
  induction r with
  | nil =>
    intro r' i hr hr'
    have h : a.length ≤ i := by simpa using hr
    have : r' = [] := by rw [← hr']; simp; omega
    subst this; refine zev _ _ _ _ ?_
    have : ¬ ((i : Int) < a.length) := by omega
    simp [z8y, this]
  | cons x r ih =>
    intro r' i hr hr'; obtain ⟨hlt, hget, hr2⟩ := zw hr
    cases r' with
    | nil => simp at hr'; omega
    | cons y r' =>
      obtain ⟨_, hget', hr2'⟩ := zw hr'
      have h2 : (i : Int) < a.length := by omega
      have e1 := zn (i := i) (by omega)
      have h := ih r' (i + 1) hr2 hr2'; refine zev _ _ _ _ ?_; simp only [z8y, ze, List.length_map, h2, decide_true, cond_true, z9, Int.natCast_nonneg, nthE, Int.toNat_natCast, List.getElem?_map, hget, hget', Option.map_some, u_asA, u_asC, u_asI, u_asB, u_asL, u_asN, e1, h, zou]
      by_cases e : x = y
      · simp [e]
      · simp [e]
theorem zic (a b : List Fld) (h : a.length ≤ 211106232532992) : tbl E0 18 [fldsV a, fldsV b] [] = some ([.bool (decide (a = b))], []) :=
  zr4 a b (by
    simp only [zhp, ze, List.length_map, zm]
    by_cases hab : a.length = b.length
    · have e := zov a b h hab a b 0 rfl rfl
      simp only [Int.natCast_zero] at e
      have h' : ((a.length : Int) != (b.length : Int)) = false := by rw [hab]; simp
      rw [h', cond_false, e]
      by_cases e2 : a = b <;> simp [e2]
    · have : ¬ (a = b) := fun e => hab (by rw [e])
      have h' : ((a.length : Int) != (b.length : Int)) = true := bne_t (by omega)
      rw [h']; simp [this])
theorem zrs (a b : Frm) (h : a.fields.length ≤ 211106232532992) : tbl E0 17 [frmV a, frmV b] [] = some ([.bool (decide (a = b))], []) :=
  zr3 a b (by
    have c := zic a.fields b.fields h; rw [zw0]; simp only [zho, z9, cond_true, zq, za, c, Option.bind_some, u_asC, u_asB, u_asN]
    by_cases i0 : a.id = b.id <;> simp [i0])
theorem zid (a b : List Frm) (hl : a.length ≤ 211106232532992) (hf : ∀ f ∈ a, f.fields.length ≤ 211106232532992) (hab : a.length = b.length) : ∀ (r r' : List Frm) (i : Nat), a.drop i = r → b.drop i = r' →
    ltbl E0 16 0 4 [frmsV b, .clo 17 [], frmsV a, iV a.length, iV i] [] = some (if r = r' then (1, [], []) else (0, [.bool false], [])) := by
  intro r
  induction r with
  | nil =>
    intro r' i hr hr'
    have h : a.length ≤ i := by simpa using hr
    have : r' = [] := by rw [← hr']; simp; omega
    subst this; refine z91 _ _ _ _ ?_
    have : ¬ ((i : Int) < a.length) := by omega
    simp [z5h, this]
  | cons x r ih =>
    intro r' i hr hr'; obtain ⟨hlt, hget, hr2⟩ := zw hr
    cases r' with
    | nil => simp at hr'; omega
    | cons y r' =>
      obtain ⟨_, hget', hr2'⟩ := zw hr'
      have h2 : (i : Int) < a.length := by omega
      have e1 := zn (i := i) (by omega)
      have h := ih r' (i + 1) hr2 hr2'; have c := zrs x y (hf x (z1e hr)); refine z91 _ _ _ _ ?_; simp only [z5h, ze, List.length_map, h2, decide_true, cond_true, z9, Int.natCast_nonneg, nthE, Int.toNat_natCast, List.getElem?_map, hget, hget', Option.map_some, u_asA, u_asC, u_asI, u_asB, u_asL, u_asN, za, c, Option.bind_some, e1, h]
      by_cases e : x = y
      · simp [e]
      · simp [e]
theorem zk2 (a b : List Frm) (h : a.length ≤ 211106232532992) (hf : ∀ f ∈ a, f.fields.length ≤ 211106232532992) : tbl E0 16 [frmsV a, frmsV b, .clo 17 []] [] = some ([.bool (decide (a = b))], []) :=
  zjy a b (by
    simp only [zap, ze, List.length_map, zm]
    by_cases hab : a.length = b.length
    · have e := zid a b h hf hab a b 0 rfl rfl
      simp only [Int.natCast_zero] at e
      have h' : ((a.length : Int) != (b.length : Int)) = false := by rw [hab]; simp
      rw [h', cond_false, e]
      by_cases e2 : a = b <;> simp [e2]
    · have : ¬ (a = b) := fun e => hab (by rw [e])
      have h' : ((a.length : Int) != (b.length : Int)) = true := bne_t (by omega)
      rw [h']; simp [this])
theorem ze2 (a b : Sch) (h : Sml a) : tbl E0 9 [schV a, schV b] [] = some ([.bool (decide (a = b))], []) :=
  zto a b (by
    have c := zk2 a.forms b.forms h.1 h.2; rw [zw1]; simp only [zl0, z9, cond_true, zq, za, c, Option.bind_some, u_asC, u_asB, u_asN]
    by_cases i0 : a.ver = b.ver <;> simp [i0])
end Go.Proofs.Ytjkjhgfiaodgmaa.V
namespace Go.Proofs.Ytjkjhgfiaodgmaa.V
open Go
end Go.Proofs.Ytjkjhgfiaodgmaa.V
namespace Go.Proofs.Ytjkjhgfiaodgmaa.V
open Go
def fldB (f : Fld) : List UInt8 := cnt f.id.toNat ++ cnt f.kind.toNat ++ (if f.kind = 1 then cnt (zz f.lo) ++ cnt (zz f.hi) else if f.kind = 3 ∨ f.kind = 4 then cnt f.most.toNat else [])
def fldsB (l : List Fld) : List UInt8 := (l.map fldB).flatten
def frmB (f : Frm) : List UInt8 := cnt f.id.toNat ++ cnt f.fields.length ++ fldsB f.fields
def frmsB (l : List Frm) : List UInt8 := (l.map frmB).flatten
def schB (s : Sch) : List UInt8 := cnt s.ver.toNat ++ cnt s.forms.length ++ frmsB s.forms
theorem z33 (f : Frm) : fineS f = true ↔ (0 ≤ f.id ∧ f.id ≤ 200) ∧ (1 ≤ f.fields.length ∧ f.fields.length ≤ 8) ∧ longS f.fields ≤ 64 ∧ (∀ x ∈ f.fields, rgtS x = true) ∧ nodupI (f.fields.map Fld.id) = true := by
  unfold fineS; simp only [Bool.and_eq_true, decide_eq_true_eq, List.all_eq_true, and_assoc]
theorem z2v : ∀ (l : List Frm) (n : Int), risingS n l = true → ∀ f ∈ l, fineS f = true
  | [], n, _, f, hf => by cases hf
  | g :: l, n, h, f, hf => by
    simp only [risingS, Bool.and_eq_true] at h
    rcases List.mem_cons.1 hf with rfl | hf
    · exact h.1.1
    · exact z2v l _ h.2 f hf
theorem z7k (s : Sch) : schS s = true ↔ (1 ≤ s.ver ∧ s.ver ≤ 65535) ∧ s.forms.length ≤ 8 ∧ risingS (-1) s.forms = true := by
  unfold schS; simp only [Bool.and_eq_true, decide_eq_true_eq, and_assoc]
def FldsOK (l : List Fld) : Prop := ∀ f ∈ l, f.ok ∧ rgtS f = true
end Go.Proofs.Ytjkjhgfiaodgmaa.V
namespace Go.Proofs.Ytjkjhgfiaodgmaa.V
open Go
end Go.Proofs.Ytjkjhgfiaodgmaa.V
namespace Go.Proofs.Ytjkjhgfiaodgmaa.V
open Go
def Stp.ok (x : Stp) : Prop := i64 x.op ∧ i64 x.form ∧ i64 x.field ∧ i64 x.place ∧ i64 x.to ∧ i64 x.a ∧ i64 x.b ∧ x.f.ok ∧ i64 x.n ∧ (∀ n ∈ x.t, i64 n) ∧ ∀ f ∈ x.fields, f.ok
def Stp.sml (x : Stp) : Prop := x.t.length ≤ 211106232532992 ∧ x.fields.length ≤ 211106232532992
def opsL : List Int := [1, 2, 3, 4, 5, 6, 7, 8, 9, 10, 21, 22, 23, 24, 25, 26, 27, 28, 29, 30]
def usesS (op : Int) : List Int :=
  if op = 1 then [0, 2, 6, 7] else if op = 22 then [0, 2, 6, 7] else if op = 2 then [0, 1, 7] else if op = 3 then [0, 1, 6] else if op = 23 then [0, 1, 6]
  else if op = 4 then [0, 1, 5] else if op = 24 then [0, 1, 5, 6] else if op = 5 then [0, 1, 4, 8] else if op = 25 then [0, 1, 8] else if op = 6 then [0, 1, 4, 3]
  else if op = 26 then [0, 1, 4, 3, 6] else if op = 7 then [0, 1, 2] else if op = 27 then [0, 1, 2] else if op = 8 then [0, 1, 3] else if op = 28 then [0, 1, 3]
  else if op = 9 then [0, 9] else if op = 30 then [0, 9] else if op = 10 then [0] else if op = 29 then [0] else if op = 21 then [0, 1] else []
def hasS (op p : Int) : Bool := (usesS op).contains p
def inS (n lo hi : Int) : Bool := decide (lo ≤ n) && decide (n ≤ hi)
def longestS (f : Fld) : Int := if f.kind = 4 then f.most else 0
def hasV (f : Fld) (n : Int) (s : List UInt8) : Bool := rgtS f && (inS n (loS f) (hiS f) && decide ((s.length : Int) ≤ longestS f))
def apartS (l : List Int) (below : Int) : Bool := (l.all fun n => inS n 0 (below - 1)) && nodupI l && decide (1 ≤ l.length ∧ l.length ≤ 64)
def fitsS (x : Stp) (p : Int) : Bool :=
  if p = 0 then inS x.form 0 200 else if p = 1 then inS x.field 0 255 else if p = 2 then inS x.place 0 8 else if p = 3 then inS x.to 0 255 && x.to != x.field
  else if p = 4 then (if x.op = 5 then inS x.a 1 1000 else inS x.a 2 1048576)
  else if p = 5 then inS x.a (-1048576) 1048576 && (x.a != 0 && inS x.b (-1099511627776) 1099511627776)
  else if p = 6 then rgtS x.f && (x.op == 1 || (x.op == 22 || x.f.id == x.field))
  else if p = 7 then (if x.op = 2 then inS x.n (-1099511627776) 1099511627776 && decide ((x.s.length : Int) ≤ 32) else hasV x.f x.n x.s)
  else if p = 8 then apartS x.t (if x.op = 5 then x.a else 1000)
  else fineS ⟨x.form, x.fields⟩
def fld0 : Fld := ⟨0, 0, 0, 0, 0⟩
def onlyS (x : Stp) : Stp :=
  ⟨x.op, if hasS x.op 0 then x.form else 0, if hasS x.op 1 then x.field else 0, if hasS x.op 2 then x.place else 0, if hasS x.op 3 then x.to else 0,
    if hasS x.op 4 || hasS x.op 5 then x.a else 0, if hasS x.op 5 then x.b else 0, if hasS x.op 6 then x.f else fld0, if hasS x.op 7 then x.n else 0, if hasS x.op 7 then x.s else [],
    if hasS x.op 8 then x.t else [], if hasS x.op 9 then x.fields else []⟩
def tRightS (x : Stp) : Bool := (usesS x.op).all (fitsS x) && (!(usesS x.op).isEmpty && decide (x = onlyS x))
theorem op_in (op : Int) : op ∈ opsL ∨ (op ∉ opsL ∧ usesS op = []) := by
  by_cases h : op ∈ opsL
  · exact .inl h
  · refine .inr ⟨h, ?_⟩
    simp only [opsL, List.mem_cons, List.not_mem_nil, or_false, not_or] at h; obtain ⟨h1, h2, h3, h4, h5, h6, h7, h8, h9, h10, h11, h12, h13, h14, h15, h16, h17, h18, h19, h20⟩ := h; simp only [usesS, h1, h2, h3, h4, h5, h6, h7, h8, h9, h10, h11, h12, h13, h14, h15, h16, h17, h18, h19, h20, if_false]
theorem z5j {p : Int → Prop} (op : Int) (h : ∀ o ∈ opsL, p o) (h0 : op ∉ opsL → usesS op = [] → p op) : p op := by
  rcases op_in op with h1 | ⟨h1, h2⟩
  · exact h op h1
  · exact h0 h1 h2
theorem zcw (x : Stp) : ∀ (i : Nat) (p : Int), (usesS x.op)[i]? = some p → p = 8 → ((usesS x.op).take i).all (fitsS x) = true → 1 ≤ (if x.op = 5 then x.a else 1000) ∧ (if x.op = 5 then x.a else 1000) ≤ 1000 := by
  intro i p h1 h2 h3
  by_cases ho : x.op = 5
  · subst h2
    have hu : usesS x.op = [0, 1, 4, 8] := by rw [ho]; rfl
    rw [hu] at h1 h3
    match i, h1, h3 with
    | 3, _, h3 =>
      simp [fitsS, ho, inS] at h3; simp only [ho, if_true]; omega
    | 0, h1, _ => simp at h1
    | 1, h1, _ => simp at h1
    | 2, h1, _ => simp at h1
    | n + 4, h1, _ => simp at h1
  · simp [ho]
theorem z5k (op : Int) : (usesS op).length ≤ 5 := by
  refine z5j (p := fun op => (usesS op).length ≤ 5) op ?_ ?_
  · decide
  · intro _ h; simp [h]
end Go.Proofs.Ytjkjhgfiaodgmaa.V
namespace Go.Proofs.Ytjkjhgfiaodgmaa.V
open Go
def fldW (f : Fld) : List UInt8 := cnt f.id.toNat ++ (cnt f.kind.toNat ++ (cnt (zz f.lo) ++ (cnt (zz f.hi) ++ cnt f.most.toNat)))
def fldsW (l : List Fld) : List UInt8 := (l.map fldW).flatten
def intsB (l : List Int) : List UInt8 := (l.map fun n => cnt n.toNat).flatten
def prtB (x : Stp) (p : Int) : List UInt8 :=
  if p = 0 then cnt x.form.toNat else if p = 1 then cnt x.field.toNat else if p = 2 then cnt x.place.toNat else if p = 3 then cnt x.to.toNat
  else if p = 4 then cnt x.a.toNat else if p = 5 then cnt (zz x.a) ++ cnt (zz x.b) else if p = 6 then fldW x.f
  else if p = 7 then cnt (zz x.n) ++ (cnt x.s.length ++ x.s) else if p = 8 then cnt x.t.length ++ intsB x.t
  else cnt x.fields.length ++ fldsW x.fields
def prtsB (x : Stp) (l : List Int) : List UInt8 := (l.map (prtB x)).flatten
def stpB (x : Stp) : List UInt8 := cnt x.op.toNat ++ prtsB x (usesS x.op)
def stpsB (l : List Stp) : List UInt8 := (l.map stpB).flatten
def lstB (l : List Stp) : List UInt8 := cnt l.length ++ stpsB l
theorem z4l {p : Int} (hp : 0 ≤ p ∧ p ≤ 9) : p = 0 ∨ p = 1 ∨ p = 2 ∨ p = 3 ∨ p = 4 ∨ p = 5 ∨ p = 6 ∨ p = 7 ∨ p = 8 ∨ p = 9 := by omega
theorem zf7 {x : Stp} (h : fineS ⟨x.form, x.fields⟩ = true) : x.fields.length ≤ 8 ∧ ∀ f ∈ x.fields, rgtS f = true := by
  obtain ⟨_, h2, _, h4, _⟩ := (z33 _).1 h; exact ⟨h2.2, h4⟩
theorem zw5 {f : Fld} {n : Int} {s : List UInt8} (h : hasV f n s = true) : s.length ≤ 32 := by
  simp only [hasV, Bool.and_eq_true, decide_eq_true_eq] at h; obtain ⟨g1, _, g2⟩ := h; unfold longestS at g2
  by_cases k : f.kind = 4
  · rw [if_pos k] at g2
    rw [zi8 k] at g1; simp only [Bool.and_eq_true, decide_eq_true_eq] at g1; omega
  · rw [if_neg k] at g2
    omega
def Fits (x : Stp) (p : Int) : Prop := (0 ≤ p ∧ p ≤ 9) ∧ fitsS x p = true ∧ (p = 8 → (if x.op = 5 then x.a else 1000) ≤ 1000)
theorem zif {x : Stp} (h : fitsS x 7 = true) : x.s.length ≤ 32 := by
  simp [fitsS, inS] at h
  split at h
  · omega
  · exact zw5 h
theorem zig {x : Stp} (h : Fits x 8) : (∀ n ∈ x.t, 0 ≤ n ∧ n ≤ 1000) ∧ x.t.length ≤ 64 := by
  obtain ⟨_, h2, h3⟩ := h; simp [fitsS, apartS, inS] at h2; have := h3 rfl
  exact ⟨fun n hn => by have := h2.1.1 n hn; omega, h2.2.2⟩
theorem zp0 {x : Stp} (h : fitsS x 9 = true) : x.fields.length ≤ 8 ∧ ∀ f ∈ x.fields, rgtS f = true := by
  simp [fitsS] at h; exact zf7 h
theorem zrw (op : Int) : ∀ p ∈ usesS op, 0 ≤ p ∧ p ≤ 9 := by
  refine z5j (p := fun op => ∀ p ∈ usesS op, 0 ≤ p ∧ p ≤ 9) op ?_ ?_
  · decide
  · intro _ h; simp [h]
theorem z2s {x : Stp} (h : tRightS x = true) : (∀ p ∈ usesS x.op, Fits x p) ∧ x.op ∈ opsL ∧ x = onlyS x := by
  simp only [tRightS, Bool.and_eq_true, List.all_eq_true, decide_eq_true_eq, Bool.not_eq_true', List.isEmpty_eq_false_iff] at h; obtain ⟨h1, h2, h3⟩ := h; refine ⟨fun p hp => ⟨zrw _ p hp, h1 p hp, fun h8 => ?_⟩, ?_, h3⟩
  · obtain ⟨i, hi, e⟩ := List.mem_iff_getElem.1 hp
    exact (zcw x i p (by rw [← e]; exact List.getElem?_eq_getElem hi) h8 (List.all_eq_true.2 fun q hq => h1 q (List.mem_of_mem_take hq))).2
  · rcases op_in x.op with h | ⟨_, h⟩
    · exact h
    · exact absurd h h2
theorem ze4 {op : Int} (h : op ∈ opsL) : 1 ≤ op ∧ op ≤ 30 := by
  revert op; decide
end Go.Proofs.Ytjkjhgfiaodgmaa.V
namespace Go.Proofs.Ytjkjhgfiaodgmaa.V
open Go
open AV (int lst agg str bool ref clo)
open List (map)
def z9h {α : Type} (A : Alg α) (b : List AV) (x : Fld) (e : Int) (kc : List AV → List (Nat × List AV) → α) : α :=
  A.call 52 [ref 0 0, iV x.id] [(0, [lst (.own (.E 0 0)) 1 b, iV e])] fun l0 l1 => asC A l1 fun x2 l3 => bif (x2.1.beq 0) then (asC A x2.2 fun v4 l5 => asOwn A 1 v4 fun x6 l7 => aI A l5 fun n10 l9 => asN A l9 (asN A l0 (asN A l3 (A.call 52 [ref 0 0, iV x.kind] [(0, [lst (.own (.E 0 0)) 1 l7, iV n10])] fun l11 l12 => asC A l12 fun x13 l14 => bif (x13.1.beq 0) then (asC A x13.2 fun v15 l16 => asOwn A 1 v15 fun x17 l18 => aI A l16 fun n21 l20 => asN A l20 (asN A l11 (asN A l14 (A.call 82 [ref 0 0, iV x.lo] [(0, [lst (.own (.E 0 0)) 1 l18, iV n21])] fun l22 l23 => asC A l23 fun x24 l25 => bif (x24.1.beq 0) then (asC A x24.2 fun v26 l27 => asOwn A 1 v26 fun x28 l29 => aI A l27 fun n32 l31 => asN A l31 (asN A l22 (asN A l25 (A.call 82 [ref 0 0, iV x.hi] [(0, [lst (.own (.E 0 0)) 1 l29, iV n32])] fun l33 l34 => asC A l34 fun x35 l36 => bif (x35.1.beq 0) then (asC A x35.2 fun v37 l38 => asOwn A 1 v37 fun x39 l40 => aI A l38 fun n43 l42 => asN A l42 (asN A l33 (asN A l36 (A.call 52 [ref 0 0, iV x.most] [(0, [lst (.own (.E 0 0)) 1 l40, iV n43])] fun l44 l45 => asC A l45 fun x46 l47 => bif (x46.1.beq 0) then (asC A x46.2 fun v48 l49 => asOwn A 1 v48 fun x50 l51 => aI A l49 fun n54 l53 => asN A l53 (asN A l44 (asN A l47 (kc [] [(0, [lst (.own (.E 0 0)) 1 l51, iV n54])])))) else A.fail)))) else A.fail)))) else A.fail)))) else A.fail)))) else A.fail
def zij {α : Type} (A : Alg α) (b : List AV) (x : Stp) (p : Int) (e : Int) (kc : List AV → List (Nat × List AV) → α) : α :=
  bif (p == (0 : Int)) then (A.call 52 [ref 0 0, iV x.form] [(0, [lst (.own (.E 0 0)) 1 b, iV e])] fun l0 l1 => asC A l1 fun x2 l3 => bif (x2.1.beq 0) then (asC A x2.2 fun v4 l5 => asOwn A 1 v4 fun x6 l7 => aI A l5 fun n10 l9 => asN A l9 (asN A l0 (asN A l3 (kc [] [(0, [lst (.own (.E 0 0)) 1 l7, iV n10])])))) else A.fail) else (bif (p == (1 : Int)) then (A.call 52 [ref 0 0, iV x.field] [(0, [lst (.own (.E 0 0)) 1 b, iV e])] fun l11 l12 => asC A l12 fun x13 l14 => bif (x13.1.beq 0) then (asC A x13.2 fun v15 l16 => asOwn A 1 v15 fun x17 l18 => aI A l16 fun n21 l20 => asN A l20 (asN A l11 (asN A l14 (kc [] [(0, [lst (.own (.E 0 0)) 1 l18, iV n21])])))) else A.fail) else (bif (p == (2 : Int)) then (A.call 52 [ref 0 0, iV x.place] [(0, [lst (.own (.E 0 0)) 1 b, iV e])] fun l22 l23 => asC A l23 fun x24 l25 => bif (x24.1.beq 0) then (asC A x24.2 fun v26 l27 => asOwn A 1 v26 fun x28 l29 => aI A l27 fun n32 l31 => asN A l31 (asN A l22 (asN A l25 (kc [] [(0, [lst (.own (.E 0 0)) 1 l29, iV n32])])))) else A.fail) else (bif (p == (3 : Int)) then (A.call 52 [ref 0 0, iV x.to] [(0, [lst (.own (.E 0 0)) 1 b, iV e])] fun l33 l34 => asC A l34 fun x35 l36 => bif (x35.1.beq 0) then (asC A x35.2 fun v37 l38 => asOwn A 1 v37 fun x39 l40 => aI A l38 fun n43 l42 => asN A l42 (asN A l33 (asN A l36 (kc [] [(0, [lst (.own (.E 0 0)) 1 l40, iV n43])])))) else A.fail) else (bif (p == (4 : Int)) then (A.call 52 [ref 0 0, iV x.a] [(0, [lst (.own (.E 0 0)) 1 b, iV e])] fun l44 l45 => asC A l45 fun x46 l47 => bif (x46.1.beq 0) then (asC A x46.2 fun v48 l49 => asOwn A 1 v48 fun x50 l51 => aI A l49 fun n54 l53 => asN A l53 (asN A l44 (asN A l47 (kc [] [(0, [lst (.own (.E 0 0)) 1 l51, iV n54])])))) else A.fail) else (bif (p == (5 : Int)) then (A.call 82 [ref 0 0, iV x.a] [(0, [lst (.own (.E 0 0)) 1 b, iV e])] fun l55 l56 => asC A l56 fun x57 l58 => bif (x57.1.beq 0) then (asC A x57.2 fun v59 l60 => asOwn A 1 v59 fun x61 l62 => aI A l60 fun n65 l64 => asN A l64 (asN A l55 (asN A l58 (A.call 82 [ref 0 0, iV x.b] [(0, [lst (.own (.E 0 0)) 1 l62, iV n65])] fun l66 l67 => asC A l67 fun x68 l69 => bif (x68.1.beq 0) then (asC A x68.2 fun v70 l71 => asOwn A 1 v70 fun x72 l73 => aI A l71 fun n76 l75 => asN A l75 (asN A l66 (asN A l69 (kc [] [(0, [lst (.own (.E 0 0)) 1 l73, iV n76])])))) else A.fail)))) else A.fail) else (bif (p == (6 : Int)) then (A.call 83 [ref 0 0, agg [iV x.f.id, iV x.f.kind, iV x.f.lo, iV x.f.hi, iV x.f.most]] [(0, [lst (.own (.E 0 0)) 1 b, iV e])] fun l77 l78 => asC A l78 fun x79 l80 => bif (x79.1.beq 0) then (asC A x79.2 fun v81 l82 => asOwn A 1 v81 fun x83 l84 => aI A l82 fun n87 l86 => asN A l86 (asN A l77 (asN A l80 (kc [] [(0, [lst (.own (.E 0 0)) 1 l84, iV n87])])))) else A.fail) else (bif (p == (7 : Int)) then (A.call 82 [ref 0 0, iV x.n] [(0, [lst (.own (.E 0 0)) 1 b, iV e])] fun l88 l89 => asC A l89 fun x90 l91 => bif (x90.1.beq 0) then (asC A x90.2 fun v92 l93 => asOwn A 1 v92 fun x94 l95 => aI A l93 fun n98 l97 => asN A l97 (asN A l88 (asN A l91 (A.call 53 [ref 0 0, str x.s] [(0, [lst (.own (.E 0 0)) 1 l95, iV n98])] fun l99 l100 => asC A l100 fun x101 l102 => bif (x101.1.beq 0) then (asC A x101.2 fun v103 l104 => asOwn A 1 v103 fun x105 l106 => aI A l104 fun n109 l108 => asN A l108 (asN A l99 (asN A l102 (kc [] [(0, [lst (.own (.E 0 0)) 1 l106, iV n109])])))) else A.fail)))) else A.fail) else (bif (p == (8 : Int)) then (A.call 52 [ref 0 0, iV (↑(map (fun n => iV n) x.t).length : Int)] [(0, [lst (.own (.E 0 0)) 1 b, iV e])] fun l110 l111 => asC A l111 fun x112 l113 => bif (x112.1.beq 0) then (asC A x112.2 fun v114 l115 => asOwn A 1 v114 fun x116 l117 => aI A l115 fun n120 l119 => asN A l119 (asN A l110 (asN A l113 (A.loop 23 [lst .ro 1 (map (fun n => iV n) x.t), iV (↑(map (fun n => iV n) x.t).length : Int), iV 0] [[lst (.own (.O 0 0)) 1 l117, iV n120]] fun j121 l122 l123 => bif (j121.beq 2) then (asN A l122 (asC A l123 fun l124 l125 => asC A l124 fun v126 l127 => asOwn A 1 v126 fun x128 l129 => bif (x128.beq (.O (0 : Nat) (0 : Nat))) then (aI A l127 fun n132 l131 => asN A l131 (asN A l125 (kc [] [(0, [lst (.own (.E 0 0)) 1 l129, iV n132])]))) else A.fail)) else A.fail)))) else A.fail) else (bif (p == (9 : Int)) then (A.call 52 [ref 0 0, iV (↑(map fldV x.fields).length : Int)] [(0, [lst (.own (.E 0 0)) 1 b, iV e])] fun l133 l134 => asC A l134 fun x135 l136 => bif (x135.1.beq 0) then (asC A x135.2 fun v137 l138 => asOwn A 1 v137 fun x139 l140 => aI A l138 fun n143 l142 => asN A l142 (asN A l133 (asN A l136 (A.loop 30 [lst .ro 5 (map fldV x.fields), iV (↑(map fldV x.fields).length : Int), iV 0] [[lst (.own (.O 0 0)) 1 l140, iV n143]] fun j144 l145 l146 => bif (j144.beq 4) then (asN A l145 (asC A l146 fun l147 l148 => asC A l147 fun v149 l150 => asOwn A 1 v149 fun x151 l152 => bif (x151.beq (.O (0 : Nat) (0 : Nat))) then (aI A l150 fun n155 l154 => asN A l154 (asN A l148 (kc [] [(0, [lst (.own (.E 0 0)) 1 l152, iV n155])]))) else A.fail)) else A.fail)))) else A.fail) else (kc [] [(0, [lst (.own (.E 0 0)) 1 b, iV e])]))))))))))
def z9i {α : Type} (A : Alg α) (l : List Int) (b : List AV) (m : Int) (i : Int) (e : Int) (next : List AV → List (List AV) → α) (kc : Nat → List AV → List (List AV) → α) : α :=
  bif (decide (i < m)) then (A.chk (decide ((0 : Int) ≤ i)) (nthE A (map (fun n => iV n) l) i.toNat fun v0 => asI A .i64 v0 fun n1 => A.call 52 [ref 0 0, iV n1] [(0, [lst (.own (.E 0 0)) 1 b, iV e])] fun l2 l3 => asC A l3 fun x4 l5 => bif (x4.1.beq 0) then (asC A x4.2 fun v6 l7 => asOwn A 1 v6 fun x8 l9 => aI A l7 fun n12 l11 => asN A l11 (asN A l2 (asN A l5 (next [lst .ro 1 (map (fun n => iV n) l), iV m, iV (IntKind.i64.wrap (i + (1 : Int)))] [[lst (.own (.O 0 0)) 1 l9, iV n12]])))) else A.fail)) else (kc 2 [] [[lst (.own (.O 0 0)) 1 b, iV e]])
def z9j {α : Type} (A : Alg α) (l : List Fld) (b : List AV) (m : Int) (i : Int) (e : Int) (next : List AV → List (List AV) → α) (kc : Nat → List AV → List (List AV) → α) : α :=
  bif (decide (i < m)) then (A.chk (decide ((0 : Int) ≤ i)) (nthE A (map fldV l) i.toNat fun v0 => asA A v0 fun l1 => aI A l1 fun n4 l3 => aI A l3 fun n7 l6 => aI A l6 fun n10 l9 => aI A l9 fun n13 l12 => aI A l12 fun n16 l15 => asN A l15 (A.call 83 [ref 0 0, agg [iV n4, iV n7, iV n10, iV n13, iV n16]] [(0, [lst (.own (.E 0 0)) 1 b, iV e])] fun l17 l18 => asC A l18 fun x19 l20 => bif (x19.1.beq 0) then (asC A x19.2 fun v21 l22 => asOwn A 1 v21 fun x23 l24 => aI A l22 fun n27 l26 => asN A l26 (asN A l17 (asN A l20 (next [lst .ro 5 (map fldV l), iV m, iV (IntKind.i64.wrap (i + (1 : Int)))] [[lst (.own (.O 0 0)) 1 l24, iV n27]])))) else A.fail))) else (kc 4 [] [[lst (.own (.O 0 0)) 1 b, iV e]])
def z7m {α : Type} (A : Alg α) (l : List Stp) (kc : List AV → List (Nat × List AV) → α) : α :=
  bif (decide ((↑(map stpV l).length : Int) > (40 : Int))) then (kc [lst .ro 1 [], iV 7] []) else (A.call 51 [] [] fun l0 l1 => asC A l0 fun v2 l3 => asRef0 A v2 fun o4 => bif (o4.beq 64) then (asC A l1 fun x5 l6 => bif (x5.1.beq 64) then (asC A x5.2 fun v7 l8 => asOwn A 1 v7 fun x9 l10 => aI A l8 fun n13 l12 => asN A l12 (asN A l3 (asN A l6 (A.call 52 [ref 0 0, iV (↑(map stpV l).length : Int)] [(0, [lst (.own (.E 0 0)) 1 l10, iV n13])] fun l14 l15 => asC A l15 fun x16 l17 => bif (x16.1.beq 0) then (asC A x16.2 fun v18 l19 => asOwn A 1 v18 fun x20 l21 => aI A l19 fun n24 l23 => asN A l23 (asN A l14 (asN A l17 (A.loop 6 [lst .ro 16 (map stpV l), iV (↑(map stpV l).length : Int), iV 0] [[lst (.own (.O 1012 0)) 1 l21, iV n24]] fun j25 l26 l27 => bif (j25.beq 0) then (aL A 1 l26 fun l30 l29 => aI A l29 fun n33 l32 => asN A l32 (asN A l27 (kc [lst .ro 1 l30, iV n33] []))) else (bif (j25.beq 1) then (asN A l26 (asC A l27 fun l34 l35 => asC A l34 fun v36 l37 => asOwn A 1 v36 fun x38 l39 => bif (x38.beq (.O (1012 : Nat) (0 : Nat))) then (aI A l37 fun n42 l41 => asN A l41 (asN A l35 (A.call 54 [ref 0 0] [(0, [lst (.own (.E 0 0)) 1 l39, iV n42])] fun l43 l44 => asC A l44 fun x45 l46 => bif (x45.1.beq 0) then (asC A x45.2 fun v47 l48 => asOwn A 1 v47 fun x49 l50 => aI A l48 fun n53 l52 => asN A l52 (aL A 1 l43 fun l56 l55 => aI A l55 fun n59 l58 => asN A l58 (asN A l46 (kc [lst .ro 1 l56, iV n59] [])))) else A.fail))) else A.fail)) else A.fail))))) else A.fail)))) else A.fail) else A.fail)
def z9k {α : Type} (A : Alg α) (l : List Stp) (b : List AV) (m : Int) (i : Int) (e : Int) (next : List AV → List (List AV) → α) (kc : Nat → List AV → List (List AV) → α) : α :=
  bif (decide (i < m)) then (A.chk (decide ((0 : Int) ≤ i)) (nthE A (map stpV l) i.toNat fun v0 => asA A v0 fun l1 => aI A l1 fun n4 l3 => aI A l3 fun n7 l6 => aI A l6 fun n10 l9 => aI A l9 fun n13 l12 => aI A l12 fun n16 l15 => aI A l15 fun n19 l18 => aI A l18 fun n22 l21 => aI A l21 fun n25 l24 => aI A l24 fun n28 l27 => aI A l27 fun n31 l30 => aI A l30 fun n34 l33 => aI A l33 fun n37 l36 => aI A l36 fun n40 l39 => aS A l39 fun l43 l42 => aL A 1 l42 fun l46 l45 => aL A 5 l45 fun l49 l48 => asN A l48 (A.callx 24 [agg [iV n4, iV n7, iV n10, iV n13, iV n16, iV n19, iV n22, iV n25, iV n28, iV n31, iV n34, iV n37, iV n40, str l43, lst .ro 1 l46, lst .ro 5 l49]] fun l50 => aB A l50 fun b53 l52 => asN A l52 (bif (!b53) then (kc 0 [lst .ro 1 [], iV 2] []) else (A.call 52 [ref 0 0, iV n4] [(0, [lst (.own (.E 0 0)) 1 b, iV e])] fun l54 l55 => asC A l55 fun x56 l57 => bif (x56.1.beq 0) then (asC A x56.2 fun v58 l59 => asOwn A 1 v58 fun x60 l61 => aI A l59 fun n64 l63 => asN A l63 (asN A l54 (asN A l57 (A.callx 35 [iV n4] fun l65 => aL A 1 l65 fun l68 l67 => asN A l67 (A.loop 12 [lst .ro 16 (map stpV l), iV m, iV i, lst .ro 1 l68, iV (↑l68.length : Int), iV 0] [[iV n4, iV n7, iV n10, iV n13, iV n16, iV n19, iV n22, iV n25, iV n28, iV n31, iV n34, iV n37, iV n40, str l43, lst .ro 1 l46, lst .ro 5 l49], [lst (.own (.O 1012 0)) 1 l61, iV n64]] fun j69 l70 l71 => bif (j69.beq 3) then (aL A 16 l70 fun l74 l73 => aI A l73 fun n77 l76 => aI A l76 fun n80 l79 => asN A l79 (asC A l71 fun l81 l82 => asC A l81 fun v83 l84 => asOwn A 1 v83 fun x85 l86 => bif (x85.beq (.O (1012 : Nat) (0 : Nat))) then (aI A l84 fun n89 l88 => asN A l88 (asN A l82 (next [lst .ro 16 l74, iV n77, iV (IntKind.i64.wrap (n80 + (1 : Int)))] [[lst (.own (.O 1012 0)) 1 l86, iV n89]]))) else A.fail)) else A.fail))))) else A.fail))))) else (kc 1 [] [[lst (.own (.O 1012 0)) 1 b, iV e]])
def z9l {α : Type} (A : Alg α) (l : List Stp) (x : Stp) (u : List Int) (b : List AV) (m : Int) (i : Int) (n : Int) (k : Int) (e : Int) (next : List AV → List (List AV) → α) (kc : Nat → List AV → List (List AV) → α) : α :=
  bif (decide (k < n)) then (A.chk (decide ((0 : Int) ≤ k)) (nthE A (map (fun n => iV n) u) k.toNat fun v0 => asI A .i64 v0 fun n1 => A.call 71 [ref 0 0, agg [iV x.op, iV x.form, iV x.field, iV x.place, iV x.to, iV x.a, iV x.b, iV x.f.id, iV x.f.kind, iV x.f.lo, iV x.f.hi, iV x.f.most, iV x.n, str x.s, lst .ro 1 (map (fun n => iV n) x.t), lst .ro 5 (map fldV x.fields)], iV n1] [(0, [lst (.own (.E 0 0)) 1 b, iV e])] fun l2 l3 => asC A l3 fun x4 l5 => bif (x4.1.beq 0) then (asC A x4.2 fun v6 l7 => asOwn A 1 v6 fun x8 l9 => aI A l7 fun n12 l11 => asN A l11 (asN A l2 (asN A l5 (next [lst .ro 16 (map stpV l), iV m, iV i, lst .ro 1 (map (fun n => iV n) u), iV n, iV (IntKind.i64.wrap (k + (1 : Int)))] [[iV x.op, iV x.form, iV x.field, iV x.place, iV x.to, iV x.a, iV x.b, iV x.f.id, iV x.f.kind, iV x.f.lo, iV x.f.hi, iV x.f.most, iV x.n, str x.s, lst .ro 1 (map (fun n => iV n) x.t), lst .ro 5 (map fldV x.fields)], [lst (.own (.O 1012 0)) 1 l9, iV n12]])))) else A.fail)) else (kc 3 [lst .ro 16 (map stpV l), iV m, iV i] [[lst (.own (.O 1012 0)) 1 b, iV e]])
theorem zik (b : List AV) (x : Fld) (e : Int) {r : CR} (h : z9h (OA (tbl E0) (ltbl E0 83 0)) b x e (fun r o => some (r, o)) = some r) : tbl E0 83 [.ref 0 0, fldV x] (penA b e) = some r :=
  tblF Try.func83 h
theorem zs0 (b : List AV) (x : Stp) (p e : Int) {r : CR} (h : zij (OA (tbl E0) (ltbl E0 71 0)) b x p e (fun r o => some (r, o)) = some r) : tbl E0 71 [.ref 0 0, stpV x, iV p] (penA b e) = some r :=
  tblF Try.func71 h
theorem zf8 (l : List Int) (b : List AV) (m i e : Int) {r : LR} (h : z9i (OA (tbl E0) (ltbl E0 71 0)) l b m i e (fun vs os => ltbl E0 71 0 23 vs os) (fun j vs os => some (j, vs, os)) = some r) : ltbl E0 71 0 23 [intsV l, iV m, iV i] [[.lst (.own (.O 0 0)) 1 b, iV e]] = some r :=
  ltblF Try.func71 h
theorem zf9 (l : List Fld) (b : List AV) (m i e : Int) {r : LR} (h : z9j (OA (tbl E0) (ltbl E0 71 0)) l b m i e (fun vs os => ltbl E0 71 0 30 vs os) (fun j vs os => some (j, vs, os)) = some r) : ltbl E0 71 0 30 [fldsV l, iV m, iV i] [[.lst (.own (.O 0 0)) 1 b, iV e]] = some r :=
  ltblF Try.func71 h
theorem zs1 (l : List Stp) {r : CR} (h : z7m (OA (tbl E0) (ltbl E0 50 0)) l (fun r o => some (r, o)) = some r) : tbl E0 50 [stpsV l] [] = some r :=
  tblF Try.func50 h
theorem zfa (l : List Stp) (b : List AV) (m i e : Int) {r : LR} (h : z9k (OA (tbl E0) (ltbl E0 50 0)) l b m i e (fun vs os => ltbl E0 50 0 6 vs os) (fun j vs os => some (j, vs, os)) = some r) : ltbl E0 50 0 6 [stpsV l, iV m, iV i] [[.lst (.own (.O 1012 0)) 1 b, iV e]] = some r :=
  ltblF Try.func50 h
theorem zfb (l : List Stp) (x : Stp) (u : List Int) (b : List AV) (m i n k e : Int) {r : LR} (h : z9l (OA (tbl E0) (ltbl E0 50 0)) l x u b m i n k e (fun vs os => ltbl E0 50 0 12 vs os) (fun j vs os => some (j, vs, os)) = some r) : ltbl E0 50 0 12 [stpsV l, iV m, iV i, intsV u, iV n, iV k] [stpC x, [.lst (.own (.O 1012 0)) 1 b, iV e]] = some r :=
  ltblF Try.func50 h
end Go.Proofs.Ytjkjhgfiaodgmaa.V
namespace Go.Proofs.Ytjkjhgfiaodgmaa.V
open Go
open AV (int lst agg str bool ref clo)
open List (map)
end Go.Proofs.Ytjkjhgfiaodgmaa.V
namespace Go.Proofs.Ytjkjhgfiaodgmaa.V
open Go
open AV (int lst agg str bool ref clo)
open List (map)
def z5l {α : Type} (A : Alg α) (b : List AV) (x : Fld) (e : Int) (kc : List AV → List (Nat × List AV) → α) : α :=
  A.call 52 [ref 0 0, iV x.id] [(0, [lst (.own (.E 0 0)) 1 b, iV e])] fun l0 l1 => asC A l1 fun x2 l3 => bif (x2.1.beq 0) then (asC A x2.2 fun v4 l5 => asOwn A 1 v4 fun x6 l7 => aI A l5 fun n10 l9 => asN A l9 (asN A l0 (asN A l3 (A.call 52 [ref 0 0, iV x.kind] [(0, [lst (.own (.E 0 0)) 1 l7, iV n10])] fun l11 l12 => asC A l12 fun x13 l14 => bif (x13.1.beq 0) then (asC A x13.2 fun v15 l16 => asOwn A 1 v15 fun x17 l18 => aI A l16 fun n21 l20 => asN A l20 (asN A l11 (asN A l14 (bif (x.kind == (1 : Int)) then (A.call 82 [ref 0 0, iV x.lo] [(0, [lst (.own (.E 0 0)) 1 l18, iV n21])] fun l22 l23 => asC A l23 fun x24 l25 => bif (x24.1.beq 0) then (asC A x24.2 fun v26 l27 => asOwn A 1 v26 fun x28 l29 => aI A l27 fun n32 l31 => asN A l31 (asN A l22 (asN A l25 (A.call 82 [ref 0 0, iV x.hi] [(0, [lst (.own (.E 0 0)) 1 l29, iV n32])] fun l33 l34 => asC A l34 fun x35 l36 => bif (x35.1.beq 0) then (asC A x35.2 fun v37 l38 => asOwn A 1 v37 fun x39 l40 => aI A l38 fun n43 l42 => asN A l42 (asN A l33 (asN A l36 (kc [] [(0, [lst (.own (.E 0 0)) 1 l40, iV n43])])))) else A.fail)))) else A.fail) else (bif (x.kind == (3 : Int)) then (A.call 52 [ref 0 0, iV x.most] [(0, [lst (.own (.E 0 0)) 1 l18, iV n21])] fun l44 l45 => asC A l45 fun x46 l47 => bif (x46.1.beq 0) then (asC A x46.2 fun v48 l49 => asOwn A 1 v48 fun x50 l51 => aI A l49 fun n54 l53 => asN A l53 (asN A l44 (asN A l47 (kc [] [(0, [lst (.own (.E 0 0)) 1 l51, iV n54])])))) else A.fail) else (bif (x.kind == (4 : Int)) then (A.call 52 [ref 0 0, iV x.most] [(0, [lst (.own (.E 0 0)) 1 l18, iV n21])] fun l55 l56 => asC A l56 fun x57 l58 => bif (x57.1.beq 0) then (asC A x57.2 fun v59 l60 => asOwn A 1 v59 fun x61 l62 => aI A l60 fun n65 l64 => asN A l64 (asN A l55 (asN A l58 (kc [] [(0, [lst (.own (.E 0 0)) 1 l62, iV n65])])))) else A.fail) else (kc [] [(0, [lst (.own (.E 0 0)) 1 l18, iV n21])]))))))) else A.fail)))) else A.fail
def zbp {α : Type} (A : Alg α) (s : Sch) (kc : List AV → List (Nat × List AV) → α) : α :=
  A.callx 11 [agg [iV s.ver, lst .ro 2 (map frmV s.forms)]] fun l0 => aB A l0 fun b3 l2 => asN A l2 (bif (!b3) then (kc [lst .ro 1 [], iV 2] []) else (A.call 51 [] [] fun l4 l5 => asC A l4 fun v6 l7 => asRef0 A v6 fun o8 => bif (o8.beq 64) then (asC A l5 fun x9 l10 => bif (x9.1.beq 64) then (asC A x9.2 fun v11 l12 => asOwn A 1 v11 fun x13 l14 => aI A l12 fun n17 l16 => asN A l16 (asN A l7 (asN A l10 (A.call 52 [ref 0 0, iV s.ver] [(0, [lst (.own (.E 0 0)) 1 l14, iV n17])] fun l18 l19 => asC A l19 fun x20 l21 => bif (x20.1.beq 0) then (asC A x20.2 fun v22 l23 => asOwn A 1 v22 fun x24 l25 => aI A l23 fun n28 l27 => asN A l27 (asN A l18 (asN A l21 (A.call 52 [ref 0 0, iV (↑(map frmV s.forms).length : Int)] [(0, [lst (.own (.E 0 0)) 1 l25, iV n28])] fun l29 l30 => asC A l30 fun x31 l32 => bif (x31.1.beq 0) then (asC A x31.2 fun v33 l34 => asOwn A 1 v33 fun x35 l36 => aI A l34 fun n39 l38 => asN A l38 (asN A l29 (asN A l32 (A.loop 7 [lst .ro 2 (map frmV s.forms), iV (↑(map frmV s.forms).length : Int), iV 0] [[lst (.own (.O 1012 0)) 1 l36, iV n39]] fun j40 l41 l42 => bif (j40.beq 1) then (asN A l41 (asC A l42 fun l43 l44 => asC A l43 fun v45 l46 => asOwn A 1 v45 fun x47 l48 => bif (x47.beq (.O (1012 : Nat) (0 : Nat))) then (aI A l46 fun n51 l50 => asN A l50 (asN A l44 (A.call 54 [ref 0 0] [(0, [lst (.own (.E 0 0)) 1 l48, iV n51])] fun l52 l53 => asC A l53 fun x54 l55 => bif (x54.1.beq 0) then (asC A x54.2 fun v56 l57 => asOwn A 1 v56 fun x58 l59 => aI A l57 fun n62 l61 => asN A l61 (aL A 1 l52 fun l65 l64 => aI A l64 fun n68 l67 => asN A l67 (asN A l55 (kc [lst .ro 1 l65, iV n68] [])))) else A.fail))) else A.fail)) else A.fail)))) else A.fail)))) else A.fail)))) else A.fail) else A.fail))
def z9m {α : Type} (A : Alg α) (l : List Frm) (b : List AV) (m : Int) (i : Int) (e : Int) (next : List AV → List (List AV) → α) (kc : Nat → List AV → List (List AV) → α) : α :=
  bif (decide (i < m)) then (A.chk (decide ((0 : Int) ≤ i)) (nthE A (map frmV l) i.toNat fun v0 => asA A v0 fun l1 => aI A l1 fun n4 l3 => aL A 5 l3 fun l7 l6 => asN A l6 (A.call 52 [ref 0 0, iV n4] [(0, [lst (.own (.E 0 0)) 1 b, iV e])] fun l8 l9 => asC A l9 fun x10 l11 => bif (x10.1.beq 0) then (asC A x10.2 fun v12 l13 => asOwn A 1 v12 fun x14 l15 => aI A l13 fun n18 l17 => asN A l17 (asN A l8 (asN A l11 (A.call 52 [ref 0 0, iV (↑l7.length : Int)] [(0, [lst (.own (.E 0 0)) 1 l15, iV n18])] fun l19 l20 => asC A l20 fun x21 l22 => bif (x21.1.beq 0) then (asC A x21.2 fun v23 l24 => asOwn A 1 v23 fun x25 l26 => aI A l24 fun n29 l28 => asN A l28 (asN A l19 (asN A l22 (A.loop 12 [lst .ro 2 (map frmV l), iV m, iV i, lst .ro 5 l7, iV (↑l7.length : Int), iV 0] [[lst (.own (.O 1012 0)) 1 l26, iV n29]] fun j30 l31 l32 => bif (j30.beq 3) then (aL A 2 l31 fun l35 l34 => aI A l34 fun n38 l37 => aI A l37 fun n41 l40 => asN A l40 (asC A l32 fun l42 l43 => asC A l42 fun v44 l45 => asOwn A 1 v44 fun x46 l47 => bif (x46.beq (.O (1012 : Nat) (0 : Nat))) then (aI A l45 fun n50 l49 => asN A l49 (asN A l43 (next [lst .ro 2 l35, iV n38, iV (IntKind.i64.wrap (n41 + (1 : Int)))] [[lst (.own (.O 1012 0)) 1 l47, iV n50]]))) else A.fail)) else A.fail)))) else A.fail)))) else A.fail))) else (kc 1 [] [[lst (.own (.O 1012 0)) 1 b, iV e]])
def z9n {α : Type} (A : Alg α) (l : List Frm) (fs : List Fld) (b : List AV) (m : Int) (i : Int) (n : Int) (k : Int) (e : Int) (next : List AV → List (List AV) → α) (kc : Nat → List AV → List (List AV) → α) : α :=
  bif (decide (k < n)) then (A.chk (decide ((0 : Int) ≤ k)) (nthE A (map fldV fs) k.toNat fun v0 => asA A v0 fun l1 => aI A l1 fun n4 l3 => aI A l3 fun n7 l6 => aI A l6 fun n10 l9 => aI A l9 fun n13 l12 => aI A l12 fun n16 l15 => asN A l15 (A.call 70 [ref 0 0, agg [iV n4, iV n7, iV n10, iV n13, iV n16]] [(0, [lst (.own (.E 0 0)) 1 b, iV e])] fun l17 l18 => asC A l18 fun x19 l20 => bif (x19.1.beq 0) then (asC A x19.2 fun v21 l22 => asOwn A 1 v21 fun x23 l24 => aI A l22 fun n27 l26 => asN A l26 (asN A l17 (asN A l20 (next [lst .ro 2 (map frmV l), iV m, iV i, lst .ro 5 (map fldV fs), iV n, iV (IntKind.i64.wrap (k + (1 : Int)))] [[lst (.own (.O 1012 0)) 1 l24, iV n27]])))) else A.fail))) else (kc 3 [lst .ro 2 (map frmV l), iV m, iV i] [[lst (.own (.O 1012 0)) 1 b, iV e]])
theorem zs2 (b : List AV) (x : Fld) (e : Int) {r : CR} (h : z5l (OA (tbl E0) (ltbl E0 70 0)) b x e (fun r o => some (r, o)) = some r) : tbl E0 70 [.ref 0 0, fldV x] (penA b e) = some r :=
  tblF Try.func70 h
theorem zs3 (s : Sch) {r : CR} (h : zbp (OA (tbl E0) (ltbl E0 49 0)) s (fun r o => some (r, o)) = some r) : tbl E0 49 [schV s] [] = some r :=
  tblF Try.func49 h
theorem zfc (l : List Frm) (b : List AV) (m i e : Int) {r : LR} (h : z9m (OA (tbl E0) (ltbl E0 49 0)) l b m i e (fun vs os => ltbl E0 49 0 7 vs os) (fun j vs os => some (j, vs, os)) = some r) : ltbl E0 49 0 7 [frmsV l, iV m, iV i] [[.lst (.own (.O 1012 0)) 1 b, iV e]] = some r :=
  ltblF Try.func49 h
theorem zfd (l : List Frm) (fs : List Fld) (b : List AV) (m i n k e : Int) {r : LR} (h : z9n (OA (tbl E0) (ltbl E0 49 0)) l fs b m i n k e (fun vs os => ltbl E0 49 0 12 vs os) (fun j vs os => some (j, vs, os)) = some r) : ltbl E0 49 0 12 [frmsV l, iV m, iV i, fldsV fs, iV n, iV k] [[.lst (.own (.O 1012 0)) 1 b, iV e]] = some r :=
  ltblF Try.func49 h
end Go.Proofs.Ytjkjhgfiaodgmaa.V
namespace Go.Proofs.Ytjkjhgfiaodgmaa.V
open Go
structure Lnk where
  fr : Int
  to : Sch
  on : List Stp
  back : List Stp
  deriving DecidableEq
abbrev lnkC (x : Lnk) : List AV := [.int .i64 x.fr, .int .i64 x.to.ver, frmsV x.to.forms, stpsV x.on, stpsV x.back]
abbrev lnkV (x : Lnk) : AV := AV.agg (lnkC x)
abbrev lnksV (l : List Lnk) : AV := AV.lst .ro 5 (l.map lnkV)
abbrev bytesV (b : List UInt8) : AV := AV.lst .ro 1 (encB b)
def rightsS (l : List Stp) : Bool := decide (l.length ≤ 40) && l.all tRightS
def lnkS (x : Lnk) : Bool := decide (1 ≤ x.fr) && (decide (x.fr ≤ 65535) && (schS x.to && (x.to.ver != x.fr && (rightsS x.on && rightsS x.back))))
def Lnk.ok (x : Lnk) : Prop := i64 x.fr ∧ x.to.ok ∧ (∀ s ∈ x.on, s.ok) ∧ ∀ s ∈ x.back, s.ok
def txtB (s : List UInt8) : List UInt8 := cnt s.length ++ s
def lnkB (x : Lnk) : List UInt8 := cnt x.fr.toNat ++ (txtB (schB x.to) ++ (txtB (lstB x.on) ++ txtB (lstB x.back)))
end Go.Proofs.Ytjkjhgfiaodgmaa.V
namespace Go.Proofs.Ytjkjhgfiaodgmaa.V
open Go
structure Man where
  ver : Int
  sch : Sch
  links : List Lnk
  img : Int
  deriving DecidableEq
def Man.ok (x : Man) : Prop := i64 x.ver ∧ x.sch.ok ∧ (∀ l ∈ x.links, l.ok) ∧ i64 x.img
end Go.Proofs.Ytjkjhgfiaodgmaa.V
namespace Go.Proofs.Ytjkjhgfiaodgmaa.V
open Go
open AV (int lst agg str bool ref clo)
open List (map)
def zil {α : Type} (A : Alg α) (x : Lnk) (kc : List AV → List (Nat × List AV) → α) : α :=
  A.loop 2 [iV 0] [[iV x.fr, iV x.to.ver, lst .ro 2 (map frmV x.to.forms), lst .ro 16 (map stpV x.on), lst .ro 16 (map stpV x.back)]] fun j0 l1 l2 => bif (j0.beq 0) then (aB A l1 fun b5 l4 => asN A l4 (asN A l2 (kc [bool b5] []))) else (bif (j0.beq 1) then (asN A l1 (asC A l2 fun l6 l7 => aI A l6 fun n10 l9 => aI A l9 fun n13 l12 => aL A 2 l12 fun l16 l15 => aL A 16 l15 fun l19 l18 => aL A 16 l18 fun l22 l21 => asN A l21 (asN A l7 (A.join (fun x23 => bif (decide ((↑l16.length : Int) > (40 : Int))) then (x23 true) else (A.callx 19 [lst .ro 16 l19] fun l24 => aB A l24 fun b27 l26 => asN A l26 (bif b27 then (x23 true) else (A.callx 19 [lst .ro 16 l22] fun l28 => aB A l28 fun b31 l30 => asN A l30 (x23 b31))))) fun b32 => kc [bool b32] [])))) else A.fail)
def z69 {α : Type} (A : Alg α) (x : Lnk) (i : Int) (next : List AV → List (List AV) → α) (kc : Nat → List AV → List (List AV) → α) : α :=
  A.join (fun x0 => bif (decide (i < (↑(map frmV x.to.forms).length : Int))) then (x0 (decide (i < (41 : Int)))) else (x0 false)) fun b1 => bif b1 then (A.chk (decide ((0 : Int) ≤ i)) (nthE A (map frmV x.to.forms) i.toNat fun v2 => asA A v2 fun l3 => aI A l3 fun n6 l5 => aL A 5 l5 fun l9 l8 => asN A l8 (bif (decide ((↑l9.length : Int) > (40 : Int))) then (kc 0 [bool true] []) else (next [iV (IntKind.i64.wrap (i + (1 : Int)))] [[iV x.fr, iV x.to.ver, lst .ro 2 (map frmV x.to.forms), lst .ro 16 (map stpV x.on), lst .ro 16 (map stpV x.back)]])))) else (kc 1 [] [[iV x.fr, iV x.to.ver, lst .ro 2 (map frmV x.to.forms), lst .ro 16 (map stpV x.on), lst .ro 16 (map stpV x.back)]])
def zim {α : Type} (A : Alg α) (x : Lnk) (kc : List AV → List (Nat × List AV) → α) : α :=
  A.join (fun x0 => bif (decide (x.fr < (1 : Int))) then (x0 true) else (bif (decide (x.fr > (65535 : Int))) then (x0 true) else (x0 (x.fr == x.to.ver)))) fun b1 => bif b1 then (kc [bool false] []) else (A.callx 31 [agg [iV x.fr, iV x.to.ver, lst .ro 2 (map frmV x.to.forms), lst .ro 16 (map stpV x.on), lst .ro 16 (map stpV x.back)]] fun l2 => aL A 1 l2 fun l5 l4 => aI A l4 fun n8 l7 => asN A l7 (kc [bool (n8 == (0 : Int))] []))
def zin {α : Type} (A : Alg α) (x : Lnk) (kc : List AV → List (Nat × List AV) → α) : α :=
  A.callx 49 [agg [iV x.to.ver, lst .ro 2 (map frmV x.to.forms)]] fun l0 => aL A 1 l0 fun l3 l2 => aI A l2 fun n6 l5 => asN A l5 (A.callx 50 [lst .ro 16 (map stpV x.on)] fun l7 => aL A 1 l7 fun l10 l9 => aI A l9 fun n13 l12 => asN A l12 (A.callx 50 [lst .ro 16 (map stpV x.back)] fun l14 => aL A 1 l14 fun l17 l16 => aI A l16 fun n20 l19 => asN A l19 (A.join (fun x21 => bif (n6 != (0 : Int)) then (x21 true) else (bif (n13 != (0 : Int)) then (x21 true) else (bif (n20 != (0 : Int)) then (x21 true) else (bif (decide (x.fr < (1 : Int))) then (x21 true) else (bif (decide (x.fr > (65535 : Int))) then (x21 true) else (x21 (x.fr == x.to.ver))))))) fun b22 => bif b22 then (kc [lst .ro 1 [], iV 2] []) else (A.call 51 [] [] fun l23 l24 => asC A l23 fun v25 l26 => asRef0 A v25 fun o27 => bif (o27.beq 64) then (asC A l24 fun x28 l29 => bif (x28.1.beq 64) then (asC A x28.2 fun v30 l31 => asOwn A 1 v30 fun x32 l33 => aI A l31 fun n36 l35 => asN A l35 (asN A l26 (asN A l29 (A.call 52 [ref 0 0, iV x.fr] [(0, [lst (.own (.E 0 0)) 1 l33, iV n36])] fun l37 l38 => asC A l38 fun x39 l40 => bif (x39.1.beq 0) then (asC A x39.2 fun v41 l42 => asOwn A 1 v41 fun x43 l44 => aI A l42 fun n47 l46 => asN A l46 (asN A l37 (asN A l40 (A.loop 10 [lst .ro 1 [lst .ro 1 l3, lst .ro 1 l10, lst .ro 1 l17], iV (↑[lst .ro (nat_lit 1) l3, lst .ro (nat_lit 1) l10, lst .ro (nat_lit 1) l17].length : Int), iV 0] [[lst (.own (.O 1061 0)) 1 l44, iV n47]] fun j48 l49 l50 => bif (j48.beq 1) then (asN A l49 (asC A l50 fun l51 l52 => asC A l51 fun v53 l54 => asOwn A 1 v53 fun x55 l56 => bif (x55.beq (.O (1061 : Nat) (0 : Nat))) then (aI A l54 fun n59 l58 => asN A l58 (asN A l52 (A.call 54 [ref 0 0] [(0, [lst (.own (.E 0 0)) 1 l56, iV n59])] fun l60 l61 => asC A l61 fun x62 l63 => bif (x62.1.beq 0) then (asC A x62.2 fun v64 l65 => asOwn A 1 v64 fun x66 l67 => aI A l65 fun n70 l69 => asN A l69 (aL A 1 l60 fun l73 l72 => aI A l72 fun n76 l75 => asN A l75 (asN A l63 (kc [lst .ro 1 l73, iV n76] [])))) else A.fail))) else A.fail)) else A.fail)))) else A.fail)))) else A.fail) else A.fail))))
def z9o {α : Type} (A : Alg α) (l : List (List UInt8)) (b : List AV) (m : Int) (i : Int) (e : Int) (next : List AV → List (List AV) → α) (kc : Nat → List AV → List (List AV) → α) : α :=
  bif (decide (i < m)) then (A.chk (decide ((0 : Int) ≤ i)) (nthE A (map bytesV l) i.toNat fun v0 => asL A 1 v0 fun l1 => orFail A (bytesOf l1) fun l2 => A.call 53 [ref 0 0, str l2] [(0, [lst (.own (.E 0 0)) 1 b, iV e])] fun l3 l4 => asC A l4 fun x5 l6 => bif (x5.1.beq 0) then (asC A x5.2 fun v7 l8 => asOwn A 1 v7 fun x9 l10 => aI A l8 fun n13 l12 => asN A l12 (asN A l3 (asN A l6 (next [lst .ro 1 (map bytesV l), iV m, iV (IntKind.i64.wrap (i + (1 : Int)))] [[lst (.own (.O 1061 0)) 1 l10, iV n13]])))) else A.fail)) else (kc 1 [] [[lst (.own (.O 1061 0)) 1 b, iV e]])
theorem zs4 (x : Lnk) {r : CR} (h : zil (OA (tbl E0) (ltbl E0 10 0)) x (fun r o => some (r, o)) = some r) : tbl E0 10 [lnkV x] [] = some r :=
  tblF Try.func10 h
theorem zfe (x : Lnk) (i : Int) {r : LR} (h : z69 (OA (tbl E0) (ltbl E0 10 0)) x i (fun vs os => ltbl E0 10 0 2 vs os) (fun j vs os => some (j, vs, os)) = some r) : ltbl E0 10 0 2 [iV i] [lnkC x] = some r :=
  ltblF Try.func10 h
theorem zs5 (x : Lnk) {r : CR} (h : zim (OA (tbl E0) (ltbl E0 21 0)) x (fun r o => some (r, o)) = some r) : tbl E0 21 [lnkV x] [] = some r :=
  tblF Try.func21 h
theorem zs6 (x : Lnk) {r : CR} (h : zin (OA (tbl E0) (ltbl E0 31 0)) x (fun r o => some (r, o)) = some r) : tbl E0 31 [lnkV x] [] = some r :=
  tblF Try.func31 h
theorem zff (l : List (List UInt8)) (b : List AV) (m i e : Int) {r : LR} (h : z9o (OA (tbl E0) (ltbl E0 31 0)) l b m i e (fun vs os => ltbl E0 31 0 10 vs os) (fun j vs os => some (j, vs, os)) = some r) : ltbl E0 31 0 10 [.lst .ro 1 (l.map bytesV), iV m, iV i] [[.lst (.own (.O 1061 0)) 1 b, iV e]] = some r :=
  ltblF Try.func31 h
end Go.Proofs.Ytjkjhgfiaodgmaa.V
namespace Go.Proofs.Ytjkjhgfiaodgmaa.V
open Go
def outW (i : Nat) (v : Int) : List (Int × Int) → List (Nat × Int)
  | [] => []
  | (a, b) :: r => if a = v then (i, b) :: outW (i + 1) v r else outW (i + 1) v r
def dfsW (l : List (Int × Int)) (goal : Int) : Nat → Int → Option (List Nat)
  | 0, v => if v = goal then some [] else none
  | n + 1, v => (outW 0 v l).findSome? fun p => (dfsW l goal n p.2).map (p.1 :: ·)
def intN (k : Nat) : AV := .int .i64 (k : Int)
abbrev natsV (w : List Nat) : AV := .lst .ro 1 (w.map intN)
end Go.Proofs.Ytjkjhgfiaodgmaa.V
namespace Go.Proofs.Ytjkjhgfiaodgmaa.V
open Go
open AV (int lst agg str bool ref clo)
open List (map)
-- folds: dbl
-- folds: cse
noncomputable def ze5 {α : Type} (A : Alg α) (l : List Lnk) (g : Int) (v : Int) (n : Int) (kc : List AV → List (Nat × List AV) → α) : α :=
  bif (n == (0 : Int)) then (kc [lst .ro 1 [], bool (v == g)] []) else (A.loop 4 [iV v, iV n, lst .ro 5 (map lnkV l), iV (↑(map lnkV l).length : Int), iV 0] [[lst .ro 5 (map lnkV l), iV g]] fun j0 l1 l2 => bif (j0.beq 0) then (aL A 1 l1 fun l5 l4 => aB A l4 fun b8 l7 => asN A l7 (asN A l2 (kc [lst .ro 1 l5, bool b8] []))) else (bif (j0.beq 1) then (asN A l1 (asN A l2 (kc [lst .ro 1 [], bool false] []))) else A.fail))
noncomputable def z5m {α : Type} (A : Alg α) (l : List Lnk) (g : Int) (v : Int) (n : Int) (m : Int) (i : Int) (next : List AV → List (List AV) → α) (kc : Nat → List AV → List (List AV) → α) : α :=
  bif (decide (i < m)) then (A.chk (decide ((0 : Int) ≤ i)) (nthE A (map lnkV l) i.toNat fun v0 => asA A v0 fun l1 => aI A l1 fun n4 l3 => aI A l3 fun n7 l6 => aL A 2 l6 fun l10 l9 => aL A 16 l9 fun l13 l12 => aL A 16 l12 fun l16 l15 => asN A l15 (bif (n4 != v) then (next [iV v, iV n, lst .ro 5 (map lnkV l), iV m, iV (IntKind.i64.wrap (i + (1 : Int)))] [[lst .ro 5 (map lnkV l), iV g]]) else (A.callx 15 [agg [lst .ro 5 (map lnkV l), iV g], iV n7, iV (IntKind.i64.wrap (n - (1 : Int)))] fun l17 => aL A 1 l17 fun l20 l19 => aB A l19 fun b23 l22 => asN A l22 (bif b23 then (A.chk (decide (([iV i].length + l20.length) * 8 ≤ 211106232532992)) (kc 0 [lst .ro 1 ((iV i) :: l20), bool true] [])) else (next [iV v, iV n, lst .ro 5 (map lnkV l), iV m, iV (IntKind.i64.wrap (i + (1 : Int)))] [[lst .ro 5 (map lnkV l), iV g]])))))) else (kc 1 [] [])
noncomputable def zio {α : Type} (A : Alg α) (l : List Lnk) (a : Int) (b : Int) (kc : List AV → List (Nat × List AV) → α) : α :=
  bif (decide ((↑(map lnkV l).length : Int) > (8 : Int))) then (kc [lst .ro 1 [], iV 7] []) else (A.loop 4 [lst .ro 5 (map lnkV l), iV a, iV b, iV (IntKind.i64.wrap ((↑(map lnkV l).length : Int) + (1 : Int))), iV 0] [] fun j0 l1 l2 => bif (j0.beq 0) then (aL A 1 l1 fun l5 l4 => aI A l4 fun n8 l7 => asN A l7 (asN A l2 (kc [lst .ro 1 l5, iV n8] []))) else (bif (j0.beq 1) then (asN A l1 (asN A l2 (kc [lst .ro 1 [], iV 19] []))) else A.fail))
noncomputable def zab {α : Type} (A : Alg α) (l : List Lnk) (a : Int) (b : Int) (m : Int) (i : Int) (next : List AV → List (List AV) → α) (kc : Nat → List AV → List (List AV) → α) : α :=
  bif (decide (i < m)) then (A.callx 15 [agg [lst .ro 5 (map lnkV l), iV b], iV a, iV i] fun l0 => aL A 1 l0 fun l3 l2 => aB A l2 fun b6 l5 => asN A l5 (bif b6 then (kc 0 [lst .ro 1 l3, iV 0] []) else (next [lst .ro 5 (map lnkV l), iV a, iV b, iV m, iV (IntKind.i64.wrap (i + (1 : Int)))] []))) else (kc 1 [] [])
theorem zlf (l : List Lnk) (g v n : Int) {r : CR} (h : ze5 (OA (tbl E0) (ltbl E0 15 0)) l g v n (fun r o => some (r, o)) = some r) : tbl E0 15 [.agg [lnksV l, iV g], iV v, iV n] [] = some r :=
  tblF Try.func15 h
theorem zip (l : List Lnk) (g v n m i : Int) {r : LR} (h : z5m (OA (tbl E0) (ltbl E0 15 0)) l g v n m i (fun vs os => ltbl E0 15 0 4 vs os) (fun j vs os => some (j, vs, os)) = some r) : ltbl E0 15 0 4 [iV v, iV n, lnksV l, iV m, iV i] [[lnksV l, iV g]] = some r :=
  ltblF Try.func15 h
theorem zw7 (l : List Lnk) (a b : Int) {r : CR} (h : zio (OA (tbl E0) (ltbl E0 8 0)) l a b (fun r o => some (r, o)) = some r) : tbl E0 8 [lnksV l, iV a, iV b] [] = some r :=
  tblF Try.func8 h
theorem zlg (l : List Lnk) (a b m i : Int) {r : LR} (h : zab (OA (tbl E0) (ltbl E0 8 0)) l a b m i (fun vs os => ltbl E0 8 0 4 vs os) (fun j vs os => some (j, vs, os)) = some r) : ltbl E0 8 0 4 [lnksV l, iV a, iV b, iV m, iV i] [] = some r :=
  ltblF Try.func8 h
end Go.Proofs.Ytjkjhgfiaodgmaa.V
namespace Go.Proofs.Ytjkjhgfiaodgmaa.V
open Go
open AV (int lst agg str bool ref clo)
open List (map)
-- folds: dbl
-- folds: cse
noncomputable def zlh {α : Type} (A : Alg α) (s : Sch) (x : Lnk) (kc : List AV → List (Nat × List AV) → α) : α :=
  A.callx 21 [agg [iV x.fr, iV x.to.ver, lst .ro 2 (map frmV x.to.forms), lst .ro 16 (map stpV x.on), lst .ro 16 (map stpV x.back)]] fun l0 => aB A l0 fun b3 l2 => asN A l2 (bif (!b3) then (kc [agg [iV s.ver, lst .ro 2 (map frmV s.forms)], iV 2] []) else (A.callx 22 [agg [iV s.ver, lst .ro 2 (map frmV s.forms)], lst .ro 16 (map stpV x.on), lst .ro 16 (map stpV x.back)] fun l4 => aI A l4 fun n7 l6 => aI A l6 fun n10 l9 => asN A l9 (bif (n10 != (0 : Int)) then (kc [agg [iV s.ver, lst .ro 2 (map frmV s.forms)], iV n10] []) else (A.callx 7 [agg [iV s.ver, lst .ro 2 (map frmV s.forms)], lst .ro 16 (map stpV x.on)] fun l11 => aA A l11 fun l14 l13 => aI A l14 fun n17 l16 => aL A 2 l16 fun l20 l19 => asN A l19 (aI A l13 fun n23 l22 => aI A l22 fun n26 l25 => asN A l25 (A.join (fun x27 => bif (n26 == (0 : Int)) then (A.callx 9 [agg [iV x.to.ver, lst .ro 2 l20], agg [iV x.to.ver, lst .ro 2 (map frmV x.to.forms)]] fun l28 => aB A l28 fun b31 l30 => asN A l30 (x27 (!b31))) else (x27 false)) fun b32 => bif b32 then (kc [agg [iV x.to.ver, lst .ro 2 l20], iV 17] []) else (kc [agg [iV x.to.ver, lst .ro 2 l20], iV n26] [])))))))
noncomputable def zfh {α : Type} (A : Alg α) (s : Sch) (l : List Lnk) (t : Sch) (kc : List AV → List (Nat × List AV) → α) : α :=
  A.join (fun x0 => A.callx 11 [agg [iV s.ver, lst .ro 2 (map frmV s.forms)]] fun l1 => aB A l1 fun b4 l3 => asN A l3 (bif (!b4) then (x0 true) else (A.callx 11 [agg [iV t.ver, lst .ro 2 (map frmV t.forms)]] fun l5 => aB A l5 fun b8 l7 => asN A l7 (x0 (!b8))))) fun b9 => bif b9 then (kc [lst .ro 16 [], iV 2] []) else (A.callx 8 [lst .ro 5 (map lnkV l), iV s.ver, iV t.ver] fun l10 => aL A 1 l10 fun l13 l12 => aI A l12 fun n16 l15 => asN A l15 (bif (n16 != (0 : Int)) then (kc [lst .ro 16 [], iV n16] []) else (A.loop 8 [lst .ro 5 (map lnkV l), lst (.own (.L 10)) 16 [], lst .ro 1 l13, iV (↑l13.length : Int), iV 0] [[iV s.ver, lst .ro 2 (map frmV s.forms)], [iV t.ver, lst .ro 2 (map frmV t.forms)]] fun j17 l18 l19 => bif (j17.beq 0) then (aL A 16 l18 fun l22 l21 => aI A l21 fun n25 l24 => asN A l24 (asN A l19 (kc [lst .ro 16 l22, iV n25] []))) else (bif (j17.beq 1) then (asC A l18 fun v26 l27 => asOwn A 16 v26 fun x28 l29 => bif (x28.beq (.L (10 : Nat))) then (asN A l27 (asC A l19 fun l30 l31 => aI A l30 fun n34 l33 => aL A 2 l33 fun l37 l36 => asN A l36 (asC A l31 fun l38 l39 => aI A l38 fun n42 l41 => aL A 2 l41 fun l45 l44 => asN A l44 (asN A l39 (A.callx 9 [agg [iV n34, lst .ro 2 l37], agg [iV n42, lst .ro 2 l45]] fun l46 => aB A l46 fun b49 l48 => asN A l48 (bif (!b49) then (kc [lst .ro 16 [], iV 17] []) else (bif (decide ((↑l29.length : Int) > (200 : Int))) then (kc [lst .ro 16 [], iV 7] []) else (kc [lst .ro 16 l29, iV 0] [])))))))) else A.fail) else A.fail))))
noncomputable def z3k {α : Type} (A : Alg α) (l : List Lnk) (d : List Stp) (w : List Nat) (m : Int) (i : Int) (s : Sch) (t : Sch) (next : List AV → List (List AV) → α) (kc : Nat → List AV → List (List AV) → α) (n6 : Int) (n9 : Int) (l12 : List AV) (l15 : List AV) (l18 : List AV) (n1 : Int) : α :=
  A.callx 12 [agg [iV s.ver, lst .ro 2 (map frmV s.forms)], agg [iV n6, iV n9, lst .ro 2 l12, lst .ro 16 l15, lst .ro 16 l18]] fun l19 => aA A l19 fun l22 l21 => aI A l22 fun n25 l24 => aL A 2 l24 fun l28 l27 => asN A l27 (aI A l21 fun n31 l30 => asN A l30 (bif (n31 != (0 : Int)) then (kc 0 [lst .ro 16 [], iV n31] []) else (A.chk (decide ((0 : Int) ≤ n1)) (nthE A (map lnkV l) n1.toNat fun v32 => asA A v32 fun l33 => aI A l33 fun n36 l35 => aI A l35 fun n39 l38 => aL A 2 l38 fun l42 l41 => aL A 16 l41 fun l45 l44 => aL A 16 l44 fun l48 l47 => asN A l47 (A.chk (decide (((map stpV d).length + l45.length) * 168 ≤ 211106232532992)) (next [lst .ro 5 (map lnkV l), lst (.own (.L 10)) 16 (map stpV d ++ l45), lst .ro 1 (map intN w), iV m, iV (IntKind.i64.wrap (i + (1 : Int)))] [[iV n25, lst .ro 2 l28], [iV t.ver, lst .ro 2 (map frmV t.forms)]]))))))
noncomputable def z52 {α : Type} (A : Alg α) (l : List Lnk) (d : List Stp) (w : List Nat) (m : Int) (i : Int) (s : Sch) (t : Sch) (next : List AV → List (List AV) → α) (kc : Nat → List AV → List (List AV) → α) : α :=
  bif (decide (i < m)) then (A.chk (decide ((0 : Int) ≤ i)) (nthE A (map intN w) i.toNat fun v0 => asI A .i64 v0 fun n1 => A.chk (decide ((0 : Int) ≤ n1)) (nthE A (map lnkV l) n1.toNat fun v2 => asA A v2 fun l3 => aI A l3 fun n6 l5 => aI A l5 fun n9 l8 => aL A 2 l8 fun l12 l11 => aL A 16 l11 fun l15 l14 => aL A 16 l14 fun l18 l17 => asN A l17 (A.both (dbl A (z3k A l d w m i s t next kc n6 n9 l12 l15 l18 n1)) (z3k A l d w m i s t next kc n6 n9 l12 l15 l18 n1))))) else (kc 1 [lst (.own (.L 10)) 16 (map stpV d)] [[iV s.ver, lst .ro 2 (map frmV s.forms)], [iV t.ver, lst .ro 2 (map frmV t.forms)]])
noncomputable def zp5 {α : Type} (A : Alg α) (s : Sch) (t : Sch) (l : List Lnk) (kc : List AV → List (Nat × List AV) → α) : α :=
  A.loop 2 [lst .ro 5 (map lnkV l), iV 0] [[iV s.ver, lst .ro 2 (map frmV s.forms)], [iV t.ver, lst .ro 2 (map frmV t.forms)]] fun j0 l1 l2 => bif (j0.beq 0) then (aB A l1 fun b5 l4 => asN A l4 (asN A l2 (kc [bool b5] []))) else (bif (j0.beq 1) then (aL A 5 l1 fun l8 l7 => asN A l7 (asC A l2 fun l9 l10 => aI A l9 fun n13 l12 => aL A 2 l12 fun l16 l15 => asN A l15 (asC A l10 fun l17 l18 => aI A l17 fun n21 l20 => aL A 2 l20 fun l24 l23 => asN A l23 (asN A l18 (A.join (fun x25 => bif (decide ((↑l8.length : Int) > (12 : Int))) then (x25 true) else (A.callx 10 [agg [iV 0, iV n13, lst .ro 2 l16, lst .ro 16 [], lst .ro 16 []]] fun l26 => aB A l26 fun b29 l28 => asN A l28 (bif b29 then (x25 true) else (A.callx 10 [agg [iV 0, iV n21, lst .ro 2 l24, lst .ro 16 [], lst .ro 16 []]] fun l30 => aB A l30 fun b33 l32 => asN A l32 (x25 b33))))) fun b34 => kc [bool b34] []))))) else A.fail)
noncomputable def zac {α : Type} (A : Alg α) (s : Sch) (t : Sch) (l : List Lnk) (i : Int) (next : List AV → List (List AV) → α) (kc : Nat → List AV → List (List AV) → α) : α :=
  A.join (fun x0 => bif (decide (i < (↑(map lnkV l).length : Int))) then (x0 (decide (i < (13 : Int)))) else (x0 false)) fun b1 => bif b1 then (A.chk (decide ((0 : Int) ≤ i)) (nthE A (map lnkV l) i.toNat fun v2 => asA A v2 fun l3 => aI A l3 fun n6 l5 => aI A l5 fun n9 l8 => aL A 2 l8 fun l12 l11 => aL A 16 l11 fun l15 l14 => aL A 16 l14 fun l18 l17 => asN A l17 (A.callx 10 [agg [iV n6, iV n9, lst .ro 2 l12, lst .ro 16 l15, lst .ro 16 l18]] fun l19 => aB A l19 fun b22 l21 => asN A l21 (bif b22 then (kc 0 [bool true] []) else (next [lst .ro 5 (map lnkV l), iV (IntKind.i64.wrap (i + (1 : Int)))] [[iV s.ver, lst .ro 2 (map frmV s.forms)], [iV t.ver, lst .ro 2 (map frmV t.forms)]]))))) else (kc 1 [lst .ro 5 (map lnkV l)] [[iV s.ver, lst .ro 2 (map frmV s.forms)], [iV t.ver, lst .ro 2 (map frmV t.forms)]])
noncomputable def z6n {α : Type} (A : Alg α) (s : Sch) (l : List Lnk) (t : Sch) (kc : List AV → List (Nat × List AV) → α) : α :=
  A.callx 4 [agg [iV s.ver, lst .ro 2 (map frmV s.forms)], agg [iV t.ver, lst .ro 2 (map frmV t.forms)], lst .ro 5 (map lnkV l)] fun l0 => aB A l0 fun b3 l2 => asN A l2 (bif b3 then (A.callx 5 [] fun l4 => aB A l4 fun b7 l6 => asN A l6 (kc [bool b7] [])) else (A.callx 6 [agg [iV s.ver, lst .ro 2 (map frmV s.forms)], lst .ro 5 (map lnkV l), agg [iV t.ver, lst .ro 2 (map frmV t.forms)]] fun l8 => aL A 16 l8 fun l11 l10 => aI A l10 fun n14 l13 => asN A l13 (bif (n14 != (0 : Int)) then (A.join (fun x15 => bif ((↑l11.length : Int) == (0 : Int)) then (A.callx 5 [] fun l16 => aB A l16 fun b19 l18 => asN A l18 (x15 b19)) else (x15 false)) fun b20 => kc [bool b20] []) else (A.callx 7 [agg [iV s.ver, lst .ro 2 (map frmV s.forms)], lst .ro 16 l11] fun l21 => aA A l21 fun l24 l23 => aI A l24 fun n27 l26 => aL A 2 l26 fun l30 l29 => asN A l29 (aI A l23 fun n33 l32 => aI A l32 fun n36 l35 => asN A l35 (A.callx 8 [lst .ro 5 (map lnkV l), iV s.ver, iV t.ver] fun l37 => aL A 1 l37 fun l40 l39 => aI A l39 fun n43 l42 => asN A l42 (A.join (fun x44 => bif (n36 != (0 : Int)) then (x44 true) else (A.callx 9 [agg [iV t.ver, lst .ro 2 l30], agg [iV t.ver, lst .ro 2 (map frmV t.forms)]] fun l45 => aB A l45 fun b48 l47 => asN A l47 (bif (!b48) then (x44 true) else (bif (n43 != (0 : Int)) then (x44 true) else (x44 (decide ((↑l11.length : Int) > (200 : Int)))))))) fun b49 => bif b49 then (kc [bool false] []) else (A.loop 13 [lst .ro 5 (map lnkV l), lst .ro 1 l40, iV s.ver, iV 0] [[iV s.ver, lst .ro 2 (map frmV s.forms)], [iV t.ver, lst .ro 2 (map frmV t.forms)]] fun j50 l51 l52 => bif (j50.beq 0) then (aB A l51 fun b55 l54 => asN A l54 (asN A l52 (kc [bool b55] []))) else (bif (j50.beq 1) then (aI A l51 fun n58 l57 => asN A l57 (asC A l52 fun l59 l60 => aI A l59 fun n63 l62 => aL A 2 l62 fun l66 l65 => asN A l65 (asN A l60 (A.join (fun x67 => bif (n58 == n63) then (A.callx 5 [] fun l68 => aB A l68 fun b71 l70 => asN A l70 (x67 b71)) else (x67 false)) fun b72 => kc [bool b72] [])))) else A.fail)))))))))
noncomputable def z5n {α : Type} (A : Alg α) (s : Sch) (l : List Lnk) (t : Sch) (w : List Nat) (a : Int) (i : Int) (next : List AV → List (List AV) → α) (kc : Nat → List AV → List (List AV) → α) : α :=
  bif (decide (i < (↑(map intN w).length : Int))) then (A.join (fun x0 => A.chk (decide ((0 : Int) ≤ i)) (nthE A (map intN w) i.toNat fun v1 => asI A .i64 v1 fun n2 => bif (decide (n2 < (0 : Int))) then (x0 true) else (A.chk (decide ((0 : Int) ≤ i)) (nthE A (map intN w) i.toNat fun v3 => asI A .i64 v3 fun n4 => bif (decide (n4 ≥ (↑(map lnkV l).length : Int))) then (x0 true) else (A.chk (decide ((0 : Int) ≤ i)) (nthE A (map intN w) i.toNat fun v5 => asI A .i64 v5 fun n6 => A.chk (decide ((0 : Int) ≤ n6)) (nthE A (map lnkV l) n6.toNat fun v7 => asA A v7 fun l8 => aI A l8 fun n11 l10 => aI A l10 fun n14 l13 => aL A 2 l13 fun l17 l16 => aL A 16 l16 fun l20 l19 => aL A 16 l19 fun l23 l22 => asN A l22 (x0 (n11 != a))))))))) fun b24 => bif b24 then (kc 0 [bool false] []) else (A.chk (decide ((0 : Int) ≤ i)) (nthE A (map intN w) i.toNat fun v25 => asI A .i64 v25 fun n26 => A.chk (decide ((0 : Int) ≤ n26)) (nthE A (map lnkV l) n26.toNat fun v27 => asA A v27 fun l28 => aI A l28 fun n31 l30 => aI A l30 fun n34 l33 => aL A 2 l33 fun l37 l36 => aL A 16 l36 fun l40 l39 => aL A 16 l39 fun l43 l42 => asN A l42 (A.join (fun x44 => bif (decide ((↑(map intN w).length : Int) > (1 : Int))) then (A.chk (decide ((0 : Int) ≤ i)) (nthE A (map intN w) i.toNat fun v45 => asI A .i64 v45 fun n46 => A.chk (decide ((0 : Int) ≤ n46)) (nthE A (map lnkV l) n46.toNat fun v47 => asA A v47 fun l48 => aI A l48 fun n51 l50 => aI A l50 fun n54 l53 => aL A 2 l53 fun l57 l56 => aL A 16 l56 fun l60 l59 => aL A 16 l59 fun l63 l62 => asN A l62 (bif (n51 == s.ver) then (x44 (n34 == t.ver)) else (x44 false))))) else (x44 false)) fun b64 => bif b64 then (kc 0 [bool false] []) else (next [lst .ro 5 (map lnkV l), lst .ro 1 (map intN w), iV n34, iV (IntKind.i64.wrap (i + (1 : Int)))] [[iV s.ver, lst .ro 2 (map frmV s.forms)], [iV t.ver, lst .ro 2 (map frmV t.forms)]])))))) else (kc 1 [iV a] [[iV t.ver, lst .ro 2 (map frmV t.forms)]])
theorem zu8 (s : Sch) (x : Lnk) {r : CR} (h : zlh (OA (tbl E0) (ltbl E0 12 0)) s x (fun r o => some (r, o)) = some r) : tbl E0 12 [schV s, lnkV x] [] = some r :=
  tblF Try.func12 h
theorem zp6 (s : Sch) (l : List Lnk) (t : Sch) {r : CR} (h : zfh (OA (tbl E0) (ltbl E0 6 0)) s l t (fun r o => some (r, o)) = some r) : tbl E0 6 [schV s, lnksV l, schV t] [] = some r :=
  tblF Try.func6 h
theorem zd6 (l : List Lnk) (d : List Stp) (w : List Nat) (m i : Int) (s t : Sch) {r : LR} (h : z52 (OA (tbl E0) (ltbl E0 6 0)) l d w m i s t (fun vs os => ltbl E0 6 0 8 vs os) (fun j vs os => some (j, vs, os)) = some r) : ltbl E0 6 0 8 [lnksV l, .lst (.own (.L 10)) 16 (d.map stpV), natsV w, iV m, iV i] [[iV s.ver, frmsV s.forms], [iV t.ver, frmsV t.forms]] = some r :=
  ltblF Try.func6 h
theorem zw8 (s t : Sch) (l : List Lnk) {r : CR} (h : zp5 (OA (tbl E0) (ltbl E0 4 0)) s t l (fun r o => some (r, o)) = some r) : tbl E0 4 [schV s, schV t, lnksV l] [] = some r :=
  tblF Try.func4 h
theorem zli (s t : Sch) (l : List Lnk) (i : Int) {r : LR} (h : zac (OA (tbl E0) (ltbl E0 4 0)) s t l i (fun vs os => ltbl E0 4 0 2 vs os) (fun j vs os => some (j, vs, os)) = some r) : ltbl E0 4 0 2 [lnksV l, iV i] [[iV s.ver, frmsV s.forms], [iV t.ver, frmsV t.forms]] = some r :=
  ltblF Try.func4 h
theorem zk3 (s : Sch) (l : List Lnk) (t : Sch) {r : CR} (h : z6n (OA (tbl E0) (ltbl E0 3 0)) s l t (fun r o => some (r, o)) = some r) : tbl E0 3 [schV s, lnksV l, schV t] [] = some r :=
  tblF Try.func3 h
theorem z9q (s : Sch) (l : List Lnk) (t : Sch) (w : List Nat) (a i : Int) {r : LR} (h : z5n (OA (tbl E0) (ltbl E0 3 0)) s l t w a i (fun vs os => ltbl E0 3 0 13 vs os) (fun j vs os => some (j, vs, os)) = some r) : ltbl E0 3 0 13 [lnksV l, natsV w, iV a, iV i] [[iV s.ver, frmsV s.forms], [iV t.ver, frmsV t.forms]] = some r :=
  ltblF Try.func3 h
end Go.Proofs.Ytjkjhgfiaodgmaa.V
namespace Go.Proofs.Ytjkjhgfiaodgmaa.V
open Go
open AV (int lst agg str bool ref clo)
open List (map)
-- folds: dbl
-- folds: cse
end Go.Proofs.Ytjkjhgfiaodgmaa.V
namespace Go.Proofs.Ytjkjhgfiaodgmaa.V
open Go
open AV (int lst agg str bool ref clo)
open List (map)
abbrev fldsU (l : List Fld) : AV := AV.lst .uq 5 (l.map fldV)
abbrev frmsU (l : List Frm) : AV := AV.lst .uq 2 (l.map frmV)
abbrev madO (x : Stp) (v : Int) (l : List Frm) (p e : Int) : List AV := [iV x.op, iV x.form, iV x.field, iV x.place, iV x.to, iV x.a, iV x.b, iV x.f.id, iV x.f.kind, iV x.f.lo, iV x.f.hi, iV x.f.most, iV x.n, .str x.s, intsV x.t, fldsV x.fields, iV v, frmsU l, iV p, iV e]
-- folds: dbl
-- folds: cse
-- fold madO x V L P E := [iV x.op, iV x.form, iV x.field, iV x.place, iV x.to, iV x.a, iV x.b, iV x.f.id, iV x.f.kind, iV x.f.lo, iV x.f.hi, iV x.f.most, iV x.n, str x.s, lst .ro 1 (map (fun n => iV n) x.t), lst .ro 5 (map fldV x.fields), iV V, lst .uq 2 (map frmV L), iV P, iV E]
noncomputable def zbr {α : Type} (A : Alg α) (l : List Fld) (kc : List AV → List (Nat × List AV) → α) : α :=
  nilEq A Md.ro (map fldV l) fun b0 => bif b0 then (kc [lst .uq 5 []] []) else (A.chk (decide (((0 : Nat) + (map fldV l).length) * 40 ≤ 211106232532992)) (bif (([] ++ map fldV l).all AV.flat) then (kc [lst .uq 5 (map fldV l)] []) else A.fail))
noncomputable def zfi {α : Type} (A : Alg α) (s : Sch) (kc : List AV → List (Nat × List AV) → α) : α :=
  A.loop 3 [lst .ro 2 (map frmV s.forms), iV (↑(map frmV s.forms).length : Int), iV 0] [[iV 0, lst .ro 2 []], [iV s.ver, lst .uq 2 []]] fun j0 l1 l2 => bif (j0.beq 1) then (asN A l1 (asC A l2 fun l3 l4 => aI A l3 fun n7 l6 => aL A 2 l6 fun l10 l9 => asN A l9 (asC A l4 fun l11 l12 => aI A l11 fun n15 l14 => aU A 2 l14 fun l18 l17 => asN A l17 (asN A l12 (bif (l18.all AV.flat) then (kc [agg [iV n15, lst .uq 2 l18]] []) else A.fail))))) else A.fail
noncomputable def z7n {α : Type} (A : Alg α) (l : List Frm) (v : Int) (d : List Frm) (m : Int) (i : Int) (next : List AV → List (List AV) → α) (kc : Nat → List AV → List (List AV) → α) : α :=
  bif (decide (i < m)) then (A.chk (decide ((0 : Int) ≤ i)) (nthE A (map frmV l) i.toNat fun v0 => asA A v0 fun l1 => aI A l1 fun n4 l3 => aL A 5 l3 fun l7 l6 => asN A l6 (A.both (A.call 23 [lst .ro 5 l7] [] fun l8 l9 => aU A 5 l8 fun l12 l11 => asN A l11 (asN A l9 (bif (l12.all AV.flat) then (A.chk (decide (((map frmV d).length + [agg [iV n4, lst .ro (nat_lit 5) l12]].length) * 32 ≤ 211106232532992)) (bif ((map frmV d ++ [agg [iV n4, lst .ro (nat_lit 5) l12]]).all AV.flat) then (next [lst .ro 2 (map frmV l), iV m, iV (IntKind.i64.wrap (i + (1 : Int)))] [[iV 0, lst .ro 2 []], [iV v, lst .uq 2 (map frmV d ++ [agg [iV n4, lst .ro (nat_lit 5) l12]])]]) else A.fail)) else A.fail))) (A.call 23 [lst .ro 5 l7] [] fun l13 l14 => aU A 5 l13 fun l17 l16 => asN A l16 (asN A l14 (bif (l17.all AV.flat) then (dbl A (A.chk (decide (((map frmV d).length + [agg [iV n4, lst .ro (nat_lit 5) l17]].length) * 32 ≤ 211106232532992)) (bif ((map frmV d ++ [agg [iV n4, lst .ro (nat_lit 5) l17]]).all AV.flat) then (next [lst .ro 2 (map frmV l), iV m, iV (IntKind.i64.wrap (i + (1 : Int)))] [[iV 0, lst .ro 2 []], [iV v, lst .uq 2 (map frmV d ++ [agg [iV n4, lst .ro (nat_lit 5) l17]])]]) else A.fail))) else A.fail)))))) else (bif ((map frmV d).all AV.flat) then (kc 1 [] [[iV 0, lst .ro 2 []], [iV v, lst .uq 2 (map frmV d)]]) else A.fail)
noncomputable def zlj {α : Type} (A : Alg α) (x : Stp) (v : Int) (l : List Frm) (p : Int) (e : Int) (kc : List AV → List (Nat × List AV) → α) : α :=
  bif (fitI [((0 : Nat), (madO x v l p e))] && [ref (0 : Nat) (0 : Nat)].all fitA && nodupN (map (fun x => x.fst) (oshOf T0 (0 : Nat) [ref (0 : Nat) (0 : Nat)] Go.Proofs.Try.f38.params.toList)) && (oshOf T0 (0 : Nat) [ref (0 : Nat) (0 : Nat)] Go.Proofs.Try.f38.params.toList).all fun p => p.fst.blt (64 : Nat)) then (bif ((map frmV l).all AV.flat) then (A.loop 2 [] [(madO x v l 0 e)] fun j0 l1 l2 => bif (j0.beq 1) then (asN A l1 (asC A l2 fun l3 l4 => aI A l3 fun n7 l6 => aI A l6 fun n10 l9 => aI A l9 fun n13 l12 => aI A l12 fun n16 l15 => aI A l15 fun n19 l18 => aI A l18 fun n22 l21 => aI A l21 fun n25 l24 => aI A l24 fun n28 l27 => aI A l27 fun n31 l30 => aI A l30 fun n34 l33 => aI A l33 fun n37 l36 => aI A l36 fun n40 l39 => aI A l39 fun n43 l42 => aS A l42 fun l46 l45 => aL A 1 l45 fun l49 l48 => aL A 5 l48 fun l52 l51 => aI A l51 fun n55 l54 => aU A 2 l54 fun l58 l57 => aI A l57 fun n61 l60 => aI A l60 fun n64 l63 => asN A l63 (asN A l4 (A.join (fun x65 => bif (decide (n61 < (↑l58.length : Int))) then (A.chk (decide ((0 : Int) ≤ n61) && decide (n61 < (↑l58.length : Int))) (nthE A l58 n61.toNat fun v66 => nthE A v66.cells 0 fun v67 => bin A (TD.mk (TK.int IntKind.i64) 1 8 [iV 0] (Sh.int IntKind.i64) []) BinOp.eql v67 (iV n10) fun v68 => asB A v68 fun b69 => x65 b69)) else (x65 false)) fun b70 => bif (l58.all AV.flat) then (kc [bool b70] [(0, [iV n7, iV n10, iV n13, iV n16, iV n19, iV n22, iV n25, iV n28, iV n31, iV n34, iV n37, iV n40, iV n43, str l46, lst .ro 1 l49, lst .ro 5 l52, iV n55, lst .uq 2 l58, iV n61, iV n64])]) else A.fail)))) else A.fail) else A.fail) else A.fail
noncomputable def zbs {α : Type} (A : Alg α) (x : Stp) (v : Int) (l : List Frm) (p : Int) (e : Int) (next : List AV → List (List AV) → α) (kc : Nat → List AV → List (List AV) → α) : α :=
  A.join (fun x0 => bif (decide (p < (↑(map frmV l).length : Int))) then (A.chk (decide ((0 : Int) ≤ p) && decide (p < (↑(map frmV l).length : Int))) (nthE A (map frmV l) p.toNat fun v1 => nthE A v1.cells 0 fun v2 => bin A (TD.mk (TK.int IntKind.i64) 1 8 [iV 0] (Sh.int IntKind.i64) []) BinOp.lss v2 (iV x.form) fun v3 => asB A v3 fun b4 => x0 b4)) else (x0 false)) fun b5 => bif b5 then (bif ((map frmV l).all AV.flat) then (next [] [(madO x v l (IntKind.i64.wrap (p + (1 : Int))) e)]) else A.fail) else (bif ((map frmV l).all AV.flat) then (kc 1 [] [(madO x v l p e)]) else A.fail)
noncomputable def z1x {α : Type} (A : Alg α) (x : Stp) (v : Int) (l : List Frm) (p : Int) (e : Int) (kc : List AV → List (Nat × List AV) → α) (j72 : Nat) (l73 : List AV) (l74 : List (List AV)) : α :=
  bif (j72.beq 0) then (aI A l73 fun n77 l76 => asN A l76 (asC A l74 fun l78 l79 => aI A l78 fun n82 l81 => aI A l81 fun n85 l84 => aI A l84 fun n88 l87 => aI A l87 fun n91 l90 => aI A l90 fun n94 l93 => aI A l93 fun n97 l96 => aI A l96 fun n100 l99 => aI A l99 fun n103 l102 => aI A l102 fun n106 l105 => aI A l105 fun n109 l108 => aI A l108 fun n112 l111 => aI A l111 fun n115 l114 => aI A l114 fun n118 l117 => aS A l117 fun l121 l120 => aL A 1 l120 fun l124 l123 => aL A 5 l123 fun l127 l126 => aI A l126 fun n130 l129 => aU A 2 l129 fun l133 l132 => aI A l132 fun n136 l135 => aI A l135 fun n139 l138 => asN A l138 (asN A l79 (bif (l133.all AV.flat) then (kc [iV n77] [(0, [iV n82, iV n85, iV n88, iV n91, iV n94, iV n97, iV n100, iV n103, iV n106, iV n109, iV n112, iV n115, iV n118, str l121, lst .ro 1 l124, lst .ro 5 l127, iV n130, lst .uq 2 l133, iV n136, iV n139])]) else A.fail)))) else A.fail
noncomputable def z4q {α : Type} (A : Alg α) (x : Stp) (v : Int) (l : List Frm) (p : Int) (e : Int) (kc : List AV → List (Nat × List AV) → α) (l57 : List AV) (n18 : Int) (n6 : Int) (n9 : Int) (n12 : Int) (n15 : Int) (n21 : Int) (n24 : Int) (n27 : Int) (n30 : Int) (n33 : Int) (n36 : Int) (n39 : Int) (n42 : Int) (l45 : List UInt8) (l48 : List AV) (l51 : List AV) (n54 : Int) (n60 : Int) (n71 : Int) (v67 : AV) : α :=
  bif (l57.all AV.flat) then (A.loop 1000020 [iV n18] [[iV n6, iV n9, iV n12, iV n15, iV n18, iV n21, iV n24, iV n27, iV n30, iV n33, iV n36, iV n39, iV n42, str l45, lst .ro 1 l48, lst .ro 5 l51, iV n54, lst .uq 2 l57, iV n60, iV n71], (map AV.dem1 (setAt ((tabAt T0 (E0.an (25 : Nat) (0 : Nat))).ty (60 : Nat)).zero (0 : Nat) (List.take (2 : Nat) (List.drop (0 : Nat) v67.cells))))] fun j140 l141 l142 => z1x A x v l p e kc j140 l141 l142) else A.fail
noncomputable def z3i {α : Type} (A : Alg α) (x : Stp) (v : Int) (l : List Frm) (p : Int) (e : Int) (kc : List AV → List (Nat × List AV) → α) (l57 : List AV) (n60 : Int) (n12 : Int) (n6 : Int) (n27 : Int) (n9 : Int) (n15 : Int) (n18 : Int) (n21 : Int) (n24 : Int) (n30 : Int) (n33 : Int) (n36 : Int) (n39 : Int) (n42 : Int) (l45 : List UInt8) (l48 : List AV) (l51 : List AV) (n54 : Int) : α :=
  nthE A l57 n60.toNat fun v67 => A.chk (Nat.ble (2 : Nat) v67.cells.length) (A.chk ((List.take (2 : Nat) (List.drop (0 : Nat) v67.cells)).length.beq (2 : Nat)) (A.chk (((0 : Nat) + (List.take (2 : Nat) (List.drop (0 : Nat) v67.cells)).length).ble (2 : Nat)) (bif ((map AV.dem1 (setAt ((tabAt T0 (E0.an (25 : Nat) (0 : Nat))).ty (60 : Nat)).zero (0 : Nat) (List.take (2 : Nat) (List.drop (0 : Nat) v67.cells)))).all AV.flat1) then (A.chk (Nat.ble (2 : Nat) (map AV.dem1 (setAt ((tabAt T0 (E0.an (25 : Nat) (0 : Nat))).ty (60 : Nat)).zero (0 : Nat) (List.take (2 : Nat) (List.drop (0 : Nat) v67.cells)))).length) (bif ([agg (demSL [Sh.int IntKind.i64, Sh.lst (5 : Nat)] (List.take ((tabAt T0 (E0.an (25 : Nat) (0 : Nat))).ty (60 : Nat)).size (List.drop (0 : Nat) (map AV.dem1 (setAt ((tabAt T0 (E0.an (25 : Nat) (0 : Nat))).ty (60 : Nat)).zero (0 : Nat) (List.take ((tabAt T0 (E0.an (25 : Nat) (0 : Nat))).ty (60 : Nat)).size (List.drop (0 : Nat) v67.cells))))))), iV n12].all AV.flat && [agg (List.take (2 : Nat) (List.drop (0 : Nat) (map AV.dem1 (setAt ((tabAt T0 (E0.an (25 : Nat) (0 : Nat))).ty (60 : Nat)).zero (0 : Nat) (List.take (2 : Nat) (List.drop (0 : Nat) v67.cells)))))), iV n12].length.beq (2 : Nat)) then (A.callx 39 [agg (demSL [Sh.int IntKind.i64, Sh.lst (5 : Nat)] (List.take (2 : Nat) (List.drop (0 : Nat) (map AV.dem1 (setAt ((tabAt T0 (E0.an (25 : Nat) (0 : Nat))).ty (60 : Nat)).zero (0 : Nat) (List.take (2 : Nat) (List.drop (0 : Nat) v67.cells))))))), iV n12] fun l68 => aI A l68 fun n71 l70 => asN A l70 (bif (n6 == (1 : Int)) then (bif (l57.all AV.flat) then (A.loop 1000020 [iV n27] [[iV n6, iV n9, iV n12, iV n15, iV n18, iV n21, iV n24, iV n27, iV n30, iV n33, iV n36, iV n39, iV n42, str l45, lst .ro 1 l48, lst .ro 5 l51, iV n54, lst .uq 2 l57, iV n60, iV n15], (map AV.dem1 (setAt ((tabAt T0 (E0.an (25 : Nat) (0 : Nat))).ty (60 : Nat)).zero (0 : Nat) (List.take (2 : Nat) (List.drop (0 : Nat) v67.cells))))] fun j72 l73 l74 => z1x A x v l p e kc j72 l73 l74) else A.fail) else (bif (n6 == (6 : Int)) then (z4q A x v l p e kc l57 n18 n6 n9 n12 n15 n21 n24 n27 n30 n33 n36 n39 n42 l45 l48 l51 n54 n60 n71 v67) else (bif (n6 == (8 : Int)) then (z4q A x v l p e kc l57 n18 n6 n9 n12 n15 n21 n24 n27 n30 n33 n36 n39 n42 l45 l48 l51 n54 n60 n71 v67) else (bif (n6 == (10 : Int)) then (bif (l57.all AV.flat) then (A.loop 1000020 [iV (-1)] [[iV n6, iV n9, iV n12, iV n15, iV n18, iV n21, iV n24, iV n27, iV n30, iV n33, iV n36, iV n39, iV n42, str l45, lst .ro 1 l48, lst .ro 5 l51, iV n54, lst .uq 2 l57, iV n60, iV 0], (map AV.dem1 (setAt ((tabAt T0 (E0.an (25 : Nat) (0 : Nat))).ty (60 : Nat)).zero (0 : Nat) (List.take (2 : Nat) (List.drop (0 : Nat) v67.cells))))] fun j276 l277 l278 => z1x A x v l p e kc j276 l277 l278) else A.fail) else (bif (l57.all AV.flat) then (A.loop 1000020 [iV (-1)] [[iV n6, iV n9, iV n12, iV n15, iV n18, iV n21, iV n24, iV n27, iV n30, iV n33, iV n36, iV n39, iV n42, str l45, lst .ro 1 l48, lst .ro 5 l51, iV n54, lst .uq 2 l57, iV n60, iV n71], (map AV.dem1 (setAt ((tabAt T0 (E0.an (25 : Nat) (0 : Nat))).ty (60 : Nat)).zero (0 : Nat) (List.take (2 : Nat) (List.drop (0 : Nat) v67.cells))))] fun j344 l345 l346 => z1x A x v l p e kc j344 l345 l346) else A.fail)))))) else A.fail)) else A.fail)))
noncomputable def z6o {α : Type} (A : Alg α) (x : Stp) (v : Int) (l : List Frm) (p : Int) (e : Int) (kc : List AV → List (Nat × List AV) → α) (n60 : Int) (l57 : List AV) (n12 : Int) (n6 : Int) (n27 : Int) (n9 : Int) (n15 : Int) (n18 : Int) (n21 : Int) (n24 : Int) (n30 : Int) (n33 : Int) (n36 : Int) (n39 : Int) (n42 : Int) (l45 : List UInt8) (l48 : List AV) (l51 : List AV) (n54 : Int) : α :=
  A.both (A.both (A.chk (decide ((0 : Int) ≤ n60) && decide (n60 < (↑l57.length : Int))) (dbl A (z3i A x v l p e kc l57 n60 n12 n6 n27 n9 n15 n18 n21 n24 n30 n33 n36 n39 n42 l45 l48 l51 n54))) (A.chk (decide ((0 : Int) ≤ n60) && decide (n60 < (↑l57.length : Int))) (z3i A x v l p e kc l57 n60 n12 n6 n27 n9 n15 n18 n21 n24 n30 n33 n36 n39 n42 l45 l48 l51 n54))) (A.chk (decide ((0 : Int) ≤ n60) && decide (n60 < (↑l57.length : Int))) (z3i A x v l p e kc l57 n60 n12 n6 n27 n9 n15 n18 n21 n24 n30 n33 n36 n39 n42 l45 l48 l51 n54))
noncomputable def z7o {α : Type} (A : Alg α) (x : Stp) (v : Int) (l : List Frm) (p : Int) (e : Int) (kc : List AV → List (Nat × List AV) → α) : α :=
  bif (fitI [((0 : Nat), (madO x v l p e))] && [ref (0 : Nat) (0 : Nat)].all fitA && nodupN (map (fun x => x.fst) (oshOf T0 (0 : Nat) [ref (0 : Nat) (0 : Nat)] Go.Proofs.Try.f25.params.toList)) && (oshOf T0 (0 : Nat) [ref (0 : Nat) (0 : Nat)] Go.Proofs.Try.f25.params.toList).all fun p => p.fst.blt (64 : Nat)) then (bif ((map frmV l).all AV.flat) then (A.call 38 [ref 0 0] [(0, (madO x v l p e))] fun l0 l1 => asC A l1 fun x2 l3 => bif (x2.1.beq 0) then (aI A x2.2 fun n6 l5 => aI A l5 fun n9 l8 => aI A l8 fun n12 l11 => aI A l11 fun n15 l14 => aI A l14 fun n18 l17 => aI A l17 fun n21 l20 => aI A l20 fun n24 l23 => aI A l23 fun n27 l26 => aI A l26 fun n30 l29 => aI A l29 fun n33 l32 => aI A l32 fun n36 l35 => aI A l35 fun n39 l38 => aI A l38 fun n42 l41 => aS A l41 fun l45 l44 => aL A 1 l44 fun l48 l47 => aL A 5 l47 fun l51 l50 => aI A l50 fun n54 l53 => aU A 2 l53 fun l57 l56 => aI A l56 fun n60 l59 => aI A l59 fun n63 l62 => asN A l62 (aB A l0 fun b66 l65 => asN A l65 (asN A l3 (bif (n6 == (9 : Int)) then (bif b66 then (bif (l57.all AV.flat) then (kc [iV 9] [(0, [iV n6, iV n9, iV n12, iV n15, iV n18, iV n21, iV n24, iV n27, iV n30, iV n33, iV n36, iV n39, iV n42, str l45, lst .ro 1 l48, lst .ro 5 l51, iV n54, lst .uq 2 l57, iV n60, iV n63])]) else A.fail) else (bif (l57.all AV.flat) then (kc [iV 0] [(0, [iV n6, iV n9, iV n12, iV n15, iV n18, iV n21, iV n24, iV n27, iV n30, iV n33, iV n36, iV n39, iV n42, str l45, lst .ro 1 l48, lst .ro 5 l51, iV n54, lst .uq 2 l57, iV n60, iV n63])]) else A.fail)) else (bif (!b66) then (bif (l57.all AV.flat) then (kc [iV 8] [(0, [iV n6, iV n9, iV n12, iV n15, iV n18, iV n21, iV n24, iV n27, iV n30, iV n33, iV n36, iV n39, iV n42, str l45, lst .ro 1 l48, lst .ro 5 l51, iV n54, lst .uq 2 l57, iV n60, iV n63])]) else A.fail) else (A.both (z6o A x v l p e kc n60 l57 n12 n6 n27 n9 n15 n18 n21 n24 n30 n33 n36 n39 n42 l45 l48 l51 n54) (A.both (z6o A x v l p e kc n60 l57 n12 n6 n27 n9 n15 n18 n21 n24 n30 n33 n36 n39 n42 l45 l48 l51 n54) (dbl A (A.chk (decide ((0 : Int) ≤ n60) && decide (n60 < (↑l57.length : Int))) (z3i A x v l p e kc l57 n60 n12 n6 n27 n9 n15 n18 n21 n24 n30 n33 n36 n39 n42 l45 l48 l51 n54)))))))))) else A.fail) else A.fail) else A.fail
noncomputable def zfj {α : Type} (A : Alg α) (x : Stp) (v : Int) (l : List Frm) (p : Int) (e : Int) (g : Frm) (n : Int) (next : List AV → List (List AV) → α) (kc : Nat → List AV → List (List AV) → α) : α :=
  bif (decide (e < (0 : Int))) then (bif ((map frmV l).all AV.flat) then (kc 0 [iV 8] [(madO x v l p e)]) else A.fail) else (A.join (fun x0 => bif (decide (n ≥ (0 : Int))) then (A.callx 39 [agg [iV g.id, lst .ro 5 (map fldV g.fields)], iV n] fun l1 => aI A l1 fun n4 l3 => asN A l3 (x0 (decide (n4 ≥ (0 : Int))))) else (x0 false)) fun b5 => bif b5 then (bif ((map frmV l).all AV.flat) then (kc 0 [iV 9] [(madO x v l p e)]) else A.fail) else (A.join (fun x6 => bif (x.op == (1 : Int)) then (x6 (decide (x.place > (↑(map fldV g.fields).length : Int)))) else (x6 false)) fun b7 => bif b7 then (bif ((map frmV l).all AV.flat) then (kc 0 [iV 3] [(madO x v l p e)]) else A.fail) else (A.join (fun x8 => bif (x.op == (7 : Int)) then (x8 (decide (x.place ≥ (↑(map fldV g.fields).length : Int)))) else (x8 false)) fun b9 => bif b9 then (bif ((map frmV l).all AV.flat) then (kc 0 [iV 3] [(madO x v l p e)]) else A.fail) else (bif ((map frmV l).all AV.flat) then (kc 0 [iV 0] [(madO x v l p e)]) else A.fail))))
noncomputable def zfk {α : Type} (A : Alg α) (x : Stp) (v : Int) (l : List Frm) (p : Int) (e : Int) (kc : List AV → List (Nat × List AV) → α) : α :=
  bif (fitI [((0 : Nat), (madO x v l p e))] && [ref (0 : Nat) (0 : Nat)].all fitA && nodupN (map (fun x => x.fst) (oshOf T0 (0 : Nat) [ref (0 : Nat) (0 : Nat)] Go.Proofs.Try.f42.params.toList)) && (oshOf T0 (0 : Nat) [ref (0 : Nat) (0 : Nat)] Go.Proofs.Try.f42.params.toList).all fun p => p.fst.blt (64 : Nat)) then (A.chk (decide ((0 : Int) ≤ p) && decide (p < (↑(map frmV l).length : Int))) (nthE A (map frmV l) p.toNat fun v0 => nthE A v0.cells 1 fun v1 => bif ((map frmV l).all AV.flat) then (exp0 A (Sh.lst 5) (Nm.R 0) v1 (updN (ofN (nmsA (0 : Nat) [ref (0 : Nat) (0 : Nat)] ++ nmsI [((0 : Nat), (madO x v l p e))])) (Nm.E ((0 : Nat), (madO x v l p e)).fst (17 : Nat)) Cs.dead) fun v2 x3 => kc [v2] [(0, (madO x v l p e))]) else A.fail)) else A.fail
noncomputable def z9r {α : Type} (A : Alg α) (x : Stp) (v : Int) (l : List Frm) (p : Int) (e : Int) (kc : List AV → List (Nat × List AV) → α) (v67 : AV) (l57 : List AV) (n6 : Int) (n9 : Int) (n12 : Int) (n15 : Int) (n18 : Int) (n21 : Int) (n24 : Int) (n27 : Int) (n30 : Int) (n33 : Int) (n36 : Int) (n39 : Int) (n42 : Int) (l45 : List UInt8) (l48 : List AV) (l51 : List AV) (n54 : Int) (n60 : Int) (n63 : Int) : α :=
  asA A v67 fun l68 => aI A l68 fun n71 l70 => aI A l70 fun n74 l73 => aI A l73 fun n77 l76 => aI A l76 fun n80 l79 => aI A l79 fun n83 l82 => asN A l82 (bif (l57.all AV.flat) then (kc [agg [iV n71, iV n74, iV n77, iV n80, iV n83]] [(0, [iV n6, iV n9, iV n12, iV n15, iV n18, iV n21, iV n24, iV n27, iV n30, iV n33, iV n36, iV n39, iV n42, str l45, lst .ro 1 l48, lst .ro 5 l51, iV n54, lst .uq 2 l57, iV n60, iV n63])]) else A.fail)
noncomputable def zp7 {α : Type} (A : Alg α) (x : Stp) (v : Int) (l : List Frm) (p : Int) (e : Int) (kc : List AV → List (Nat × List AV) → α) : α :=
  bif (fitI [((0 : Nat), (madO x v l p e))] && [ref (0 : Nat) (0 : Nat)].all fitA && nodupN (map (fun x => x.fst) (oshOf T0 (0 : Nat) [ref (0 : Nat) (0 : Nat)] Go.Proofs.Try.f43.params.toList)) && (oshOf T0 (0 : Nat) [ref (0 : Nat) (0 : Nat)] Go.Proofs.Try.f43.params.toList).all fun p => p.fst.blt (64 : Nat)) then (A.both (bif ((map frmV l).all AV.flat) then (A.call 42 [ref 0 0] [(0, (madO x v l p e))] fun l0 l1 => asC A l1 fun x2 l3 => bif (x2.1.beq 0) then (aI A x2.2 fun n6 l5 => aI A l5 fun n9 l8 => aI A l8 fun n12 l11 => aI A l11 fun n15 l14 => aI A l14 fun n18 l17 => aI A l17 fun n21 l20 => aI A l20 fun n24 l23 => aI A l23 fun n27 l26 => aI A l26 fun n30 l29 => aI A l29 fun n33 l32 => aI A l32 fun n36 l35 => aI A l35 fun n39 l38 => aI A l38 fun n42 l41 => aS A l41 fun l45 l44 => aL A 1 l44 fun l48 l47 => aL A 5 l47 fun l51 l50 => aI A l50 fun n54 l53 => aU A 2 l53 fun l57 l56 => aI A l56 fun n60 l59 => aI A l59 fun n63 l62 => asN A l62 (aL A 5 l0 fun l66 l65 => asN A l65 (asN A l3 (A.chk (decide ((0 : Int) ≤ n63)) (nthE A l66 n63.toNat fun v67 => z9r A x v l p e kc v67 l57 n6 n9 n12 n15 n18 n21 n24 n27 n30 n33 n36 n39 n42 l45 l48 l51 n54 n60 n63))))) else A.fail) else A.fail) (bif ((map frmV l).all AV.flat) then (A.call 42 [ref 0 0] [(0, (madO x v l p e))] fun l84 l85 => asC A l85 fun x86 l87 => bif (x86.1.beq 0) then (aI A x86.2 fun n90 l89 => aI A l89 fun n93 l92 => aI A l92 fun n96 l95 => aI A l95 fun n99 l98 => aI A l98 fun n102 l101 => aI A l101 fun n105 l104 => aI A l104 fun n108 l107 => aI A l107 fun n111 l110 => aI A l110 fun n114 l113 => aI A l113 fun n117 l116 => aI A l116 fun n120 l119 => aI A l119 fun n123 l122 => aI A l122 fun n126 l125 => aS A l125 fun l129 l128 => aL A 1 l128 fun l132 l131 => aL A 5 l131 fun l135 l134 => aI A l134 fun n138 l137 => aU A 2 l137 fun l141 l140 => aI A l140 fun n144 l143 => aI A l143 fun n147 l146 => asN A l146 (aL A 5 l84 fun l150 l149 => asN A l149 (asN A l87 (A.chk (decide ((0 : Int) ≤ e)) (nthE A l150 e.toNat fun v151 => z9r A x v l p e kc v151 l141 n90 n93 n96 n99 n102 n105 n108 n111 n114 n117 n120 n123 n126 l129 l132 l135 n138 n144 n147))))) else A.fail) else A.fail)) else A.fail
noncomputable def z5o {α : Type} (A : Alg α) (f : Fld) (a : Int) (b : Int) (kc : List AV → List (Nat × List AV) → α) (b11 : Bool) : α :=
  kc [agg [iV f.id, iV f.kind, iV (if IntKind.i64.wrap (IntKind.i64.wrap (a * f.hi) + b) < IntKind.i64.wrap (IntKind.i64.wrap (a * f.lo) + b) then IntKind.i64.wrap (IntKind.i64.wrap (a * f.hi) + b) else IntKind.i64.wrap (IntKind.i64.wrap (a * f.lo) + b)), iV (if IntKind.i64.wrap (IntKind.i64.wrap (a * f.lo) + b) < IntKind.i64.wrap (IntKind.i64.wrap (a * f.hi) + b) then IntKind.i64.wrap (IntKind.i64.wrap (a * f.hi) + b) else IntKind.i64.wrap (IntKind.i64.wrap (a * f.lo) + b)), iV f.most], bool b11] []
noncomputable def z5p {α : Type} (A : Alg α) (f : Fld) (a : Int) (b : Int) (kc : List AV → List (Nat × List AV) → α)  : α :=
  A.callx 30 [agg [iV f.id, iV f.kind, iV (if IntKind.i64.wrap (IntKind.i64.wrap (a * f.hi) + b) < IntKind.i64.wrap (IntKind.i64.wrap (a * f.lo) + b) then IntKind.i64.wrap (IntKind.i64.wrap (a * f.hi) + b) else IntKind.i64.wrap (IntKind.i64.wrap (a * f.lo) + b)), iV (if IntKind.i64.wrap (IntKind.i64.wrap (a * f.lo) + b) < IntKind.i64.wrap (IntKind.i64.wrap (a * f.hi) + b) then IntKind.i64.wrap (IntKind.i64.wrap (a * f.hi) + b) else IntKind.i64.wrap (IntKind.i64.wrap (a * f.lo) + b)), iV f.most]] fun l0 => aB A l0 fun b3 l2 => asN A l2 (z5o A f a b kc b3)
noncomputable def zfl {α : Type} (A : Alg α) (f : Fld) (a : Int) (b : Int) (kc : List AV → List (Nat × List AV) → α) : α :=
  A.both (z5p A f a b kc) (A.both (z5p A f a b kc) (A.callx 30 [agg [iV f.id, iV f.kind, iV (if IntKind.i64.wrap (IntKind.i64.wrap (a * f.hi) + b) < IntKind.i64.wrap (IntKind.i64.wrap (a * f.lo) + b) then IntKind.i64.wrap (IntKind.i64.wrap (a * f.hi) + b) else IntKind.i64.wrap (IntKind.i64.wrap (a * f.lo) + b)), iV (if IntKind.i64.wrap (IntKind.i64.wrap (a * f.lo) + b) < IntKind.i64.wrap (IntKind.i64.wrap (a * f.hi) + b) then IntKind.i64.wrap (IntKind.i64.wrap (a * f.hi) + b) else IntKind.i64.wrap (IntKind.i64.wrap (a * f.lo) + b)), iV f.most]] fun l8 => aB A l8 fun b11 l10 => asN A l10 (z5o A f a b kc b11)))
noncomputable def ziq {α : Type} (A : Alg α) (f : Fld) (g : Fld) (kc : List AV → List (Nat × List AV) → α) : α :=
  A.join (fun x0 => A.callx 30 [agg [iV f.id, iV f.kind, iV f.lo, iV f.hi, iV f.most]] fun l1 => aB A l1 fun b4 l3 => asN A l3 (bif (!b4) then (x0 true) else (A.callx 30 [agg [iV g.id, iV g.kind, iV g.lo, iV g.hi, iV g.most]] fun l5 => aB A l5 fun b8 l7 => asN A l7 (bif (!b8) then (x0 true) else (x0 (f.kind != g.kind)))))) fun b9 => bif b9 then (kc [bool false] []) else (A.callx 78 [agg [iV f.id, iV f.kind, iV f.lo, iV f.hi, iV f.most]] fun l10 => aI A l10 fun n13 l12 => aI A l12 fun n16 l15 => asN A l15 (A.callx 78 [agg [iV g.id, iV g.kind, iV g.lo, iV g.hi, iV g.most]] fun l17 => aI A l17 fun n20 l19 => aI A l19 fun n23 l22 => asN A l22 (A.join (fun x24 => bif (decide (n20 ≤ n13)) then (bif (decide (n16 ≤ n23)) then (x24 (decide (f.most ≤ g.most))) else (x24 false)) else (x24 false)) fun b25 => kc [bool b25] [])))
noncomputable def z5q {α : Type} (A : Alg α) (x : Stp) (v : Int) (l : List Frm) (p : Int) (e : Int) (kc : List AV → List (Nat × List AV) → α) (l57 : List AV) (b89 : Bool) (n6 : Int) (n9 : Int) (n12 : Int) (n15 : Int) (n18 : Int) (n21 : Int) (n24 : Int) (n27 : Int) (n30 : Int) (n33 : Int) (n36 : Int) (n39 : Int) (n42 : Int) (l45 : List UInt8) (l48 : List AV) (l51 : List AV) (n54 : Int) (n60 : Int) (n63 : Int) : α :=
  bif (l57.all AV.flat) then (kc [lst .uq 5 [agg [iV x.f.id, iV x.f.kind, iV x.f.lo, iV x.f.hi, iV x.f.most]], iV 1, bool b89] [(0, [iV n6, iV n9, iV n12, iV n15, iV n18, iV n21, iV n24, iV n27, iV n30, iV n33, iV n36, iV n39, iV n42, str l45, lst .ro 1 l48, lst .ro 5 l51, iV n54, lst .uq 2 l57, iV n60, iV n63])]) else A.fail
noncomputable def z5r {α : Type} (A : Alg α) (x : Stp) (v : Int) (l : List Frm) (p : Int) (e : Int) (kc : List AV → List (Nat × List AV) → α) (n69 : Int) (n72 : Int) (n75 : Int) (n78 : Int) (n81 : Int) (l57 : List AV) (n6 : Int) (n9 : Int) (n12 : Int) (n15 : Int) (n18 : Int) (n21 : Int) (n24 : Int) (n27 : Int) (n30 : Int) (n33 : Int) (n36 : Int) (n39 : Int) (n42 : Int) (l45 : List UInt8) (l48 : List AV) (l51 : List AV) (n54 : Int) (n60 : Int) (n63 : Int) : α :=
  A.callx 66 [agg [iV n69, iV n72, iV n75, iV n78, iV n81], agg [iV x.f.id, iV x.f.kind, iV x.f.lo, iV x.f.hi, iV x.f.most]] fun l86 => aB A l86 fun b89 l88 => asN A l88 (z5q A x v l p e kc l57 b89 n6 n9 n12 n15 n18 n21 n24 n27 n30 n33 n36 n39 n42 l45 l48 l51 n54 n60 n63)
noncomputable def z9s {α : Type} (A : Alg α) (x : Stp) (v : Int) (l : List Frm) (p : Int) (e : Int) (kc : List AV → List (Nat × List AV) → α) : α :=
  bif (fitI [((0 : Nat), (madO x v l p e))] && [ref (0 : Nat) (0 : Nat)].all fitA && nodupN (map (fun x => x.fst) (oshOf T0 (0 : Nat) [ref (0 : Nat) (0 : Nat)] Go.Proofs.Try.f46.params.toList)) && (oshOf T0 (0 : Nat) [ref (0 : Nat) (0 : Nat)] Go.Proofs.Try.f46.params.toList).all fun p => p.fst.blt (64 : Nat)) then (bif (x.op == (1 : Int)) then (bif ((map frmV l).all AV.flat) then (kc [lst .uq 5 [agg [iV x.f.id, iV x.f.kind, iV x.f.lo, iV x.f.hi, iV x.f.most]], iV 0, bool true] [(0, (madO x v l p e))]) else A.fail) else (bif ((map frmV l).all AV.flat) then (A.call 43 [ref 0 0] [(0, (madO x v l p e))] fun l0 l1 => asC A l1 fun x2 l3 => bif (x2.1.beq 0) then (aI A x2.2 fun n6 l5 => aI A l5 fun n9 l8 => aI A l8 fun n12 l11 => aI A l11 fun n15 l14 => aI A l14 fun n18 l17 => aI A l17 fun n21 l20 => aI A l20 fun n24 l23 => aI A l23 fun n27 l26 => aI A l26 fun n30 l29 => aI A l29 fun n33 l32 => aI A l32 fun n36 l35 => aI A l35 fun n39 l38 => aI A l38 fun n42 l41 => aS A l41 fun l45 l44 => aL A 1 l44 fun l48 l47 => aL A 5 l47 fun l51 l50 => aI A l50 fun n54 l53 => aU A 2 l53 fun l57 l56 => aI A l56 fun n60 l59 => aI A l59 fun n63 l62 => asN A l62 (aA A l0 fun l66 l65 => aI A l66 fun n69 l68 => aI A l68 fun n72 l71 => aI A l71 fun n75 l74 => aI A l74 fun n78 l77 => aI A l77 fun n81 l80 => asN A l80 (asN A l65 (asN A l3 (bif (x.op == (2 : Int)) then (A.callx 59 [agg [iV n69, iV n72, iV n75, iV n78, iV n81], agg [iV x.n, str x.s]] fun l82 => aB A l82 fun b85 l84 => asN A l84 (bif (l57.all AV.flat) then (kc [lst .uq 5 [], iV 1, bool b85] [(0, [iV n6, iV n9, iV n12, iV n15, iV n18, iV n21, iV n24, iV n27, iV n30, iV n33, iV n36, iV n39, iV n42, str l45, lst .ro 1 l48, lst .ro 5 l51, iV n54, lst .uq 2 l57, iV n60, iV n63])]) else A.fail)) else (bif (x.op == (3 : Int)) then (A.both (z5r A x v l p e kc n69 n72 n75 n78 n81 l57 n6 n9 n12 n15 n18 n21 n24 n27 n30 n33 n36 n39 n42 l45 l48 l51 n54 n60 n63) (A.both (z5r A x v l p e kc n69 n72 n75 n78 n81 l57 n6 n9 n12 n15 n18 n21 n24 n27 n30 n33 n36 n39 n42 l45 l48 l51 n54 n60 n63) (A.callx 66 [agg [iV n69, iV n72, iV n75, iV n78, iV n81], agg [iV x.f.id, iV x.f.kind, iV x.f.lo, iV x.f.hi, iV x.f.most]] fun l94 => aB A l94 fun b97 l96 => asN A l96 (z5q A x v l p e kc l57 b97 n6 n9 n12 n15 n18 n21 n24 n27 n30 n33 n36 n39 n42 l45 l48 l51 n54 n60 n63)))) else (bif (x.op == (4 : Int)) then (bif (n72 == (1 : Int)) then (A.callx 67 [agg [iV n69, iV n72, iV n75, iV n78, iV n81], iV x.a, iV x.b] fun l98 => aA A l98 fun l101 l100 => aI A l101 fun n104 l103 => aI A l103 fun n107 l106 => aI A l106 fun n110 l109 => aI A l109 fun n113 l112 => aI A l112 fun n116 l115 => asN A l115 (aB A l100 fun b119 l118 => asN A l118 (bif (l57.all AV.flat) then (kc [lst .uq 5 [agg [iV n104, iV n107, iV n110, iV n113, iV n116]], iV 1, bool b119] [(0, [iV n6, iV n9, iV n12, iV n15, iV n18, iV n21, iV n24, iV n27, iV n30, iV n33, iV n36, iV n39, iV n42, str l45, lst .ro 1 l48, lst .ro 5 l51, iV n54, lst .uq 2 l57, iV n60, iV n63])]) else A.fail))) else (bif (l57.all AV.flat) then (kc [lst .uq 5 [agg [iV n69, iV n72, iV n75, iV n78, iV n81]], iV 1, bool false] [(0, [iV n6, iV n9, iV n12, iV n15, iV n18, iV n21, iV n24, iV n27, iV n30, iV n33, iV n36, iV n39, iV n42, str l45, lst .ro 1 l48, lst .ro 5 l51, iV n54, lst .uq 2 l57, iV n60, iV n63])]) else A.fail)) else (bif (x.op == (5 : Int)) then (A.join (fun x120 => bif (n72 == (3 : Int)) then (x120 (n81 == (↑(map (fun n => iV n) x.t).length : Int))) else (x120 false)) fun b121 => bif (l57.all AV.flat) then (kc [lst .uq 5 [agg [iV n69, iV n72, iV n75, iV n78, iV x.a]], iV 1, bool b121] [(0, [iV n6, iV n9, iV n12, iV n15, iV n18, iV n21, iV n24, iV n27, iV n30, iV n33, iV n36, iV n39, iV n42, str l45, lst .ro 1 l48, lst .ro 5 l51, iV n54, lst .uq 2 l57, iV n60, iV n63])]) else A.fail) else (bif (x.op == (6 : Int)) then (A.join (fun x122 => bif (n72 == (1 : Int)) then (x122 (n75 == (0 : Int))) else (x122 false)) fun b123 => A.chk (!x.a == (0 : Int)) (bif (l57.all AV.flat) then (kc [lst .uq 5 [agg [iV n69, iV n72, iV n75, iV (IntKind.i64.wrap (n78.tdiv x.a)), iV n81], agg [iV x.to, iV 1, iV 0, iV (if n78 < IntKind.i64.wrap (x.a - (1 : Int)) then n78 else IntKind.i64.wrap (x.a - (1 : Int))), iV 0]], iV 1, bool b123] [(0, [iV n6, iV n9, iV n12, iV n15, iV n18, iV n21, iV n24, iV n27, iV n30, iV n33, iV n36, iV n39, iV n42, str l45, lst .ro 1 l48, lst .ro 5 l51, iV n54, lst .uq 2 l57, iV n60, iV n63])]) else A.fail)) else (bif (l57.all AV.flat) then (kc [lst .uq 5 [agg [iV x.to, iV n72, iV n75, iV n78, iV n81]], iV 1, bool true] [(0, [iV n6, iV n9, iV n12, iV n15, iV n18, iV n21, iV n24, iV n27, iV n30, iV n33, iV n36, iV n39, iV n42, str l45, lst .ro 1 l48, lst .ro 5 l51, iV n54, lst .uq 2 l57, iV n60, iV n63])]) else A.fail)))))))))) else A.fail) else A.fail)) else A.fail
noncomputable def z2k {α : Type} (A : Alg α) (x : Stp) (v : Int) (l : List Frm) (p : Int) (e : Int) (kc : List AV → List (Nat × List AV) → α) (l777 : List AV) (l778 : List (Nat × List AV)) (n764 : Int) (l761 : List AV) (n710 : Int) (n713 : Int) (n716 : Int) (n719 : Int) (n722 : Int) (n725 : Int) (n728 : Int) (n731 : Int) (n734 : Int) (n737 : Int) (n740 : Int) (n743 : Int) (n746 : Int) (l749 : List UInt8) (l752 : List AV) (l755 : List AV) (n758 : Int) (n767 : Int) : α :=
  aU A 5 l777 fun l781 l780 => asN A l780 (asN A l778 (bif (l781.all AV.flat) then (dbl A (A.chk (decide ((0 : Int) ≤ n764) && decide (n764 < (↑l761.length : Int))) (nthE A l761 n764.toNat fun v782 => A.chk (((1 : Nat) + [lst .ro (nat_lit 5) l781].length).ble v782.cells.length) (putC A v782 (setAt v782.cells (1 : Nat) [lst .ro (nat_lit 5) l781]) fun v783 => A.chk v783.flat (bif ((l761.set n764.toNat v783).all AV.flat) then (kc [bool true] [(0, [iV n710, iV n713, iV n716, iV n719, iV n722, iV n725, iV n728, iV n731, iV n734, iV n737, iV n740, iV n743, iV n746, str l749, lst .ro 1 l752, lst .ro 5 l755, iV n758, lst .uq 2 (l761.set n764.toNat v783), iV n764, iV n767])]) else A.fail))))) else A.fail))
noncomputable def z34 {α : Type} (A : Alg α) (x : Stp) (v : Int) (l : List Frm) (p : Int) (e : Int) (kc : List AV → List (Nat × List AV) → α) (l158 : List AV) (n87 : Int) (n141 : Int) (n144 : Int) (n147 : Int) (n150 : Int) (n153 : Int) (n132 : Int) (l129 : List AV) (n78 : Int) (n81 : Int) (n84 : Int) (n90 : Int) (n93 : Int) (n96 : Int) (n99 : Int) (n102 : Int) (n105 : Int) (n108 : Int) (n111 : Int) (n114 : Int) (l117 : List UInt8) (l120 : List AV) (l123 : List AV) (n126 : Int) (n135 : Int) : α :=
  bif (l158.all AV.flat) then (A.call 44 [lst .uq 5 l158, iV n87, lst .uq 5 [agg [iV n141, iV n144, iV n147, iV n150, iV n153]]] [] fun l159 l160 => z2k A x v l p e kc l159 l160 n132 l129 n78 n81 n84 n87 n90 n93 n96 n99 n102 n105 n108 n111 n114 l117 l120 l123 n126 n135) else A.fail
noncomputable def z1j {α : Type} (A : Alg α) (x : Stp) (v : Int) (l : List Frm) (p : Int) (e : Int) (kc : List AV → List (Nat × List AV) → α) (l71 : List AV) (n135 : Int) (n87 : Int) (n141 : Int) (n144 : Int) (n147 : Int) (n150 : Int) (n153 : Int) (n132 : Int) (l129 : List AV) (n78 : Int) (n81 : Int) (n84 : Int) (n90 : Int) (n93 : Int) (n96 : Int) (n99 : Int) (n102 : Int) (n105 : Int) (n108 : Int) (n111 : Int) (n114 : Int) (l117 : List UInt8) (l120 : List AV) (l123 : List AV) (n126 : Int) : α :=
  bif (l71.all AV.flat) then (A.call 45 [lst .uq 5 l71, iV n135, iV (IntKind.i64.wrap (n135 + (1 : Int)))] [] fun l191 l192 => aU A 5 l191 fun l195 l194 => asN A l194 (asN A l192 (z34 A x v l p e kc l195 n87 n141 n144 n147 n150 n153 n132 l129 n78 n81 n84 n90 n93 n96 n99 n102 n105 n108 n111 n114 l117 l120 l123 n126 n135))) else A.fail
noncomputable def z5s {α : Type} (A : Alg α) (x : Stp) (v : Int) (l : List Frm) (p : Int) (e : Int) (kc : List AV → List (Nat × List AV) → α) (l71 : List AV) (n135 : Int) (n87 : Int) (n141 : Int) (n144 : Int) (n147 : Int) (n150 : Int) (n153 : Int) (n132 : Int) (l129 : List AV) (n78 : Int) (n81 : Int) (n84 : Int) (n90 : Int) (n93 : Int) (n96 : Int) (n99 : Int) (n102 : Int) (n105 : Int) (n108 : Int) (n111 : Int) (n114 : Int) (l117 : List UInt8) (l120 : List AV) (l123 : List AV) (n126 : Int) : α :=
  A.both (bif (l71.all AV.flat) then (A.call 45 [lst .uq 5 l71, iV n135, iV (IntKind.i64.wrap (n135 + (1 : Int)))] [] fun l177 l178 => aU A 5 l177 fun l181 l180 => asN A l180 (asN A l178 (z34 A x v l p e kc l181 n87 n141 n144 n147 n150 n153 n132 l129 n78 n81 n84 n90 n93 n96 n99 n102 n105 n108 n111 n114 l117 l120 l123 n126 n135))) else A.fail) (z1j A x v l p e kc l71 n135 n87 n141 n144 n147 n150 n153 n132 l129 n78 n81 n84 n90 n93 n96 n99 n102 n105 n108 n111 n114 l117 l120 l123 n126)
noncomputable def z4a {α : Type} (A : Alg α) (x : Stp) (v : Int) (l : List Frm) (p : Int) (e : Int) (kc : List AV → List (Nat × List AV) → α) (l71 : List AV) (n135 : Int) (n87 : Int) (n141 : Int) (n144 : Int) (n147 : Int) (n150 : Int) (n153 : Int) (n132 : Int) (l129 : List AV) (n78 : Int) (n81 : Int) (n84 : Int) (n90 : Int) (n93 : Int) (n96 : Int) (n99 : Int) (n102 : Int) (n105 : Int) (n108 : Int) (n111 : Int) (n114 : Int) (l117 : List UInt8) (l120 : List AV) (l123 : List AV) (n126 : Int) : α :=
  A.both (z5s A x v l p e kc l71 n135 n87 n141 n144 n147 n150 n153 n132 l129 n78 n81 n84 n90 n93 n96 n99 n102 n105 n108 n111 n114 l117 l120 l123 n126) (z1j A x v l p e kc l71 n135 n87 n141 n144 n147 n150 n153 n132 l129 n78 n81 n84 n90 n93 n96 n99 n102 n105 n108 n111 n114 l117 l120 l123 n126)
noncomputable def z4b {α : Type} (A : Alg α) (x : Stp) (v : Int) (l : List Frm) (p : Int) (e : Int) (kc : List AV → List (Nat × List AV) → α) (l71 : List AV) (n135 : Int) (n87 : Int) (n141 : Int) (n144 : Int) (n147 : Int) (n150 : Int) (n153 : Int) (n132 : Int) (l129 : List AV) (n78 : Int) (n81 : Int) (n84 : Int) (n90 : Int) (n93 : Int) (n96 : Int) (n99 : Int) (n102 : Int) (n105 : Int) (n108 : Int) (n111 : Int) (n114 : Int) (l117 : List UInt8) (l120 : List AV) (l123 : List AV) (n126 : Int) : α :=
  A.both (dbl A (z1j A x v l p e kc l71 n135 n87 n141 n144 n147 n150 n153 n132 l129 n78 n81 n84 n90 n93 n96 n99 n102 n105 n108 n111 n114 l117 l120 l123 n126)) (z1j A x v l p e kc l71 n135 n87 n141 n144 n147 n150 n153 n132 l129 n78 n81 n84 n90 n93 n96 n99 n102 n105 n108 n111 n114 l117 l120 l123 n126)
noncomputable def z5t {α : Type} (A : Alg α) (x : Stp) (v : Int) (l : List Frm) (p : Int) (e : Int) (kc : List AV → List (Nat × List AV) → α) (l71 : List AV) (n135 : Int) (n87 : Int) (n141 : Int) (n144 : Int) (n147 : Int) (n150 : Int) (n153 : Int) (n132 : Int) (l129 : List AV) (n78 : Int) (n81 : Int) (n84 : Int) (n90 : Int) (n93 : Int) (n96 : Int) (n99 : Int) (n102 : Int) (n105 : Int) (n108 : Int) (n111 : Int) (n114 : Int) (l117 : List UInt8) (l120 : List AV) (l123 : List AV) (n126 : Int) : α :=
  A.both (A.both (bif (l71.all AV.flat) then (A.call 45 [lst .uq 5 l71, iV n135, iV (IntKind.i64.wrap (n135 + (1 : Int)))] [] fun l154 l155 => aU A 5 l154 fun l158 l157 => asN A l157 (asN A l155 (dbl A (z34 A x v l p e kc l158 n87 n141 n144 n147 n150 n153 n132 l129 n78 n81 n84 n90 n93 n96 n99 n102 n105 n108 n111 n114 l117 l120 l123 n126 n135)))) else A.fail) (A.both (z5s A x v l p e kc l71 n135 n87 n141 n144 n147 n150 n153 n132 l129 n78 n81 n84 n90 n93 n96 n99 n102 n105 n108 n111 n114 l117 l120 l123 n126) (dbl A (z1j A x v l p e kc l71 n135 n87 n141 n144 n147 n150 n153 n132 l129 n78 n81 n84 n90 n93 n96 n99 n102 n105 n108 n111 n114 l117 l120 l123 n126)))) (A.both (z4a A x v l p e kc l71 n135 n87 n141 n144 n147 n150 n153 n132 l129 n78 n81 n84 n90 n93 n96 n99 n102 n105 n108 n111 n114 l117 l120 l123 n126) (z4b A x v l p e kc l71 n135 n87 n141 n144 n147 n150 n153 n132 l129 n78 n81 n84 n90 n93 n96 n99 n102 n105 n108 n111 n114 l117 l120 l123 n126))
noncomputable def z9t {α : Type} (A : Alg α) (x : Stp) (v : Int) (l : List Frm) (p : Int) (e : Int) (kc : List AV → List (Nat × List AV) → α) : α :=
  bif (fitI [((0 : Nat), (madO x v l p e))] && [ref (0 : Nat) (0 : Nat)].all fitA && nodupN (map (fun x => x.fst) (oshOf T0 (0 : Nat) [ref (0 : Nat) (0 : Nat)] Go.Proofs.Try.f28.params.toList)) && (oshOf T0 (0 : Nat) [ref (0 : Nat) (0 : Nat)] Go.Proofs.Try.f28.params.toList).all fun p => p.fst.blt (64 : Nat)) then (bif ((map frmV l).all AV.flat) then (A.call 42 [ref 0 0] [(0, (madO x v l p e))] fun l0 l1 => asC A l1 fun x2 l3 => bif (x2.1.beq 0) then (aI A x2.2 fun n6 l5 => aI A l5 fun n9 l8 => aI A l8 fun n12 l11 => aI A l11 fun n15 l14 => aI A l14 fun n18 l17 => aI A l17 fun n21 l20 => aI A l20 fun n24 l23 => aI A l23 fun n27 l26 => aI A l26 fun n30 l29 => aI A l29 fun n33 l32 => aI A l32 fun n36 l35 => aI A l35 fun n39 l38 => aI A l38 fun n42 l41 => aS A l41 fun l45 l44 => aL A 1 l44 fun l48 l47 => aL A 5 l47 fun l51 l50 => aI A l50 fun n54 l53 => aU A 2 l53 fun l57 l56 => aI A l56 fun n60 l59 => aI A l59 fun n63 l62 => asN A l62 (aL A 5 l0 fun l66 l65 => asN A l65 (asN A l3 (A.call 23 [lst .ro 5 l66] [] fun l67 l68 => aU A 5 l67 fun l71 l70 => asN A l70 (asN A l68 (bif (n6 == (7 : Int)) then (bif (l57.all AV.flat) then (A.call 43 [ref 0 0] [(0, [iV n6, iV n9, iV n12, iV n15, iV n18, iV n21, iV n24, iV n27, iV n30, iV n33, iV n36, iV n39, iV n42, str l45, lst .ro 1 l48, lst .ro 5 l51, iV n54, lst .uq 2 l57, iV n60, iV n63])] fun l72 l73 => asC A l73 fun x74 l75 => bif (x74.1.beq 0) then (aI A x74.2 fun n78 l77 => aI A l77 fun n81 l80 => aI A l80 fun n84 l83 => aI A l83 fun n87 l86 => aI A l86 fun n90 l89 => aI A l89 fun n93 l92 => aI A l92 fun n96 l95 => aI A l95 fun n99 l98 => aI A l98 fun n102 l101 => aI A l101 fun n105 l104 => aI A l104 fun n108 l107 => aI A l107 fun n111 l110 => aI A l110 fun n114 l113 => aS A l113 fun l117 l116 => aL A 1 l116 fun l120 l119 => aL A 5 l119 fun l123 l122 => aI A l122 fun n126 l125 => aU A 2 l125 fun l129 l128 => aI A l128 fun n132 l131 => aI A l131 fun n135 l134 => asN A l134 (aA A l72 fun l138 l137 => aI A l138 fun n141 l140 => aI A l140 fun n144 l143 => aI A l143 fun n147 l146 => aI A l146 fun n150 l149 => aI A l149 fun n153 l152 => asN A l152 (asN A l137 (asN A l75 (A.both (z5t A x v l p e kc l71 n135 n87 n141 n144 n147 n150 n153 n132 l129 n78 n81 n84 n90 n93 n96 n99 n102 n105 n108 n111 n114 l117 l120 l123 n126) (A.both (z5t A x v l p e kc l71 n135 n87 n141 n144 n147 n150 n153 n132 l129 n78 n81 n84 n90 n93 n96 n99 n102 n105 n108 n111 n114 l117 l120 l123 n126) (A.both (A.both (z4a A x v l p e kc l71 n135 n87 n141 n144 n147 n150 n153 n132 l129 n78 n81 n84 n90 n93 n96 n99 n102 n105 n108 n111 n114 l117 l120 l123 n126) (A.both (z4a A x v l p e kc l71 n135 n87 n141 n144 n147 n150 n153 n132 l129 n78 n81 n84 n90 n93 n96 n99 n102 n105 n108 n111 n114 l117 l120 l123 n126) (dbl A (z1j A x v l p e kc l71 n135 n87 n141 n144 n147 n150 n153 n132 l129 n78 n81 n84 n90 n93 n96 n99 n102 n105 n108 n111 n114 l117 l120 l123 n126)))) (A.both (z4b A x v l p e kc l71 n135 n87 n141 n144 n147 n150 n153 n132 l129 n78 n81 n84 n90 n93 n96 n99 n102 n105 n108 n111 n114 l117 l120 l123 n126) (A.both (z4b A x v l p e kc l71 n135 n87 n141 n144 n147 n150 n153 n132 l129 n78 n81 n84 n90 n93 n96 n99 n102 n105 n108 n111 n114 l117 l120 l123 n126) (dbl A (z1j A x v l p e kc l71 n135 n87 n141 n144 n147 n150 n153 n132 l129 n78 n81 n84 n90 n93 n96 n99 n102 n105 n108 n111 n114 l117 l120 l123 n126))))))))))) else A.fail) else A.fail) else (bif (l57.all AV.flat) then (A.call 46 [ref 0 0] [(0, [iV n6, iV n9, iV n12, iV n15, iV n18, iV n21, iV n24, iV n27, iV n30, iV n33, iV n36, iV n39, iV n42, str l45, lst .ro 1 l48, lst .ro 5 l51, iV n54, lst .uq 2 l57, iV n60, iV n63])] fun l704 l705 => asC A l705 fun x706 l707 => bif (x706.1.beq 0) then (aI A x706.2 fun n710 l709 => aI A l709 fun n713 l712 => aI A l712 fun n716 l715 => aI A l715 fun n719 l718 => aI A l718 fun n722 l721 => aI A l721 fun n725 l724 => aI A l724 fun n728 l727 => aI A l727 fun n731 l730 => aI A l730 fun n734 l733 => aI A l733 fun n737 l736 => aI A l736 fun n740 l739 => aI A l739 fun n743 l742 => aI A l742 fun n746 l745 => aS A l745 fun l749 l748 => aL A 1 l748 fun l752 l751 => aL A 5 l751 fun l755 l754 => aI A l754 fun n758 l757 => aU A 2 l757 fun l761 l760 => aI A l760 fun n764 l763 => aI A l763 fun n767 l766 => asN A l766 (aU A 5 l704 fun l770 l769 => aI A l769 fun n773 l772 => aB A l772 fun b776 l775 => asN A l775 (asN A l707 (bif (!b776) then (bif (l761.all AV.flat) then (kc [bool false] [(0, [iV n710, iV n713, iV n716, iV n719, iV n722, iV n725, iV n728, iV n731, iV n734, iV n737, iV n740, iV n743, iV n746, str l749, lst .ro 1 l752, lst .ro 5 l755, iV n758, lst .uq 2 l761, iV n764, iV n767])]) else A.fail) else (dbl A (bif (l71.all AV.flat) then (bif (l770.all AV.flat) then (A.call 47 [lst .uq 5 l71, iV n767, iV (IntKind.i64.wrap (n767 + n773)), lst .uq 5 l770] [] fun l777 l778 => z2k A x v l p e kc l777 l778 n764 l761 n710 n713 n716 n719 n722 n725 n728 n731 n734 n737 n740 n743 n746 l749 l752 l755 n758 n767) else A.fail) else A.fail)))))) else A.fail) else A.fail))))))) else A.fail) else A.fail) else A.fail
noncomputable def z7p {α : Type} (A : Alg α) (s : Sch) (x : Stp) (kc : List AV → List (Nat × List AV) → α) (l332 : List AV) (n329 : Int) : α :=
  bif (l332.all AV.flat) then (A.callx 11 [agg [iV n329, lst .ro 2 l332]] fun l342 => aB A l342 fun b345 l344 => asN A l344 (bif (!b345) then (kc [agg [iV 0, lst .ro 2 []], iV 7] []) else (kc [agg [iV n329, lst .ro 2 l332], iV 0] []))) else A.fail
noncomputable def z2t {α : Type} (A : Alg α) (s : Sch) (x : Stp) (kc : List AV → List (Nat × List AV) → α) (l93 : List AV) (l94 : List (Nat × List AV)) (n75 : Int) : α :=
  aU A 2 l93 fun l97 l96 => asN A l96 (asN A l94 (z7p A s x kc l97 n75))
noncomputable def zbt {α : Type} (A : Alg α) (s : Sch) (x : Stp) (kc : List AV → List (Nat × List AV) → α) (l78 : List AV) (n81 : Int) (n75 : Int) : α :=
  A.both (A.call 23 [lst .ro 5 (map fldV x.fields)] [] fun l88 l89 => aU A 5 l88 fun l92 l91 => asN A l91 (asN A l89 (bif (l92.all AV.flat) then (bif (l78.all AV.flat) then (A.call 26 [lst .uq 2 l78, iV n81, lst .uq 2 [agg [iV x.form, lst .ro 5 l92]]] [] fun l93 l94 => z2t A s x kc l93 l94 n75) else A.fail) else A.fail))) (A.call 23 [lst .ro 5 (map fldV x.fields)] [] fun l102 l103 => aU A 5 l102 fun l106 l105 => asN A l105 (asN A l103 (bif (l106.all AV.flat) then (dbl A (bif (l78.all AV.flat) then (A.call 26 [lst .uq 2 l78, iV n81, lst .uq 2 [agg [iV x.form, lst .ro 5 l106]]] [] fun l107 l108 => z2t A s x kc l107 l108 n75) else A.fail)) else A.fail)))
noncomputable def s_gOn {α : Type} (A : Alg α) (s : Sch) (x : Stp) (kc : List AV → List (Nat × List AV) → α) : α :=
  A.join (fun x0 => A.callx 11 [agg [iV s.ver, lst .ro 2 (map frmV s.forms)]] fun l1 => aB A l1 fun b4 l3 => asN A l3 (bif (!b4) then (x0 true) else (A.callx 24 [agg [iV x.op, iV x.form, iV x.field, iV x.place, iV x.to, iV x.a, iV x.b, iV x.f.id, iV x.f.kind, iV x.f.lo, iV x.f.hi, iV x.f.most, iV x.n, str x.s, lst .ro 1 (map (fun n => iV n) x.t), lst .ro 5 (map fldV x.fields)]] fun l5 => aB A l5 fun b8 l7 => asN A l7 (bif (!b8) then (x0 true) else (bif (decide (x.op < (1 : Int))) then (x0 true) else (x0 (decide (x.op > (10 : Int))))))))) fun b9 => bif b9 then (kc [agg [iV 0, lst .ro 2 []], iV 2] []) else (A.call 13 [agg [iV s.ver, lst .ro 2 (map frmV s.forms)]] [] fun l10 l11 => aA A l10 fun l14 l13 => aI A l14 fun n17 l16 => aU A 2 l16 fun l20 l19 => asN A l19 (asN A l13 (asN A l11 (bif (l20.all AV.flat) then (A.call 25 [ref 0 0] [(0, [iV x.op, iV x.form, iV x.field, iV x.place, iV x.to, iV x.a, iV x.b, iV x.f.id, iV x.f.kind, iV x.f.lo, iV x.f.hi, iV x.f.most, iV x.n, str x.s, lst .ro 1 (map (fun n => iV n) x.t), lst .ro 5 (map fldV x.fields), iV n17, lst .uq 2 l20, iV 0, iV 0])] fun l21 l22 => asC A l22 fun x23 l24 => bif (x23.1.beq 0) then (aI A x23.2 fun n27 l26 => aI A l26 fun n30 l29 => aI A l29 fun n33 l32 => aI A l32 fun n36 l35 => aI A l35 fun n39 l38 => aI A l38 fun n42 l41 => aI A l41 fun n45 l44 => aI A l44 fun n48 l47 => aI A l47 fun n51 l50 => aI A l50 fun n54 l53 => aI A l53 fun n57 l56 => aI A l56 fun n60 l59 => aI A l59 fun n63 l62 => aS A l62 fun l66 l65 => aL A 1 l65 fun l69 l68 => aL A 5 l68 fun l72 l71 => aI A l71 fun n75 l74 => aU A 2 l74 fun l78 l77 => aI A l77 fun n81 l80 => aI A l80 fun n84 l83 => asN A l83 (aI A l21 fun n87 l86 => asN A l86 (asN A l24 (bif (n87 != (0 : Int)) then (kc [agg [iV 0, lst .ro 2 []], iV n87] []) else (bif (x.op == (9 : Int)) then (A.both (zbt A s x kc l78 n81 n75) (A.both (zbt A s x kc l78 n81 n75) (A.call 23 [lst .ro 5 (map fldV x.fields)] [] fun l162 l163 => aU A 5 l162 fun l166 l165 => asN A l165 (asN A l163 (bif (l166.all AV.flat) then (A.both (dbl A (bif (l78.all AV.flat) then (A.call 26 [lst .uq 2 l78, iV n81, lst .uq 2 [agg [iV x.form, lst .ro 5 l166]]] [] fun l167 l168 => z2t A s x kc l167 l168 n75) else A.fail)) (A.both (dbl A (bif (l78.all AV.flat) then (A.call 26 [lst .uq 2 l78, iV n81, lst .uq 2 [agg [iV x.form, lst .ro 5 l166]]] [] fun l185 l186 => z2t A s x kc l185 l186 n75) else A.fail)) (dbl A (bif (l78.all AV.flat) then (A.call 26 [lst .uq 2 l78, iV n81, lst .uq 2 [agg [iV x.form, lst .ro 5 l166]]] [] fun l203 l204 => z2t A s x kc l203 l204 n75) else A.fail)))) else A.fail))))) else (bif (x.op == (10 : Int)) then (A.both (dbl A (bif (l78.all AV.flat) then (A.call 27 [lst .uq 2 l78, iV n81, iV (IntKind.i64.wrap (n81 + (1 : Int)))] [] fun l221 l222 => z2t A s x kc l221 l222 n75) else A.fail)) (dbl A (dbl A (bif (l78.all AV.flat) then (A.call 27 [lst .uq 2 l78, iV n81, iV (IntKind.i64.wrap (n81 + (1 : Int)))] [] fun l239 l240 => z2t A s x kc l239 l240 n75) else A.fail)))) else (bif (l78.all AV.flat) then (A.call 28 [ref 0 0] [(0, [iV n27, iV n30, iV n33, iV n36, iV n39, iV n42, iV n45, iV n48, iV n51, iV n54, iV n57, iV n60, iV n63, str l66, lst .ro 1 l69, lst .ro 5 l72, iV n75, lst .uq 2 l78, iV n81, iV n84])] fun l275 l276 => asC A l276 fun x277 l278 => bif (x277.1.beq 0) then (aI A x277.2 fun n281 l280 => aI A l280 fun n284 l283 => aI A l283 fun n287 l286 => aI A l286 fun n290 l289 => aI A l289 fun n293 l292 => aI A l292 fun n296 l295 => aI A l295 fun n299 l298 => aI A l298 fun n302 l301 => aI A l301 fun n305 l304 => aI A l304 fun n308 l307 => aI A l307 fun n311 l310 => aI A l310 fun n314 l313 => aI A l313 fun n317 l316 => aS A l316 fun l320 l319 => aL A 1 l319 fun l323 l322 => aL A 5 l322 fun l326 l325 => aI A l325 fun n329 l328 => aU A 2 l328 fun l332 l331 => aI A l331 fun n335 l334 => aI A l334 fun n338 l337 => asN A l337 (aB A l275 fun b341 l340 => asN A l340 (asN A l278 (bif (!b341) then (kc [agg [iV 0, lst .ro 2 []], iV 17] []) else (z7p A s x kc l332 n329))))) else A.fail) else A.fail))))))) else A.fail) else A.fail))))
noncomputable def zp8 {α : Type} (A : Alg α) (s : Sch) (l : List Stp) (kc : List AV → List (Nat × List AV) → α) : α :=
  A.call 13 [agg [iV s.ver, lst .ro 2 (map frmV s.forms)]] [] fun l0 l1 => aA A l0 fun l4 l3 => aI A l4 fun n7 l6 => aU A 2 l6 fun l10 l9 => asN A l9 (asN A l3 (asN A l1 (bif (l10.all AV.flat) then (A.loop 3 [lst .ro 16 (map stpV l), iV (↑(map stpV l).length : Int), iV 0] [[iV 0, lst .ro 2 []], [iV n7, lst .ro 2 l10]] fun j11 l12 l13 => bif (j11.beq 0) then (aI A l12 fun n16 l15 => aI A l15 fun n19 l18 => asN A l18 (asC A l13 fun l20 l21 => aI A l20 fun n24 l23 => aL A 2 l23 fun l27 l26 => asN A l26 (asN A l21 (kc [agg [iV n24, lst .ro 2 l27], iV n16, iV n19] [])))) else (bif (j11.beq 1) then (asN A l12 (asC A l13 fun l28 l29 => aI A l28 fun n32 l31 => aL A 2 l31 fun l35 l34 => asN A l34 (asC A l29 fun l36 l37 => aI A l36 fun n40 l39 => aL A 2 l39 fun l43 l42 => asN A l42 (asN A l37 (kc [agg [iV n40, lst .ro 2 l43], iV 0, iV 0] []))))) else A.fail)) else A.fail)))
noncomputable def ze6 {α : Type} (A : Alg α) (l : List Stp) (s : Sch) (m : Int) (i : Int) (next : List AV → List (List AV) → α) (kc : Nat → List AV → List (List AV) → α) : α :=
  bif (decide (i < m)) then (A.chk (decide ((0 : Int) ≤ i)) (nthE A (map stpV l) i.toNat fun v0 => asA A v0 fun l1 => aI A l1 fun n4 l3 => aI A l3 fun n7 l6 => aI A l6 fun n10 l9 => aI A l9 fun n13 l12 => aI A l12 fun n16 l15 => aI A l15 fun n19 l18 => aI A l18 fun n22 l21 => aI A l21 fun n25 l24 => aI A l24 fun n28 l27 => aI A l27 fun n31 l30 => aI A l30 fun n34 l33 => aI A l33 fun n37 l36 => aI A l36 fun n40 l39 => aS A l39 fun l43 l42 => aL A 1 l42 fun l46 l45 => aL A 5 l45 fun l49 l48 => asN A l48 (A.callx 14 [agg [iV s.ver, lst .ro 2 (map frmV s.forms)], agg [iV n4, iV n7, iV n10, iV n13, iV n16, iV n19, iV n22, iV n25, iV n28, iV n31, iV n34, iV n37, iV n40, str l43, lst .ro 1 l46, lst .ro 5 l49]] fun l50 => aA A l50 fun l53 l52 => aI A l53 fun n56 l55 => aL A 2 l55 fun l59 l58 => asN A l58 (aI A l52 fun n62 l61 => asN A l61 (bif (n62 != (0 : Int)) then (kc 0 [iV i, iV n62] [[iV 0, lst .ro 2 []]]) else (next [lst .ro 16 (map stpV l), iV m, iV (IntKind.i64.wrap (i + (1 : Int)))] [[iV 0, lst .ro 2 []], [iV n56, lst .ro 2 l59]])))))) else (kc 1 [] [[iV 0, lst .ro 2 []], [iV s.ver, lst .ro 2 (map frmV s.forms)]])
theorem zs7 (l : List Fld) {r : CR} (h : zbr (OA (tbl E0) (ltbl E0 23 0)) l (fun r o => some (r, o)) = some r) : tbl E0 23 [fldsV l] [] = some r :=
  tblF Try.func23 h
theorem zp9 (s : Sch) {r : CR} (h : zfi (OA (tbl E0) (ltbl E0 13 0)) s (fun r o => some (r, o)) = some r) : tbl E0 13 [schV s] [] = some r :=
  tblF Try.func13 h
theorem zd7 (l : List Frm) (v : Int) (d : List Frm) (m i : Int) {r : LR} (h : z7n (OA (tbl E0) (ltbl E0 13 0)) l v d m i (fun vs os => ltbl E0 13 0 3 vs os) (fun j vs os => some (j, vs, os)) = some r) : ltbl E0 13 0 3 [frmsV l, iV m, iV i] [[iV 0, frmsV []], [iV v, frmsU d]] = some r :=
  ltblF Try.func13 h
theorem zu9 (x : Stp) (v : Int) (l : List Frm) (p e : Int) {r : CR} (h : zlj (OA (tbl E0) (ltbl E0 38 0)) x v l p e (fun r o => some (r, o)) = some r) : tbl E0 38 [.ref 0 0] [(0, madO x v l p e)] = some r :=
  tblF Try.func38 h
theorem zir (x : Stp) (v : Int) (l : List Frm) (p e : Int) {r : LR} (h : zbs (OA (tbl E0) (ltbl E0 38 0)) x v l p e (fun vs os => ltbl E0 38 0 2 vs os) (fun j vs os => some (j, vs, os)) = some r) : ltbl E0 38 0 2 [] [madO x v l p e] = some r :=
  ltblF Try.func38 h
theorem zbu (x : Stp) (v : Int) (l : List Frm) (p e : Int) {r : CR} (h : z7o (OA (tbl E0) (ltbl E0 25 0)) x v l p e (fun r o => some (r, o)) = some r) : tbl E0 25 [.ref 0 0] [(0, madO x v l p e)] = some r :=
  tblF Try.func25 h
theorem zpa (x : Stp) (v : Int) (l : List Frm) (p e : Int) (g : Frm) (n : Int) {r : LR} (h : zfj (OA (tbl E0) (ltbl E0 25 0)) x v l p e g n (fun vs os => ltbl E0 25 0 1000020 vs os) (fun j vs os => some (j, vs, os)) = some r) : ltbl E0 25 0 1000020 [iV n] [madO x v l p e, [iV g.id, fldsV g.fields]] = some r :=
  ltblF Try.func25 h
theorem zpb (x : Stp) (v : Int) (l : List Frm) (p e : Int) {r : CR} (h : zfk (OA (tbl E0) (ltbl E0 42 0)) x v l p e (fun r o => some (r, o)) = some r) : tbl E0 42 [.ref 0 0] [(0, madO x v l p e)] = some r :=
  tblF Try.func42 h
theorem zw9 (x : Stp) (v : Int) (l : List Frm) (p e : Int) {r : CR} (h : zp7 (OA (tbl E0) (ltbl E0 43 0)) x v l p e (fun r o => some (r, o)) = some r) : tbl E0 43 [.ref 0 0] [(0, madO x v l p e)] = some r :=
  tblF Try.func43 h
theorem zpc (f : Fld) (a b : Int) {r : CR} (h : zfl (OA (tbl E0) (ltbl E0 67 0)) f a b (fun r o => some (r, o)) = some r) : tbl E0 67 [fldV f, iV a, iV b] [] = some r :=
  tblF Try.func67 h
theorem zs8 (f g : Fld) {r : CR} (h : ziq (OA (tbl E0) (ltbl E0 66 0)) f g (fun r o => some (r, o)) = some r) : tbl E0 66 [fldV f, fldV g] [] = some r :=
  tblF Try.func66 h
theorem zfm (x : Stp) (v : Int) (l : List Frm) (p e : Int) {r : CR} (h : z9s (OA (tbl E0) (ltbl E0 46 0)) x v l p e (fun r o => some (r, o)) = some r) : tbl E0 46 [.ref 0 0] [(0, madO x v l p e)] = some r :=
  tblF Try.func46 h
theorem zfn (x : Stp) (v : Int) (l : List Frm) (p e : Int) {r : CR} (h : z9t (OA (tbl E0) (ltbl E0 28 0)) x v l p e (fun r o => some (r, o)) = some r) : tbl E0 28 [.ref 0 0] [(0, madO x v l p e)] = some r :=
  tblF Try.func28 h
theorem t_gOn (s : Sch) (x : Stp) {r : CR} (h : s_gOn (OA (tbl E0) (ltbl E0 14 0)) s x (fun r o => some (r, o)) = some r) : tbl E0 14 [schV s, stpV x] [] = some r :=
  tblF Try.func14 h
theorem zwa (s : Sch) (l : List Stp) {r : CR} (h : zp8 (OA (tbl E0) (ltbl E0 7 0)) s l (fun r o => some (r, o)) = some r) : tbl E0 7 [schV s, stpsV l] [] = some r :=
  tblF Try.func7 h
theorem zlk (l : List Stp) (s : Sch) (m i : Int) {r : LR} (h : ze6 (OA (tbl E0) (ltbl E0 7 0)) l s m i (fun vs os => ltbl E0 7 0 3 vs os) (fun j vs os => some (j, vs, os)) = some r) : ltbl E0 7 0 3 [stpsV l, iV m, iV i] [[iV 0, frmsV []], [iV s.ver, frmsV s.forms]] = some r :=
  ltblF Try.func7 h
end Go.Proofs.Ytjkjhgfiaodgmaa.V
namespace Go.Proofs.Ytjkjhgfiaodgmaa.V
open Go
set_option maxRecDepth 20000 in
theorem ze7 (op : Int) : tbl E0 35 [iV op] [] = some ([intsV (usesS op)], []) := by
  refine z5j (p := fun op => tbl E0 35 [iV op] [] = some ([intsV (usesS op)], [])) op ?_ ?_
  · intro o ho
    simp only [opsL, List.mem_cons, List.not_mem_nil, or_false] at ho
    rcases ho with rfl | rfl | rfl | rfl | rfl | rfl | rfl | rfl | rfl | rfl | rfl | rfl | rfl | rfl | rfl | rfl | rfl | rfl | rfl | rfl <;> exact z4j.2 ⟨12, by kernel_rfl⟩
  · intro h hu
    simp only [opsL, List.mem_cons, List.not_mem_nil, or_false, not_or] at h; obtain ⟨h1, h2, h3, h4, h5, h6, h7, h8, h9, h10, h11, h12, h13, h14, h15, h16, h17, h18, h19, h20⟩ := h
    have cB : ltbl E0 35 0 1000009 [iV op, .bool false] [] = some (50001, [], []) := zr6 op false (by simp [zhu, h1, h2, h3, h4, h5, h6, h7, h8, h9, h10, h11, h12, h13, h14, h15, h16, h17, h18, h19, h20])
    have cA : ltbl E0 35 0 1000004 [iV op, .bool false] [] = some (50001, [], []) := zr5 op false (by
      have : (op == 23) = false := beq_f h13; simp [zht, h1, h2, h3, this, cB])
    have : (op == 22) = false := beq_f h12
    exact ztp op (by simp [zl1, h1, this, cA, hu])
theorem c_tin (n lo hi : Int) : tbl E0 58 [iV n, iV lo, iV hi] [] = some ([.bool (inS n lo hi)], []) := t_tin n lo hi (by
  by_cases h : lo ≤ n <;> simp [s_tin, inS, h])
theorem zn7 (f : Fld) : ∃ hi, tbl E0 78 [fldV f] [] = some ([iV (loS f), iV hi], []) ∧ (rgtS f = true → hi = hiS f) := by
  by_cases h : f.kind = 3 → rgtS f = true
  · exact ⟨_, z68 f h, fun _ => rfl⟩
  · rw [Classical.not_imp] at h
    refine ⟨_, zet f (by simp [z8w, h.1, loS]; rfl), fun hr => absurd hr h.2⟩
theorem zpd (f : Fld) (n : Int) (s : List UInt8) : tbl E0 59 [fldV f, .agg [iV n, .str s]] [] = some ([.bool (hasV f n s)], []) := by
  obtain ⟨hi, hb, hh⟩ := zn7 f; have c := z3o f; refine zvs f n s ?_; simp only [zoe, z9, cond_true, za, hb, c, Option.bind_some, u_asC, u_asI, u_asB, u_asN, zq, ze, hasV, longestS, inS]
  by_cases hr : rgtS f = true
  · have := hh hr
    subst this
    by_cases k : f.kind = 4 <;> by_cases a : loS f ≤ n <;> by_cases b : n ≤ hiS f <;> simp [hr, k, a, b]
  · have hr : rgtS f = false := by simpa using hr
    by_cases k : f.kind = 4 <;> simp [hr, k]
theorem zpe (a b : List Int) (hl : a.length ≤ 211106232532992) (hab : a.length = b.length) : ∀ (r r' : List Int) (i : Nat), a.drop i = r → b.drop i = r' →
    ltbl E0 57 0 4 [intsV a, intsV b, iV a.length, iV i] [] = some (if r = r' then (1, [], []) else (0, [.bool false], [])) := by
  intro r
  induction r with
  | nil =>
    intro r' i hr hr'
    have h : a.length ≤ i := by simpa using hr
    have : r' = [] := by rw [← hr']; simp; omega
    subst this; refine zey _ _ _ _ ?_
    have : ¬ ((i : Int) < a.length) := by omega
    simp [z94, this]
  | cons x r ih =>
    intro r' i hr hr'; obtain ⟨hlt, hget, hr2⟩ := zw hr
    cases r' with
    | nil => simp at hr'; omega
    | cons y r' =>
      obtain ⟨_, hget', hr2'⟩ := zw hr'
      have h2 : (i : Int) < a.length := by omega
      have e1 := zn (i := i) (by omega)
      have h := ih r' (i + 1) hr2 hr2'; refine zey _ _ _ _ ?_; simp only [z94, ze, List.length_map, h2, decide_true, cond_true, z9, Int.natCast_nonneg, nthE, Int.toNat_natCast, List.getElem?_map, hget, hget', Option.map_some, u_asA, u_asC, u_asI, u_asB, u_asL, u_asN, e1, h]
      by_cases e : x = y
      · simp [e]
      · simp [e]
theorem zs9 (a b : List Int) (h : a.length ≤ 211106232532992) : tbl E0 57 [intsV a, intsV b] [] = some ([.bool (decide (a = b))], []) :=
  zra a b (by
    simp only [zhy, ze, List.length_map, zm]
    by_cases hab : a.length = b.length
    · have e := zpe a b h hab a b 0 rfl rfl
      simp only [Int.natCast_zero] at e
      have h' : ((a.length : Int) != (b.length : Int)) = false := by rw [hab]; simp
      rw [h', cond_false, e]
      by_cases e2 : a = b <;> simp [e2]
    · have : ¬ (a = b) := fun e => hab (by rw [e])
      have h' : ((a.length : Int) != (b.length : Int)) = true := bne_t (by omega)
      rw [h']; simp [this])
def freshI (below : Int) : List Bool → List Int → Bool
  | _, [] => true
  | s, n :: l => inS n 0 (below - 1) && !((s[n.toNat]?).getD false) && freshI below (s.set n.toNat true) l
theorem zpf (l : List Int) (below : Int) (hb : 1 ≤ below ∧ below ≤ 1000) (hl : l.length ≤ 211106232532992) : ∀ (r : List Int) (i : Nat) (s : List Bool), l.drop i = r → s.length = 1000 →
    ltbl E0 60 0 3 [intsV l, iV below, intsV l, iV l.length, iV i] [s.map AV.bool] = some (if freshI below s r then (1, [intsV l], []) else (0, [.bool false], [])) := by
  intro r
  induction r with
  | nil =>
    intro i s hr hs
    have h : l.length ≤ i := by simpa using hr
    refine zew _ _ _ _ _ ?_
    have : ¬ ((i : Int) < l.length) := by omega
    simp [z92, this, freshI]
  | cons f r ih =>
    intro i s hr hs; obtain ⟨hlt, hget, hr2⟩ := zw hr
    have h2 : (i : Int) < l.length := by omega
    have e1 := zn (i := i) (by omega)
    have h := ih (i + 1) (s.set f.toNat true) hr2 (by simpa using hs)
    have w : IntKind.i64.wrap (below - 1) = below - 1 := wrap_i64 _ (by omega) (by omega)
    have c := c_tin f 0 (below - 1); refine zew _ _ _ _ _ ?_; simp only [z92, h2, decide_true, cond_true, z9, Int.natCast_nonneg, nthE, Int.toNat_natCast, List.getElem?_map, hget, Option.map_some, u_asA, u_asC, u_asI, u_asB, u_asN, za, zq, w, c, Option.bind_some, e1, freshI]
    by_cases hg : inS f 0 (below - 1) = true
    · have rr : 0 ≤ f ∧ f ≤ below - 1 := by simpa [inS] using hg
      have hk : f.toNat < s.length := by omega
      have g : s[f.toNat]? = some s[f.toNat] := List.getElem?_eq_getElem hk; have a1 : 0 ≤ f := rr.1
      have a2 : f < ((1000 : Nat) : Int) := by omega
      have a3 : 0 + f.toNat * 1 = f.toNat := by omega
      have a4 : (f.toNat + 1).ble (List.map AV.bool s).length = true := by rw [Nat.ble_eq, List.length_map]; omega
      simp only [hg, a1, a2, a3, a4, decide_true, Bool.and_self, cond_true, g, Option.map_some, u_asB, Bool.not_true, cond_false, Option.bind_some, Tok.untok_tok, zcr, z7x, h, Option.getD_some, Bool.true_and]
      by_cases hb : s[f.toNat] = true
      · simp [hb]
      · have hb : s[f.toNat] = false := by simpa using hb
        simp [hb]
    · have hg : inS f 0 (below - 1) = false := by simpa using hg
      simp [hg]
theorem zd8 (below : Int) (hb : below ≤ 1000) : ∀ (l : List Int) (s : List Bool), s.length = 1000 → (freshI below s l = true ↔ (∀ n ∈ l, inS n 0 (below - 1) = true ∧ s[n.toNat]? = some false) ∧ nodupI l = true)
  | [], s, _ => by simp [freshI, nodupI]
  | f :: l, s, hs => by
    have ih := zd8 below hb l (s.set f.toNat true) (by simpa using hs)
    simp only [freshI, Bool.and_eq_true, ih, nodupI, Bool.not_eq_true', List.mem_cons, forall_eq_or_imp]
    have rng : ∀ {n : Int}, inS n 0 (below - 1) = true → 0 ≤ n ∧ n < 1000 := fun {n} h => by
      have : 0 ≤ n ∧ n ≤ below - 1 := by simpa [inS] using h
      omega
    have key : inS f 0 (below - 1) = true → ((s[f.toNat]?).getD false = false ↔ s[f.toNat]? = some false) := by
      intro hg; have rr := rng hg
      have hk : f.toNat < s.length := by omega
      rw [List.getElem?_eq_getElem hk]; simp
    have key2 : inS f 0 (below - 1) = true → ∀ g, inS g 0 (below - 1) = true → ((s.set f.toNat true)[g.toNat]? = some false ↔ (s[g.toNat]? = some false ∧ g ≠ f)) := by
      intro hg g hgg; have r1 := rng hg; have r2 := rng hgg; rw [List.getElem?_set]
      by_cases e : f.toNat = g.toNat
      · have e' : g = f := by omega
        rw [if_pos e, if_pos (by omega)]
        simp [e']
      · have e' : g ≠ f := by omega
        rw [if_neg e]; simp [e']
    constructor
    · rintro ⟨⟨h1, h2⟩, h3, h4⟩
      refine ⟨⟨⟨h1, (key h1).1 h2⟩, fun g hg => ⟨(h3 g hg).1, ((key2 h1 g (h3 g hg).1).1 (h3 g hg).2).1⟩⟩, ?_, h4⟩; simp only [List.any_eq_false, beq_iff_eq]; intro g hg; exact ((key2 h1 g (h3 g hg).1).1 (h3 g hg).2).2
    · rintro ⟨⟨⟨h1, h2⟩, h3⟩, h4, h5⟩
      refine ⟨⟨h1, (key h1).2 h2⟩, fun g hg => ⟨(h3 g hg).1, (key2 h1 g (h3 g hg).1).2 ⟨(h3 g hg).2, ?_⟩⟩, h5⟩; simp only [List.any_eq_false, beq_iff_eq] at h4; exact h4 g hg
theorem zsa (below : Int) (hb : below ≤ 1000) (l : List Int) : freshI below (List.replicate 1000 false) l = ((l.all fun n => inS n 0 (below - 1)) && nodupI l) := by
  rw [Bool.eq_iff_iff, zd8 _ hb _ _ List.length_replicate]; simp only [Bool.and_eq_true, List.all_eq_true]; constructor
  · rintro ⟨h1, h2⟩; exact ⟨fun f hf => (h1 f hf).1, h2⟩
  · rintro ⟨h1, h2⟩
    refine ⟨fun f hf => ⟨h1 f hf, ?_⟩, h2⟩
    have r : 0 ≤ f ∧ f ≤ below - 1 := by simpa [inS] using h1 f hf
    rw [List.getElem?_replicate, if_pos (by omega)]
theorem zis (l : List Int) (below : Int) (hb : 1 ≤ below ∧ below ≤ 1000) (hl : l.length ≤ 211106232532992) : tbl E0 60 [intsV l, iV below] [] = some ([.bool (apartS l below)], []) :=
  zr8 l below (by
    have e := zpf l below hb hl l 0 (List.replicate 1000 false) rfl List.length_replicate; simp only [Int.natCast_zero, zsa _ hb.2] at e; have c := c_tin (l.length : Int) 1 64
    have e2 : inS (l.length : Int) 1 64 = decide (1 ≤ l.length ∧ l.length ≤ 64) := by
      simp only [inS, Bool.decide_and]
      congr 1 <;> exact decide_eq_decide.2 (by omega)
    simp only [List.map_replicate] at e; simp only [zhw, ze, z9, cond_true, zm, List.length_map, e]
    · unfold apartS
      cases hx : ((l.all fun n => inS n 0 (below - 1)) && nodupI l) with
      | true => simp [c, e2]
      | false => simp)
end Go.Proofs.Ytjkjhgfiaodgmaa.V
namespace Go.Proofs.Ytjkjhgfiaodgmaa.V
open Go
set_option maxRecDepth 20000 in
theorem zua (x : Stp) : tbl E0 37 [stpV x] [] = some ([stpV (onlyS x)], []) := by
  obtain ⟨op, form, field, place, to, a, b, f, n, s, t, fields⟩ := x; refine z5j (p := fun op => tbl E0 37 [stpV ⟨op, form, field, place, to, a, b, f, n, s, t, fields⟩] [] = some ([stpV (onlyS ⟨op, form, field, place, to, a, b, f, n, s, t, fields⟩)], [])) op ?_ ?_
  · intro o ho
    simp only [opsL, List.mem_cons, List.not_mem_nil, or_false] at ho
    rcases ho with rfl | rfl | rfl | rfl | rfl | rfl | rfl | rfl | rfl | rfl | rfl | rfl | rfl | rfl | rfl | rfl | rfl | rfl | rfl | rfl <;> exact z4j.2 ⟨20, by kernel_rfl⟩
  · intro h hu
    have c := ze7 op; rw [hu] at c
    have e2 : ltbl E0 37 0 3 [intsV [], iV 0, iV 0] [stpC ⟨op, form, field, place, to, a, b, f, n, s, t, fields⟩, stpC ⟨0, 0, 0, 0, 0, 0, 0, fld0, 0, [], [], []⟩, stpC ⟨op, 0, 0, 0, 0, 0, 0, fld0, 0, [], [], []⟩] = some (1, [], [stpC ⟨0, 0, 0, 0, 0, 0, 0, fld0, 0, [], [], []⟩, stpC ⟨op, 0, 0, 0, 0, 0, 0, fld0, 0, [], [], []⟩]) := zr7 _ _ _ [] 0 0 (by simp [zhv])
    refine ztq _ ?_; simp only [zl2, z9, cond_true, za, c, Option.bind_some, u_asC, u_asL, u_asN, ze, zm, List.map_nil, List.length_nil, Int.natCast_zero, stpC, fld0, intsV, fldsV] at e2 ⊢; rw [e2]; simp [onlyS, hasS, hu, fld0]
theorem wrap0 {a b : Int} (ha : i64 a) (hb : i64 b) : (IntKind.i64.wrap (a - b) == 0) = (a == b) := by
  have : IntKind.i64.wrap (a - b) = (a - b + 9223372036854775808) % 18446744073709551616 - 9223372036854775808 := by rw [IntKind.wrap_i64]
  rw [this, Bool.eq_iff_iff, beq_iff_eq, beq_iff_eq]; unfold i64 at ha hb; omega
theorem zwb (x y : Stp) : decide (x = y) = ((decide (x.t = y.t) && decide (x.fields = y.fields)) && ((x.op == y.op && (x.form == y.form && (x.field == y.field && (x.place == y.place && (x.to == y.to && (x.a == y.a && x.b == y.b)))))) && (decide (x.f = y.f) && (x.n == y.n && x.s == y.s)))) := by
  obtain ⟨op, form, field, place, to, a, b, f, n, s, t, fields⟩ := x; obtain ⟨op', form', field', place', to', a', b', f', n', s', t', fields'⟩ := y; rw [Bool.eq_iff_iff]; simp only [decide_eq_true_eq, Bool.and_eq_true, beq_iff_eq, Stp.mk.injEq]; constructor
  · rintro ⟨rfl, rfl, rfl, rfl, rfl, rfl, rfl, rfl, rfl, rfl, rfl, rfl⟩; simp
  · rintro ⟨⟨rfl, rfl⟩, ⟨rfl, rfl, rfl, rfl, rfl, rfl, rfl⟩, rfl, rfl, rfl⟩; simp
theorem zll (x y : Stp) (hx : x.ok) (hy : y.ok) (hs : x.sml) : tbl E0 34 [stpV x, stpV y] [] = some ([.bool (decide (x = y))], []) :=
  zts x y (by
    obtain ⟨h1, h2, h3, h4, h5, h6, h7, _⟩ := hx; obtain ⟨g1, g2, g3, g4, g5, g6, g7, _⟩ := hy; have c1 := zs9 x.t y.t hs.1; have c2 := zic x.fields y.fields hs.2; simp only [zl4, z9, cond_true, za, c1, c2, Option.bind_some, u_asC, u_asB, u_asN, zq, wrap0 h1 g1, wrap0 h2 g2, wrap0 h3 g3, wrap0 h4 g4, wrap0 h5 g5, wrap0 h6 g6, wrap0 h7 g7, zou]; simp only [Bool.and_true, zwb]; generalize (x.op == y.op && (x.form == y.form && (x.field == y.field && (x.place == y.place && (x.to == y.to && (x.a == y.a && x.b == y.b)))))) = p
    generalize (x.n == y.n && x.s == y.s) = q
    cases decide (x.t = y.t) <;> cases decide (x.fields = y.fields) <;> cases p <;> cases decide (x.f = y.f) <;> simp)
theorem zub (x : Stp) (p : Int) (hp : p = 8 → 1 ≤ (if x.op = 5 then x.a else 1000) ∧ (if x.op = 5 then x.a else 1000) ≤ 1000) (hs : x.sml) : tbl E0 36 [stpV x, iV p] [] = some ([.bool (fitsS x p)], []) := by
  have i1 := c_tin; have i2 := z3o x.f; have i3 := zpd x.f x.n x.s; have i4 := zl8 ⟨x.form, x.fields⟩ hs.2; refine ztr x p ?_; unfold zl3 fitsS; simp only [z9, cond_true, zqx, za, zq, ze]
  by_cases h0 : p = 0
  · simp only [h0, if_true, i1, Option.bind_some, u_asC, u_asB, u_asN]
  by_cases h1 : p = 1
  · simp [h1, i1]
  by_cases h2 : p = 2
  · simp [h2, i1]
  by_cases h3 : p = 3
  · simp only [h3, i1]
    cases inS x.to 0 255 <;> by_cases e : x.to = x.field <;> simp [e]
  by_cases h4 : p = 4
  · by_cases ho : x.op = 5
    · cases hi : inS x.a 1 1000 <;> simp [h4, i1, ho, hi]
    · simp [h4, i1, ho]
  by_cases h5 : p = 5
  · cases hi : inS x.a (-1048576) 1048576
    · simp [h5, i1, hi]
    · by_cases ha : x.a = 0
      · rw [ha] at hi; simp [h5, i1, hi, ha]
      · simp [h5, i1, hi, ha]
  by_cases h6 : p = 6
  · by_cases o1 : x.op = 1
    · cases hr : rgtS x.f <;> simp [h6, o1, i2, hr]
    · by_cases o2 : x.op = 22
      · cases hr : rgtS x.f <;> simp [h6, o2, i2, hr]
      · cases hr : rgtS x.f <;> simp [h6, o1, o2, beq_f o2, i2, hr]
  by_cases h7 : p = 7
  · by_cases ho : x.op = 2
    · cases hi : inS x.n (-1099511627776) 1099511627776 <;> simp [h7, ho, i1, hi]
    · simp [h7, ho, i3]
  by_cases h8 : p = 8
  · have hb := hp h8
    simp only [h8]
    by_cases ho : x.op = 5
    · simp only [ho, if_true] at hb ⊢
      have c := zis x.t x.a hb hs.1; simp [c]
    · simp only [ho, if_false] at hb ⊢
      have c := zis x.t 1000 (by omega) hs.1
      simp [c]
  · simp [h0, h1, h2, h3, h4, h5, h6, h7, h8, i4]
end Go.Proofs.Ytjkjhgfiaodgmaa.V
namespace Go.Proofs.Ytjkjhgfiaodgmaa.V
open Go
theorem zpg (x : Stp) (hs : x.sml) (l : List Int) (q : List Int) (hl : l.length ≤ 5) (hb : ∀ (i : Nat) (p : Int), l[i]? = some p → p = 8 → (l.take i).all (fitsS x) = true → 1 ≤ (if x.op = 5 then x.a else 1000) ∧ (if x.op = 5 then x.a else 1000) ≤ 1000) : ∀ (r : List Int) (i : Nat), l.drop i = r → (l.take i).all (fitsS x) = true →
    ltbl E0 24 0 3 [intsV q, intsV l, iV l.length, iV i] [stpC x] = some (if r.all (fitsS x) then (1, [intsV q], [stpC x]) else (0, [.bool false], [])) := by
  intro r
  induction r with
  | nil =>
    intro i hr ht
    have h : l.length ≤ i := by simpa using hr
    refine zex _ _ _ _ _ ?_
    have : ¬ ((i : Int) < l.length) := by omega
    simp [z93, this]
  | cons p r ih =>
    intro i hr ht; obtain ⟨hlt, hget, hr2⟩ := zw hr
    have h2 : (i : Int) < l.length := by omega
    have e1 := zn (i := i) (by omega)
    have c := zub x p (fun h8 => hb i p hget h8 ht) hs; refine zex _ _ _ _ _ ?_; simp only [z93, h2, decide_true, cond_true, z9, Int.natCast_nonneg, nthE, Int.toNat_natCast, List.getElem?_map, hget, Option.map_some, u_asA, u_asC, u_asI, u_asB, u_asN, za, c, Option.bind_some, e1]
    cases hf : fitsS x p with
    | false => simp [hf]
    | true =>
      have ht2 : (l.take (i + 1)).all (fitsS x) = true := by
        rw [List.take_add_one, hget]; simp [hf]
        simpa using ht
      have h := ih (i + 1) hr2 ht2; simp only [Bool.not_true, cond_false, h, List.all_cons, hf, Bool.true_and]
theorem zuc {x : Stp} (hx : x.ok) : (onlyS x).ok := by
  obtain ⟨h1, h2, h3, h4, h5, h6, h7, h8, h9, h10, h11⟩ := hx
  have z : i64 0 := by unfold i64; omega
  unfold onlyS
  refine ⟨h1, ?_, ?_, ?_, ?_, ?_, ?_, ?_, ?_, ?_, ?_⟩ <;> dsimp only <;> split
  all_goals first
    | assumption
    | exact ⟨z, z, z, z, z⟩
    | simp
theorem zit (x : Stp) (hx : x.ok) (hs : x.sml) : tbl E0 24 [stpV x] [] = some ([.bool (tRightS x)], []) := by
  have c := ze7 x.op; have e := zpg x hs (usesS x.op) (usesS x.op) (z5k _) (zcw x) (usesS x.op) 0 rfl rfl; have c2 := zua x; have c3 := zll x (onlyS x) hx (zuc hx) hs; simp only [Int.natCast_zero] at e; refine zr9 x ?_; simp only [zhx, z9, cond_true, za, c, Option.bind_some, u_asC, u_asL, u_asN, ze, zm, List.length_map, tRightS]; simp only [stpC] at e; rw [e]
  cases hf : (usesS x.op).all (fitsS x) with
  | false => simp
  | true =>
    cases hu : usesS x.op with
    | nil => simp
    | cons p l =>
      simp only [stpV, stpC] at c2 c3; simp [c2, c3]
end Go.Proofs.Ytjkjhgfiaodgmaa.V
namespace Go.Proofs.Ytjkjhgfiaodgmaa.V
open Go
theorem zud (a b : Bool) : (bif a then b else false) = (a && b) := by cases a <;> rfl
end Go.Proofs.Ytjkjhgfiaodgmaa.V
namespace Go.Proofs.Ytjkjhgfiaodgmaa.V
open Go
def bigT (x : Stp) : Bool := decide (100 < x.t.length) || decide (40 < x.fields.length)
theorem zph (l : List Stp) : ∀ (m : Nat) (r : List Stp) (i : Nat), l.drop i = r → i + m = 61 →
    ltbl E0 19 0 2 [stpsV l, iV i] [] = some (if (r.take m).any bigT then (0, [.bool true], []) else (1, [stpsV l], [])) := by
  intro d
  induction d with
  | zero =>
    intro r i hr hm
    have : ¬ ((i : Int) < 61) := by omega
    refine z95 _ _ ?_
    by_cases h : (i : Int) < l.length <;> simp [z67, this, h]
  | succ d ih =>
    intro r i hr hm
    cases r with
    | nil =>
      have h : l.length ≤ i := by simpa using hr
      have : ¬ ((i : Int) < l.length) := by omega
      exact z95 _ _ (by simp [z67, this])
    | cons x r =>
      obtain ⟨hlt, hget, hr2⟩ := zw hr
      have h2 : (i : Int) < l.length := by omega
      have h3 : (i : Int) < 61 := by omega
      have e1 := zn (i := i) (by omega)
      have h := ih r (i + 1) hr2 (by omega)
      refine z95 _ _ ?_; simp only [z67, ze, zq, List.length_map, h2, h3, decide_true, cond_true, z9, Int.natCast_nonneg, nthE, Int.toNat_natCast, List.getElem?_map, hget, Option.map_some, u_asA, u_asC, u_asI, u_asS, u_asL, u_asB, u_asN, Option.bind_some, Tok.untok_tok, e1, h, List.take_succ_cons, List.any_cons]
      by_cases a : 100 < x.t.length
      · have a2 : (x.t.length : Int) > 100 := by omega
        simp [a2, bigT, a]
      · have a2 : ¬ ((x.t.length : Int) > 100) := by omega
        by_cases b : 40 < x.fields.length
        · have b2 : (x.fields.length : Int) > 40 := by omega
          simp [a2, b2, bigT, a, b]
        · have b2 : ¬ ((x.fields.length : Int) > 40) := by omega
          have : bigT x = false := by simp [bigT, a, b]
          simp [a2, b2, this]
def greatT (l : List Stp) : Bool := (l.take 61).any bigT || decide (60 < l.length)
theorem ziv (l : List Stp) : tbl E0 19 [stpsV l] [] = some ([.bool (greatT l)], []) :=
  zrb l (by
    have e := zph l 61 l 0 rfl rfl; simp only [Int.natCast_zero] at e; simp only [zhz, zm, e, greatT]
    rcases bor ((l.take 61).any bigT) with hb | hb
    · simp [hb]
    · by_cases h : 60 < l.length
      · have : (l.length : Int) > 60 := by omega
        simp [hb, h, this]
      · have : ¬ ((l.length : Int) > 60) := by omega
        simp [hb, h, this])
end Go.Proofs.Ytjkjhgfiaodgmaa.V
namespace Go.Proofs.Ytjkjhgfiaodgmaa.V
open Go
theorem zsb {x : Stp} (h : bigT x = false) : x.sml := by
  simp only [bigT, Bool.or_eq_false_iff, decide_eq_false_iff_not] at h
  exact ⟨by omega, by omega⟩
end Go.Proofs.Ytjkjhgfiaodgmaa.V
namespace Go.Proofs.Ytjkjhgfiaodgmaa.V
open Go
theorem z35 (l : List Fld) : (l.map fldV).all AV.flat = true := by
  rw [List.all_eq_true]; intro x hx; obtain ⟨f, _, rfl⟩ := List.mem_map.1 hx; rfl
theorem zx (l : List Frm) : (l.map frmV).all AV.flat = true := by
  rw [List.all_eq_true]; intro x hx; obtain ⟨f, _, rfl⟩ := List.mem_map.1 hx; rfl
theorem zpi (l : List Int) : (l.map fun n => iV n).all AV.flat = true := by
  rw [List.all_eq_true]; intro x hx; obtain ⟨f, _, rfl⟩ := List.mem_map.1 hx; rfl
theorem z2w (x : Stp) (v : Int) (l : List Frm) (p e : Int) : fitI [((0 : Nat), madO x v l p e)] = true := by
  have h1 := zx l; have h2 := z35 x.fields; have h3 := zpi x.t; simp only [fitI, fitC, AV.flat, AV.flat1, h1, List.all_cons, List.all_nil, Bool.and_self, Bool.and_true]; rfl
theorem z5u (l : List Fld) (h : l.length ≤ 1000) : tbl E0 23 [fldsV l] [] = some ([fldsU l], []) := zs7 l (by
  have hf := z35 l
  have h2 : (0 + (l.map fldV).length) * 40 ≤ 211106232532992 := by rw [List.length_map]; omega
  cases l with
  | nil =>
    simp only [zbr, List.map_nil]
    exact z6l (fun b => by cases b <;> rfl)
  | cons f l =>
    simp only [List.map_cons] at hf h2; simp only [zbr, List.map_cons, zcn, cond_false, h2, decide_true, z9, cond_true, List.nil_append, hf]
    rfl)
theorem oshE : (nodupN (List.map (fun x => x.fst) (oshOf T0 0 [AV.ref 0 0] Try.f38.params.toList)) && (oshOf T0 0 [AV.ref 0 0] Try.f38.params.toList).all fun p => p.fst.blt 64) = true := by kernel_rfl
def posS (id : Int) : List Frm → Nat
  | [] => 0
  | f :: l => if f.id < id then posS id l + 1 else 0
theorem ziw (id : Int) : ∀ l : List Frm, posS id l ≤ l.length
  | [] => Nat.le_refl _
  | f :: l => by
    have := ziw id l; unfold posS
    split <;> simp only [List.length_cons] <;> omega
def hereS (id : Int) (l : List Frm) : Bool := match l[posS id l]? with | some f => f.id == id | none => false
theorem zn8 (l : List Frm) (v : Int) (hl : l.length ≤ 1000) (hf : ∀ f ∈ l, f.fields.length ≤ 1000) : ∀ (r : List Frm) (i : Nat) (d : List Frm), l.drop i = r → d.length = i →
    ltbl E0 13 0 3 [frmsV l, iV l.length, iV i] [[iV 0, frmsV []], [iV v, frmsU d]] = some (1, [], [[iV 0, frmsV []], [iV v, frmsU (d ++ r)]]) := by
  intro r
  induction r with
  | nil =>
    intro i d hr hd
    have h : l.length ≤ i := by simpa using hr
    refine zd7 _ _ _ _ _ ?_
    have : ¬ ((i : Int) < l.length) := by omega
    have := zx d; simp [z7n, *]
  | cons f r ih =>
    intro i d hr hd; obtain ⟨hlt, hget, hr2⟩ := zw hr
    have h2 : (i : Int) < l.length := by omega
    have e1 := zn (i := i) (by omega)
    have h := ih (i + 1) (d ++ [f]) hr2 (by simp [hd])
    have c := z5u f.fields (hf f (z1e hr)); have q1 := z35 f.fields; have q2 := zx (d ++ [f])
    have q3 : ((d.map frmV).length + 1) * 32 ≤ 211106232532992 := by rw [List.length_map]; omega
    refine zd7 _ _ _ _ _ ?_
    have e3 : d.map frmV ++ [frmV f] = (d ++ [f]).map frmV := by simp
    have e4 : d ++ f :: r = d ++ [f] ++ r := by simp
    simp only [frmV, fldsV, fldsU, frmsV, frmsU, List.map_nil] at c h e3 q2 ⊢; simp only [z7n, h2, decide_true, cond_true, z9, Int.natCast_nonneg, nthE, Int.toNat_natCast, List.getElem?_map, hget, Option.map_some, u_asA, u_asC, u_asI, u_asB, u_asL, zt, u_asN, zh, c, Option.bind_some, q1, List.length_cons, List.length_nil, Nat.zero_add, q3, e3, q2, e1, h, e4, z2h, z12]
theorem zfo (s : Sch) (hl : s.forms.length ≤ 1000) (hf : ∀ f ∈ s.forms, f.fields.length ≤ 1000) : tbl E0 13 [schV s] [] = some ([.agg [iV s.ver, frmsU s.forms]], []) := zp9 s (by
  have h := zn8 s.forms s.ver hl hf s.forms 0 [] rfl rfl; have q := zx s.forms; simp only [Int.natCast_zero, frmsV, frmsU, List.map_nil, List.nil_append] at h; simp only [zfi, z9, cond_true, ze, List.length_map, zm, h, Option.bind_some, nbeq, decide_true, u_asN, u_asC, u_asI, u_asL, zt, q])
theorem zue {α : Type} {A : Alg α} (td : TD) (a b : Int) (k : AV → α) : bin A td .lss (iV a) (iV b) k = k (.bool (decide (a < b))) := Eq.trans rfl rfl
theorem zuf {α : Type} {A : Alg α} (td : TD) (a b : Int) (k : AV → α) : bin A td .eql (iV a) (iV b) k = k (.bool (a == b)) := Eq.trans rfl rfl
theorem zsc (x : Stp) (v : Int) (l : List Frm) (e : Int) (hl : l.length ≤ 1000) : ∀ (r : List Frm) (i : Nat), l.drop i = r →
    ltbl E0 38 0 2 [] [madO x v l i e] = some (1, [], [madO x v l (i + posS x.form r : Nat) e]) := by
  intro r; have q := zx l
  induction r with
  | nil =>
    intro i hr
    have h : l.length ≤ i := by simpa using hr
    refine zir _ _ _ _ _ ?_
    have h2 : ¬ ((i : Int) < l.length) := by omega
    simp only [zbs, zq, ze, List.length_map, h2, decide_false, cond_false, Option.bind_some, Tok.untok_tok, q, cond_true, posS, Nat.add_zero]
  | cons f r ih =>
    intro i hr; obtain ⟨hlt, hget, hr2⟩ := zw hr
    have h2 : (i : Int) < l.length := by omega
    have e1 := zn (i := i) (by omega)
    have h := ih (i + 1) hr2; refine zir _ _ _ _ _ ?_; simp only [zbs, zq, ze, List.length_map, h2, Int.natCast_nonneg, decide_true, cond_true, Bool.and_self, z9, nthE, Int.toNat_natCast, List.getElem?_map, hget, Option.map_some, AV.cells, List.getElem?_cons_zero, u_asB, Option.bind_some, Tok.untok_tok, q, e1, h, zue]
    by_cases c : f.id < x.form
    · simp [c, posS, Nat.add_assoc, Nat.add_comm 1]
    · simp [c, posS]
theorem zug {id : Int} {l : List Frm} (h : posS id l < l.length) : ∃ f, l[posS id l]? = some f := ⟨_, List.getElem?_eq_getElem h⟩
theorem ze8 (x : Stp) (v : Int) (l : List Frm) (p e : Int) (hl : l.length ≤ 1000) : tbl E0 38 [.ref 0 0] [(0, madO x v l p e)] = some ([.bool (hereS x.form l)], [(0, madO x v l (posS x.form l) e)]) := zu9 x v l p e (by
  have q := zx l; have h := zsc x v l e hl l 0 rfl; have hp := ziw x.form l; have o := oshE; simp only [Int.natCast_zero, Nat.zero_add] at h; rw [Bool.and_eq_true] at o; simp only [zlj, z2w, o.1, o.2, List.all_cons, List.all_nil, fitA, Bool.and_self, cond_true, z9, q, zm, h, Option.bind_some, nbeq, decide_true, u_asN, u_asC, u_asI, u_asS, u_asL, zt, zq, ze, List.length_map]
  by_cases c : posS x.form l < l.length
  · obtain ⟨f, hf⟩ := zug c
    have c2 : ((posS x.form l : Nat) : Int) < l.length := by omega
    simp only [c2, decide_true, cond_true, Int.natCast_nonneg, Bool.and_self, nthE, Int.toNat_natCast, List.getElem?_map, hf, Option.map_some, AV.cells, List.getElem?_cons_zero, zuf, u_asB, Option.bind_some, Tok.untok_tok, hereS]
  · have c2 : ¬ (((posS x.form l : Nat) : Int) < l.length) := by omega
    have c3 : l[posS x.form l]? = none := List.getElem?_eq_none (by omega)
    simp only [c2, decide_false, cond_false, Option.bind_some, Tok.untok_tok, hereS, c3])
theorem oshE2 : (nodupN (List.map (fun x => x.fst) (oshOf T0 0 [AV.ref 0 0] Try.f42.params.toList)) && (oshOf T0 0 [AV.ref 0 0] Try.f42.params.toList).all fun p => p.fst.blt 64) = true := by kernel_rfl
theorem oshE3 : (nodupN (List.map (fun x => x.fst) (oshOf T0 0 [AV.ref 0 0] Try.f43.params.toList)) && (oshOf T0 0 [AV.ref 0 0] Try.f43.params.toList).all fun p => p.fst.blt 64) = true := by kernel_rfl
theorem zsd {α : Type} {A : Alg α} (w : Nat) (nm : Nm) (l : List AV) (cl : Cl) (k : AV → Cl → α) : exp0 A (.lst w) nm (.lst .ro w l) cl k = k (.lst .ro w l) cl := by simp [exp0, lit]
theorem z9u (x : Stp) (v : Int) (l : List Frm) (p : Nat) (e : Int) (g : Frm) (hg : l[p]? = some g) : tbl E0 42 [.ref 0 0] [(0, madO x v l p e)] = some ([fldsV g.fields], [(0, madO x v l p e)]) := zpb x v l p e (by
  have q := zx l; have hp : p < l.length := (List.getElem?_eq_some_iff.1 hg).1
  have hp2 : (p : Int) < l.length := by omega
  have o := oshE2; rw [Bool.and_eq_true] at o; simp only [zfk, z2w, o.1, o.2, List.all_cons, List.all_nil, fitA, Bool.and_self, cond_true, z9, q, List.length_map, hp2, decide_true, Int.natCast_nonneg, nthE, Int.toNat_natCast, List.getElem?_map, hg, Option.map_some, AV.cells, List.getElem?_cons_succ, List.getElem?_cons_zero, zsd])
theorem zpj (x : Stp) (v : Int) (l : List Frm) (p e : Nat) (g : Frm) (f : Fld) (hg : l[p]? = some g) (hf : g.fields[e]? = some f) : tbl E0 43 [.ref 0 0] [(0, madO x v l p e)] = some ([fldV f], [(0, madO x v l p e)]) := zw9 x v l p e (by
  have q := zx l; have c := z9u x v l p e g hg; have o := oshE3; rw [Bool.and_eq_true] at o; simp only [zp7, z9r, z2w, o.1, o.2, List.all_cons, List.all_nil, fitA, Bool.and_self, cond_true, z9, q, zh, c, Option.bind_some, nbeq, decide_true, u_asN, u_asC, u_asI, u_asS, u_asL, zt, Int.natCast_nonneg, nthE, Int.toNat_natCast, List.getElem?_map, hf, Option.map_some, u_asA, z12])
def widerS (f g : Fld) : Bool := rgtS f && rgtS g && f.kind == g.kind && decide (loS g ≤ loS f) && decide (hiS f ≤ hiS g) && decide (f.most ≤ g.most)
theorem zse (f g : Fld) : tbl E0 66 [fldV f, fldV g] [] = some ([.bool (widerS f g)], []) := zs8 f g (by
  have c1 := z3o f; have c2 := z3o g; simp only [ziq, z9, cond_true, zq, za, c1, c2, Option.bind_some, u_asC, u_asB, u_asN]
  rcases bor (rgtS f) with h1 | h1
  · have d1 := z68 f (fun _ => h1)
    rcases bor (rgtS g) with h2 | h2
    · have d2 := z68 g (fun _ => h2)
      simp only [h1, h2, Bool.not_true, cond_false, Option.bind_some, Tok.untok_tok]
      rcases bor (f.kind != g.kind) with h3 | h3
      · have : (f.kind == g.kind) = false := by simpa using h3
        simp [h3, widerS, h1, h2, this]
      · have : (f.kind == g.kind) = true := by simpa using h3
        simp only [h3, cond_false, z9, cond_true, za, d1, d2, Option.bind_some, u_asC, u_asI, u_asN, zq]
        by_cases a : loS g ≤ loS f <;> by_cases b : hiS f ≤ hiS g <;> simp [widerS, h1, h2, this, a, b]
    · simp [h1, h2, widerS]
  · simp [h1, widerS])
end Go.Proofs.Ytjkjhgfiaodgmaa.V
namespace Go.Proofs.Ytjkjhgfiaodgmaa.V
open Go
def minS (a b : Int) : Int := if b < a then b else a
def maxS (a b : Int) : Int := if a < b then b else a
def affS (a b n : Int) : Int := IntKind.i64.wrap (IntKind.i64.wrap (a * n) + b)
def scaledS (f : Fld) (a b : Int) : Fld := ⟨f.id, f.kind, minS (affS a b f.lo) (affS a b f.hi), maxS (affS a b f.lo) (affS a b f.hi), f.most⟩
def scaleS (f : Fld) (a b : Int) : Fld := ⟨f.id, 1, minS (affS a b f.lo) (affS a b f.hi), maxS (affS a b f.lo) (affS a b f.hi), 0⟩
def typesS (f : Fld) (x : Stp) : List Fld × Bool :=
  if x.op = 2 then ([], hasV f x.n x.s)
  else if x.op = 3 then ([x.f], widerS f x.f)
  else if x.op = 4 then ([scaleS f x.a x.b], f.kind == 1 && rgtS (scaleS f x.a x.b))
  else if x.op = 5 then ([⟨f.id, 3, 0, 0, x.a⟩], f.kind == 3 && f.most == (x.t.length : Int))
  else if x.op = 6 then ([⟨f.id, 1, 0, IntKind.i64.wrap (f.hi.tdiv x.a), 0⟩, ⟨x.to, 1, 0, minS f.hi (IntKind.i64.wrap (x.a - 1)), 0⟩], f.kind == 1 && f.lo == 0)
  else if x.op = 8 then ([⟨x.to, f.kind, f.lo, f.hi, f.most⟩], true) else ([f], true)
def turnedS (f : Fld) (x : Stp) : List Fld × Bool :=
  if x.op = 2 then ([], hasV f x.n x.s)
  else if x.op = 3 then ([x.f], widerS f x.f)
  else if x.op = 4 then (if f.kind = 1 then ([scaledS f x.a x.b], rgtS (scaledS f x.a x.b)) else ([f], false))
  else if x.op = 5 then ([⟨f.id, f.kind, f.lo, f.hi, x.a⟩], f.kind == 3 && f.most == (x.t.length : Int))
  else if x.op = 6 then ([⟨f.id, f.kind, f.lo, IntKind.i64.wrap (f.hi.tdiv x.a), f.most⟩, ⟨x.to, 1, 0, minS (IntKind.i64.wrap (x.a - 1)) f.hi, 0⟩], f.kind == 1 && f.lo == 0)
  else ([⟨x.to, f.kind, f.lo, f.hi, f.most⟩], true)
theorem zpk (a b : Int) : minS a b = minS b a := by unfold minS; split <;> split <;> omega
theorem rgt1 {f : Fld} (h : rgtS f = true) (k : f.kind = 1) : f.most = 0 := by
  simp only [rgtS, k, if_true, Bool.and_eq_true, decide_eq_true_eq] at h; omega
theorem rgt3 {f : Fld} (h : rgtS f = true) (k : f.kind = 3) : f.lo = 0 ∧ f.hi = 0 := by
  simp [rgtS, k] at h; omega
theorem zix {f : Fld} {x : Stp} (h : rgtS f = true) (h7 : x.op ≠ 7) (hop : x.op = 2 ∨ x.op = 3 ∨ x.op = 4 ∨ x.op = 5 ∨ x.op = 6 ∨ x.op = 8) : (turnedS f x).2 = (typesS f x).2 ∧ ((typesS f x).2 = true → (turnedS f x).1 = (typesS f x).1) := by
  rcases hop with h1 | h1 | h1 | h1 | h1 | h1
  · simp [turnedS, typesS, h1]
  · simp [turnedS, typesS, h1]
  · by_cases k : f.kind = 1
    · have := rgt1 h k
      simp [turnedS, typesS, h1, k, scaledS, scaleS, this]
    · simp [turnedS, typesS, h1, k]
  · by_cases k : f.kind = 3
    · obtain ⟨k1, k2⟩ := rgt3 h k
      simp [turnedS, typesS, h1, k, k1, k2]
    · simp [turnedS, typesS, h1, k]
  · by_cases k : f.kind = 1
    · have := rgt1 h k
      by_cases k2 : f.lo = 0
      · simp [turnedS, typesS, h1, k, k2, this, zpk]
      · simp [turnedS, typesS, h1, k, k2]
    · simp [turnedS, typesS, h1, k]
  · simp [turnedS, typesS, h1]
def fieldS (op : Int) : Bool := op != 1 && (op != 9 && op != 10)
def namesS (s : Sch) (x : Stp) : Int :=
  if x.op = 9 then (if 0 ≤ findS s.forms x.form then 9 else 0)
  else if findS s.forms x.form < 0 then 8
  else match s.forms[(findS s.forms x.form).toNat]? with
    | none => 0
    | some f =>
      if fieldS x.op && decide (atS f.fields x.field < 0) then 8
      else if (x.op == 1 && decide (0 ≤ atS f.fields x.f.id)) || ((x.op == 6 || x.op == 8) && decide (0 ≤ atS f.fields x.to)) then 9
      else if (x.op == 1 && decide ((f.fields.length : Int) < x.place)) || (x.op == 7 && decide ((f.fields.length : Int) ≤ x.place)) then 3 else 0
def putS (l : List Fld) (n : Nat) (m : List Fld) : List Fld := l.take n ++ m ++ l.drop n
def cutS (l : List Fld) (n : Nat) : List Fld := l.take n ++ l.drop (n + 1)
def bodyS (f : Frm) : Bool → List Frm → List Frm
  | _, [] => []
  | b, g :: l => (if !b && decide (f.id ≤ g.id) then [f] else []) ++ ((if g.id ≠ f.id then [g] else []) ++ bodyS f (b || decide (f.id ≤ g.id)) l)
def doneS (f : Frm) : Bool → List Frm → Bool
  | b, [] => b
  | b, g :: l => doneS f (b || decide (f.id ≤ g.id)) l
def formsS (f : Frm) (b : Bool) (l : List Frm) : List Frm := bodyS f b l ++ (if doneS f b l then [] else [f])
def sch0 : Sch := ⟨0, []⟩
def outS (s : Sch) (f : Frm) : Sch × Int :=
  if schS ⟨s.ver, formsS f f.fields.isEmpty s.forms⟩ then (⟨s.ver, formsS f f.fields.isEmpty s.forms⟩, 0) else (sch0, 7)
def oldS (s : Sch) (x : Stp) : List Fld := match s.forms[(findS s.forms x.form).toNat]? with | some g => g.fields | none => []
def newS (l : List Fld) (x : Stp) (more : List Fld) : List Fld := putS (cutS l (atS l x.field).toNat) (if x.op = 7 then x.place.toNat else (atS l x.field).toNat) more
def onS (s : Sch) (x : Stp) : Sch × Int :=
  if !(schS s) || (!(tRightS x) || decide (10 < x.op)) then (sch0, 2)
  else if namesS s x ≠ 0 then (sch0, namesS s x)
  else if x.op = 9 then outS s ⟨x.form, x.fields⟩
  else if x.op = 1 then outS s ⟨x.form, putS (oldS s x) x.place.toNat [x.f]⟩
  else if x.op = 10 then outS s ⟨x.form, []⟩
  else match (oldS s x)[(atS (oldS s x) x.field).toNat]? with
    | none => (sch0, 17)
    | some g => if (typesS g x).2 then (if (newS (oldS s x) x (typesS g x).1).isEmpty then (sch0, 7) else outS s ⟨x.form, newS (oldS s x) x (typesS g x).1⟩) else (sch0, 17)
def allS (s : Sch) : Nat → List Stp → Sch × Nat × Int
  | _, [] => (s, 0, 0)
  | i, x :: l => if (onS s x).2 = 0 then allS (onS s x).1 (i + 1) l else (sch0, i, (onS s x).2)
end Go.Proofs.Ytjkjhgfiaodgmaa.V
namespace Go.Proofs.Ytjkjhgfiaodgmaa.V
open Go
def Few (s : Sch) : Prop := s.forms.length ≤ 1000 ∧ ∀ f ∈ s.forms, f.fields.length ≤ 1000
theorem Few.sml {s : Sch} (h : Few s) : Sml s := ⟨by have := h.1; omega, fun f hf => by have := h.2 f hf; omega⟩
theorem z6a {α : Type} {p : α → Bool} {l : List α} : (∃ (j : Nat) (f : α), firstS p l = (j : Int) ∧ l[j]? = some f ∧ p f = true) ∨ firstS p l = -1 := by
  unfold firstS
  cases h : l.findIdx? p with
  | none => exact .inr rfl
  | some j =>
    obtain ⟨h1, h2, h3⟩ := List.findIdx?_eq_some_iff_getElem.1 h; exact .inl ⟨j, l[j], rfl, List.getElem?_eq_getElem h1, h2⟩
end Go.Proofs.Ytjkjhgfiaodgmaa.V
namespace Go.Proofs.Ytjkjhgfiaodgmaa.V
open Go
theorem z1f {x : Stp} (h : tRightS x = true) (p : Int) (hp : p ∈ usesS x.op) : fitsS x p = true := ((z2s h).1 p hp).2.1
theorem ze9 {x : Stp} (h : tRightS x = true) (o : x.op = 1) : (0 ≤ x.place ∧ x.place ≤ 8) ∧ rgtS x.f = true := by
  have h2 := z1f h 2 (by rw [o]; decide)
  have h6 := z1f h 6 (by rw [o]; decide)
  simp [fitsS, inS] at h2 h6; exact ⟨h2, h6.1⟩
theorem zlm {x : Stp} (h : tRightS x = true) (o : x.op = 6) : (2 ≤ x.a ∧ x.a ≤ 1048576) ∧ 0 ≤ x.to := by
  have h2 := z1f h 4 (by rw [o]; decide)
  have h6 := z1f h 3 (by rw [o]; decide)
  simp [fitsS, inS, o] at h2 h6; exact ⟨h2, h6.1.1⟩
theorem zuh {x : Stp} (h : tRightS x = true) (o : x.op = 8) : 0 ≤ x.to := by
  have h6 := z1f h 3 (by rw [o]; decide)
  simp [fitsS, inS] at h6; exact h6.1.1
theorem zui {x : Stp} (h : tRightS x = true) (o : x.op = 7) : 0 ≤ x.place ∧ x.place ≤ 8 := by
  have h6 := z1f h 2 (by rw [o]; decide)
  simpa [fitsS, inS] using h6
theorem zln {x : Stp} (h : tRightS x = true) (o : x.op = 9) : fineS ⟨x.form, x.fields⟩ = true := by
  have h6 := z1f h 9 (by rw [o]; decide)
  simpa [fitsS] using h6
theorem z3p {x : Stp} (h : tRightS x = true) (h10 : x.op ≤ 10) : x.op = 1 ∨ x.op = 2 ∨ x.op = 3 ∨ x.op = 4 ∨ x.op = 5 ∨ x.op = 6 ∨ x.op = 7 ∨ x.op = 8 ∨ x.op = 9 ∨ x.op = 10 := by
  have := (z2s h).2.1; simp only [opsL, List.mem_cons, List.not_mem_nil, or_false] at this; omega
theorem bor' (b : Bool) : b = false ∨ b = true := by cases b <;> simp
theorem zlo (l t : List Fld) (n : Nat) : (putS l n t).length = l.length + t.length := by
  unfold putS; simp; omega
theorem names0 {s : Sch} {x : Stp} (h : namesS s x = 0) (h9 : x.op ≠ 9) : ∃ (j : Nat) (g : Frm), findS s.forms x.form = (j : Int) ∧ s.forms[j]? = some g ∧ g.id = x.form ∧ oldS s x = g.fields ∧
    (fieldS x.op = true → ∃ (k : Nat) (f : Fld), atS g.fields x.field = (k : Int) ∧ g.fields[k]? = some f) ∧ (x.op = 1 → x.place ≤ g.fields.length ∧ atS g.fields x.f.id < 0) ∧ (x.op = 7 → x.place < g.fields.length) ∧ (x.op = 6 ∨ x.op = 8 → atS g.fields x.to < 0) := by
  rcases z6a (p := fun f : Frm => f.id == x.form) (l := s.forms) with ⟨j, g, e1, e2, e3⟩ | e1
  · have e1 : findS s.forms x.form = (j : Int) := e1
    refine ⟨j, g, e1, e2, by simpa using e3, by simp [oldS, e1, e2], ?_⟩
    have n1 : ¬ ((j : Int) < 0) := by omega
    simp only [namesS, h9, if_false, e1, n1, Int.toNat_natCast, e2] at h
    have a1 : ¬ ((fieldS x.op && decide (atS g.fields x.field < 0)) = true) := by
      intro a; simp [a] at h
    rw [if_neg a1] at h
    have a2 : ¬ (((x.op == 1 && decide (0 ≤ atS g.fields x.f.id)) || ((x.op == 6 || x.op == 8) && decide (0 ≤ atS g.fields x.to))) = true) := by
      intro a; simp [a] at h
    rw [if_neg a2] at h
    have a3 : ¬ (((x.op == 1 && decide ((g.fields.length : Int) < x.place)) || (x.op == 7 && decide ((g.fields.length : Int) ≤ x.place))) = true) := by
      intro a; simp [a] at h
    refine ⟨fun hf => ?_, fun o => ?_, fun o => ?_, fun o => ?_⟩
    · rcases z6a (p := fun f : Fld => f.id == x.field) (l := g.fields) with ⟨k, f, q1, q2, q3⟩ | q1
      · exact ⟨k, f, q1, q2⟩
      · exfalso
        have q1 : atS g.fields x.field = -1 := q1; apply a1; simp [hf, q1]
    · simp [o] at a2 a3
      omega
    · simp [o] at a3
      omega
    · simp at a2
      have := a2.2 o; omega
  · have e1 : findS s.forms x.form = -1 := e1
    simp [namesS, h9, e1] at h
theorem zlp {l : List Fld} {n : Nat} (h : n < l.length) : (cutS l n).length + 1 = l.length := by
  unfold cutS; simp; omega
theorem z5v {s : Sch} (h : schS s = true) : s.forms.length ≤ 8 ∧ ∀ f ∈ s.forms, f.fields.length ≤ 8 ∧ ∀ x ∈ f.fields, rgtS x = true := by
  simp only [schS, Bool.and_eq_true, decide_eq_true_eq] at h; refine ⟨h.1.2, fun f hf => ?_⟩; have := z2v _ _ h.2 f hf; rw [z33] at this; exact ⟨this.2.1.2, this.2.2.2.1⟩
theorem z9v {s : Sch} {f : Frm} (h : (outS s f).2 = 0) : schS (outS s f).1 = true ∧ (outS s f).1 = ⟨s.ver, formsS f f.fields.isEmpty s.forms⟩ := by
  unfold outS at h ⊢
  split at h
  · rename_i c; rw [if_pos c]; exact ⟨c, rfl⟩
  · simp at h
theorem z36 {s : Sch} {x : Stp} (h : (onS s x).2 = 0) : ∃ f : Frm, f.id = x.form ∧ onS s x = outS s f ∧ (x.op ≠ 10 → f.fields.isEmpty = false) ∧ schS s = true ∧ namesS s x = 0 ∧ tRightS x = true ∧ x.op ≤ 10 := by
  by_cases g0 : (!(schS s) || (!(tRightS x) || decide (10 < x.op))) = true
  · unfold onS at h; rw [if_pos g0] at h; simp at h
  · have g1 : schS s = true ∧ tRightS x = true ∧ x.op ≤ 10 := by
      simp at g0
      exact ⟨g0.1, g0.2.1, by omega⟩
    by_cases h4 : namesS s x = 0
    · by_cases h9 : x.op = 9
      · have eo : onS s x = outS s ⟨x.form, x.fields⟩ := by unfold onS; rw [if_neg g0, if_neg (by simp [h4]), if_pos h9]
        refine ⟨_, rfl, eo, fun _ => ?_, g1.1, h4, g1.2.1, g1.2.2⟩; have f9 := zln g1.2.1 h9; rw [z33] at f9; have := f9.2.1.1
        cases hx : x.fields with
        | nil => simp [hx] at this
        | cons a l => rfl
      · by_cases o1 : x.op = 1
        · have eo : onS s x = outS s ⟨x.form, putS (oldS s x) x.place.toNat [x.f]⟩ := by unfold onS; rw [if_neg g0, if_neg (by simp [h4]), if_neg h9, if_pos o1]
          exact ⟨_, rfl, eo, fun _ => by simp [putS], g1.1, h4, g1.2.1, g1.2.2⟩
        · by_cases o10 : x.op = 10
          · have eo : onS s x = outS s ⟨x.form, []⟩ := by unfold onS; rw [if_neg g0, if_neg (by simp [h4]), if_neg h9, if_neg o1, if_pos o10]
            exact ⟨_, rfl, eo, fun h => absurd o10 h, g1.1, h4, g1.2.1, g1.2.2⟩
          · unfold onS at h ⊢
            rw [if_neg g0, if_neg (by simp [h4]), if_neg h9, if_neg o1, if_neg o10] at h ⊢
            split at h
            · simp at h
            · rename_i g hg
              split at h
              · rename_i t
                rw [if_pos t]
                split at h
                · simp at h
                · rename_i e
                  rw [if_neg e]
                  exact ⟨_, rfl, rfl, fun _ => by simpa using e, g1.1, h4, g1.2.1, g1.2.2⟩
              · simp at h
    · unfold onS at h
      rw [if_neg g0, if_pos h4] at h; exact absurd h h4
theorem z5w {s : Sch} {x : Stp} (h : (onS s x).2 = 0) : schS (onS s x).1 = true := by
  obtain ⟨f, _, e, _⟩ := z36 h; rw [e] at h ⊢; exact (z9v h).1
theorem zd9 {s : Sch} (h : schS s = true) : Few s := by
  have := z5v h
  exact ⟨by omega, fun f hf => by have := (this.2 f hf).1; omega⟩
end Go.Proofs.Ytjkjhgfiaodgmaa.V
