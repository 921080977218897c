/- How a call's answer is worked out: the algebra of results by simp; bytes. -/
import Derived.Test.YthmocicjocjdoaaBe
set_option linter.unusedVariables false
set_option linter.unusedSimpArgs false
namespace Go.Proofs.Ythmocicjocjdoaa.V
open Go
theorem tbl_of {E : Env} {f : Nat} {fn : Func} {body : Code} {args : List AV} {ins : List (Nat × List AV)} {r : CR} (hf : E.P.funcs[f]? = some fn) (hb : fn.body = some body) (hc : (codeOK fn.ntmps body && ckOK (E.an f (E.key f args)) body && Nat.ble args.length fn.ntmps) = true)
    (hX : E.X f args ins = none)
    (h : runF (OA (tbl E) (ltbl E f (E.key f args))) E.T (E.an f (E.key f args)) fn body (E.T.res f) (oshOf E.T 0 args fn.params.toList) args ins (fun r o => some (r, o)) = some r) : tbl E f args ins = some r := by
  refine tbl_step ?_
  unfold stepC
  rw [hX]
  unfold stepC0 withB
  rw [hf]; dsimp only; rw [hb]; dsimp only; rw [hc]
  exact h
theorem ltbl_of {E : Env} {f key id : Nat} {fn : Func} {body : Code} {vs : List AV} {os : List (List AV)} {r : LR} (hf : E.P.funcs[f]? = some fn) (hb : fn.body = some body) (hc : (codeOK fn.ntmps (loopB (E.an f key) body id) && ckOK (E.an f key) body) = true)
    (h : roundV (OA (tbl E) (ltbl E f key)) id ((E.an f key).loop id) ((E.an f key).out id) (fun env objs cl k => run (OA (tbl E) (ltbl E f key)) E.T (E.an f key) (loopB (E.an f key) body id) env objs cl k) vs os (fun vs os => ltbl E f key id vs os) (fun j vs os => some (j, vs, os)) = some r) : ltbl E f key id vs os = some r := by
  refine ltbl_step ?_
  unfold stepL withB
  rw [hf]; dsimp only; rw [hb]; dsimp only; rw [hc]
  exact h
def asRef0 {α : Type} (A : Alg α) (v : AV) (k : Nat → α) : α := match v with | .ref o 0 => k o | _ => A.fail
section
variable {R : Type} [Tok R] {c : CT} {l : LT}
@[simp] theorem OA_fail : (OA (R := R) c l).fail = none := Eq.trans rfl rfl
@[simp] theorem OA_chk (b : Bool) (x : Option R) : (OA c l).chk b x = bif b then x else none := Eq.trans rfl rfl
@[simp] theorem OA_asm (p : Prop) (x : Option R) : (OA c l).asm p x = x := Eq.trans rfl rfl
@[simp] theorem OA_call (f : Nat) (as : List AV) (ins : List (Nat × List AV)) (k : List AV → List (Nat × List AV) → Option R) : (OA c l).call f as ins k = (c f as ins).bind fun ro => k ro.1 ro.2 := Eq.trans rfl rfl
@[simp] theorem OA_callx (f : Nat) (as : List AV) (k : List AV → Option R) : (OA c l).callx f as k = (c f as []).bind fun ro => match ro.2 with | [] => k ro.1 | _ => none := Eq.trans rfl rfl
@[simp] theorem OA_loop (id : Nat) (vs : List AV) (os : List (List AV)) (k : Nat → List AV → List (List AV) → Option R) : (OA c l).loop id vs os k = (l id vs os).bind fun x => k x.1 x.2.1 x.2.2 := Eq.trans rfl rfl
theorem OA_both (x y : Option R) : (OA c l).both x y = bif sameO x y then x else none := rfl
theorem OA_amb (f : Bool → Option R) : (OA c l).amb f = bif sameO (f true) (f false) then f true else none := rfl
@[simp] theorem OA_join (f : (Bool → Option R) → Option R) (k : Bool → Option R) : (OA c l).join f k = (f fun b => some (Tok.tok b)).bind fun r => (Tok.untok r).bind k := Eq.trans rfl rfl
@[simp] theorem sameO_self (x : R) : sameO (some x) (some x) = true := Tok.same_refl x
theorem OA_both_same {x y : Option R} {r : R} (hx : x = some r) (hy : y = some r) : (OA c l).both x y = some r := by rw [OA_both, hx, hy, sameO_self]; rfl
@[simp] theorem OA_both_id (x : Option R) : (OA c l).both x x = x := by cases x <;> simp [OA_both, sameO, Tok.same_refl]
@[simp] theorem OA_both_self (r : R) : (OA c l).both (some r) (some r) = some r := OA_both_same rfl rfl
theorem OA_amb_same {f : Bool → Option R} {r : R} (h : ∀ b, f b = some r) : (OA c l).amb f = some r := by rw [OA_amb, h, h, sameO_self]; rfl
attribute [simp] Tok.untok_tok
@[simp] theorem tok_cond (b x y : Bool) : (bif b then some (Tok.tok (R := R) x) else some (Tok.tok y)) = some (Tok.tok (bif b then x else y)) := by cases b <;> rfl
@[simp] theorem tok_ite (p : Prop) [Decidable p] (x y : Bool) : (if p then some (Tok.tok (R := R) x) else some (Tok.tok y)) = some (Tok.tok (if p then x else y)) := by by_cases h : p <;> simp [h]
end
section
variable {α : Type} {A : Alg α}
@[simp] theorem u_asC {β : Type} (x : β) (r : List β) (k : β → List β → α) : asC A (x :: r) k = k x r := Eq.trans rfl rfl
@[simp] theorem u_asN {β : Type} (k : α) : asN A ([] : List β) k = k := Eq.trans rfl rfl
@[simp] theorem u_asI (ik : IntKind) (n : Int) (k : Int → α) : asI A ik (.int ik n) k = k n := by simp [asI, lit]
@[simp] theorem u_asB (b : Bool) (k : Bool → α) : asB A (.bool b) k = k b := Eq.trans rfl rfl
@[simp] theorem u_asS (b : List UInt8) (k : List UInt8 → α) : asS A (.str b) k = k b := Eq.trans rfl rfl
@[simp] theorem u_asL (w : Nat) (l : List AV) (k : List AV → α) : asL A w (.lst .ro w l) k = k l := by simp [asL, lit]
@[simp] theorem u_asOwn (w : Nat) (q : Nm) (l : List AV) (k : Nm → List AV → α) : asOwn A w (.lst (.own q) w l) k = k q l := by simp [asOwn, lit]
@[simp] theorem u_asA (l : List AV) (k : List AV → α) : asA A (.agg l) k = k l := Eq.trans rfl rfl
@[simp] theorem u_asUq (w : Nat) (l : List AV) (k : List AV → α) : asUq A w (.lst .uq w l) k = k l := by simp [asUq, lit]
@[simp] theorem u_asRow (l : List AV) (k : List AV → α) : asRow A (some (.row l)) k = k l := Eq.trans rfl rfl
@[simp] theorem u_asNilp (k : α) : asNilp A .nilp k = k := Eq.trans rfl rfl
@[simp] theorem u_asRef0 (o : Nat) (k : Nat → α) : asRef0 A (.ref o 0) k = k o := Eq.trans rfl rfl
@[simp] theorem u_nil_cons (x : AV) (l : List AV) (k : Bool → α) : nilEq A .ro (x :: l) k = k false := Eq.trans rfl rfl
@[simp] theorem u_nil_own (q : Nm) (x : AV) (l : List AV) (k : Bool → α) : nilEq A (.own q) (x :: l) k = k false := Eq.trans rfl rfl
theorem u_nthI {β : Type} {l : List β} {n : Int} {x : β} {k : β → α} (h0 : 0 ≤ n) (h : l[n.toNat]? = some x) : nthI A n l k = A.chk true (k x) := by simp [nthI, nthE, h, h0]
end
@[simp] theorem r_b0' {β : Type} (x y : β) : (bif Nat.beq 0 0 then x else y) = x := Eq.trans rfl rfl
@[simp] theorem nbeq (a b : Nat) : Nat.beq a b = decide (a = b) := by rw [Bool.eq_iff_iff, Nat.beq_eq, decide_eq_true_eq]
theorem beq_f {α : Type} [BEq α] [LawfulBEq α] {a b : α} (h : a ≠ b) : (a == b) = false := by simpa using h
theorem bne_t {α : Type} [BEq α] [LawfulBEq α] {a b : α} (h : a ≠ b) : (a != b) = true := by simpa using h
@[simp] theorem cond_beq {α β : Type} [DecidableEq α] [BEq α] [LawfulBEq α] (a b : α) (x y : β) : (bif a == b then x else y) = if a = b then x else y := by
  by_cases h : a = b
  · subst h; simp
  · rw [beq_f h, if_neg h]; rfl
@[simp] theorem cond_bne {α β : Type} [DecidableEq α] [BEq α] [LawfulBEq α] (a b : α) (x y : β) : (bif a != b then x else y) = if a = b then y else x := by
  by_cases h : a = b
  · subst h; simp
  · rw [bne_t h, if_neg h]; rfl
@[simp] theorem Nm_beq_self (a : Nm) : Nm.beq a a = true := Nm.beq_iff.2 rfl
end Go.Proofs.Ythmocicjocjdoaa.V
