/- The abstract interpreter: regions that draw their order, code, functions (definitions alone). -/
import Derived.Test.YthmocicjocjdoaaAa
set_option linter.unusedVariables false
set_option linter.unusedSimpArgs false
namespace Go.Proofs.Ythmocicjocjdoaa.V
open Go
section
variable {α : Type} (A : Alg α)

/-- An operation that leaves objects and claims alone. -/
def isStill (T : Tab) (op : Op) (vs : List AV) : Bool :=
  match op, vs with
  | .alloc _, _ => false
  | .box _ _, _ => false
  | .store _ _ _, _ => false
  | .buildSlice _ _ _, _ => false
  | .makeFunc _ _ _, _ => false
  | .makeSlice _ _ _, _ => false
  | .call { callee := .builtin .append, .. }, _ => false
  | .call { callee := .builtin .copy, .. }, _ => false
  | .call { callee := .value _, .. }, .clo f _ :: vs => !(vs.any holdsRef || (T.res f).any Sh.owned || (T.ash f).any Sh.owned)
  | _, _ => true
/-- An operation that looks at its operands alone, and at what stands still. -/
def isP (T : Tab) (op : Op) (vs : List AV) (objs : Os) : Bool :=
  match op, vs with
  | .alloc _, _ => false
  | .box _ _, _ => false
  | .store _ _ _, _ => false
  | .buildSlice _ _ _, _ => false
  | .makeFunc _ _ _, _ => false
  | .makeSlice _ _ _, _ => false
  | .load _ _, [.ref o _] => match objs o with | some (.frz _) => true | _ => false
  | .load _ _, [.ua _ _ _ _] => false
  | .indexAddr _ _ _, [.sq _ _, _] => false
  | .convert _ _ _, [.sq _ _] => false
  | .convert _ t _, _ => match (T.ty t).k with | .slice _ => false | _ => true
  | .call { callee := .builtin .append, .. }, _ => false
  | .call { callee := .builtin .copy, .. }, _ => false
  | .call { callee := .builtin .len, .. }, [.sq _ _] => false
  | .call { callee := .value _, .. }, _ => false
  | _, _ => true
def isPnow (T : Tab) (ops : Array Oper) (env : Ev) (objs : Os) (i : Nat) : Bool :=
  match ops[i]? with
  | some o => match opvs env o.op.operands.toList with | some vs => !T.fz (o.dst.getD noDst) && isP T o.op vs objs | none => false
  | none => false
def allOf (f : Nat → α) : List Nat → α
  | [] => A.fail
  | [i] => f i
  | i :: l => A.both (f i) (allOf f l)
def drawV (T : Tab) (ops : Array Oper) : Nat → Array Bool → Ev → Os → Cl → (Ev → Os → Cl → α) → α
  | 0, listed, env, objs, cl, k => lit A (Region.ready .any ops listed).isEmpty (k env objs cl)
  | fuel + 1, listed, env, objs, cl, k =>
    match Region.ready .any ops listed with
    | [] => k env objs cl
    | r :: rs =>
      match (r :: rs).find? (isPnow T ops env objs) with
      | some i => lit A (Region.free .any ops listed i) (orFail A ops[i]? fun o => stepV A T ops o env objs cl fun env objs cl => drawV T ops fuel (listed.setIfInBounds i true) env objs cl k)
      | none => allOf A (fun i => orFail A ops[i]? fun o => stepV A T ops o env objs cl fun env objs cl => drawV T ops fuel (listed.setIfInBounds i true) env objs cl k) (r :: rs)
def clrE : List Oper → Ev → Ev
  | [], env => env
  | o :: l, env => clrE l (setE env o.dst .undef)
def stepsJ (T : Tab) (ops : Array Oper) : List Oper → Ev → Os → Cl → (Ev → α) → α
  | [], env, _, _, k => k env
  | o :: l, env, objs, cl, k => lit A (!T.fz (o.dst.getD noDst) && match opvs env o.op.operands.toList with | some vs => isStill T o.op vs | none => o.guard.isSome) (stepV A T ops o env objs cl fun env _ _ => stepsJ T ops l env objs cl k)
/-- A region whose operations all leave objects alone, seen as one Bool. -/
def joinV (T : Tab) (ops : Array Oper) (t : Nat) (env : Ev) (objs : Os) (cl : Cl) (k : Ev → α) : α :=
  A.join (fun kb => stepsJ A T ops ops.toList env objs cl fun env => orFail A (env t) fun v => asB A v kb) fun b => k (upd (clrE ops.toList env) t (.bool b))

/-- The first region of a piece of code: its loop's name. -/
def firstR : Code → Nat
  | .region id _ _ => id
  | .seq a _ => firstR a
  | .block _ b => firstR b
  | .loop b => firstR b
  | .cond _ a _ => firstR a
  | _ => 0
def isRef (o i : Nat) (v : AV) : Bool := match v with | .ref o' i' => Nat.beq o' o && Nat.beq i' i | _ => false
def keepE (kept : Nat → Bool) : List (Nat × Sh) → Ev → Cl → (List AV → Cl → α) → α
  | [], _, cl, k => k [] cl
  | (t, sh) :: l, env, cl, k => orFail A (env t) fun v =>
    match sh with
    | .at o i => lit A (isRef o i v && kept o) (keepE kept l env cl k)
    | sh => exp1 A sh (.L t) v cl fun v cl => keepE kept l env cl fun es cl => k (v :: es) cl
def isFrz (shs : List Sh) : Bool := match shs with | .at _ _ :: _ => true | _ => false
def keepO : List (Nat × List Sh) → Os → Cl → (List (List AV) → Cl → α) → α
  | [], _, cl, k => k [] cl
  | (o, shs) :: l, objs, cl, k =>
    match objs o with
    | some (.live cs) => lit A (!isFrz shs) (expC A (Nm.O o) shs 0 cs cl fun cs cl => keepO l objs cl fun os cl => k (cs :: os) cl)
    | some (.frz cs) => lit A (isFrz shs) (keepO l objs cl fun os cl => k (cs :: os) cl)
    | _ => A.fail
/-- The claims that come along. -/
def nm0 (nm : Nm) (v : AV) : List (Nm × Cs) := match v with | .lst (.own q) _ _ => [(q, .own)] | .lst .uq _ l => [(nm, .row l)] | _ => []
def nmC (nm : Nat → Nm) : Nat → List AV → List (Nm × Cs)
  | _, [] => []
  | i, v :: l => nm0 (nm i) v ++ nmC nm (i + 1) l
def nm1 (nm : Nm) (v : AV) : List (Nm × Cs) := match v with | .agg l => nmC (subN nm) 0 l | v => nm0 nm v
def nmS (sh : Sh) (nm : Nm) (v : AV) : List (Nm × Cs) := bif isUqs sh then nm1 nm v else nm0 nm v
/-- What lives on, put back into its places. -/
def zipE : List (Nat × Sh) → List AV → List (Nat × AV)
  | [], _ => []
  | (t, sh) :: l, vs => match sh with
    | .at o i => (t, .ref o i) :: zipE l vs
    | _ => match vs with
      | v :: vs => (t, frS sh (.L t) v) :: zipE l vs
      | [] => []
def isArr (shs : List Sh) : Bool := match shs with | [.arr] => true | _ => false
def zipO : List (Nat × List Sh) → List (List AV) → List (Nat × Ob)
  | (o, shs) :: l, cs :: os => (o, bif isFrz shs then .frz cs else .live (bif isArr shs then cs else frC (.O o) 0 cs)) :: zipO l os
  | _, _ => []
def nmsE : List (Nat × Sh) → List AV → List (Nm × Cs)
  | [], _ => []
  | (t, sh) :: l, vs => match sh with
    | .at _ _ => nmsE l vs
    | _ => match vs with
      | v :: vs => nmS sh (.L t) v ++ nmsE l vs
      | [] => []
def nmsO : List (Nat × List Sh) → List (List AV) → List (Nm × Cs)
  | (o, shs) :: l, cs :: os => (bif isFrz shs || isArr shs then [] else nmC (.O o) 0 cs) ++ nmsO l os
  | _, _ => []
def nodupN : List Nat → Bool
  | [] => true
  | x :: l => !(l.any fun y => Nat.beq x y) && nodupN l
/-- Where ways meet: what does not live on is forgotten, claims are named by their places. -/
def flatV (sp : Spec) (env : Ev) (objs : Os) (cl : Cl) (k : List AV → List (List AV) → α) : α :=
  lit A (nodupN (sp.1.map (·.1)) && nodupN (sp.2.map (·.1)))
    (keepE A (fun o => sp.2.any fun p => Nat.beq p.1 o) sp.1 env cl fun vs cl => keepO A sp.2 objs cl fun os _ => k vs os)
def clZ (sp : Spec) (vs : List AV) (os : List (List AV)) : Cl := ofN (nmsE sp.1 vs ++ nmsO sp.2 os)
def canonV (sp : Spec) (env : Ev) (objs : Os) (cl : Cl) (k : Ev → Os → Cl → α) : α :=
  flatV A sp env objs cl fun vs os => k (ofL (zipE sp.1 vs)) (ofL (zipO sp.2 os)) (clZ sp vs os)
/-- Values whose shapes are known from a list's places. -/
def shN (sh : Sh) (nm : Nm) (v : AV) (k : AV → α) : α :=
  match sh with
  | .own w => asOwn A w v fun q l => lit A (Nm.beq q nm) (k (.lst (.own nm) w l))
  | sh => shape A sh v k
def shE : List (Nat × Sh) → List AV → (List AV → α) → α
  | [], vs, k => asN A vs (k [])
  | (t, sh) :: l, vs, k => match sh with
    | .at _ _ => shE l vs k
    | sh => asC A vs fun v vs => shN A sh (.L t) v fun v => shE l vs fun r => k (v :: r)
def shC (nm : Nat → Nm) : Nat → List Sh → List AV → (List AV → α) → α
  | _, [], cs, k => asN A cs (k [])
  | _, [.arr], cs, k => k cs
  | i, sh :: shs, cs, k => asC A cs fun v cs => shN A sh (nm i) v fun v => shC nm (i + 1) shs cs fun r => k (v :: r)
def shO : List (Nat × List Sh) → List (List AV) → (List (List AV) → α) → α
  | [], os, k => asN A os (k [])
  | (o, shs) :: l, os, k => asC A os fun cs os => shC A (Nm.O o) 0 (bif isFrz shs then shs.drop 1 else shs) cs fun cs => shO l os fun r => k (cs :: r)
def xcode (x : Option Nat) : Nat := match x with | none => 0 | some i => i + 1
def bid (r : Nat) : Nat := r + 1000000
def isL (id : Nat) : Bool := Nat.blt id 1000000
def xt (x : Option Nat) : Xt := match x with | none => .ret | some i => bif Nat.beq i 50000 then .normal else .exit i
def pickX : List (Option Nat × Spec) → Nat → (Option Nat → Spec → α) → α
  | [], _, _ => A.fail
  | (x, sp) :: l, j, k => bif Nat.beq j (xcode x) then k x sp else pickX l j k
def findX : List (Option Nat × Spec) → Option Nat → (Spec → α) → α
  | [], _, _ => A.fail
  | (x, sp) :: l, y, k => bif Nat.beq (xcode y) (xcode x) then k sp else findX l y k
/-- A loop, by its own contract. -/
def loopV (sp : Spec) (out : List (Option Nat × Spec)) (id : Nat) (env : Ev) (objs : Os) (cl : Cl) (k : Xt → Ev → Os → Cl → α) : α :=
  flatV A sp env objs cl fun vs os => A.loop id vs os fun j vs os => pickX A out j fun x sp =>
    shE A sp.1 vs fun vs => shO A sp.2 os fun os => k (xt x) (ofL (zipE sp.1 vs)) (ofL (zipO sp.2 os)) (clZ sp vs os)
/-- One round of a loop's body, from its head's values: next is what is to hold if it goes round again. -/
def roundV (id : Nat) (sp : Spec) (out : List (Option Nat × Spec)) (body : Ev → Os → Cl → (Xt → Ev → Os → Cl → α) → α) (vs : List AV) (os : List (List AV)) (next : List AV → List (List AV) → α) (k : Nat → List AV → List (List AV) → α) : α :=
  body (ofL (zipE sp.1 vs)) (ofL (zipO sp.2 os)) (clZ sp vs os) fun e env objs cl =>
    match e with
    | .normal => bif isL id then flatV A sp env objs cl next else findX A out (some 50000) fun sp => flatV A sp env objs cl (k 50001)
    | .exit id => lit A (Nat.blt id 50000) (findX A out (some id) fun sp => flatV A sp env objs cl (k (id + 1)))
    | .ret => findX A out none fun sp => flatV A sp env objs cl (k 0)
def condE (env : Ev) (c : Operand) (b : Bool) : Ev := match c with | .tmp t => upd env t (.bool b) | _ => env
/-- Objects that stand still from here on. -/
def freezeV : List Nat → Os → (Os → α) → α
  | [], objs, k => k objs
  | o :: l, objs, k => match objs o with
    | some (.live cs) => lit A ((cs.map AV.dem1).all AV.flat1) (freezeV l (upd objs o (.frz (cs.map AV.dem1))) k)
    | _ => freezeV l objs k
def unrV (f : Ev → Os → Cl → (Xt → Ev → Os → Cl → α) → α) : Nat → Ev → Os → Cl → (Xt → Ev → Os → Cl → α) → α
  | 0, _, _, _, _ => A.fail
  | n + 1, env, objs, cl, k => f env objs cl fun e env objs cl =>
    match e with
    | .normal => unrV f n env objs cl k
    | .exit id => k (.exit id) env objs cl
    | .ret => k .ret env objs cl
def tabAt (T : Tab) (an : Ann) : Tab := { T with uq := an.uq, fz := an.fz }
def run (T : Tab) (an : Ann) : Code → Ev → Os → Cl → (Xt → Ev → Os → Cl → α) → α
  | .skip, env, objs, cl, k => k .normal env objs cl
  | .region id ops draw, env, objs, cl, k => freezeV A (an.frz id) objs fun objs => stillT A (an.fzr id) env objs cl fun env objs cl =>
    bif draw then drawV A (tabAt T an) ops ops.size (Array.replicate ops.size false) env objs cl fun env objs cl => k .normal env objs cl
    else match an.join id with
      | none => stepsV A (tabAt T an) ops ops.toList env objs cl fun env objs cl => k .normal env objs cl
      | some t => joinV A (tabAt T an) ops t env objs cl fun env => k .normal env objs cl
  | .seq a b, env, objs, cl, k => run T an a env objs cl fun e env objs cl =>
    match e with
    | .normal => bif an.meet (firstR b) then loopV A (an.loop (bid (firstR b))) (an.out (bid (firstR b))) (bid (firstR b)) env objs cl k else run T an b env objs cl k
    | .exit id => k (.exit id) env objs cl
    | .ret => k .ret env objs cl
  | .cond c a b, env, objs, cl, k => orFail A (opv env c) fun v => asB A v fun v =>
    bif v then run T an a (condE env c true) objs cl k else run T an b (condE env c false) objs cl k
  | .block id body, env, objs, cl, k => run T an body env objs cl fun e env objs cl =>
    match e with
    | .normal => k .normal env objs cl
    | .exit j => bif Nat.beq j id then k .normal env objs cl else k (.exit j) env objs cl
    | .ret => k .ret env objs cl
  | .loop body, env, objs, cl, k => match an.unr (firstR body) with
    | 0 => loopV A (an.loop (firstR body)) (an.out (firstR body)) (firstR body) env objs cl k
    | n + 1 => unrV A (run T an body) (n + 1) env objs cl k
  | .exit id, env, objs, cl, k => k (.exit id) env objs cl
  | .ret, env, objs, cl, k => k .ret env objs cl
  | _, _, _, _, _ => A.fail

def retV (T : Tab) : List ResultVar → Ev → Os → (List AV → α) → α
  | [], _, _, k => k []
  | .tmp t :: l, env, objs, k => orFail A (env t) fun v => retV T l env objs fun r => k (v :: r)
  | .cell t ty :: l, env, objs, k => orFail A (env t) fun a =>
    match a with
    | .ref o i => match objs o with
      | some (.live cs) => part A (T.ty ty) cs i fun v => retV T l env objs fun r => k (v :: r)
      | some (.frz cs) => part A (T.ty ty) cs i fun v => retV T l env objs fun r => k (v :: r)
      | _ => A.fail
    | _ => A.fail
def expR : Nat → List Sh → List AV → Os → Cl → (List AV → List (Nat × List AV) → Cl → α) → α
  | _, [], vs, _, cl, k => asN A vs (k [] [] cl)
  | r, sh :: shs, vs, objs, cl, k => asC A vs fun v vs =>
    match sh with
    | .obj os => match v with
      | .ref o 0 => match objs o with
        | some (.live cs) => expC A (Nm.E (64 + r)) os 0 cs cl fun cs cl => expR (r + 1) shs vs (upd objs o .dead) cl fun vs outs cl => k (.ref (64 + r) 0 :: vs) ((64 + r, cs) :: outs) cl
        | _ => A.fail
      | _ => A.fail
    | sh => exp1 A sh (.R r) v cl fun v cl => expR (r + 1) shs vs objs cl fun vs outs cl => k (v :: vs) outs cl
def expO : List (Nat × List Sh) → Os → Cl → (List (Nat × List AV) → Os → Cl → α) → α
  | [], objs, cl, k => k [] objs cl
  | (j, shs) :: l, objs, cl, k =>
    match objs j with
    | some (.live cs) => expC A (Nm.E j) shs 0 cs cl fun cs cl => expO l (upd objs j .dead) cl fun outs objs cl => k ((j, cs) :: outs) objs cl
    | _ => A.fail
def nmsI : List (Nat × List AV) → List (Nm × Cs)
  | [] => []
  | p :: l => nmC (.E p.1) 0 p.2 ++ nmsI l
def nmsA : Nat → List AV → List (Nm × Cs)
  | _, [] => []
  | j, v :: l => nm1 (.Y 3 j 0 0) v ++ nmsA (j + 1) l
def frA : Nat → List AV → List AV
  | _, [] => []
  | j, v :: l => fr1 (.Y 3 j 0 0) v :: frA (j + 1) l
def fitC (v : AV) : Bool := match v with | .lst (.own _) _ _ => true | .lst .uq _ l => l.all AV.flat | v => v.flat
def fitI (ins : List (Nat × List AV)) : Bool := ins.all fun p => Nat.blt p.1 64 && p.2.all fitC
def fitA (v : AV) : Bool := match v with | .ref _ _ => true | .agg l => l.all fitC | v => fitC v
/-- A function: arguments and the objects behind its pointers in, results and the objects out. -/
def runF (T : Tab) (an : Ann) (fn : Func) (body : Code) (rs : List Sh) (osh : List (Nat × List Sh)) (args : List AV) (ins : List (Nat × List AV)) (k : List AV → List (Nat × List AV) → α) : α :=
  lit A (fitI ins && args.all fitA && nodupN (osh.map (·.1)) && osh.all fun p => Nat.blt p.1 64) <| run A T an body (fun j => (frA 0 args)[j]?) (ofL (ins.map fun p => (p.1, Ob.live (frC (.E p.1) 0 p.2)))) (ofN (nmsA 0 args ++ nmsI ins)) fun e env objs cl =>
    match e with
    | .exit _ => A.fail
    | _ => stillT A (an.fzr 999999) env objs cl fun env objs cl => retV A T fn.results.toList env objs fun vs => expO A osh objs cl fun outs objs cl => expR A 0 rs vs objs cl fun vs news _ => k vs (outs ++ news)
end
end Go.Proofs.Ythmocicjocjdoaa.V
