/- The abstract interpreter over the program's code: values, state, operations (definitions alone). -/
import Derived.Orders
import Derived.KernelRfl
set_option linter.unusedVariables false
set_option linter.unusedSimpArgs false
namespace Go.Proofs.Ythmocicjocjdoaa.V
open Go

/-- Names of claims on spare cells, and how a slice may be appended to: not at all; it is nil; it is the one holder of its row's spare cells (by a name). -/
inductive Nm where
  | T (d : Nat) | E (j i : Nat) | R (r : Nat) | C (d j i : Nat) | D (d r : Nat) | L (t : Nat) | O (o i : Nat) | Y (k a b c : Nat)
  deriving DecidableEq, Inhabited
def Nm.beq : Nm → Nm → Bool
  | .T a, .T b => Nat.beq a b
  | .E a b, .E c d => Nat.beq a c && Nat.beq b d
  | .R a, .R b => Nat.beq a b
  | .C a b c, .C d e f => Nat.beq a d && Nat.beq b e && Nat.beq c f
  | .D a b, .D c d => Nat.beq a c && Nat.beq b d
  | .L a, .L b => Nat.beq a b
  | .O a b, .O c d => Nat.beq a c && Nat.beq b d
  | .Y a b c d, .Y e f g h => Nat.beq a e && Nat.beq b f && Nat.beq c g && Nat.beq d h
  | _, _ => false
inductive Md where
  | ro | nil | own (k : Nm) | uq
  deriving DecidableEq, Inhabited

/-- Abstract values. A struct or array by value is its flat cells; a slice is the list of its elements (of w cells each). -/
inductive AV where
  | int (k : IntKind) (n : Int)
  | bool (b : Bool)
  | str (s : List UInt8)
  | lst (m : Md) (w : Nat) (l : List AV)
  | agg (l : List AV)
  | ref (o i : Nat)
  | rp (l : List AV) (i : Nat)
  | nilp
  | clo (f : Nat) (caps : List AV)
  | tup (l : List AV)
  | undef
  | sq (q : Nm) (w : Nat)
  | ua (q : Nm) (w i j : Nat)
  deriving Inhabited

/-- What shape a value of a type has. -/
inductive Sh where
  | int (k : IntKind) | bool | str | lst (w : Nat) | own (w : Nat) | agg (l : List Sh) | any | obj (l : List Sh) | arr | at (o i : Nat) | nilp | uq (w : Nat)
  deriving Inhabited

def Sh.isUq : Sh → Bool
  | .uq _ => true
  | _ => false
def Sh.owned : Sh → Bool
  | .own _ => true
  | .uq _ => true
  | .agg l => l.any Sh.isUq
  | .obj _ => true
  | _ => false

inductive TK where
  | int (k : IntKind) | bool | str | ptr (e : Nat) | slice (e : Nat) | struct (fs : List (Nat × Nat)) | array (n e : Nat) | fn | other
  deriving Inhabited, DecidableEq

structure TD where
  k : TK
  size : Nat
  bytes : Nat
  zero : List AV
  sh : Sh
  eq : List Sh
  deriving Inhabited

/-- Whence an answer is made: with Prop, a proposition. -/
structure Alg (α : Type) where
  fail : α
  chk : Bool → α → α
  asm : Prop → α → α
  amb : (Bool → α) → α
  call : Nat → List AV → List (Nat × List AV) → (List AV → List (Nat × List AV) → α) → α
  callx : Nat → List AV → (List AV → α) → α
  both : α → α → α
  join : ((Bool → α) → α) → (Bool → α) → α
  loop : Nat → List AV → List (List AV) → (Nat → List AV → List (List AV) → α) → α

inductive Ob where
  | live (l : List AV) | frz (l : List AV) | dead
  deriving Inhabited

inductive Xt where
  | normal | exit (id : Nat) | ret

/-- What the interpreter is told beside the code: types; the shape of an object behind a pointer of a type; the shapes of each function's results. -/
structure Tab where
  ty : Nat → TD
  osh : Nat → List Sh
  res : Nat → List Sh
  fn : Nat → Bool
  ash : Nat → List Sh := fun _ => []
  uq : Nat → Bool := fun _ => false
  fz : Nat → Bool := fun _ => false
/-- What lives on at a place: temporaries with their shapes, objects with the shapes of their cells. -/
abbrev Spec := List (Nat × Sh) × List (Nat × List Sh)
/-- What it is told of one function: what lives on at a loop's head and at its ends (a loop is named by its body's first region); which regions are joined over one Bool; where ways meet (by the first region behind: what follows has a contract of its own, as a loop has, by that number and 1000000 more). -/
structure Ann where
  loop : Nat → Spec
  out : Nat → List (Option Nat × Spec)
  join : Nat → Option Nat
  meet : Nat → Bool
  frz : Nat → List Nat
  unr : Nat → Nat := fun _ => 0
  fzr : Nat → List Nat := fun _ => []
  uq : Nat → Bool := fun _ => false
  fz : Nat → Bool := fun _ => false
/-- A name: given up; the spare cells of a row that else stands still; a whole row with what it holds. -/
inductive Cs where
  | dead | own | row (l : List AV)
  deriving Inhabited

def upd {β : Type} (f : Nat → Option β) (k : Nat) (v : β) : Nat → Option β := fun j => bif Nat.beq k j then some v else f j
def ofL {β : Type} : List (Nat × β) → Nat → Option β
  | [], _ => none
  | (k, v) :: l, j => bif Nat.beq k j then some v else ofL l j
abbrev Ev := Nat → Option AV
abbrev Os := Nat → Option Ob
abbrev Cl := Nm → Option Cs
def updN (f : Cl) (k : Nm) (v : Cs) : Cl := fun j => bif Nm.beq k j then some v else f j
def ofN : List (Nm × Cs) → Cl
  | [], _ => none
  | (k, c) :: l, j => bif Nm.beq k j then some c else ofN l j
def isOwn (o : Option Cs) : Bool := match o with | some .own => true | _ => false
def isAl (o : Option Cs) : Bool := match o with | some .own => true | some (.row _) => true | _ => false
def subN (nm : Nm) (i : Nat) : Nm :=
  match nm with
  | .R r => .Y 0 r i 0
  | .L t => .Y 1 t i 0
  | .D d r => .Y 2 d r i
  | .Y 3 j 0 0 => .Y 4 j i 0
  | _ => .Y 5 i 0 0
def setE (env : Ev) (d : Option Nat) (v : AV) : Ev := match d with | some d => upd env d v | none => env

def AV.cells : AV → List AV
  | .agg l => l
  | v => [v]
/-- One cell, and nothing that names an object or holds spare cells (what stands inside lists never does). -/
def AV.flat1 : AV → Bool
  | .int .. | .bool _ | .str _ | .rp .. | .nilp | .clo .. => true
  | .lst (.own _) _ _ => false
  | .lst .uq _ _ => false
  | .lst _ _ _ => true
  | _ => false
def AV.flat : AV → Bool
  | .agg l => l.all AV.flat1
  | v => v.flat1
/-- One cell. -/
def AV.one : AV → Bool
  | .agg _ | .tup _ | .undef => false
  | _ => true
def AV.dem1 : AV → AV
  | .lst _ w l => .lst .ro w l
  | v => v
/-- A value without its claims, by its shape (which tells the width of a nil slice's elements). -/
def demS1 (sh : Sh) (v : AV) : AV :=
  match sh, v with
  | .lst w, .lst .nil _ l => .lst .ro w l
  | .own w, .lst .nil _ l => .lst .ro w l
  | _, v => v.dem1
def demSL : List Sh → List AV → List AV
  | sh :: shs, v :: vs => demS1 sh v :: demSL shs vs
  | _, vs => vs.map AV.dem1
def demS (sh : Sh) (v : AV) : AV :=
  match v with
  | .agg l => match sh with | .agg shs => .agg (demSL shs l) | _ => .agg (l.map AV.dem1)
  | v => demS1 sh v

section
variable {α : Type} (A : Alg α)

def cv1 : Value → Option AV
  | .int k n => some (.int k n)
  | .bool b => some (.bool b)
  | .string s => bif Nat.ble s.data.toList.length 9223372036854775807 then some (.str s.data.toList) else none
  | .pointer none => some .nilp
  | .slice none 0 0 => some (.lst .nil 0 [])
  | _ => none
def cvL : List Value → Option (List AV)
  | [] => some []
  | v :: l => match cv1 v, cvL l with | some x, some r => some (x :: r) | _, _ => none
def cv : Value → Option AV
  | .agg cs => (cvL cs.toList).map .agg
  | v => cv1 v
def opv (env : Ev) : Operand → Option AV
  | .tmp t => env t
  | .const v => cv v
  | .func f => some (.clo f [])
  | .global _ => none
def opvs (env : Ev) : List Operand → Option (List AV)
  | [] => some []
  | x :: l => match opv env x, opvs env l with | some v, some r => some (v :: r) | _, _ => none
/-- A check that is settled by looking. -/
def lit (b : Bool) (x : α) : α := bif b then x else A.fail
def orFail {β : Type} (o : Option β) (k : β → α) : α := match o with | some b => k b | none => A.fail
def nthE {β : Type} (l : List β) (i : Nat) (k : β → α) : α := match l[i]? with | some e => k e | none => A.fail
def nthI {β : Type} (n : Int) (l : List β) (k : β → α) : α := A.chk (decide (0 ≤ n)) (nthE A l n.toNat k)
def idxN (n : Int) (len : Nat) (k : Nat → α) : α := A.chk (decide (0 ≤ n) && decide (n < (len : Int))) (k n.toNat)

/-! A value of unknown make is taken apart by its shape. -/
def asI (ik : IntKind) (v : AV) (k : Int → α) : α := match v with | .int j n => lit A (decide (j = ik)) (k n) | _ => A.fail
def asB (v : AV) (k : Bool → α) : α := match v with | .bool b => k b | _ => A.fail
def asS (v : AV) (k : List UInt8 → α) : α := match v with | .str s => k s | _ => A.fail
def asL (w : Nat) (v : AV) (k : List AV → α) : α := match v with | .lst .ro w' l => lit A (Nat.beq w' w) (k l) | _ => A.fail
def asOwn (w : Nat) (v : AV) (k : Nm → List AV → α) : α := match v with | .lst (.own q) w' l => lit A (Nat.beq w' w) (k q l) | _ => A.fail
def asUq (w : Nat) (v : AV) (k : List AV → α) : α := match v with | .lst .uq w' l => lit A (Nat.beq w' w) (k l) | _ => A.fail
def asRow (o : Option Cs) (k : List AV → α) : α := match o with | some (.row l) => k l | _ => A.fail
def asA (v : AV) (k : List AV → α) : α := match v with | .agg l => k l | _ => A.fail
def asNilp (v : AV) (k : α) : α := match v with | .nilp => k | _ => A.fail
def asC {β : Type} (l : List β) (k : β → List β → α) : α := match l with | x :: r => k x r | [] => A.fail
def asN {β : Type} (l : List β) (k : α) : α := match l with | [] => k | _ :: _ => A.fail
def shape1 (sh : Sh) (v : AV) (k : AV → α) : α :=
  match sh with
  | .int ik => asI A ik v fun n => k (.int ik n)
  | .bool => asB A v fun b => k (.bool b)
  | .str => asS A v fun s => k (.str s)
  | .lst w => asL A w v fun l => k (.lst .ro w l)
  | .own w => asOwn A w v fun q l => k (.lst (.own q) w l)
  | .nilp => asNilp A v (k .nilp)
  | .uq w => asUq A w v fun l => k (.lst .uq w l)
  | _ => k v
def shapes : List Sh → List AV → (List AV → α) → α
  | [], l, k => asN A l (k [])
  | [.arr], l, k => k l
  | sh :: shs, l, k => asC A l fun v r => shape1 A sh v fun v' => shapes shs r fun r' => k (v' :: r')
def shape (sh : Sh) (v : AV) (k : AV → α) : α :=
  match sh with
  | .agg shs => asA A v fun l => shapes A shs l fun l' => k (.agg l')
  | sh => shape1 A sh v k

/-- A part of cells, as a value of a type. -/
def TD.isPtr (td : TD) : Bool := match td.k with | .ptr _ => true | _ => false
def TD.isSl (td : TD) : Bool := match td.k with | .slice _ => true | _ => false
def TD.known (td : TD) : Bool := match td.k with | .other => false | _ => true
def TD.isAgg (td : TD) : Bool := match td.k with | .struct _ => true | .array _ _ => true | _ => false
def part (td : TD) (l : List AV) (i : Nat) (k : AV → α) : α :=
  lit A td.known (bif td.isAgg then A.chk (Nat.ble (i + td.size) l.length) (k (.agg ((l.drop i).take td.size))) else nthE A l i k)
def padd (x : AV) (n : Nat) (k : AV → α) : α :=
  match x with
  | .ref o i => k (.ref o (i + n))
  | .rp l i => k (.rp l (i + n))
  | .ua q w i j => k (.ua q w i (j + n))
  | _ => A.fail
def fieldOf (td : TD) (f : Nat) : Option (Nat × Nat) := match td.k with | .struct fs => fs[f]? | _ => none

def bits (op : BinOp) (k : IntKind) (x y : Int) : Int :=
  let a := BitVec.ofInt k.bits x
  let b := BitVec.ofInt k.bits y
  k.wrap (match op with | .and => a &&& b | .or => a ||| b | .xor => a ^^^ b | _ => a &&& ~~~b).toNat
def eq1 : AV → AV → Option Bool
  | .int k a, .int k' b => bif decide (k = k') then some (a == b) else none
  | .bool a, .bool b => some (a == b)
  | .str a, .str b => some (a == b)
  | _, _ => none
def eqL : List AV → List AV → Option Bool
  | [], [] => some true
  | x :: l, y :: r => match eq1 x y, eqL l r with | some a, some b => some (a && b) | _, _ => none
  | _, _ => none
def fit1 : Sh → AV → Bool
  | .int k, .int k' _ => decide (k = k')
  | .bool, .bool _ => true
  | .str, .str _ => true
  | _, _ => false
def fitL : List Sh → List AV → Bool
  | [], [] => true
  | s :: l, x :: r => fit1 s x && fitL l r
  | _, _ => false
def TD.eqs (td : TD) (l r : List AV) : Bool := !td.eq.isEmpty && (fitL td.eq l && fitL td.eq r)
def nilEq (m : Md) (l : List AV) (k : Bool → α) : α :=
  match m with
  | .nil => k true
  | _ => match l with | [] => A.amb k | _ :: _ => k false
def binI (op : BinOp) (ik : IntKind) (a b : Int) (k : AV → α) : α :=
  match op with
  | .add => k (.int ik (ik.wrap (a + b)))
  | .sub => k (.int ik (ik.wrap (a - b)))
  | .mul => k (.int ik (ik.wrap (a * b)))
  | .quo => A.chk (!(b == 0)) (k (.int ik (ik.wrap (a.tdiv b))))
  | .rem => A.chk (!(b == 0)) (k (.int ik (a.tmod b)))
  | .and => k (.int ik (bits .and ik a b))
  | .or => k (.int ik (bits .or ik a b))
  | .xor => k (.int ik (bits .xor ik a b))
  | .andNot => k (.int ik (bits .andNot ik a b))
  | .eql => k (.bool (a == b))
  | .neq => k (.bool (a != b))
  | .lss => k (.bool (decide (a < b)))
  | .leq => k (.bool (decide (a ≤ b)))
  | .gtr => k (.bool (decide (a > b)))
  | .geq => k (.bool (decide (a ≥ b)))
  | _ => A.fail
def eqB (op : BinOp) (b : Bool) (k : AV → α) : α := match op with | .eql => k (.bool b) | .neq => k (.bool (!b)) | _ => A.fail
def bin (td : TD) (op : BinOp) (x y : AV) (k : AV → α) : α :=
  match x, y with
  | .int ik a, .int jk b =>
    match op with
    | .shl => A.chk (decide (0 ≤ b)) (k (.int ik (ik.wrap (a * 2 ^ (min b.toNat ik.bits)))))
    | .shr => A.chk (decide (0 ≤ b)) (k (.int ik (a.fdiv (2 ^ (min b.toNat ik.bits)))))
    | _ => lit A (decide (ik = jk)) (binI A op ik a b k)
  | .bool a, .bool b => lit A (decide (td.k = .bool)) (eqB A op (a == b) k)
  | .str a, .str b =>
    match op with
    | .add => A.chk (decide (a.length + b.length ≤ 9223372036854775807)) (k (.str (a ++ b)))
    | _ => eqB A op (a == b) k
  | .nilp, .nilp => lit A td.isPtr (eqB A op true k)
  | .ref _ _, .nilp => lit A td.isPtr (eqB A op false k)
  | .rp _ _, .nilp => lit A td.isPtr (eqB A op false k)
  | .lst m _ l, .lst .nil _ _ => lit A td.isSl (nilEq A m l fun b => eqB A op b k)
  | .ua _ _ _ _, .nilp => lit A td.isPtr (eqB A op false k)
  | .agg l, .agg r => lit A (td.eqs l r) (orFail A (eqL l r) fun b => eqB A op b k)
  | _, _ => A.fail
def un (op : UnOp) (x : AV) (k : AV → α) : α :=
  match op, x with
  | .not, .bool b => k (.bool (!b))
  | .neg, .int ik n => k (.int ik (ik.wrap (0 - n)))
  | .xor, .int ik n => k (.int ik (bits .xor ik (if ik.signed then -1 else ik.max) n))
  | _, _ => A.fail
def bytesOf : List AV → Option (List UInt8)
  | [] => some []
  | .int .u8 n :: l => match bytesOf l with | some r => some (UInt8.ofNat n.toNat :: r) | none => none
  | _ => none
def encB (s : List UInt8) : List AV := s.map fun b => .int .u8 (b.toNat : Int)
def isU8 (T : Tab) (t : Nat) : Bool := match (T.ty t).k with | .slice e => decide ((T.ty e).k = .int .u8) | _ => false
def conv (T : Tab) (s d : Nat) (x : AV) (k : AV → α) : α :=
  match (T.ty d).k, x with
  | .int ik, .int _ n => lit A (T.ty s).known (k (.int ik (ik.wrap n)))
  | .str, .str b => lit A (T.ty s).known (k (.str b))
  | .str, .lst _ w l => lit A (isU8 T s && Nat.beq w 1) (orFail A (bytesOf l) fun b => k (.str b))
  | _, _ => A.fail
/-- A part of a list between two bounds; the third bound, if there is one, lies within it too. -/
def cut {β : Type} (l : List β) (lo hi mx : Int) (k : List β → α) : α :=
  A.chk (decide (0 ≤ lo) && decide (lo ≤ hi) && decide (hi ≤ mx) && decide (mx ≤ (l.length : Int))) (k ((l.take hi.toNat).drop lo.toNat))
/-- The bounds of a slice expression: which are given, and their values in order. -/
def bnds (lo hi mx : Option Operand) (dlo dhi : Int) (vs : List AV) (k : Int → Int → Int → α) : α :=
  match lo, hi, mx, vs with
  | none, none, none, [] => k dlo dhi dhi
  | some _, none, none, [.int _ a] => k a dhi dhi
  | none, some _, none, [.int _ b] => k dlo b dhi
  | some _, some _, none, [.int _ a, .int _ b] => k a b dhi
  | none, some _, some _, [.int _ b, .int _ c] => k dlo b c
  | some _, some _, some _, [.int _ a, .int _ b, .int _ c] => k a b c
  | _, _, _, _ => A.fail
def sliceV (T : Tab) (t : Nat) (x : AV) (lo hi mx : Option Operand) (vs : List AV) (k : AV → α) : α :=
  match (T.ty t).k, x with
  | .str, .str s => match mx with | none => bnds A lo hi none 0 s.length vs fun a b c => cut A s a b c fun r => k (.str r) | some _ => A.fail
  | .slice e, .lst m w l =>
    match m with
    | .nil => lit A (T.ty e).known (bnds A lo hi mx 0 0 vs fun a b c => A.chk (a == 0 && b == 0 && c == 0) (k (.lst .nil w [])))
    | _ => lit A (Nat.beq w (T.ty e).size && (T.ty e).known) (bnds A lo hi mx 0 l.length vs fun a b c => cut A l a b c fun r => k (.lst .ro w r))
  | _, _ => A.fail
def setAt {β : Type} : List β → Nat → List β → List β
  | l, _, [] => l
  | l, i, c :: cs => setAt (l.set i c) (i + 1) cs
/-- A value's cells, as many as its type has. -/
def cellsAs (td : TD) (x : AV) (k : List AV → α) : α :=
  lit A td.known (bif td.isAgg then asA A x fun l => A.chk (Nat.beq l.length td.size) (k l) else lit A (x.one && Nat.beq td.size 1) (k [x]))
def placeS (T : Tab) (td : TD) (i : Nat) : Option (Nat × TD) :=
  match td.k with
  | .struct fs => match fs[i]? with | some (off, t) => some (off, T.ty t) | none => none
  | .array _ e => some (i * (T.ty e).size, T.ty e)
  | _ => none
def fillV (place : Nat → Option (Nat × TD)) : List AV → List (Nat × Operand) → List AV → (List AV → α) → α
  | z, [], [], k => k z
  | z, (i, _) :: ps, v :: vs, k => match place i with
    | none => A.fail
    | some (off, td) => cellsAs A td v fun cs => A.chk (Nat.ble (off + cs.length) z.length) (fillV place (setAt z off cs) ps vs k)
  | _, _, _, _ => A.fail
def lenOf (sl : Bool) (x : AV) (k : Nat → α) : α :=
  match sl, x with
  | true, .lst _ _ l => k l.length
  | false, .str s => k s.length
  | _, _ => A.fail
def maxL : Nat := 9223372036854775807
def mm (isMax : Bool) : AV → List AV → (AV → α) → α
  | x, [], k => k x
  | .int ik a, .int jk b :: l, k => lit A (decide (ik = jk)) (mm isMax (.int ik (bif isMax then (if a < b then b else a) else (if b < a then b else a))) l k)
  | _, _, _ => A.fail
def partsK (T : Tab) (td : TD) : Bool := match td.k with | .struct fs => fs.all (fun f => (T.ty f.2).known) | .array _ e => (T.ty e).known | _ => false
/-- Operations that change neither objects nor claims: what they yield. -/
def pureV (T : Tab) (op : Op) (vs : List AV) (objs : Os) (k : AV → α) : α :=
  match op, vs with
  | .move _, [x] => k x
  | .assign _, [x] => k x
  | .pick _ _ _, [c, a, b] => asB A c fun c => bif c then k a else k b
  | .binOp op t _ _ _, [x, y] => bin A (T.ty t) op x y k
  | .unOp op _ _, [x] => un A op x k
  | .nilCheck _, [x] => match x with | .ref _ _ => k x | .rp _ _ => k x | .clo _ _ => k x | .ua _ _ _ _ => k x | _ => A.fail
  | .fieldAddr s _ f, [x] => match fieldOf (T.ty s) f with | some (off, t) => lit A ((T.ty t).known && Nat.blt 0 (T.ty t).size) (padd A x off k) | none => A.fail
  | .field s _ f, [x] => asA A x fun l => match fieldOf (T.ty s) f with | some (off, t) => part A (T.ty t) l off k | none => A.fail
  | .load t _, [x] =>
    match x with
    | .rp l i => part A (T.ty t) l i k
    | .ref o i => match objs o with | some (.live l) => part A (T.ty t) l i k | some (.frz l) => part A (T.ty t) l i k | _ => A.fail
    | _ => A.fail
  | .indexAddr t _ _, [x, ix] =>
    match (T.ty t).k, x, ix with
    | .slice e, .lst _ w l, .int _ n => lit A (Nat.beq w (T.ty e).size && (T.ty e).known) (nthI A n l fun v => shape A (T.ty e).sh v fun v => k (.rp v.cells 0))
    | .array len e, .ref o i, .int _ n => lit A (T.ty e).known (idxN A n len fun n => k (.ref o (i + n * (T.ty e).size)))
    | .array len e, .rp l i, .int _ n => lit A (T.ty e).known (idxN A n len fun n => k (.rp l (i + n * (T.ty e).size)))
    | _, _, _ => A.fail
  | .index t _ _, [x, ix] =>
    match (T.ty t).k, x, ix with
    | .str, .str s, .int _ n => nthI A n s fun b => k (.int .u8 (b.toNat : Int))
    | .array len e, .agg l, .int _ n => lit A (T.ty e).known (idxN A n len fun n => part A (T.ty e) l (n * (T.ty e).size) k)
    | _, _, _ => A.fail
  | .slice t _ lo hi mx, x :: vs => sliceV A T t x lo hi mx vs k
  | .extract _ i, [x] => match x with | .tup l => nthE A l i k | _ => A.fail
  | .build t parts, vs => lit A ((T.ty t).isAgg && !(T.ty t).zero.isEmpty && partsK T (T.ty t)) (fillV A (placeS T (T.ty t)) (T.ty t).zero parts.toList vs fun cs => k (.agg cs))
  | .call { callee := .builtin b, args := _, argTypes }, vs =>
    match b, vs, argTypes.toList with
    | .len, [x], [t] => match (T.ty t).k with
      | .array n _ => k (.int .i64 n)
      | .slice _ => lenOf A true x fun n => A.asm (n ≤ maxL) (k (.int .i64 n))
      | .str => lenOf A false x fun n => A.asm (n ≤ maxL) (k (.int .i64 n))
      | _ => A.fail
    | .min, x :: r, _ => mm A false x r k
    | .max, x :: r, _ => mm A true x r k
    | _, _, _ => A.fail
  | _, _ => A.fail

def ob (d : Nat) : Nat := d + 1000
def freshN (f : Cl) (k : Nm) (x : α) : α := match f k with | none => x | some _ => A.fail
def fresh {β : Type} (f : Nat → Option β) (k : Nat) (x : α) : α := match f k with | none => x | some _ => A.fail

/-- A value leaves its place for one of a known shape: a holder of spare cells takes the name nm along (nil may come as one), a whole row takes along what it holds, anything else must be flat. -/
def exp0 (sh : Sh) (nm : Nm) (c : AV) (cl : Cl) (k : AV → Cl → α) : α :=
  match sh, c with
  | .own w, .lst (.own q) w' l => lit A (Nat.beq w' w && isOwn (cl q)) (k (.lst (.own nm) w l) (updN cl q .dead))
  | .own w, .lst .nil _ l => lit A (Nat.blt 0 w) (k (.lst (.own nm) w l) cl)
  | .own _, _ => A.fail
  | .uq w, .sq q w' => lit A (Nat.beq w' w) (asRow A (cl q) fun l => lit A (l.all AV.flat) (k (.lst .uq w l) (updN cl q .dead)))
  | .uq w, .lst .nil _ _ => lit A (Nat.blt 0 w) (k (.lst .uq w []) cl)
  | .uq _, _ => A.fail
  | .lst w, .lst .nil _ l => k (.lst .ro w l) cl
  | .lst w, .lst m w' l => lit A (Nat.beq w' w) (k (.lst .ro w l) cl)
  | .lst _, _ => A.fail
  | .agg shs, .agg l => lit A (AV.agg (demSL shs l)).flat (k (.agg (demSL shs l)) cl)
  | _, c => lit A c.flat (k c cl)
def expA (nm : Nat → Nm) : List Sh → Nat → List AV → Cl → (List AV → Cl → α) → α
  | [], _, cs, cl, k => asN A cs (k [] cl)
  | sh :: shs, i, cs, cl, k => asC A cs fun c cs => lit A c.one (exp0 A sh (nm i) c cl fun c cl => expA nm shs (i + 1) cs cl fun r cl => k (c :: r) cl)
def isUqs (sh : Sh) : Bool := match sh with | .agg shs => shs.any Sh.isUq | _ => false
def shsOf (sh : Sh) : List Sh := match sh with | .agg shs => shs | _ => []
def exp1 (sh : Sh) (nm : Nm) (c : AV) (cl : Cl) (k : AV → Cl → α) : α :=
  bif isUqs sh then asA A c fun l => expA A (subN nm) (shsOf sh) 0 l cl fun l cl => k (.agg l) cl else exp0 A sh nm c cl k
def expC (nm : Nat → Nm) : List Sh → Nat → List AV → Cl → (List AV → Cl → α) → α
  | [], _, cs, cl, k => asN A cs (k [] cl)
  | [.arr], _, cs, cl, k => A.chk (cs.all AV.flat1) (k cs cl)
  | sh :: shs, i, cs, cl, k => asC A cs fun c cs => lit A c.one (exp0 A sh (nm i) c cl fun c cl => expC nm shs (i + 1) cs cl fun r cl => k (c :: r) cl)
/-- A value comes into a frame: a holder of spare cells gets a new name here, and so does a whole row. -/
def imp0 (nm : Nm) (c : AV) (cl : Cl) (k : AV → Cl → α) : α :=
  match c with
  | .lst (.own _) w l => freshN A cl nm (k (.lst (.own nm) w l) (updN cl nm .own))
  | .lst .uq w l => freshN A cl nm (k (.sq nm w) (updN cl nm (.row l)))
  | c => lit A c.flat (k c cl)
def impC (nm : Nat → Nm) : Nat → List AV → Cl → (List AV → Cl → α) → α
  | _, [], cl, k => k [] cl
  | i, c :: cs, cl, k => imp0 A (nm i) c cl fun c cl => impC nm (i + 1) cs cl fun r cl => k (c :: r) cl
def imp1 (u : Bool) (nm : Nm) (c : AV) (cl : Cl) (k : AV → Cl → α) : α :=
  bif u then asA A c fun l => impC A (subN nm) 0 l cl fun l cl => k (.agg l) cl else imp0 A nm c cl k
/-- What goes over from frame to frame, as it stands in a frame. -/
def fr0 (nm : Nm) (v : AV) : AV := match v with | .lst .uq w _ => .sq nm w | v => v
def frC (nm : Nat → Nm) : Nat → List AV → List AV
  | _, [] => []
  | i, v :: l => fr0 (nm i) v :: frC nm (i + 1) l
def fr1 (nm : Nm) (v : AV) : AV := match v with | .agg l => .agg (frC (subN nm) 0 l) | v => fr0 nm v
def frS (sh : Sh) (nm : Nm) (v : AV) : AV := bif isUqs sh then fr1 nm v else fr0 nm v
/-- Cells by a shape that says that they are an array's, all flat, or else each with its own. -/
def impO (shs : List Sh) (nm : Nat → Nm) (cs : List AV) (cl : Cl) (k : List AV → Cl → α) : α :=
  match shs with
  | [.arr] => A.chk (cs.all AV.flat1) (k cs cl)
  | shs => shapes A shs cs fun cs => impC A nm 0 cs cl k

def demArgs (T : Tab) : List AV → List Nat → List AV
  | v :: vs, t :: ts => demS (T.ty t).sh v :: demArgs T vs ts
  | _, _ => []
def shOwned (shs : List Sh) : Bool := match shs with | sh :: _ => sh.owned | [] => false
def shHead (shs : List Sh) : Sh := match shs with | sh :: _ => sh | [] => .any
/-- The arguments of a call: objects behind pointers go along; whole rows, where the callee takes them; the rest is flat. -/
def argsV (T : Tab) : Nat → List Sh → List AV → List Nat → Os → Cl → (List AV → List (Nat × List AV) → List (Nat × Nat × List Sh) → Os → Cl → α) → α
  | _, _, [], [], objs, cl, k => k [] [] [] objs cl
  | j, shs, v :: vs, t :: ts, objs, cl, k =>
    bif shOwned shs then exp1 A (shHead shs) (.Y 3 j 0 0) v cl fun v cl => argsV T (j + 1) shs.tail vs ts objs cl fun as ins bk objs cl => k (v :: as) ins bk objs cl
    else match v with
    | .ref o i => match objs o, (T.ty t).k with
      | some (.live cs), .ptr e => lit A (Nat.blt j 1000) <| expC A (Nm.E j) (T.osh e) 0 cs cl fun cs cl =>
        argsV T (j + 1) shs.tail vs ts (upd objs o .dead) cl fun as ins bk objs cl => k (.ref j i :: as) ((j, cs) :: ins) ((j, o, T.osh e) :: bk) objs cl
      | some (.frz cs), _ => argsV T (j + 1) shs.tail vs ts objs cl fun as ins bk objs cl => k (.rp cs i :: as) ins bk objs cl
      | _, _ => A.fail
    | v => lit A (demS (T.ty t).sh v).flat (argsV T (j + 1) shs.tail vs ts objs cl fun as ins bk objs cl => k (demS (T.ty t).sh v :: as) ins bk objs cl)
  | _, _, _, _, _, _, _ => A.fail
/-- The objects come back. -/
def outsV (d : Nat) : List (Nat × Nat × List Sh) → List (Nat × List AV) → Os → Cl → (List (Nat × List AV) → Os → Cl → α) → α
  | [], outs, objs, cl, k => k outs objs cl
  | (j, o, shs) :: bk, outs, objs, cl, k =>
    asC A outs fun jc outs => lit A (Nat.beq jc.1 j) (impO A shs (Nm.C d j) jc.2 cl fun cs cl => outsV d bk outs (upd objs o (.live cs)) cl k)
/-- The results: new objects come with them. -/
def resV (d : Nat) : Nat → List Sh → List AV → List (Nat × List AV) → Os → Cl → (List AV → Os → Cl → α) → α
  | _, [], res, outs, objs, cl, k => asN A res (asN A outs (k [] objs cl))
  | r, sh :: shs, res, outs, objs, cl, k =>
    asC A res fun v res =>
    match sh with
    | .obj os => match v with
      | .ref o 0 => lit A (Nat.beq o (64 + r)) (asC A outs fun jc outs => lit A (Nat.beq jc.1 (64 + r)) (
          fresh A objs (ob (d + 65536 * r)) (impO A os (Nm.C d (64 + r)) jc.2 cl fun cs cl => resV d (r + 1) shs res outs (upd objs (ob (d + 65536 * r)) (.live cs)) cl fun vs objs cl => k (.ref (ob (d + 65536 * r)) 0 :: vs) objs cl)))
      | _ => A.fail
    | sh => shape A sh v fun v => imp1 A (isUqs sh) (Nm.D d r) v cl fun v cl => resV d (r + 1) shs res outs objs cl fun vs objs cl => k (v :: vs) objs cl
def resX : List Sh → List AV → (List AV → α) → α
  | [], res, k => asN A res (k [])
  | sh :: shs, res, k => asC A res fun v res => shape A sh v fun v => lit A v.flat (resX shs res fun vs => k (v :: vs))
def one1 (l : List AV) : AV := match l with | [v] => v | l => .tup l
/-- What a closure captures: objects that stand still from now on. -/
def capsV : List AV → Os → (List AV → Os → α) → α
  | [], objs, k => k [] objs
  | v :: vs, objs, k =>
    match v with
    | .ref o 0 => match objs o with
      | some (.live cs) => lit A ((cs.map AV.dem1).all AV.flat1) (capsV vs (upd objs o (.frz (cs.map AV.dem1))) fun r objs => k (.rp (cs.map AV.dem1) 0 :: r) objs)
      | some (.frz cs) => capsV vs objs fun r objs => k (.rp cs 0 :: r) objs
      | _ => A.fail
    | .rp cs 0 => capsV vs objs fun r objs => k (.rp cs 0 :: r) objs
    | _ => A.fail
/-- The elements of a slice literal. -/
def holdsRef (v : AV) : Bool := match v with | .ref _ _ => true | _ => false
def elemsV (uq : Bool) (td : TD) : List AV → List (Nat × Operand) → List AV → (List AV → α) → α
  | z, [], [], k => k z
  | z, (i, _) :: ps, v :: vs, k => lit A (((demS td.sh v).flat || (uq && holdsRef v)) && Nat.blt i z.length) (cellsAs A td (demS td.sh v) fun _ => elemsV uq td (z.set i (demS td.sh v)) ps vs k)
  | _, _, _, _ => A.fail
def zeroOf (td : TD) : AV := bif td.isAgg then .agg td.zero else td.zero.headD .undef
def isNil (m : Md) : Bool := match m with | .nil => true | _ => false
def isStr (td : TD) : Bool := match td.k with | .str => true | _ => false
/-- A cell that has been written anew, in its element. -/
def putC (x : AV) (cs : List AV) (k : AV → α) : α :=
  match x with
  | .agg _ => k (.agg cs)
  | _ => asC A cs fun c r => asN A r (k c)
/-- What is appended, as a list of elements of so many cells. -/
def srcV (w : Nat) (y : AV) (cl : Cl) (k : List AV → α) : α :=
  match y with
  | .lst m' w' r => lit A (Nat.beq w' w || isNil m') (k r)
  | .sq q w' => lit A (Nat.beq w' w) (asRow A (cl q) fun r => lit A (r.all AV.flat) (k r))
  | _ => A.fail
/-- Onto what is appended. -/
def appV (uq : Bool) (d sz : Nat) (x : AV) (r : List AV) (objs : Os) (cl : Cl) (len : Nat → α → α) (k : AV → Os → Cl → α) : α :=
  match x with
  | .lst .nil _ _ => len 0 (bif uq then freshN A cl (.T d) (k (.sq (.T d) sz) objs (updN cl (.T d) (.row r))) else freshN A cl (.T d) (k (.lst (.own (.T d)) sz r) objs (updN cl (.T d) .own)))
  | .lst (.own q) w l => len l.length (lit A (Nat.beq w sz && isOwn (cl q)) (freshN A cl (.T d) (k (.lst (.own (.T d)) sz (l ++ r)) objs (updN (updN cl q .dead) (.T d) .own))))
  | .sq q w => asRow A (cl q) fun l => len l.length (lit A (Nat.beq w sz) (freshN A cl (.T d) (k (.sq (.T d) sz) objs (updN (updN cl q .dead) (.T d) (.row (l ++ r))))))
  | _ => A.fail
/-- Any operation: what it yields, and what becomes of objects and claims. -/
def opV (T : Tab) (d : Nat) (op : Op) (vs : List AV) (objs : Os) (cl : Cl) (k : AV → Os → Cl → α) : α :=
  match op, vs with
  | .alloc t, [] => lit A ((T.ty t).known && !(T.ty t).zero.isEmpty) (fresh A objs (ob d) (k (.ref (ob d) 0) (upd objs (ob d) (.live (T.ty t).zero)) cl))
  | .box t _, [x] => cellsAs A (T.ty t) x fun cs => fresh A objs (ob d) (k (.ref (ob d) 0) (upd objs (ob d) (.live cs)) cl)
  | .store t _ _, [a, x] =>
    match a with
    | .ref o i => match objs o with
      | some (.live l) => cellsAs A (T.ty t) x fun cs => A.chk (Nat.ble (i + cs.length) l.length) (k (.tup []) (upd objs o (.live (setAt l i cs))) cl)
      | _ => A.fail
    | .ua q w i j => asRow A (cl q) fun l => nthE A l i fun e => cellsAs A (T.ty t) x fun cs => A.chk (Nat.ble (j + cs.length) e.cells.length) (putC A e (setAt e.cells j cs) fun e' => A.chk e'.flat (k (.tup []) objs (updN cl q (.row (l.set i e')))))
    | _ => A.fail
  | .load t _, [.ua q w i j] => asRow A (cl q) fun l => nthE A l i fun e => part A (T.ty t) e.cells j fun v => k v objs cl
  | .indexAddr t _ _, [.sq q w, .int _ n] => match (T.ty t).k with
    | .slice e => lit A (Nat.beq w (T.ty e).size && (T.ty e).known) (asRow A (cl q) fun l => idxN A n l.length fun n => k (.ua q w n 0) objs cl)
    | _ => A.fail
  | .makeSlice t _ _, [.int .i64 n, .int .i64 c] => match (T.ty t).k with
    | .slice e => lit A (Nat.blt 0 (T.ty e).size && Nat.blt 0 (T.ty e).bytes && (T.ty e).known && !(T.ty e).zero.isEmpty && (demS (T.ty e).sh (zeroOf (T.ty e))).flat) (A.chk (decide (0 ≤ n) && decide (n ≤ c) && decide (c * (T.ty e).bytes ≤ 140737488355328)) (
        freshN A cl (.T d) (k (.sq (.T d) (T.ty e).size) objs (updN cl (.T d) (.row (List.replicate n.toNat (demS (T.ty e).sh (zeroOf (T.ty e)))))))))
    | _ => A.fail
  | .buildSlice t len parts, vs => match (T.ty t).k with
    | .slice e => bif Nat.beq len 0 then lit A (parts.isEmpty && Nat.blt 0 (T.ty e).size && (T.ty e).known) (freshN A cl (.T d) (bif T.uq d then k (.sq (.T d) (T.ty e).size) objs (updN cl (.T d) (.row [])) else k (.lst (.own (.T d)) (T.ty e).size []) objs (updN cl (.T d) .own)))
      else lit A (Nat.blt 0 len && Nat.ble (len * (T.ty e).size) 16777216 && Nat.blt 0 (T.ty e).size && (T.ty e).known && !(T.ty e).zero.isEmpty && (demS (T.ty e).sh (zeroOf (T.ty e))).flat) (elemsV A (T.uq d) (T.ty e) (List.replicate len (demS (T.ty e).sh (zeroOf (T.ty e)))) parts.toList vs fun es =>
        freshN A cl (.T d) (bif T.uq d then k (.sq (.T d) (T.ty e).size) objs (updN cl (.T d) (.row es)) else k (.lst (.own (.T d)) (T.ty e).size es) objs (updN cl (.T d) .own)))
    | _ => A.fail
  | .makeFunc (.func f) first _, vs => lit A first.isEmpty (capsV A vs objs fun cs objs => k (.clo f cs) objs cl)
  | .call { callee := .builtin .append, args := _, argTypes }, [x, y] =>
    match argTypes.toList with
    | t :: u :: _ => match (T.ty t).k with
      | .slice e =>
        let td := T.ty e
        lit A (td.known && !td.zero.isEmpty) <|
        match y with
        | .str s => lit A (isU8 T t && isStr (T.ty u) && Nat.beq td.size 1 && Nat.beq td.bytes 1) (appV A (T.uq d) d 1 x (encB s) objs cl (fun n y => A.chk (decide (n + s.length ≤ 140737488355328)) y) k)
        | y => srcV A td.size y cl fun r => lit A (Nat.beq t u && Nat.blt 0 td.size && Nat.blt 0 td.bytes) (appV A (T.uq d) d td.size x r objs cl (fun n y => A.chk (decide ((n + r.length) * td.bytes ≤ 140737488355328)) y) k)
      | _ => A.fail
    | _ => A.fail
  | .call { callee := .builtin .copy, args := _, argTypes }, [.sq q w, y] =>
    match argTypes.toList with
    | t :: u :: _ => match (T.ty t).k with
      | .slice e => lit A (Nat.beq t u && Nat.beq w (T.ty e).size && Nat.blt 0 (T.ty e).size && (T.ty e).known) (asRow A (cl q) fun l => srcV A w y cl fun r => lit A (r.all AV.flat)
          (k (.int .i64 (min r.length l.length)) objs (updN cl q (.row (r.take l.length ++ l.drop r.length)))))
      | _ => A.fail
    | _ => A.fail
  | .call { callee := .builtin .len, args := _, argTypes }, [.sq q w] =>
    match argTypes.toList with
    | [t] => match (T.ty t).k with
      | .slice _ => asRow A (cl q) fun l => A.asm (l.length ≤ maxL) (k (.int .i64 l.length) objs cl)
      | _ => A.fail
    | _ => A.fail
  | .convert s t _, [.sq q w] =>
    match (T.ty t).k with
    | .str => lit A (isU8 T s && Nat.beq w 1) (asRow A (cl q) fun l => orFail A (bytesOf l) fun b => k (.str b) objs cl)
    | _ => A.fail
  | .convert s t _, [x] =>
    match (T.ty t).k, x with
    | .slice _, .str b => lit A (isU8 T t && (T.ty s).known) (k (.lst .ro 1 (encB b)) objs cl)
    | _, x => conv A T s t x fun v => k v objs cl
  | .call { callee := .value _, args := _, argTypes }, f :: vs =>
    match f with
    | .clo f caps => lit A (T.fn f && caps.all AV.flat1) <|
      bif vs.any holdsRef || (T.res f).any Sh.owned || (T.ash f).any Sh.owned then
        argsV A T 0 (T.ash f) vs argTypes.toList objs cl fun as ins bk objs cl =>
          A.call f (as ++ caps) ins fun res outs => outsV A d bk outs objs cl fun outs objs cl => resV A d 0 (T.res f) res outs objs cl fun vs objs cl => k (one1 vs) objs cl
      else lit A ((demArgs T vs argTypes.toList).all AV.flat && Nat.beq vs.length argTypes.toList.length) (A.callx f (demArgs T vs argTypes.toList ++ caps) fun res => resX A (T.res f) res fun vs => k (one1 vs) objs cl)
    | _ => A.fail
  | op, vs => pureV A T op vs objs fun v => k v objs cl

/-- Rows that stand still from now on: wherever they are held. -/
def fzV (q : Nm) (l : List AV) (v : AV) : AV := match v with | .sq q' w => bif Nm.beq q q' then .lst .ro w l else v | v => v
def fzW (q : Nm) (l : List AV) (v : AV) : AV := match v with | .agg cs => .agg (cs.map (fzV q l)) | .tup vs => .tup (vs.map fun v => match v with | .agg cs => .agg (cs.map (fzV q l)) | v => fzV q l v) | v => fzV q l v
def fzO (q : Nm) (l : List AV) (o : Option Ob) : Option Ob := match o with | some (.live cs) => some (.live (cs.map (fzV q l))) | o => o
/-- Which rows a value holds. -/
def rowsIn (v : AV) : List Nm := match v with | .sq q _ => [q] | _ => []
def rowsOf (v : AV) : List Nm := match v with | .agg cs => cs.flatMap rowsIn | .tup vs => vs.flatMap (fun v => match v with | .agg cs => cs.flatMap rowsIn | v => rowsIn v) | v => rowsIn v
def rowsAt (env : Ev) (objs : Os) (t : Nat) : List Nm := match env t with | some (.ref o _) => (match objs o with | some (.live cs) => cs.flatMap rowsIn | _ => []) | some v => rowsOf v | none => []
def stillV : List Nm → Ev → Os → Cl → (Ev → Os → Cl → α) → α
  | [], env, objs, cl, k => k env objs cl
  | q :: qs, env, objs, cl, k => asRow A (cl q) fun l => lit A (l.all AV.flat) (stillV qs (fun t => (env t).map (fzW q l)) (fun o => fzO q l (objs o)) (updN cl q .dead) k)
def stillT : List Nat → Ev → Os → Cl → (Ev → Os → Cl → α) → α
  | [], env, objs, cl, k => k env objs cl
  | t :: ts, env, objs, cl, k => stillV A (rowsAt env objs t) env objs cl fun env objs cl => stillT ts env objs cl k
/-- A value whose rows stand still at once. -/
def stillR : List Nm → AV → Cl → (AV → Cl → α) → α
  | [], v, cl, k => k v cl
  | q :: qs, v, cl, k => asRow A (cl q) fun l => lit A (l.all AV.flat) (stillR qs (fzW q l v) (updN cl q .dead) k)

/-! Regions. -/
def noDst : Nat := 65535
def isSkip (v : AV) : Bool := match v with | .tup [] => true | _ => false
theorem isSkip_eq {v : AV} (h : isSkip v = true) : v = .tup [] := by
  cases v <;> first | (cases h; done) | skip
  rename_i l
  cases l <;> first | rfl | (cases h; done)
/-- One operation of a region, its guard asked first; what is not wanted leaves nothing. -/
def stepV (T : Tab) (ops : Array Oper) (o : Oper) (env : Ev) (objs : Os) (cl : Cl) (k : Ev → Os → Cl → α) : α :=
  let go (env : Ev) : α := orFail A (opvs env o.op.operands.toList) fun vs => opV A T (o.dst.getD noDst) o.op vs objs cl fun v objs cl => bif T.fz (o.dst.getD noDst) then stillR A (rowsOf v) v cl fun v cl => k (setE env o.dst v) objs cl else k (setE env o.dst v) objs cl
  match o.guard with
  | none => go env
  | some (j, want) => orFail A (match ops[j]? with | some g => g.dst | none => none) fun t => orFail A (env t) fun b => bif isSkip b then k (setE env o.dst (.tup [])) objs cl else asB A b fun b =>
      bif b then (bif want then go (upd env t (.bool true)) else k (setE (upd env t (.bool true)) o.dst (.tup [])) objs cl)
      else (bif want then k (setE (upd env t (.bool false)) o.dst (.tup [])) objs cl else go (upd env t (.bool false)))
def stepsV (T : Tab) (ops : Array Oper) : List Oper → Ev → Os → Cl → (Ev → Os → Cl → α) → α
  | [], env, objs, cl, k => k env objs cl
  | o :: l, env, objs, cl, k => stepV A T ops o env objs cl fun env objs cl => stepsV T ops l env objs cl k
end
end Go.Proofs.Ythmocicjocjdoaa.V
