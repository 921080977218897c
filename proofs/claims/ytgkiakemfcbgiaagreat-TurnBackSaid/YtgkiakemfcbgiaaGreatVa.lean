/- Part 1 of the proof that: What goes on is of its form in what comes of the schema, and goes back, with what was lost, as it was; what is gone is regained. -/
import Derived.Orders
import Derived.KernelRfl
import Derived.Still
import Derived.Laws.AppendOwn
import Derived.WalkKit
import Derived.Laws.StructEq
import Derived.Laws.BytesArg
import Derived.Laws.Tables
import Derived.Deep.DeepAppendWide
set_option linter.unusedVariables false
set_option linter.unusedSimpArgs false
namespace Go.Proofs.YtgkiakemfcbgiaaGreat
open Go
namespace V
inductive Nm where
  | T (d : Nat) | E (j i : Nat) | R (r : Nat) | C (d j i : Nat) | D (d r : Nat) | L (t : Nat) | O (o i : Nat) | Y (k a b c : Nat)
  deriving DecidableEq, Inhabited
def Nm.beq : Nm → Nm → Bool
  | .T a, .T b => Nat.beq a b
  | .E a b, .E c d => Nat.beq a c && Nat.beq b d
  | .R a, .R b => Nat.beq a b
  | .C a b c, .C d e f => Nat.beq a d && Nat.beq b e && Nat.beq c f
  | .D a b, .D c d => Nat.beq a c && Nat.beq b d
  | .L a, .L b => Nat.beq a b
  | .O a b, .O c d => Nat.beq a c && Nat.beq b d
  | .Y a b c d, .Y e f g h => Nat.beq a e && Nat.beq b f && Nat.beq c g && Nat.beq d h
  | _, _ => false
inductive Md where
  | ro | nil | own (k : Nm) | uq
  deriving DecidableEq, Inhabited
inductive AV where
  | int (k : IntKind) (n : Int)
  | bool (b : Bool)
  | str (s : List UInt8)
  | lst (m : Md) (w : Nat) (l : List AV)
  | agg (l : List AV)
  | ref (o i : Nat)
  | rp (l : List AV) (i : Nat)
  | nilp
  | clo (f : Nat) (caps : List AV)
  | tup (l : List AV)
  | undef
  | sq (q : Nm) (w : Nat)
  | ua (q : Nm) (w i j : Nat)
  | sv (q : Nm) (w m : Nat)
  | bclo (f o : Nat)
  deriving Inhabited
inductive Sh where
  | int (k : IntKind) | bool | str | lst (w : Nat) | own (w : Nat) | agg (l : List Sh) | any | obj (l : List Sh) | arr | at (o i : Nat) | nilp | uq (w : Nat)
  deriving Inhabited
def Sh.isUq : Sh → Bool
  | .uq _ => true
  | _ => false
def Sh.owned : Sh → Bool
  | .own _ => true
  | .uq _ => true
  | .agg l => l.any Sh.isUq
  | .obj _ => true
  | _ => false
inductive TK where
  | int (k : IntKind) | bool | str | ptr (e : Nat) | slice (e : Nat) | struct (fs : List (Nat × Nat)) | array (n e : Nat) | fn | other
  deriving Inhabited, DecidableEq
structure TD where
  k : TK
  size : Nat
  bytes : Nat
  zero : List AV
  sh : Sh
  eq : List Sh
  deriving Inhabited
structure Alg (α : Type) where
  fail : α
  chk : Bool → α → α
  asm : Prop → α → α
  amb : (Bool → α) → α
  call : Nat → List AV → List (Nat × List AV) → (List AV → List (Nat × List AV) → α) → α
  callx : Nat → List AV → (List AV → α) → α
  both : α → α → α
  join : ((Bool → α) → α) → (Bool → α) → α
  loop : Nat → List AV → List (List AV) → (Nat → List AV → List (List AV) → α) → α
inductive Ob where
  | live (l : List AV) | frz (l : List AV) | dead
  deriving Inhabited
inductive Xt where
  | normal | exit (id : Nat) | ret
inductive Spc where
  | rev (sz : Nat) | pin (sz off : Nat) | out (sz : Nat) (sh : Sh) (z : AV)
  deriving Inhabited
structure Tab where
  ty : Nat → TD
  osh : Nat → List Sh
  res : Nat → List Sh
  fn : Nat → Bool
  ash : Nat → List Sh := fun _ => []
  uq : Nat → Bool := fun _ => false
  fz : Nat → Bool := fun _ => false
  spc : Nat → Option Spc := fun _ => none
abbrev Spec := List (Nat × Sh) × List (Nat × List Sh)
structure Ann where
  loop : Nat → Spec
  out : Nat → List (Option Nat × Spec)
  join : Nat → Option Nat
  meet : Nat → Bool
  frz : Nat → List Nat
  unr : Nat → Nat := fun _ => 0
  fzr : Nat → List Nat := fun _ => []
  uq : Nat → Bool := fun _ => false
  fz : Nat → Bool := fun _ => false
inductive Cs where
  | dead | own | row (l : List AV)
  deriving Inhabited
def upd {β : Type} (f : Nat → Option β) (k : Nat) (v : β) : Nat → Option β := fun j => bif Nat.beq k j then some v else f j
def ofL {β : Type} : List (Nat × β) → Nat → Option β
  | [], _ => none
  | (k, v) :: l, j => bif Nat.beq k j then some v else ofL l j
abbrev Ev := Nat → Option AV
abbrev Os := Nat → Option Ob
abbrev Cl := Nm → Option Cs
def updN (f : Cl) (k : Nm) (v : Cs) : Cl := fun j => bif Nm.beq k j then some v else f j
def ofN : List (Nm × Cs) → Cl
  | [], _ => none
  | (k, c) :: l, j => bif Nm.beq k j then some c else ofN l j
def isOwn (o : Option Cs) : Bool := match o with | some .own => true | _ => false
def isAl (o : Option Cs) : Bool := match o with | some .own => true | some (.row _) => true | _ => false
def subN (nm : Nm) (i : Nat) : Nm :=
  match nm with
  | .R r => .Y 0 r i 0
  | .L t => .Y 1 t i 0
  | .D d r => .Y 2 d r i
  | .Y 3 j 0 0 => .Y 4 j i 0
  | _ => .Y 5 i 0 0
def setE (env : Ev) (d : Option Nat) (v : AV) : Ev := match d with | some d => upd env d v | none => env
def AV.cells : AV → List AV
  | .agg l => l
  | v => [v]
def AV.flat1 : AV → Bool
  | .int .. | .bool _ | .str _ | .rp .. | .nilp | .clo .. => true
  | .lst (.own _) _ _ => false
  | .lst .uq _ _ => false
  | .lst _ _ _ => true
  | _ => false
def AV.flat : AV → Bool
  | .agg l => l.all AV.flat1
  | v => v.flat1
def AV.one : AV → Bool
  | .agg _ | .tup _ | .undef => false
  | _ => true
def AV.dem1 : AV → AV
  | .lst _ w l => .lst .ro w l
  | v => v
def demS1 (sh : Sh) (v : AV) : AV :=
  match sh, v with
  | .lst w, .lst .nil _ l => .lst .ro w l
  | .own w, .lst .nil _ l => .lst .ro w l
  | _, v => v.dem1
def demSL : List Sh → List AV → List AV
  | sh :: shs, v :: vs => demS1 sh v :: demSL shs vs
  | _, vs => vs.map AV.dem1
def demS (sh : Sh) (v : AV) : AV :=
  match v with
  | .agg l => match sh with | .agg shs => .agg (demSL shs l) | _ => .agg (l.map AV.dem1)
  | v => demS1 sh v
section
variable {α : Type} (A : Alg α)
def cv1 : Value → Option AV
  | .int k n => some (.int k n)
  | .bool b => some (.bool b)
  | .string s => bif Nat.ble s.data.toList.length 9223372036854775807 then some (.str s.data.toList) else none
  | .pointer none => some .nilp
  | .slice none 0 0 => some (.lst .nil 0 [])
  | _ => none
def cvL : List Value → Option (List AV)
  | [] => some []
  | v :: l => match cv1 v, cvL l with | some x, some r => some (x :: r) | _, _ => none
def cv : Value → Option AV
  | .agg cs => (cvL cs.toList).map .agg
  | v => cv1 v
def opv (env : Ev) : Operand → Option AV
  | .tmp t => env t
  | .const v => cv v
  | .func f => some (.clo f [])
  | .global _ => none
def opvs (env : Ev) : List Operand → Option (List AV)
  | [] => some []
  | x :: l => match opv env x, opvs env l with | some v, some r => some (v :: r) | _, _ => none
def lit (b : Bool) (x : α) : α := bif b then x else A.fail
def orFail {β : Type} (o : Option β) (k : β → α) : α := match o with | some b => k b | none => A.fail
def nthE {β : Type} (l : List β) (i : Nat) (k : β → α) : α := match l[i]? with | some e => k e | none => A.fail
def nthI {β : Type} (n : Int) (l : List β) (k : β → α) : α := A.chk (decide (0 ≤ n)) (nthE A l n.toNat k)
def idxN (n : Int) (len : Nat) (k : Nat → α) : α := A.chk (decide (0 ≤ n) && decide (n < (len : Int))) (k n.toNat)
def asI (ik : IntKind) (v : AV) (k : Int → α) : α := match v with | .int j n => lit A (decide (j = ik)) (k n) | _ => A.fail
def asB (v : AV) (k : Bool → α) : α := match v with | .bool b => k b | _ => A.fail
def asS (v : AV) (k : List UInt8 → α) : α := match v with | .str s => k s | _ => A.fail
def asL (w : Nat) (v : AV) (k : List AV → α) : α := match v with | .lst .ro w' l => lit A (Nat.beq w' w) (k l) | _ => A.fail
def asOwn (w : Nat) (v : AV) (k : Nm → List AV → α) : α := match v with | .lst (.own q) w' l => lit A (Nat.beq w' w) (k q l) | _ => A.fail
def asUq (w : Nat) (v : AV) (k : List AV → α) : α := match v with | .lst .uq w' l => lit A (Nat.beq w' w) (k l) | _ => A.fail
def asRow (o : Option Cs) (k : List AV → α) : α := match o with | some (.row l) => k l | _ => A.fail
def asA (v : AV) (k : List AV → α) : α := match v with | .agg l => k l | _ => A.fail
def asNilp (v : AV) (k : α) : α := match v with | .nilp => k | _ => A.fail
def asC {β : Type} (l : List β) (k : β → List β → α) : α := match l with | x :: r => k x r | [] => A.fail
def asN {β : Type} (l : List β) (k : α) : α := match l with | [] => k | _ :: _ => A.fail
def shape1 (sh : Sh) (v : AV) (k : AV → α) : α :=
  match sh with
  | .int ik => asI A ik v fun n => k (.int ik n)
  | .bool => asB A v fun b => k (.bool b)
  | .str => asS A v fun s => k (.str s)
  | .lst w => asL A w v fun l => k (.lst .ro w l)
  | .own w => asOwn A w v fun q l => k (.lst (.own q) w l)
  | .nilp => asNilp A v (k .nilp)
  | .uq w => asUq A w v fun l => k (.lst .uq w l)
  | _ => k v
def shapes : List Sh → List AV → (List AV → α) → α
  | [], l, k => asN A l (k [])
  | [.arr], l, k => k l
  | sh :: shs, l, k => asC A l fun v r => shape1 A sh v fun v' => shapes shs r fun r' => k (v' :: r')
def shape (sh : Sh) (v : AV) (k : AV → α) : α :=
  match sh with
  | .agg shs => asA A v fun l => shapes A shs l fun l' => k (.agg l')
  | sh => shape1 A sh v k
def TD.isPtr (td : TD) : Bool := match td.k with | .ptr _ => true | _ => false
def TD.isSl (td : TD) : Bool := match td.k with | .slice _ => true | _ => false
def TD.known (td : TD) : Bool := match td.k with | .other => false | _ => true
def TD.isAgg (td : TD) : Bool := match td.k with | .struct _ => true | .array _ _ => true | _ => false
def part (td : TD) (l : List AV) (i : Nat) (k : AV → α) : α :=
  lit A td.known (bif td.isAgg then A.chk (Nat.ble (i + td.size) l.length) (k (.agg ((l.drop i).take td.size))) else nthE A l i k)
def padd (x : AV) (n : Nat) (k : AV → α) : α :=
  match x with
  | .ref o i => k (.ref o (i + n))
  | .rp l i => k (.rp l (i + n))
  | .ua q w i j => k (.ua q w i (j + n))
  | _ => A.fail
def fieldOf (td : TD) (f : Nat) : Option (Nat × Nat) := match td.k with | .struct fs => fs[f]? | _ => none
def bits (op : BinOp) (k : IntKind) (x y : Int) : Int :=
  let a := BitVec.ofInt k.bits x
  let b := BitVec.ofInt k.bits y
  k.wrap (match op with | .and => a &&& b | .or => a ||| b | .xor => a ^^^ b | _ => a &&& ~~~b).toNat
def eq1 : AV → AV → Option Bool
  | .int k a, .int k' b => bif decide (k = k') then some (a == b) else none
  | .bool a, .bool b => some (a == b)
  | .str a, .str b => some (a == b)
  | _, _ => none
def eqL : List AV → List AV → Option Bool
  | [], [] => some true
  | x :: l, y :: r => match eq1 x y, eqL l r with | some a, some b => some (a && b) | _, _ => none
  | _, _ => none
def fit1 : Sh → AV → Bool
  | .int k, .int k' _ => decide (k = k')
  | .bool, .bool _ => true
  | .str, .str _ => true
  | _, _ => false
def fitL : List Sh → List AV → Bool
  | [], [] => true
  | s :: l, x :: r => fit1 s x && fitL l r
  | _, _ => false
def TD.eqs (td : TD) (l r : List AV) : Bool := !td.eq.isEmpty && (fitL td.eq l && fitL td.eq r)
def nilEq (m : Md) (l : List AV) (k : Bool → α) : α :=
  match m with
  | .nil => k true
  | _ => match l with | [] => A.amb k | _ :: _ => k false
def binI (op : BinOp) (ik : IntKind) (a b : Int) (k : AV → α) : α :=
  match op with
  | .add => k (.int ik (ik.wrap (a + b)))
  | .sub => k (.int ik (ik.wrap (a - b)))
  | .mul => k (.int ik (ik.wrap (a * b)))
  | .quo => A.chk (!(b == 0)) (k (.int ik (ik.wrap (a.tdiv b))))
  | .rem => A.chk (!(b == 0)) (k (.int ik (a.tmod b)))
  | .and => k (.int ik (bits .and ik a b))
  | .or => k (.int ik (bits .or ik a b))
  | .xor => k (.int ik (bits .xor ik a b))
  | .andNot => k (.int ik (bits .andNot ik a b))
  | .eql => k (.bool (a == b))
  | .neq => k (.bool (a != b))
  | .lss => k (.bool (decide (a < b)))
  | .leq => k (.bool (decide (a ≤ b)))
  | .gtr => k (.bool (decide (a > b)))
  | .geq => k (.bool (decide (a ≥ b)))
  | _ => A.fail
def eqB (op : BinOp) (b : Bool) (k : AV → α) : α := match op with | .eql => k (.bool b) | .neq => k (.bool (!b)) | _ => A.fail
def bin (td : TD) (op : BinOp) (x y : AV) (k : AV → α) : α :=
  match x, y with
  | .int ik a, .int jk b =>
    match op with
    | .shl => A.chk (decide (0 ≤ b)) (k (.int ik (ik.wrap (a * 2 ^ (min b.toNat ik.bits)))))
    | .shr => A.chk (decide (0 ≤ b)) (k (.int ik (a.fdiv (2 ^ (min b.toNat ik.bits)))))
    | _ => lit A (decide (ik = jk)) (binI A op ik a b k)
  | .bool a, .bool b => lit A (decide (td.k = .bool)) (eqB A op (a == b) k)
  | .str a, .str b =>
    match op with
    | .add => A.chk (decide (a.length + b.length ≤ 9223372036854775807)) (k (.str (a ++ b)))
    | _ => eqB A op (a == b) k
  | .nilp, .nilp => lit A td.isPtr (eqB A op true k)
  | .ref _ _, .nilp => lit A td.isPtr (eqB A op false k)
  | .rp _ _, .nilp => lit A td.isPtr (eqB A op false k)
  | .lst m _ l, .lst .nil _ _ => lit A td.isSl (nilEq A m l fun b => eqB A op b k)
  | .ua _ _ _ _, .nilp => lit A td.isPtr (eqB A op false k)
  | .agg l, .agg r => lit A (td.eqs l r) (orFail A (eqL l r) fun b => eqB A op b k)
  | _, _ => A.fail
def un (op : UnOp) (x : AV) (k : AV → α) : α :=
  match op, x with
  | .not, .bool b => k (.bool (!b))
  | .neg, .int ik n => k (.int ik (ik.wrap (0 - n)))
  | .xor, .int ik n => k (.int ik (bits .xor ik (if ik.signed then -1 else ik.max) n))
  | _, _ => A.fail
def bytesOf : List AV → Option (List UInt8)
  | [] => some []
  | .int .u8 n :: l => match bytesOf l with | some r => some (UInt8.ofNat n.toNat :: r) | none => none
  | _ => none
def encB (s : List UInt8) : List AV := s.map fun b => .int .u8 (b.toNat : Int)
def isU8 (T : Tab) (t : Nat) : Bool := match (T.ty t).k with | .slice e => decide ((T.ty e).k = .int .u8) | _ => false
def conv (T : Tab) (s d : Nat) (x : AV) (k : AV → α) : α :=
  match (T.ty d).k, x with
  | .int ik, .int _ n => lit A (T.ty s).known (k (.int ik (ik.wrap n)))
  | .str, .str b => lit A (T.ty s).known (k (.str b))
  | .str, .lst _ w l => lit A (isU8 T s && Nat.beq w 1) (orFail A (bytesOf l) fun b => k (.str b))
  | _, _ => A.fail
def cut {β : Type} (l : List β) (lo hi mx : Int) (k : List β → α) : α :=
  A.chk (decide (0 ≤ lo) && decide (lo ≤ hi) && decide (hi ≤ mx) && decide (mx ≤ (l.length : Int))) (k ((l.take hi.toNat).drop lo.toNat))
def bnds (lo hi mx : Option Operand) (dlo dhi : Int) (vs : List AV) (k : Int → Int → Int → α) : α :=
  match lo, hi, mx, vs with
  | none, none, none, [] => k dlo dhi dhi
  | some _, none, none, [.int _ a] => k a dhi dhi
  | none, some _, none, [.int _ b] => k dlo b dhi
  | some _, some _, none, [.int _ a, .int _ b] => k a b dhi
  | none, some _, some _, [.int _ b, .int _ c] => k dlo b c
  | some _, some _, some _, [.int _ a, .int _ b, .int _ c] => k a b c
  | _, _, _, _ => A.fail
def sliceV (T : Tab) (t : Nat) (x : AV) (lo hi mx : Option Operand) (vs : List AV) (k : AV → α) : α :=
  match (T.ty t).k, x with
  | .str, .str s => match mx with | none => bnds A lo hi none 0 s.length vs fun a b c => cut A s a b c fun r => k (.str r) | some _ => A.fail
  | .slice e, .lst m w l =>
    match m with
    | .nil => lit A (T.ty e).known (bnds A lo hi mx 0 0 vs fun a b c => A.chk (a == 0 && b == 0 && c == 0) (k (.lst .nil w [])))
    | _ => lit A (Nat.beq w (T.ty e).size && (T.ty e).known) (bnds A lo hi mx 0 l.length vs fun a b c => cut A l a b c fun r => k (.lst .ro w r))
  | _, _ => A.fail
def setAt {β : Type} : List β → Nat → List β → List β
  | l, _, [] => l
  | l, i, c :: cs => setAt (l.set i c) (i + 1) cs
def cellsAs (td : TD) (x : AV) (k : List AV → α) : α :=
  lit A td.known (bif td.isAgg then asA A x fun l => A.chk (Nat.beq l.length td.size) (k l) else lit A (x.one && Nat.beq td.size 1) (k [x]))
def placeS (T : Tab) (td : TD) (i : Nat) : Option (Nat × TD) :=
  match td.k with
  | .struct fs => match fs[i]? with | some (off, t) => some (off, T.ty t) | none => none
  | .array _ e => some (i * (T.ty e).size, T.ty e)
  | _ => none
def fillV (place : Nat → Option (Nat × TD)) : List AV → List (Nat × Operand) → List AV → (List AV → α) → α
  | z, [], [], k => k z
  | z, (i, _) :: ps, v :: vs, k => match place i with
    | none => A.fail
    | some (off, td) => cellsAs A td v fun cs => A.chk (Nat.ble (off + cs.length) z.length) (fillV place (setAt z off cs) ps vs k)
  | _, _, _, _ => A.fail
def lenOf (sl : Bool) (x : AV) (k : Nat → α) : α :=
  match sl, x with
  | true, .lst _ _ l => k l.length
  | false, .str s => k s.length
  | _, _ => A.fail
def maxL : Nat := 9223372036854775807
def mm (isMax : Bool) : AV → List AV → (AV → α) → α
  | x, [], k => k x
  | .int ik a, .int jk b :: l, k => lit A (decide (ik = jk)) (mm isMax (.int ik (bif isMax then (if a < b then b else a) else (if b < a then b else a))) l k)
  | _, _, _ => A.fail
def partsK (T : Tab) (td : TD) : Bool := match td.k with | .struct fs => fs.all (fun f => (T.ty f.2).known) | .array _ e => (T.ty e).known | _ => false
def pureV (T : Tab) (op : Op) (vs : List AV) (objs : Os) (k : AV → α) : α :=
  match op, vs with
  | .move _, [x] => k x
  | .assign _, [x] => k x
  | .pick _ _ _, [c, a, b] => asB A c fun c => bif c then k a else k b
  | .binOp op t _ _ _, [x, y] => bin A (T.ty t) op x y k
  | .unOp op _ _, [x] => un A op x k
  | .nilCheck _, [x] => match x with | .ref _ _ => k x | .rp _ _ => k x | .clo _ _ => k x | .ua _ _ _ _ => k x | _ => A.fail
  | .fieldAddr s _ f, [x] => match fieldOf (T.ty s) f with | some (off, t) => lit A ((T.ty t).known && Nat.blt 0 (T.ty t).size) (padd A x off k) | none => A.fail
  | .field s _ f, [x] => asA A x fun l => match fieldOf (T.ty s) f with | some (off, t) => part A (T.ty t) l off k | none => A.fail
  | .load t _, [x] =>
    match x with
    | .rp l i => part A (T.ty t) l i k
    | .ref o i => match objs o with | some (.live l) => part A (T.ty t) l i k | some (.frz l) => part A (T.ty t) l i k | _ => A.fail
    | _ => A.fail
  | .indexAddr t _ _, [x, ix] =>
    match (T.ty t).k, x, ix with
    | .slice e, .lst _ w l, .int _ n => lit A (Nat.beq w (T.ty e).size && (T.ty e).known) (nthI A n l fun v => shape A (T.ty e).sh v fun v => k (.rp v.cells 0))
    | .array len e, .ref o i, .int _ n => lit A (T.ty e).known (idxN A n len fun n => k (.ref o (i + n * (T.ty e).size)))
    | .array len e, .rp l i, .int _ n => lit A (T.ty e).known (idxN A n len fun n => k (.rp l (i + n * (T.ty e).size)))
    | _, _, _ => A.fail
  | .index t _ _, [x, ix] =>
    match (T.ty t).k, x, ix with
    | .str, .str s, .int _ n => nthI A n s fun b => k (.int .u8 (b.toNat : Int))
    | .array len e, .agg l, .int _ n => lit A (T.ty e).known (idxN A n len fun n => part A (T.ty e) l (n * (T.ty e).size) k)
    | _, _, _ => A.fail
  | .slice t _ lo hi mx, x :: vs => sliceV A T t x lo hi mx vs k
  | .extract _ i, [x] => match x with | .tup l => nthE A l i k | _ => A.fail
  | .build t parts, vs => lit A ((T.ty t).isAgg && !(T.ty t).zero.isEmpty && partsK T (T.ty t)) (fillV A (placeS T (T.ty t)) (T.ty t).zero parts.toList vs fun cs => k (.agg cs))
  | .call { callee := .builtin b, args := _, argTypes }, vs =>
    match b, vs, argTypes.toList with
    | .len, [x], [t] => match (T.ty t).k with
      | .array n _ => k (.int .i64 n)
      | .slice _ => lenOf A true x fun n => A.asm (n ≤ maxL) (k (.int .i64 n))
      | .str => lenOf A false x fun n => A.asm (n ≤ maxL) (k (.int .i64 n))
      | _ => A.fail
    | .min, x :: r, _ => mm A false x r k
    | .max, x :: r, _ => mm A true x r k
    | _, _, _ => A.fail
  | _, _ => A.fail
def ob (d : Nat) : Nat := d + 1000
def freshN (f : Cl) (k : Nm) (x : α) : α := match f k with | none => x | some _ => A.fail
def fresh {β : Type} (f : Nat → Option β) (k : Nat) (x : α) : α := match f k with | none => x | some _ => A.fail
def exp0 (sh : Sh) (nm : Nm) (c : AV) (cl : Cl) (k : AV → Cl → α) : α :=
  match sh, c with
  | .own w, .lst (.own q) w' l => lit A (Nat.beq w' w && isOwn (cl q)) (k (.lst (.own nm) w l) (updN cl q .dead))
  | .own w, .lst .nil _ l => lit A (Nat.blt 0 w) (k (.lst (.own nm) w l) cl)
  | .own _, _ => A.fail
  | .uq w, .sq q w' => lit A (Nat.beq w' w) (asRow A (cl q) fun l => lit A (l.all AV.flat) (k (.lst .uq w l) (updN cl q .dead)))
  | .uq w, .lst .nil _ _ => lit A (Nat.blt 0 w) (k (.lst .uq w []) cl)
  | .uq w, .sv q w' m => lit A (Nat.beq w' w) (asRow A (cl q) fun l => lit A (l.all AV.flat) (k (.lst .uq w (l.take m)) (updN cl q .dead)))
  | .uq _, _ => A.fail
  | .lst w, .lst .nil _ l => k (.lst .ro w l) cl
  | .lst w, .lst m w' l => lit A (Nat.beq w' w) (k (.lst .ro w l) cl)
  | .lst _, _ => A.fail
  | .agg shs, .agg l => lit A (AV.agg (demSL shs l)).flat (k (.agg (demSL shs l)) cl)
  | _, c => lit A c.flat (k c cl)
def expA (nm : Nat → Nm) : List Sh → Nat → List AV → Cl → (List AV → Cl → α) → α
  | [], _, cs, cl, k => asN A cs (k [] cl)
  | sh :: shs, i, cs, cl, k => asC A cs fun c cs => lit A c.one (exp0 A sh (nm i) c cl fun c cl => expA nm shs (i + 1) cs cl fun r cl => k (c :: r) cl)
def isUqs (sh : Sh) : Bool := match sh with | .agg shs => shs.any Sh.isUq | _ => false
def shsOf (sh : Sh) : List Sh := match sh with | .agg shs => shs | _ => []
def exp1 (sh : Sh) (nm : Nm) (c : AV) (cl : Cl) (k : AV → Cl → α) : α :=
  bif isUqs sh then asA A c fun l => expA A (subN nm) (shsOf sh) 0 l cl fun l cl => k (.agg l) cl else exp0 A sh nm c cl k
def expC (nm : Nat → Nm) : List Sh → Nat → List AV → Cl → (List AV → Cl → α) → α
  | [], _, cs, cl, k => asN A cs (k [] cl)
  | [.arr], _, cs, cl, k => A.chk (cs.all AV.flat1) (k cs cl)
  | sh :: shs, i, cs, cl, k => asC A cs fun c cs => lit A c.one (exp0 A sh (nm i) c cl fun c cl => expC nm shs (i + 1) cs cl fun r cl => k (c :: r) cl)
def imp0 (nm : Nm) (c : AV) (cl : Cl) (k : AV → Cl → α) : α :=
  match c with
  | .lst (.own _) w l => freshN A cl nm (k (.lst (.own nm) w l) (updN cl nm .own))
  | .lst .uq w l => freshN A cl nm (k (.sq nm w) (updN cl nm (.row l)))
  | c => lit A c.flat (k c cl)
def impC (nm : Nat → Nm) : Nat → List AV → Cl → (List AV → Cl → α) → α
  | _, [], cl, k => k [] cl
  | i, c :: cs, cl, k => imp0 A (nm i) c cl fun c cl => impC nm (i + 1) cs cl fun r cl => k (c :: r) cl
def imp1 (u : Bool) (nm : Nm) (c : AV) (cl : Cl) (k : AV → Cl → α) : α :=
  bif u then asA A c fun l => impC A (subN nm) 0 l cl fun l cl => k (.agg l) cl else imp0 A nm c cl k
def fr0 (nm : Nm) (v : AV) : AV := match v with | .lst .uq w _ => .sq nm w | v => v
def frC (nm : Nat → Nm) : Nat → List AV → List AV
  | _, [] => []
  | i, v :: l => fr0 (nm i) v :: frC nm (i + 1) l
def fr1 (nm : Nm) (v : AV) : AV := match v with | .agg l => .agg (frC (subN nm) 0 l) | v => fr0 nm v
def frS (sh : Sh) (nm : Nm) (v : AV) : AV := bif isUqs sh then fr1 nm v else fr0 nm v
def impO (shs : List Sh) (nm : Nat → Nm) (cs : List AV) (cl : Cl) (k : List AV → Cl → α) : α :=
  match shs with
  | [.arr] => A.chk (cs.all AV.flat1) (k cs cl)
  | shs => shapes A shs cs fun cs => impC A nm 0 cs cl k
def demArgs (T : Tab) : List AV → List Nat → List AV
  | v :: vs, t :: ts => demS (T.ty t).sh v :: demArgs T vs ts
  | _, _ => []
def shOwned (shs : List Sh) : Bool := match shs with | sh :: _ => sh.owned | [] => false
def shHead (shs : List Sh) : Sh := match shs with | sh :: _ => sh | [] => .any
def pteOf (T : Tab) (t : Nat) : Nat := match (T.ty t).k with | .ptr e => e | _ => t
def argsV (T : Tab) : Nat → List Sh → List AV → List Nat → Os → Cl → (List AV → List (Nat × List AV) → List (Nat × Nat × List Sh) → Os → Cl → α) → α
  | _, _, [], [], objs, cl, k => k [] [] [] objs cl
  | j, shs, v :: vs, t :: ts, objs, cl, k =>
    bif shOwned shs then exp1 A (shHead shs) (.Y 3 j 0 0) v cl fun v cl => argsV T (j + 1) shs.tail vs ts objs cl fun as1 ins bk objs cl => k (v :: as1) ins bk objs cl
    else match v with
    | .ref o i => match objs o with
      | some (.live cs) => lit A (Nat.blt j 1000) <| expC A (Nm.E j) (T.osh (pteOf T t)) 0 cs cl fun cs cl =>
        argsV T (j + 1) shs.tail vs ts (upd objs o .dead) cl fun as1 ins bk objs cl => k (.ref j i :: as1) ((j, cs) :: ins) ((j, o, T.osh (pteOf T t)) :: bk) objs cl
      | some (.frz cs) => argsV T (j + 1) shs.tail vs ts objs cl fun as1 ins bk objs cl => k (.rp cs i :: as1) ins bk objs cl
      | _ => A.fail
    | v => lit A (demS (T.ty t).sh v).flat (argsV T (j + 1) shs.tail vs ts objs cl fun as1 ins bk objs cl => k (demS (T.ty t).sh v :: as1) ins bk objs cl)
  | _, _, _, _, _, _, _ => A.fail
def outsV (d : Nat) : List (Nat × Nat × List Sh) → List (Nat × List AV) → Os → Cl → (List (Nat × List AV) → Os → Cl → α) → α
  | [], outs, objs, cl, k => k outs objs cl
  | (j, o, shs) :: bk, outs, objs, cl, k =>
    asC A outs fun jc outs => lit A (Nat.beq jc.1 j) (impO A shs (Nm.C d j) jc.2 cl fun cs cl => outsV d bk outs (upd objs o (.live cs)) cl k)
def resV (d : Nat) : Nat → List Sh → List AV → List (Nat × List AV) → Os → Cl → (List AV → Os → Cl → α) → α
  | _, [], res, outs, objs, cl, k => asN A res (asN A outs (k [] objs cl))
  | r, sh :: shs, res, outs, objs, cl, k =>
    asC A res fun v res =>
    match sh with
    | .obj os => match v with
      | .ref o 0 => lit A (Nat.beq o (64 + r)) (asC A outs fun jc outs => lit A (Nat.beq jc.1 (64 + r)) (
          fresh A objs (ob (d + 65536 * r)) (impO A os (Nm.C d (64 + r)) jc.2 cl fun cs cl => resV d (r + 1) shs res outs (upd objs (ob (d + 65536 * r)) (.live cs)) cl fun vs objs cl => k (.ref (ob (d + 65536 * r)) 0 :: vs) objs cl)))
      | _ => A.fail
    | sh => shape A sh v fun v => imp1 A (isUqs sh) (Nm.D d r) v cl fun v cl => resV d (r + 1) shs res outs objs cl fun vs objs cl => k (v :: vs) objs cl
def resX : List Sh → List AV → (List AV → α) → α
  | [], res, k => asN A res (k [])
  | sh :: shs, res, k => asC A res fun v res => shape A sh v fun v => lit A v.flat (resX shs res fun vs => k (v :: vs))
def one1 (l : List AV) : AV := match l with | [v] => v | l => .tup l
def capsV : List AV → Os → (List AV → Os → α) → α
  | [], objs, k => k [] objs
  | v :: vs, objs, k =>
    match v with
    | .ref o 0 => match objs o with
      | some (.live cs) => lit A ((cs.map AV.dem1).all AV.flat1) (capsV vs (upd objs o (.frz (cs.map AV.dem1))) fun r objs => k (.rp (cs.map AV.dem1) 0 :: r) objs)
      | some (.frz cs) => capsV vs objs fun r objs => k (.rp cs 0 :: r) objs
      | _ => A.fail
    | .rp cs 0 => capsV vs objs fun r objs => k (.rp cs 0 :: r) objs
    | _ => A.fail
def isUa (v : AV) : Bool := match v with | .ua _ _ _ _ => true | _ => false
def capB (vs : List AV) (objs : Os) : Option Nat :=
  match vs with
  | [.ref o 0] => match objs o with
    | some (.live [c]) => bif isUa c then some o else none
    | _ => none
  | _ => none
def Sh.scal : Sh → Bool
  | .int _ => true
  | .bool => true
  | _ => false
def holdsRef (v : AV) : Bool := match v with | .ref _ _ => true | _ => false
def elemsV (uq : Bool) (td : TD) : List AV → List (Nat × Operand) → List AV → (List AV → α) → α
  | z, [], [], k => k z
  | z, (i, _) :: ps, v :: vs, k => lit A (((demS td.sh v).flat || (uq && holdsRef v)) && Nat.blt i z.length) (cellsAs A td (demS td.sh v) fun _ => elemsV uq td (z.set i (demS td.sh v)) ps vs k)
  | _, _, _, _ => A.fail
def zeroOf (td : TD) : AV := bif td.isAgg then .agg td.zero else td.zero.headD .undef
def isNil (m : Md) : Bool := match m with | .nil => true | _ => false
def isStr (td : TD) : Bool := match td.k with | .str => true | _ => false
def putC (x : AV) (cs : List AV) (k : AV → α) : α :=
  match x with
  | .agg _ => k (.agg cs)
  | _ => asC A cs fun c r => asN A r (k c)
def srcV (w : Nat) (y : AV) (cl : Cl) (k : List AV → α) : α :=
  match y with
  | .lst m' w' r => lit A (Nat.beq w' w || isNil m') (k r)
  | .sq q w' => lit A (Nat.beq w' w) (asRow A (cl q) fun r => lit A (r.all AV.flat) (k r))
  | _ => A.fail
def appV (uq : Bool) (d sz : Nat) (x : AV) (r : List AV) (objs : Os) (cl : Cl) (len : Nat → α → α) (k : AV → Os → Cl → α) : α :=
  match x with
  | .lst .nil _ _ => len 0 (bif uq then freshN A cl (.T d) (k (.sq (.T d) sz) objs (updN cl (.T d) (.row r))) else freshN A cl (.T d) (k (.lst (.own (.T d)) sz r) objs (updN cl (.T d) .own)))
  | .lst (.own q) w l => len l.length (lit A (Nat.beq w sz && isOwn (cl q)) (freshN A cl (.T d) (k (.lst (.own (.T d)) sz (l ++ r)) objs (updN (updN cl q .dead) (.T d) .own))))
  | .sq q w => asRow A (cl q) fun l => len l.length (lit A (Nat.beq w sz) (freshN A cl (.T d) (k (.sq (.T d) sz) objs (updN (updN cl q .dead) (.T d) (.row (l ++ r))))))
  | _ => A.fail
def isBc (v : AV) : Bool := match v with | .bclo _ _ => true | _ => false
def uaAt (objs : Os) (o : Nat) : Option (Nm × Nat × Nat) := match objs o with | some (.live [.ua q _ i j]) => some (q, i, j) | _ => none
def rowAt (objs : Os) (o : Nat) : Option (Nm × Nat × Int) := match objs o with | some (.live [.sq q w, .int .i64 n]) => some (q, w, n) | _ => none
def refAt (caps vs : List AV) : Option Nat := match caps, vs with | [], [.ref o 0] => some o | _, _ => none
def spcV (s : Spc) (caps vs : List AV) (objs : Os) (cl : Cl) (k : AV → Os → Cl → α) : α :=
  match s with
  | .rev sz => (match vs, caps with
    | [.sq q w], [] => lit A (Nat.beq w sz) (asRow A (cl q) fun l => k (.tup []) objs (updN cl q (.row l.reverse)))
    | _, _ => A.fail)
  | .pin sz off => orFail A (refAt caps vs) fun o => orFail A (rowAt objs o) fun u => lit A (Nat.beq u.2.1 sz) (asRow A (cl u.1) fun l => idxN A u.2.2 l.length fun p => k (.ua u.1 sz p off) objs cl)
  | .out sz sh z => orFail A (refAt caps vs) fun o => orFail A (rowAt objs o) fun u => lit A (Nat.beq u.2.1 sz) (asRow A (cl u.1) fun l => nthI A u.2.2 l fun e => shape A sh e fun e => A.chk e.flat (
      k e (upd objs o (.live [.sv u.1 sz (l.length - 1), .int .i64 u.2.2])) (updN cl u.1 (.row (l.take u.2.2.toNat ++ l.drop (u.2.2.toNat + 1) ++ [z])))))
def opV (T : Tab) (d : Nat) (op : Op) (vs : List AV) (objs : Os) (cl : Cl) (k : AV → Os → Cl → α) : α :=
  match op, vs with
  | .alloc t, [] => lit A ((T.ty t).known && !(T.ty t).zero.isEmpty) (fresh A objs (ob d) (k (.ref (ob d) 0) (upd objs (ob d) (.live (T.ty t).zero)) cl))
  | .box t _, [x] => cellsAs A (T.ty t) x fun cs => fresh A objs (ob d) (k (.ref (ob d) 0) (upd objs (ob d) (.live cs)) cl)
  | .store t _ _, [a, x] =>
    match a with
    | .ref o i => match objs o with
      | some (.live l) => cellsAs A (T.ty t) x fun cs => A.chk (Nat.ble (i + cs.length) l.length) (k (.tup []) (upd objs o (.live (setAt l i cs))) cl)
      | _ => A.fail
    | .ua q w i j => asRow A (cl q) fun l => nthE A l i fun e => cellsAs A (T.ty t) x fun cs => A.chk (Nat.ble (j + cs.length) e.cells.length) (putC A e (setAt e.cells j cs) fun e' => A.chk e'.flat (k (.tup []) objs (updN cl q (.row (l.set i e')))))
    | _ => A.fail
  | .load t _, [.ua q w i j] => asRow A (cl q) fun l => nthE A l i fun e => part A (T.ty t) e.cells j fun v => shape A (T.ty t).sh v fun v => k v objs cl
  | .indexAddr t _ _, [.sq q w, .int _ n] => match (T.ty t).k with
    | .slice e => lit A (Nat.beq w (T.ty e).size && (T.ty e).known) (asRow A (cl q) fun l => idxN A n l.length fun n => k (.ua q w n 0) objs cl)
    | _ => A.fail
  | .indexAddr t _ _, [.sv q w m, .int _ n] => match (T.ty t).k with
    | .slice e => lit A (Nat.beq w (T.ty e).size && (T.ty e).known) (idxN A n m fun n => k (.ua q w n 0) objs cl)
    | _ => A.fail
  | .makeSlice t _ _, [.int .i64 n, .int .i64 c] => match (T.ty t).k with
    | .slice e => lit A (Nat.blt 0 (T.ty e).size && Nat.blt 0 (T.ty e).bytes && (T.ty e).known && !(T.ty e).zero.isEmpty && (demS (T.ty e).sh (zeroOf (T.ty e))).flat) (A.chk (decide (0 ≤ n) && decide (n ≤ c) && decide (c * (T.ty e).bytes ≤ 140737488355328)) (
        freshN A cl (.T d) (k (.sq (.T d) (T.ty e).size) objs (updN cl (.T d) (.row (List.replicate n.toNat (demS (T.ty e).sh (zeroOf (T.ty e)))))))))
    | _ => A.fail
  | .buildSlice t len parts, vs => match (T.ty t).k with
    | .slice e => bif Nat.beq len 0 then lit A (parts.isEmpty && Nat.blt 0 (T.ty e).size && (T.ty e).known) (freshN A cl (.T d) (bif T.uq d then k (.sq (.T d) (T.ty e).size) objs (updN cl (.T d) (.row [])) else k (.lst (.own (.T d)) (T.ty e).size []) objs (updN cl (.T d) .own)))
      else lit A (Nat.blt 0 len && Nat.ble (len * (T.ty e).size) 16777216 && Nat.blt 0 (T.ty e).size && (T.ty e).known && !(T.ty e).zero.isEmpty && (demS (T.ty e).sh (zeroOf (T.ty e))).flat) (elemsV A (T.uq d) (T.ty e) (List.replicate len (demS (T.ty e).sh (zeroOf (T.ty e)))) parts.toList vs fun es =>
        freshN A cl (.T d) (bif T.uq d then k (.sq (.T d) (T.ty e).size) objs (updN cl (.T d) (.row es)) else k (.lst (.own (.T d)) (T.ty e).size es) objs (updN cl (.T d) .own)))
    | _ => A.fail
  | .makeFunc (.func f) first _, vs => lit A first.isEmpty (match capB vs objs with
    | some o => k (.bclo f o) objs cl
    | none => capsV A vs objs fun cs objs => k (.clo f cs) objs cl)
  | .call { callee := .builtin .append, args := _, argTypes }, [x, y] =>
    match argTypes.toList with
    | t :: u :: _ => match (T.ty t).k with
      | .slice e =>
        let td := T.ty e
        lit A (td.known && !td.zero.isEmpty) <|
        match y with
        | .str s => lit A (isU8 T t && isStr (T.ty u) && Nat.beq td.size 1 && Nat.beq td.bytes 1) (appV A (T.uq d) d 1 x (encB s) objs cl (fun n y => A.chk (decide (n + s.length ≤ 211106232532992)) y) k)
        | y => srcV A td.size y cl fun r => lit A (Nat.beq t u && Nat.blt 0 td.size && Nat.blt 0 td.bytes && Nat.ble td.bytes 1048576) (appV A (T.uq d) d td.size x r objs cl (fun n y => A.chk (decide ((n + r.length) * td.bytes ≤ 211106232532992)) y) k)
      | _ => A.fail
    | _ => A.fail
  | .call { callee := .builtin .copy, args := _, argTypes }, [.sq q w, y] =>
    match argTypes.toList with
    | t :: u :: _ => match (T.ty t).k with
      | .slice e => lit A (Nat.beq t u && Nat.beq w (T.ty e).size && Nat.blt 0 (T.ty e).size && (T.ty e).known) (asRow A (cl q) fun l => srcV A w y cl fun r => lit A (r.all AV.flat)
          (k (.int .i64 (min r.length l.length)) objs (updN cl q (.row (r.take l.length ++ l.drop r.length)))))
      | _ => A.fail
    | _ => A.fail
  | .call { callee := .builtin .len, args := _, argTypes }, [.sq q w] =>
    match argTypes.toList with
    | [t] => match (T.ty t).k with
      | .slice _ => asRow A (cl q) fun l => A.asm (l.length ≤ maxL) (k (.int .i64 l.length) objs cl)
      | _ => A.fail
    | _ => A.fail
  | .convert s t _, [.sq q w] =>
    match (T.ty t).k with
    | .str => lit A (isU8 T s && Nat.beq w 1) (asRow A (cl q) fun l => orFail A (bytesOf l) fun b => k (.str b) objs cl)
    | _ => A.fail
  | .convert s t _, [x] =>
    match (T.ty t).k, x with
    | .slice _, .str b => lit A (isU8 T t && (T.ty s).known) (k (.lst .ro 1 (encB b)) objs cl)
    | _, x => conv A T s t x fun v => k v objs cl
  | .call { callee := .value _, args := _, argTypes }, f :: vs =>
    match f with
    | .clo f caps => lit A (T.fn f && caps.all AV.flat1) <|
      match T.spc f with
      | some s => spcV A s caps vs objs cl k
      | none => bif vs.any isBc then (match vs with
        | [x, .bclo g o] => orFail A (uaAt objs o) fun u => asRow A (cl u.1) fun l => nthE A l u.2.1 fun e => A.chk (e.cells.all AV.flat1) (
            lit A ((T.res f).all Sh.scal && !(T.ash f).any Sh.owned && (demArgs T [x, .clo g [.rp [.rp e.cells u.2.2] 0]] argTypes.toList).all AV.flat && Nat.beq 2 argTypes.toList.length) (A.callx f (demArgs T [x, .clo g [.rp [.rp e.cells u.2.2] 0]] argTypes.toList ++ caps) fun res => resX A (T.res f) res fun vs => k (one1 vs) objs cl))
        | _ => A.fail)
      else bif vs.any holdsRef || (T.res f).any Sh.owned || (T.ash f).any Sh.owned then
        argsV A T 0 (T.ash f) vs argTypes.toList objs cl fun as1 ins bk objs cl =>
          A.call f (as1 ++ caps) ins fun res outs => outsV A d bk outs objs cl fun outs objs cl => resV A d 0 (T.res f) res outs objs cl fun vs objs cl => k (one1 vs) objs cl
      else lit A ((demArgs T vs argTypes.toList).all AV.flat && Nat.beq vs.length argTypes.toList.length) (A.callx f (demArgs T vs argTypes.toList ++ caps) fun res => resX A (T.res f) res fun vs => k (one1 vs) objs cl)
    | _ => A.fail
  | op, vs => pureV A T op vs objs fun v => k v objs cl
def fzV (q : Nm) (l : List AV) (v : AV) : AV := match v with | .sq q' w => bif Nm.beq q q' then .lst .ro w l else v | v => v
def fzW (q : Nm) (l : List AV) (v : AV) : AV := match v with | .agg cs => .agg (cs.map (fzV q l)) | .tup vs => .tup (vs.map fun v => match v with | .agg cs => .agg (cs.map (fzV q l)) | v => fzV q l v) | v => fzV q l v
def fzO (q : Nm) (l : List AV) (o : Option Ob) : Option Ob := match o with | some (.live cs) => some (.live (cs.map (fzV q l))) | o => o
def rowsIn (v : AV) : List Nm := match v with | .sq q _ => [q] | _ => []
def rowsOf (v : AV) : List Nm := match v with | .agg cs => cs.flatMap rowsIn | .tup vs => vs.flatMap (fun v => match v with | .agg cs => cs.flatMap rowsIn | v => rowsIn v) | v => rowsIn v
def rowsAt (env : Ev) (objs : Os) (t : Nat) : List Nm := match env t with | some (.ref o _) => (match objs o with | some (.live cs) => cs.flatMap rowsIn | _ => []) | some v => rowsOf v | none => []
def stillV : List Nm → Ev → Os → Cl → (Ev → Os → Cl → α) → α
  | [], env, objs, cl, k => k env objs cl
  | q :: qs, env, objs, cl, k => asRow A (cl q) fun l => lit A (l.all AV.flat) (stillV qs (fun t => (env t).map (fzW q l)) (fun o => fzO q l (objs o)) (updN cl q .dead) k)
def stillT : List Nat → Ev → Os → Cl → (Ev → Os → Cl → α) → α
  | [], env, objs, cl, k => k env objs cl
  | t :: ts, env, objs, cl, k => stillV A (rowsAt env objs t) env objs cl fun env objs cl => stillT ts env objs cl k
def stillR : List Nm → AV → Cl → (AV → Cl → α) → α
  | [], v, cl, k => k v cl
  | q :: qs, v, cl, k => asRow A (cl q) fun l => lit A (l.all AV.flat) (stillR qs (fzW q l v) (updN cl q .dead) k)
def noDst : Nat := 65535
def isSkip (v : AV) : Bool := match v with | .tup [] => true | _ => false
theorem z96 {v : AV} (h : isSkip v = true) : v = .tup [] := by
  cases v <;> first | (cases h; done) | skip
  rename_i l
  cases l <;> first | rfl | (cases h; done)
def stepV (T : Tab) (ops : Array Oper) (o : Oper) (env : Ev) (objs : Os) (cl : Cl) (k : Ev → Os → Cl → α) : α :=
  let go (env : Ev) : α := orFail A (opvs env o.op.operands.toList) fun vs => opV A T (o.dst.getD noDst) o.op vs objs cl fun v objs cl => bif T.fz (o.dst.getD noDst) then stillR A (rowsOf v) v cl fun v cl => k (setE env o.dst v) objs cl else k (setE env o.dst v) objs cl
  match o.guard with
  | none => go env
  | some (j, want) => orFail A (match ops[j]? with | some g => g.dst | none => none) fun t => orFail A (env t) fun b => bif isSkip b then k (setE env o.dst (.tup [])) objs cl else asB A b fun b =>
      bif b then (bif want then go (upd env t (.bool true)) else k (setE (upd env t (.bool true)) o.dst (.tup [])) objs cl)
      else (bif want then k (setE (upd env t (.bool false)) o.dst (.tup [])) objs cl else go (upd env t (.bool false)))
def stepsV (T : Tab) (ops : Array Oper) : List Oper → Ev → Os → Cl → (Ev → Os → Cl → α) → α
  | [], env, objs, cl, k => k env objs cl
  | o :: l, env, objs, cl, k => stepV A T ops o env objs cl fun env objs cl => stepsV T ops l env objs cl k
end
end V
namespace V
section
variable {α : Type} (A : Alg α)
def isStill (T : Tab) (op : Op) (vs : List AV) : Bool :=
  match op, vs with
  | .alloc _, _ => false
  | .box _ _, _ => false
  | .store _ _ _, _ => false
  | .buildSlice _ _ _, _ => false
  | .makeFunc _ _ _, _ => false
  | .makeSlice _ _ _, _ => false
  | .call { callee := .builtin .append, .. }, _ => false
  | .call { callee := .builtin .copy, .. }, _ => false
  | .call { callee := .value _, .. }, .clo f _ :: vs => !(T.spc f).isSome && !(vs.any isBc) && !(vs.any holdsRef || (T.res f).any Sh.owned || (T.ash f).any Sh.owned)
  | _, _ => true
def isP (T : Tab) (op : Op) (vs : List AV) (objs : Os) : Bool :=
  match op, vs with
  | .alloc _, _ => false
  | .box _ _, _ => false
  | .store _ _ _, _ => false
  | .buildSlice _ _ _, _ => false
  | .makeFunc _ _ _, _ => false
  | .makeSlice _ _ _, _ => false
  | .load _ _, [.ref o _] => match objs o with | some (.frz _) => true | _ => false
  | .load _ _, [.ua _ _ _ _] => false
  | .indexAddr _ _ _, [.sq _ _, _] => false
  | .indexAddr _ _ _, [.sv _ _ _, _] => false
  | .convert _ _ _, [.sq _ _] => false
  | .convert _ t _, _ => match (T.ty t).k with | .slice _ => false | _ => true
  | .call { callee := .builtin .append, .. }, _ => false
  | .call { callee := .builtin .copy, .. }, _ => false
  | .call { callee := .builtin .len, .. }, [.sq _ _] => false
  | .call { callee := .value _, .. }, _ => false
  | _, _ => true
def isPnow (T : Tab) (ops : Array Oper) (env : Ev) (objs : Os) (i : Nat) : Bool :=
  match ops[i]? with
  | some o => match opvs env o.op.operands.toList with | some vs => !T.fz (o.dst.getD noDst) && isP T o.op vs objs | none => false
  | none => false
def allOf (f : Nat → α) : List Nat → α
  | [] => A.fail
  | [i] => f i
  | i :: l => A.both (f i) (allOf f l)
def drawV (T : Tab) (ops : Array Oper) : Nat → Array Bool → Ev → Os → Cl → (Ev → Os → Cl → α) → α
  | 0, listed, env, objs, cl, k => lit A (Region.ready .any ops listed).isEmpty (k env objs cl)
  | fuel + 1, listed, env, objs, cl, k =>
    match Region.ready .any ops listed with
    | [] => k env objs cl
    | r :: rs =>
      match (r :: rs).find? (isPnow T ops env objs) with
      | some i => lit A (Region.free .any ops listed i) (orFail A ops[i]? fun o => stepV A T ops o env objs cl fun env objs cl => drawV T ops fuel (listed.setIfInBounds i true) env objs cl k)
      | none => allOf A (fun i => orFail A ops[i]? fun o => stepV A T ops o env objs cl fun env objs cl => drawV T ops fuel (listed.setIfInBounds i true) env objs cl k) (r :: rs)
def clrE : List Oper → Ev → Ev
  | [], env => env
  | o :: l, env => clrE l (setE env o.dst .undef)
def stepsJ (T : Tab) (ops : Array Oper) : List Oper → Ev → Os → Cl → (Ev → α) → α
  | [], env, _, _, k => k env
  | o :: l, env, objs, cl, k => lit A (!T.fz (o.dst.getD noDst) && match opvs env o.op.operands.toList with | some vs => isStill T o.op vs | none => o.guard.isSome) (stepV A T ops o env objs cl fun env _ _ => stepsJ T ops l env objs cl k)
def joinV (T : Tab) (ops : Array Oper) (t : Nat) (env : Ev) (objs : Os) (cl : Cl) (k : Ev → α) : α :=
  A.join (fun kb => stepsJ A T ops ops.toList env objs cl fun env => orFail A (env t) fun v => asB A v kb) fun b => k (upd (clrE ops.toList env) t (.bool b))
def firstR : Code → Nat
  | .region id _ _ => id
  | .seq a _ => firstR a
  | .block _ b => firstR b
  | .loop b => firstR b
  | .cond _ a _ => firstR a
  | _ => 0
def isRef (o i : Nat) (v : AV) : Bool := match v with | .ref o' i' => Nat.beq o' o && Nat.beq i' i | _ => false
def keepE (kept : Nat → Bool) : List (Nat × Sh) → Ev → Cl → (List AV → Cl → α) → α
  | [], _, cl, k => k [] cl
  | (t, sh) :: l, env, cl, k => orFail A (env t) fun v =>
    match sh with
    | .at o i => lit A (isRef o i v && kept o) (keepE kept l env cl k)
    | sh => exp1 A sh (.L t) v cl fun v cl => keepE kept l env cl fun es cl => k (v :: es) cl
def isFrz (shs : List Sh) : Bool := match shs with | .at _ _ :: _ => true | _ => false
def keepO : List (Nat × List Sh) → Os → Cl → (List (List AV) → Cl → α) → α
  | [], _, cl, k => k [] cl
  | (o, shs) :: l, objs, cl, k =>
    match objs o with
    | some (.live cs) => lit A (!isFrz shs) (expC A (Nm.O o) shs 0 cs cl fun cs cl => keepO l objs cl fun os cl => k (cs :: os) cl)
    | some (.frz cs) => lit A (isFrz shs) (keepO l objs cl fun os cl => k (cs :: os) cl)
    | _ => A.fail
def nm0 (nm : Nm) (v : AV) : List (Nm × Cs) := match v with | .lst (.own q) _ _ => [(q, .own)] | .lst .uq _ l => [(nm, .row l)] | _ => []
def nmC (nm : Nat → Nm) : Nat → List AV → List (Nm × Cs)
  | _, [] => []
  | i, v :: l => nm0 (nm i) v ++ nmC nm (i + 1) l
def nm1 (nm : Nm) (v : AV) : List (Nm × Cs) := match v with | .agg l => nmC (subN nm) 0 l | v => nm0 nm v
def nmS (sh : Sh) (nm : Nm) (v : AV) : List (Nm × Cs) := bif isUqs sh then nm1 nm v else nm0 nm v
def zipE : List (Nat × Sh) → List AV → List (Nat × AV)
  | [], _ => []
  | (t, sh) :: l, vs => match sh with
    | .at o i => (t, .ref o i) :: zipE l vs
    | _ => match vs with
      | v :: vs => (t, frS sh (.L t) v) :: zipE l vs
      | [] => []
def isArr (shs : List Sh) : Bool := match shs with | [.arr] => true | _ => false
def zipO : List (Nat × List Sh) → List (List AV) → List (Nat × Ob)
  | (o, shs) :: l, cs :: os => (o, bif isFrz shs then .frz cs else .live (bif isArr shs then cs else frC (.O o) 0 cs)) :: zipO l os
  | _, _ => []
def nmsE : List (Nat × Sh) → List AV → List (Nm × Cs)
  | [], _ => []
  | (t, sh) :: l, vs => match sh with
    | .at _ _ => nmsE l vs
    | _ => match vs with
      | v :: vs => nmS sh (.L t) v ++ nmsE l vs
      | [] => []
def nmsO : List (Nat × List Sh) → List (List AV) → List (Nm × Cs)
  | (o, shs) :: l, cs :: os => (bif isFrz shs || isArr shs then [] else nmC (.O o) 0 cs) ++ nmsO l os
  | _, _ => []
def nodupN : List Nat → Bool
  | [] => true
  | x :: l => !(l.any fun y => Nat.beq x y) && nodupN l
def flatV (sp : Spec) (env : Ev) (objs : Os) (cl : Cl) (k : List AV → List (List AV) → α) : α :=
  lit A (nodupN (sp.1.map (·.1)) && nodupN (sp.2.map (·.1)))
    (keepE A (fun o => sp.2.any fun p => Nat.beq p.1 o) sp.1 env cl fun vs cl => keepO A sp.2 objs cl fun os _ => k vs os)
def clZ (sp : Spec) (vs : List AV) (os : List (List AV)) : Cl := ofN (nmsE sp.1 vs ++ nmsO sp.2 os)
def shN (sh : Sh) (nm : Nm) (v : AV) (k : AV → α) : α :=
  match sh with
  | .own w => asOwn A w v fun q l => lit A (Nm.beq q nm) (k (.lst (.own nm) w l))
  | sh => shape A sh v k
def shE : List (Nat × Sh) → List AV → (List AV → α) → α
  | [], vs, k => asN A vs (k [])
  | (t, sh) :: l, vs, k => match sh with
    | .at _ _ => shE l vs k
    | sh => asC A vs fun v vs => shN A sh (.L t) v fun v => shE l vs fun r => k (v :: r)
def shC (nm : Nat → Nm) : Nat → List Sh → List AV → (List AV → α) → α
  | _, [], cs, k => asN A cs (k [])
  | _, [.arr], cs, k => k cs
  | i, sh :: shs, cs, k => asC A cs fun v cs => shN A sh (nm i) v fun v => shC nm (i + 1) shs cs fun r => k (v :: r)
def shO : List (Nat × List Sh) → List (List AV) → (List (List AV) → α) → α
  | [], os, k => asN A os (k [])
  | (o, shs) :: l, os, k => asC A os fun cs os => shC A (Nm.O o) 0 (bif isFrz shs then shs.drop 1 else shs) cs fun cs => shO l os fun r => k (cs :: r)
def xcode (x : Option Nat) : Nat := match x with | none => 0 | some i => i + 1
def bid (r : Nat) : Nat := r + 1000000
def isL (id : Nat) : Bool := Nat.blt id 1000000
def xt (x : Option Nat) : Xt := match x with | none => .ret | some i => bif Nat.beq i 50000 then .normal else .exit i
def pickX : List (Option Nat × Spec) → Nat → (Option Nat → Spec → α) → α
  | [], _, _ => A.fail
  | (x, sp) :: l, j, k => bif Nat.beq j (xcode x) then k x sp else pickX l j k
def findX : List (Option Nat × Spec) → Option Nat → (Spec → α) → α
  | [], _, _ => A.fail
  | (x, sp) :: l, y, k => bif Nat.beq (xcode y) (xcode x) then k sp else findX l y k
def loopV (sp : Spec) (out : List (Option Nat × Spec)) (id : Nat) (env : Ev) (objs : Os) (cl : Cl) (k : Xt → Ev → Os → Cl → α) : α :=
  flatV A sp env objs cl fun vs os => A.loop id vs os fun j vs os => pickX A out j fun x sp =>
    shE A sp.1 vs fun vs => shO A sp.2 os fun os => k (xt x) (ofL (zipE sp.1 vs)) (ofL (zipO sp.2 os)) (clZ sp vs os)
def roundV (id : Nat) (sp : Spec) (out : List (Option Nat × Spec)) (body : Ev → Os → Cl → (Xt → Ev → Os → Cl → α) → α) (vs : List AV) (os : List (List AV)) (next : List AV → List (List AV) → α) (k : Nat → List AV → List (List AV) → α) : α :=
  body (ofL (zipE sp.1 vs)) (ofL (zipO sp.2 os)) (clZ sp vs os) fun e env objs cl =>
    match e with
    | .normal => bif isL id then flatV A sp env objs cl next else findX A out (some 50000) fun sp => flatV A sp env objs cl (k 50001)
    | .exit id => lit A (Nat.blt id 50000) (findX A out (some id) fun sp => flatV A sp env objs cl (k (id + 1)))
    | .ret => findX A out none fun sp => flatV A sp env objs cl (k 0)
def condE (env : Ev) (c : Operand) (b : Bool) : Ev := match c with | .tmp t => upd env t (.bool b) | _ => env
def freezeV : List Nat → Os → (Os → α) → α
  | [], objs, k => k objs
  | o :: l, objs, k => match objs o with
    | some (.live cs) => lit A ((cs.map AV.dem1).all AV.flat1) (freezeV l (upd objs o (.frz (cs.map AV.dem1))) k)
    | _ => freezeV l objs k
def unrV (f : Ev → Os → Cl → (Xt → Ev → Os → Cl → α) → α) : Nat → Ev → Os → Cl → (Xt → Ev → Os → Cl → α) → α
  | 0, _, _, _, _ => A.fail
  | n + 1, env, objs, cl, k => f env objs cl fun e env objs cl =>
    match e with
    | .normal => unrV f n env objs cl k
    | .exit id => k (.exit id) env objs cl
    | .ret => k .ret env objs cl
def isRd (op : Op) : Bool :=
  match op with
  | .move _ => true
  | .assign _ => true
  | .pick _ _ _ => true
  | .binOp _ _ _ _ _ => true
  | .unOp _ _ _ => true
  | .nilCheck _ => true
  | .fieldAddr _ _ _ => true
  | .field _ _ _ => true
  | .load _ _ => true
  | .indexAddr _ _ _ => true
  | .index _ _ _ => true
  | .extract _ _ => true
  | .build _ _ => true
  | .call { callee := .builtin .len, .. } => true
  | .call { callee := .builtin .min, .. } => true
  | .call { callee := .builtin .max, .. } => true
  | _ => false
def rdR (T : Tab) (ops : Array Oper) : Bool := ops.toList.all (fun o => isRd o.op && !T.fz (o.dst.getD noDst)) && Region.lexB .any ops
def tabAt (T : Tab) (an : Ann) : Tab := { T with uq := an.uq, fz := an.fz }
def run (T : Tab) (an : Ann) : Code → Ev → Os → Cl → (Xt → Ev → Os → Cl → α) → α
  | .skip, env, objs, cl, k => k .normal env objs cl
  | .region id ops draw, env, objs, cl, k => freezeV A (an.frz id) objs fun objs => stillT A (an.fzr id) env objs cl fun env objs cl =>
    bif draw && !rdR (tabAt T an) ops then drawV A (tabAt T an) ops ops.size (Array.replicate ops.size false) env objs cl fun env objs cl => k .normal env objs cl
    else match an.join id with
      | none => stepsV A (tabAt T an) ops ops.toList env objs cl fun env objs cl => k .normal env objs cl
      | some t => joinV A (tabAt T an) ops t env objs cl fun env => k .normal env objs cl
  | .seq a b, env, objs, cl, k => run T an a env objs cl fun e env objs cl =>
    match e with
    | .normal => bif an.meet (firstR b) then loopV A (an.loop (bid (firstR b))) (an.out (bid (firstR b))) (bid (firstR b)) env objs cl k else run T an b env objs cl k
    | .exit id => k (.exit id) env objs cl
    | .ret => k .ret env objs cl
  | .cond c a b, env, objs, cl, k => orFail A (opv env c) fun v => asB A v fun v =>
    bif v then run T an a (condE env c true) objs cl k else run T an b (condE env c false) objs cl k
  | .block id body, env, objs, cl, k => run T an body env objs cl fun e env objs cl =>
    match e with
    | .normal => k .normal env objs cl
    | .exit j => bif Nat.beq j id then k .normal env objs cl else k (.exit j) env objs cl
    | .ret => k .ret env objs cl
  | .loop body, env, objs, cl, k => match an.unr (firstR body) with
    | 0 => loopV A (an.loop (firstR body)) (an.out (firstR body)) (firstR body) env objs cl k
    | n + 1 => unrV A (run T an body) (n + 1) env objs cl k
  | .exit id, env, objs, cl, k => k (.exit id) env objs cl
  | .ret, env, objs, cl, k => k .ret env objs cl
  | _, _, _, _, _ => A.fail
def retV (T : Tab) : List ResultVar → Ev → Os → (List AV → α) → α
  | [], _, _, k => k []
  | .tmp t :: l, env, objs, k => orFail A (env t) fun v => retV T l env objs fun r => k (v :: r)
  | .cell t ty :: l, env, objs, k => orFail A (env t) fun a =>
    match a with
    | .ref o i => match objs o with
      | some (.live cs) => part A (T.ty ty) cs i fun v => retV T l env objs fun r => k (v :: r)
      | some (.frz cs) => part A (T.ty ty) cs i fun v => retV T l env objs fun r => k (v :: r)
      | _ => A.fail
    | _ => A.fail
def expR : Nat → List Sh → List AV → Os → Cl → (List AV → List (Nat × List AV) → Cl → α) → α
  | _, [], vs, _, cl, k => asN A vs (k [] [] cl)
  | r, sh :: shs, vs, objs, cl, k => asC A vs fun v vs =>
    match sh with
    | .obj os => match v with
      | .ref o 0 => match objs o with
        | some (.live cs) => expC A (Nm.E (64 + r)) os 0 cs cl fun cs cl => expR (r + 1) shs vs (upd objs o .dead) cl fun vs outs cl => k (.ref (64 + r) 0 :: vs) ((64 + r, cs) :: outs) cl
        | _ => A.fail
      | _ => A.fail
    | sh => exp1 A sh (.R r) v cl fun v cl => expR (r + 1) shs vs objs cl fun vs outs cl => k (v :: vs) outs cl
def expO : List (Nat × List Sh) → Os → Cl → (List (Nat × List AV) → Os → Cl → α) → α
  | [], objs, cl, k => k [] objs cl
  | (j, shs) :: l, objs, cl, k =>
    match objs j with
    | some (.live cs) => expC A (Nm.E j) shs 0 cs cl fun cs cl => expO l (upd objs j .dead) cl fun outs objs cl => k ((j, cs) :: outs) objs cl
    | _ => A.fail
def nmsI : List (Nat × List AV) → List (Nm × Cs)
  | [] => []
  | p :: l => nmC (.E p.1) 0 p.2 ++ nmsI l
def nmsA : Nat → List AV → List (Nm × Cs)
  | _, [] => []
  | j, v :: l => nm1 (.Y 3 j 0 0) v ++ nmsA (j + 1) l
def frA : Nat → List AV → List AV
  | _, [] => []
  | j, v :: l => fr1 (.Y 3 j 0 0) v :: frA (j + 1) l
def fitC (v : AV) : Bool := match v with | .lst (.own _) _ _ => true | .lst .uq _ l => l.all AV.flat | v => v.flat
def fitI (ins : List (Nat × List AV)) : Bool := ins.all fun p => Nat.blt p.1 64 && p.2.all fitC
def fitA (v : AV) : Bool := match v with | .ref _ _ => true | .agg l => l.all fitC | v => fitC v
def runF (T : Tab) (an : Ann) (fn : Func) (body : Code) (rs : List Sh) (osh : List (Nat × List Sh)) (args : List AV) (ins : List (Nat × List AV)) (k : List AV → List (Nat × List AV) → α) : α :=
  lit A (fitI ins && args.all fitA && nodupN (osh.map (·.1)) && osh.all fun p => Nat.blt p.1 64) <| run A T an body (fun j => (frA 0 args)[j]?) (ofL (ins.map fun p => (p.1, Ob.live (frC (.E p.1) 0 p.2)))) (ofN (nmsA 0 args ++ nmsI ins)) fun e env objs cl =>
    match e with
    | .exit _ => A.fail
    | _ => stillT A (an.fzr 999999) env objs cl fun env objs cl => retV A T fn.results.toList env objs fun vs => expO A osh objs cl fun outs objs cl => expR A 0 rs vs objs cl fun vs news _ => k vs (outs ++ news)
end
end V
namespace V
structure AlgRel {α β ι : Type} (A : Alg α) (B : Alg β) (R : ι → α → β → Prop) : Prop where
  fail : ∀ i y, R i A.fail y
  chk : ∀ i b x y, R i x y → R i (A.chk b x) (B.chk b y)
  asm : ∀ i p x y, R i x y → R i (A.asm p x) (B.asm p y)
  amb : ∀ i f g, (∀ b, R i (f b) (g b)) → R i (A.amb f) (B.amb g)
  call : ∀ i f as1 ins k k', (∀ r o, R i (k r o) (k' r o)) → R i (A.call f as1 ins k) (B.call f as1 ins k')
  callx : ∀ i f as1 k k', (∀ r, R i (k r) (k' r)) → R i (A.callx f as1 k) (B.callx f as1 k')
  both : ∀ i x y x' y', R i x x' → R i y y' → R i (A.both x y) (B.both x' y')
  join : ∀ i f f' k k', (∀ j kb kb', (∀ b, R j (kb b) (kb' b)) → R j (f kb) (f' kb')) → (∀ b, R i (k b) (k' b)) → R i (A.join f k) (B.join f' k')
  loop : ∀ i id vs os k k', (∀ j vs os, R i (k j vs os) (k' j vs os)) → R i (A.loop id vs os k) (B.loop id vs os k')
section
variable {α β ι : Type} {A : Alg α} {B : Alg β} {R : ι → α → β → Prop} (H : AlgRel A B R) {i : ι}
include H
theorem r_lit {b : Bool} {x : α} {y : β} (h : R i x y) : R i (lit A b x) (lit B b y) := by cases b; exact H.fail _ _; exact h
theorem r_chk {b : Bool} {x : α} {y : β} (h : R i x y) : R i (A.chk b x) (B.chk b y) := H.chk _ _ _ _ h
theorem z19 {γ : Type} {o : Option γ} {k : γ → α} {k' : γ → β} (h : ∀ b, R i (k b) (k' b)) : R i (orFail A o k) (orFail B o k') := by cases o; exact H.fail _ _; exact h _
theorem z7r {γ : Type} {l : List γ} {n : Nat} {k : γ → α} {k' : γ → β} (h : ∀ b, R i (k b) (k' b)) : R i (nthE A l n k) (nthE B l n k') := by unfold nthE; cases l[n]?; exact H.fail _ _; exact h _
theorem zhr {γ : Type} {l : List γ} {n : Int} {k : γ → α} {k' : γ → β} (h : ∀ b, R i (k b) (k' b)) : R i (nthI A n l k) (nthI B n l k') := r_chk H (z7r H h)
theorem z97 {n : Int} {m : Nat} {k : Nat → α} {k' : Nat → β} (h : ∀ b, R i (k b) (k' b)) : R i (idxN A n m k) (idxN B n m k') := r_chk H (h _)
theorem r_asI' {ik : IntKind} {v : AV} {k : Int → α} {k' : Int → β} (h : ∀ b, R i (k b) (k' b)) : R i (asI A ik v k) (asI B ik v k') := by
  cases v <;> first | exact H.fail _ _ | exact r_lit H (h _)
theorem r_asB' {v : AV} {k : Bool → α} {k' : Bool → β} (h : ∀ b, R i (k b) (k' b)) : R i (asB A v k) (asB B v k') := by
  cases v <;> first | exact H.fail _ _ | exact h _
theorem r_asS' {v : AV} {k : List UInt8 → α} {k' : List UInt8 → β} (h : ∀ b, R i (k b) (k' b)) : R i (asS A v k) (asS B v k') := by
  cases v <;> first | exact H.fail _ _ | exact h _
theorem r_asL' {w : Nat} {v : AV} {k : List AV → α} {k' : List AV → β} (h : ∀ b, R i (k b) (k' b)) : R i (asL A w v k) (asL B w v k') := by
  cases v
  case lst m w' l => cases m <;> first | exact r_lit H (h _) | exact H.fail _ _
  all_goals exact H.fail _ _
theorem r_asOwn' {w : Nat} {v : AV} {k : Nm → List AV → α} {k' : Nm → List AV → β} (h : ∀ q b, R i (k q b) (k' q b)) : R i (asOwn A w v k) (asOwn B w v k') := by
  cases v
  case lst m w' l => cases m <;> first | exact r_lit H (h _ _) | exact H.fail _ _
  all_goals exact H.fail _ _
theorem r_asUq' {w : Nat} {v : AV} {k : List AV → α} {k' : List AV → β} (h : ∀ b, R i (k b) (k' b)) : R i (asUq A w v k) (asUq B w v k') := by
  cases v
  case lst m w' l => cases m <;> first | exact r_lit H (h _) | exact H.fail _ _
  all_goals exact H.fail _ _
theorem r_asRow' {o : Option Cs} {k : List AV → α} {k' : List AV → β} (h : ∀ b, R i (k b) (k' b)) : R i (asRow A o k) (asRow B o k') := by
  cases o with
  | none => exact H.fail _ _
  | some c => cases c <;> first | exact h _ | exact H.fail _ _
theorem r_asA' {v : AV} {k : List AV → α} {k' : List AV → β} (h : ∀ b, R i (k b) (k' b)) : R i (asA A v k) (asA B v k') := by
  cases v <;> first | exact H.fail _ _ | exact h _
theorem r_asNilp' {v : AV} {k : α} {k' : β} (h : R i k k') : R i (asNilp A v k) (asNilp B v k') := by
  cases v <;> first | exact H.fail _ _ | exact h
theorem r_asC' {γ : Type} {l : List γ} {k : γ → List γ → α} {k' : γ → List γ → β} (h : ∀ x r, R i (k x r) (k' x r)) : R i (asC A l k) (asC B l k') := by
  cases l; exact H.fail _ _; exact h _ _
theorem r_asN' {γ : Type} {l : List γ} {k : α} {k' : β} (h : R i k k') : R i (asN A l k) (asN B l k') := by
  cases l; exact h; exact H.fail _ _
theorem zby {sh : Sh} {v : AV} {k : AV → α} {k' : AV → β} (h : ∀ b, R i (k b) (k' b)) : R i (shape1 A sh v k) (shape1 B sh v k') := by
  cases sh <;> simp only [shape1] <;> first
    | exact r_asI' H fun _ => h _ | exact r_asB' H fun _ => h _ | exact r_asS' H fun _ => h _ | exact r_asL' H fun _ => h _ | exact r_asOwn' H fun _ _ => h _ | exact r_asNilp' H (h _) | exact r_asUq' H fun _ => h _ | exact h _
theorem zbz : ∀ {shs : List Sh} {l : List AV} {k : List AV → α} {k' : List AV → β}, (∀ b, R i (k b) (k' b)) → R i (shapes A shs l k) (shapes B shs l k')
  | [], l, k, k', h => by simp only [shapes]; exact r_asN' H (h _)
  | [sh], l, k, k', h => by
    cases sh <;> simp only [shapes] <;> first
      | exact h _
      | exact r_asC' H fun v r => zby H fun v' => r_asN' H (h _)
  | sh :: sh2 :: shs, l, k, k', h => by
    have ih := fun r v' => zbz (shs := sh2 :: shs) (l := r) (k := fun r' => k (v' :: r')) (k' := fun r' => k' (v' :: r')) fun r' => h _
    cases sh <;> simp only [shapes] <;> exact r_asC' H fun v r => zby H fun v' => ih r v'
theorem z62 {sh : Sh} {v : AV} {k : AV → α} {k' : AV → β} (h : ∀ b, R i (k b) (k' b)) : R i (shape A sh v k) (shape B sh v k') := by
  cases sh <;> simp only [shape] <;> first
    | exact zby H h
    | exact r_asA' H fun l => zbz H fun _ => h _
theorem z6a {td : TD} {l : List AV} {n : Nat} {k : AV → α} {k' : AV → β} (h : ∀ b, R i (k b) (k' b)) : R i (part A td l n k) (part B td l n k') := by
  unfold part; refine r_lit H ?_; cases td.isAgg; exact z7r H h; exact r_chk H (h _)
theorem zxj {x : AV} {n : Nat} {k : AV → α} {k' : AV → β} (h : ∀ b, R i (k b) (k' b)) : R i (padd A x n k) (padd B x n k') := by
  cases x <;> first | exact H.fail _ _ | exact h _
theorem zuy {m : Md} {l : List AV} {k : Bool → α} {k' : Bool → β} (h : ∀ b, R i (k b) (k' b)) : R i (nilEq A m l k) (nilEq B m l k') := by
  cases m <;> cases l <;> first | exact h _ | exact H.amb _ _ _ h
theorem zxk {op : BinOp} {ik : IntKind} {a b : Int} {k : AV → α} {k' : AV → β} (h : ∀ b, R i (k b) (k' b)) : R i (binI A op ik a b k) (binI B op ik a b k') := by
  cases op <;> first | exact h _ | exact H.fail _ _ | exact r_chk H (h _)
theorem r_eqB {op : BinOp} {b : Bool} {k : AV → α} {k' : AV → β} (h : ∀ b, R i (k b) (k' b)) : R i (eqB A op b k) (eqB B op b k') := by
  cases op <;> first | exact h _ | exact H.fail _ _
theorem r_bin {td : TD} {op : BinOp} {x y : AV} {k : AV → α} {k' : AV → β} (h : ∀ b, R i (k b) (k' b)) : R i (bin A td op x y k) (bin B td op x y k') := by
  unfold bin
  split
  · cases op <;> first | exact r_chk H (h _) | exact r_lit H (zxk H h)
  · exact r_lit H (r_eqB H h)
  · cases op <;> first | exact r_chk H (h _) | exact h _ | exact H.fail _ _
  · exact r_lit H (r_eqB H h)
  · exact r_lit H (r_eqB H h)
  · exact r_lit H (r_eqB H h)
  · exact r_lit H (zuy H fun b => r_eqB H h)
  · exact r_lit H (r_eqB H h)
  · exact r_lit H (z19 H fun b => r_eqB H h)
  · exact H.fail _ _
theorem r_un {op : UnOp} {x : AV} {k : AV → α} {k' : AV → β} (h : ∀ b, R i (k b) (k' b)) : R i (un A op x k) (un B op x k') := by
  cases op <;> cases x <;> first | exact h _ | exact H.fail _ _
theorem zxl {T : Tab} {s d : Nat} {x : AV} {k : AV → α} {k' : AV → β} (h : ∀ b, R i (k b) (k' b)) : R i (conv A T s d x k) (conv B T s d x k') := by
  unfold conv; generalize (T.ty d).k = t
  cases t <;> first | exact H.fail _ _ | (cases x <;> first | exact r_lit H (h _) | exact H.fail _ _ | exact r_lit H (z19 H fun _ => h _))
theorem r_cut {γ : Type} {l : List γ} {lo hi mx : Int} {k : List γ → α} {k' : List γ → β} (h : ∀ b, R i (k b) (k' b)) : R i (cut A l lo hi mx k) (cut B l lo hi mx k') := r_chk H (h _)
theorem zou {lo hi mx : Option Operand} {dlo dhi : Int} {vs : List AV} {k : Int → Int → Int → α} {k' : Int → Int → Int → β} (h : ∀ a b c, R i (k a b c) (k' a b c)) : R i (bnds A lo hi mx dlo dhi vs k) (bnds B lo hi mx dlo dhi vs k') := by
  unfold bnds; split <;> first | exact h _ _ _ | exact H.fail _ _
theorem zry {T : Tab} {t : Nat} {x : AV} {lo hi mx : Option Operand} {vs : List AV} {k : AV → α} {k' : AV → β} (h : ∀ b, R i (k b) (k' b)) : R i (sliceV A T t x lo hi mx vs k) (sliceV B T t x lo hi mx vs k') := by
  unfold sliceV; generalize (T.ty t).k = tk
  cases tk <;> first | exact H.fail _ _ | skip
  · cases x <;> first | exact H.fail _ _ | skip
    cases mx <;> first | exact H.fail _ _ | exact zou H fun _ _ _ => r_cut H fun _ => h _
  · cases x <;> first | exact H.fail _ _ | skip
    rename_i m _ _
    cases m <;> exact r_lit H (zou H fun _ _ _ => r_chk H (h _))
theorem z5m {td : TD} {x : AV} {k : List AV → α} {k' : List AV → β} (h : ∀ b, R i (k b) (k' b)) : R i (cellsAs A td x k) (cellsAs B td x k') := by
  unfold cellsAs; refine r_lit H ?_; cases td.isAgg; exact r_lit H (h _); exact r_asA' H fun _ => r_chk H (h _)
theorem zlj {place : Nat → Option (Nat × TD)} : ∀ {ps : List (Nat × Operand)} {z vs : List AV} {k : List AV → α} {k' : List AV → β}, (∀ b, R i (k b) (k' b)) → R i (fillV A place z ps vs k) (fillV B place z ps vs k')
  | [], z, vs, k, k', h => by cases vs; exact h _; exact H.fail _ _
  | (j, o) :: ps, z, vs, k, k', h => by
    cases vs
    · exact H.fail _ _
    · unfold fillV
      cases place j with
      | none => exact H.fail _ _
      | some p => exact z5m H fun _ => r_chk H (zlj h)
theorem zuz {sl : Bool} {x : AV} {k : Nat → α} {k' : Nat → β} (h : ∀ b, R i (k b) (k' b)) : R i (lenOf A sl x k) (lenOf B sl x k') := by
  cases sl <;> cases x <;> first | exact h _ | exact H.fail _ _
theorem r_mm {b : Bool} : ∀ {l : List AV} {x : AV} {k : AV → α} {k' : AV → β}, (∀ b, R i (k b) (k' b)) → R i (mm A b x l k) (mm B b x l k')
  | [], x, k, k', h => by unfold mm; exact h _
  | y :: l, x, k, k', h => by
    cases x <;> cases y <;> first | exact H.fail _ _ | exact r_lit H (r_mm h)
theorem zv0 {T : Tab} {op : Op} {vs : List AV} {objs : Os} {k : AV → α} {k' : AV → β} (h : ∀ b, R i (k b) (k' b)) : R i (pureV A T op vs objs k) (pureV B T op vs objs k') := by
  unfold pureV
  split
  · exact h _
  · exact h _
  · exact r_asB' H fun b => by cases b <;> exact h _
  · exact r_bin H h
  · exact r_un H h
  · split <;> first | exact h _ | exact H.fail _ _
  · split <;> first | exact H.fail _ _ | exact r_lit H (zxj H h)
  · refine r_asA' H fun l => ?_
    split <;> first | exact H.fail _ _ | exact z6a H h
  · split <;> first
      | exact z6a H h
      | (split <;> first | exact z6a H h | exact H.fail _ _)
      | exact H.fail _ _
  · split <;> first
      | exact r_lit H (zhr H fun _ => z62 H fun _ => h _)
      | exact r_lit H (z97 H fun _ => h _)
      | exact H.fail _ _
  · split <;> first
      | exact zhr H fun _ => h _
      | exact r_lit H (z97 H fun _ => z6a H h)
      | exact H.fail _ _
  · exact zry H h
  · split <;> first | exact z7r H h | exact H.fail _ _
  · exact r_lit H (zlj H fun _ => h _)
  · split <;> first
      | (split <;> first | exact h _ | exact zuz H fun _ => H.asm _ _ _ _ (h _) | exact H.fail _ _)
      | exact r_mm H h
      | exact H.fail _ _
  · exact H.fail _ _
theorem z3d {f : Cl} {n : Nm} {x : α} {y : β} (h : R i x y) : R i (freshN A f n x) (freshN B f n y) := by unfold freshN; cases f n; exact h; exact H.fail _ _
theorem zez {γ : Type} {f : Nat → Option γ} {n : Nat} {x : α} {y : β} (h : R i x y) : R i (fresh A f n x) (fresh B f n y) := by unfold fresh; cases f n; exact h; exact H.fail _ _
theorem zdd {sh : Sh} {nm : Nm} {c : AV} {cl : Cl} {k : AV → Cl → α} {k' : AV → Cl → β} (h : ∀ a b, R i (k a b) (k' a b)) : R i (exp0 A sh nm c cl k) (exp0 B sh nm c cl k') := by
  unfold exp0
  split <;> first
    | exact H.fail _ _
    | exact r_lit H (h _ _)
    | exact h _ _
    | exact r_lit H (r_asRow' H fun _ => r_lit H (h _ _))
theorem zov {nm : Nat → Nm} : ∀ {shs : List Sh} {n : Nat} {cs : List AV} {cl : Cl} {k : List AV → Cl → α} {k' : List AV → Cl → β}, (∀ a b, R i (k a b) (k' a b)) → R i (expA A nm shs n cs cl k) (expA B nm shs n cs cl k')
  | [], n, cs, cl, k, k', h => by simp only [expA]; exact r_asN' H (h _ _)
  | sh :: shs, n, cs, cl, k, k', h => by
    simp only [expA]; exact r_asC' H fun v r => r_lit H (zdd H fun _ _ => zov fun _ _ => h _ _)
theorem zhs {sh : Sh} {nm : Nm} {c : AV} {cl : Cl} {k : AV → Cl → α} {k' : AV → Cl → β} (h : ∀ a b, R i (k a b) (k' a b)) : R i (exp1 A sh nm c cl k) (exp1 B sh nm c cl k') := by
  unfold exp1
  cases isUqs sh
  · exact zdd H h
  · exact r_asA' H fun _ => zov H fun _ _ => h _ _
theorem z98 {nm : Nat → Nm} : ∀ {shs : List Sh} {n : Nat} {cs : List AV} {cl : Cl} {k : List AV → Cl → α} {k' : List AV → Cl → β}, (∀ a b, R i (k a b) (k' a b)) → R i (expC A nm shs n cs cl k) (expC B nm shs n cs cl k')
  | [], n, cs, cl, k, k', h => by simp only [expC]; exact r_asN' H (h _ _)
  | [sh], n, cs, cl, k, k', h => by
    cases sh <;> simp only [expC] <;> first
      | exact r_chk H (h _ _)
      | exact r_asC' H fun v r => r_lit H (zdd H fun _ _ => r_asN' H (h _ _))
  | sh :: sh2 :: shs, n, cs, cl, k, k', h => by
    have ih := fun r cl v' => z98 (nm := nm) (shs := sh2 :: shs) (n := n + 1) (cs := r) (cl := cl) (k := fun r' => k (v' :: r')) (k' := fun r' => k' (v' :: r')) fun r' _ => h _ _
    cases sh <;> simp only [expC] <;> exact r_asC' H fun v r => r_lit H (zdd H fun v' cl => ih r cl v')
theorem zow {nm : Nm} {c : AV} {cl : Cl} {k : AV → Cl → α} {k' : AV → Cl → β} (h : ∀ a b, R i (k a b) (k' a b)) : R i (imp0 A nm c cl k) (imp0 B nm c cl k') := by
  unfold imp0
  split <;> first | exact z3d H (h _ _) | exact r_lit H (h _ _)
theorem zht {nm : Nat → Nm} : ∀ {cs : List AV} {n : Nat} {cl : Cl} {k : List AV → Cl → α} {k' : List AV → Cl → β}, (∀ a b, R i (k a b) (k' a b)) → R i (impC A nm n cs cl k) (impC B nm n cs cl k')
  | [], n, cl, k, k', h => h _ _
  | c :: cs, n, cl, k, k', h => zow H fun _ _ => zht fun _ _ => h _ _
theorem zxm {u : Bool} {nm : Nm} {c : AV} {cl : Cl} {k : AV → Cl → α} {k' : AV → Cl → β} (h : ∀ a b, R i (k a b) (k' a b)) : R i (imp1 A u nm c cl k) (imp1 B u nm c cl k') := by
  unfold imp1
  cases u
  · exact zow H h
  · exact r_asA' H fun _ => zht H fun _ _ => h _ _
theorem zox {shs : List Sh} {nm : Nat → Nm} {cs : List AV} {cl : Cl} {k : List AV → Cl → α} {k' : List AV → Cl → β} (h : ∀ a b, R i (k a b) (k' a b)) : R i (impO A shs nm cs cl k) (impO B shs nm cs cl k') := by
  unfold impO
  split
  · exact r_chk H (h _ _)
  · exact zbz H fun _ => zht H h
end
end V
namespace V
theorem z2m {α β : Type} {R : α → β → Prop} {b : Bool} {x y : α} {x' y' : β} (h : R x x') (h' : R y y') : R (bif b then x else y) (bif b then x' else y') := by cases b; exact h'; exact h
section
variable {α β ι : Type} {A : Alg α} {B : Alg β} {R : ι → α → β → Prop} (H : AlgRel A B R) {i : ι}
include H
theorem z7s {T : Tab} : ∀ {vs : List AV} {shs : List Sh} {ts : List Nat} {j : Nat} {objs : Os} {cl : Cl} {k : List AV → List (Nat × List AV) → List (Nat × Nat × List Sh) → Os → Cl → α} {k' : List AV → List (Nat × List AV) → List (Nat × Nat × List Sh) → Os → Cl → β}, (∀ a b c d e, R i (k a b c d e) (k' a b c d e)) → R i (argsV A T j shs vs ts objs cl k) (argsV B T j shs vs ts objs cl k')
  | [], shs, ts, j, objs, cl, k, k', h => by cases ts; exact h _ _ _ _ _; exact H.fail _ _
  | v :: vs, shs, ts, j, objs, cl, k, k', h => by
    cases ts
    · exact H.fail _ _
    · rename_i t ts
      unfold argsV
      cases shOwned shs
      · dsimp only [cond_false]
        cases v <;> first
          | exact r_lit H (z7s fun _ _ _ _ _ => h _ _ _ _ _)
          | skip
        dsimp only
        split
        · exact r_lit H (z98 H fun _ _ => z7s fun _ _ _ _ _ => h _ _ _ _ _)
        · exact z7s fun _ _ _ _ _ => h _ _ _ _ _
        · exact H.fail _ _
      · dsimp only [cond_true]
        exact zhs H fun _ _ => z7s fun _ _ _ _ _ => h _ _ _ _ _
theorem zlk {d : Nat} : ∀ {bk : List (Nat × Nat × List Sh)} {outs : List (Nat × List AV)} {objs : Os} {cl : Cl} {k : List (Nat × List AV) → Os → Cl → α} {k' : List (Nat × List AV) → Os → Cl → β}, (∀ a b c, R i (k a b c) (k' a b c)) → R i (outsV A d bk outs objs cl k) (outsV B d bk outs objs cl k')
  | [], outs, objs, cl, k, k', h => h _ _ _
  | (j, o, shs) :: bk, outs, objs, cl, k, k', h => by
    unfold outsV; exact r_asC' H fun _ _ => r_lit H (zox H fun _ _ => zlk h)
theorem zhu {d : Nat} : ∀ {shs : List Sh} {r : Nat} {res : List AV} {outs : List (Nat × List AV)} {objs : Os} {cl : Cl} {k : List AV → Os → Cl → α} {k' : List AV → Os → Cl → β}, (∀ a b c, R i (k a b c) (k' a b c)) → R i (resV A d r shs res outs objs cl k) (resV B d r shs res outs objs cl k')
  | [], r, res, outs, objs, cl, k, k', h => r_asN' H (r_asN' H (h _ _ _))
  | sh :: shs, r, res, outs, objs, cl, k, k', h => by
    unfold resV; refine r_asC' H fun v res => ?_
    cases sh <;> first
      | exact z62 H fun _ => zxm H fun _ _ => zhu fun _ _ _ => h _ _ _
      | skip
    cases v <;> first | exact H.fail _ _ | skip
    rename_i o n
    cases n
    · exact r_lit H (r_asC' H fun _ _ => r_lit H (zez H (zox H fun _ _ => zhu fun _ _ _ => h _ _ _)))
    · exact H.fail _ _
theorem zhv : ∀ {shs : List Sh} {res : List AV} {k : List AV → α} {k' : List AV → β}, (∀ a, R i (k a) (k' a)) → R i (resX A shs res k) (resX B shs res k')
  | [], res, k, k', h => r_asN' H (h _)
  | sh :: shs, res, k, k', h => by unfold resX; exact r_asC' H fun _ _ => z62 H fun _ => r_lit H (zhv fun _ => h _)
theorem zb5 : ∀ {vs : List AV} {objs : Os} {k : List AV → Os → α} {k' : List AV → Os → β}, (∀ a b, R i (k a b) (k' a b)) → R i (capsV A vs objs k) (capsV B vs objs k')
  | [], objs, k, k', h => h _ _
  | v :: vs, objs, k, k', h => by
    unfold capsV
    split
    · split
      · exact r_lit H (zb5 fun _ _ => h _ _)
      · exact zb5 fun _ _ => h _ _
      · exact H.fail _ _
    · exact zb5 fun _ _ => h _ _
    · exact H.fail _ _
theorem zhw {uq : Bool} {td : TD} : ∀ {ps : List (Nat × Operand)} {z vs : List AV} {k : List AV → α} {k' : List AV → β}, (∀ a, R i (k a) (k' a)) → R i (elemsV A uq td z ps vs k) (elemsV B uq td z ps vs k')
  | [], z, vs, k, k', h => by cases vs; exact h _; exact H.fail _ _
  | (j, o) :: ps, z, vs, k, k', h => by
    cases vs
    · exact H.fail _ _
    · unfold elemsV; exact r_lit H (z5m H fun _ => zhw h)
theorem zxn {x : AV} {cs : List AV} {k : AV → α} {k' : AV → β} (h : ∀ b, R i (k b) (k' b)) : R i (putC A x cs k) (putC B x cs k') := by
  unfold putC
  split
  · exact h _
  · exact r_asC' H fun _ _ => r_asN' H (h _)
theorem zoy {w : Nat} {y : AV} {cl : Cl} {k : List AV → α} {k' : List AV → β} (h : ∀ b, R i (k b) (k' b)) : R i (srcV A w y cl k) (srcV B w y cl k') := by
  unfold srcV
  split
  · exact r_lit H (h _)
  · exact r_lit H (r_asRow' H fun _ => r_lit H (h _))
  · exact H.fail _ _
theorem zoz {uq : Bool} {d sz : Nat} {x : AV} {r : List AV} {objs : Os} {cl : Cl} {len : Nat → α → α} {len' : Nat → β → β} {k : AV → Os → Cl → α} {k' : AV → Os → Cl → β} (hl : ∀ n x y, R i x y → R i (len n x) (len' n y)) (h : ∀ a b c, R i (k a b c) (k' a b c)) : R i (appV A uq d sz x r objs cl len k) (appV B uq d sz x r objs cl len' k') := by
  unfold appV
  split
  · exact hl _ _ _ (z2m (z3d H (h _ _ _)) (z3d H (h _ _ _)))
  · exact hl _ _ _ (r_lit H (z3d H (h _ _ _)))
  · exact r_asRow' H fun _ => hl _ _ _ (r_lit H (z3d H (h _ _ _)))
  · exact H.fail _ _
theorem zxo {s : Spc} {caps vs : List AV} {objs : Os} {cl : Cl} {k : AV → Os → Cl → α} {k' : AV → Os → Cl → β} (h : ∀ a b c, R i (k a b c) (k' a b c)) : R i (spcV A s caps vs objs cl k) (spcV B s caps vs objs cl k') := by
  unfold spcV
  split
  · split <;> first | exact H.fail _ _ | exact r_lit H (r_asRow' H fun _ => h _ _ _)
  · exact z19 H fun _ => z19 H fun _ => r_lit H (r_asRow' H fun _ => z97 H fun _ => h _ _ _)
  · exact z19 H fun _ => z19 H fun _ => r_lit H (r_asRow' H fun _ => zhr H fun _ => z62 H fun _ => r_chk H (h _ _ _))
theorem r_opV {T : Tab} {d : Nat} {op : Op} {vs : List AV} {objs : Os} {cl : Cl} {k : AV → Os → Cl → α} {k' : AV → Os → Cl → β} (h : ∀ a b c, R i (k a b c) (k' a b c)) : R i (opV A T d op vs objs cl k) (opV B T d op vs objs cl k') := by
  unfold opV
  split
  · exact r_lit H (zez H (h _ _ _))
  · exact z5m H fun _ => zez H (h _ _ _)
  · split <;> first | exact H.fail _ _ | skip
    · split <;> first | exact H.fail _ _ | exact z5m H fun _ => r_chk H (h _ _ _)
    · exact r_asRow' H fun _ => z7r H fun _ => z5m H fun _ => r_chk H (zxn H fun _ => r_chk H (h _ _ _))
  · exact r_asRow' H fun _ => z7r H fun _ => z6a H fun _ => z62 H fun _ => h _ _ _
  · split <;> first | exact H.fail _ _ | exact r_lit H (r_asRow' H fun _ => z97 H fun _ => h _ _ _)
  · split <;> first | exact H.fail _ _ | exact r_lit H (z97 H fun _ => h _ _ _)
  · split <;> first | exact H.fail _ _ | exact r_lit H (r_chk H (z3d H (h _ _ _)))
  · split <;> first | exact H.fail _ _ | skip
    exact z2m (r_lit H (z3d H (z2m (h _ _ _) (h _ _ _)))) (r_lit H (zhw H fun _ => z3d H (z2m (h _ _ _) (h _ _ _))))
  · refine r_lit H ?_
    split
    · exact h _ _ _
    · exact zb5 H fun _ _ => h _ _ _
  · split <;> first | exact H.fail _ _ | skip
    split <;> first | exact H.fail _ _ | skip
    refine r_lit H ?_
    split
    · exact r_lit H (zoz H (fun _ _ _ hr => r_chk H hr) h)
    · exact zoy H fun _ => r_lit H (zoz H (fun _ _ _ hr => r_chk H hr) h)
  · split <;> first | exact H.fail _ _ | skip
    split <;> first | exact H.fail _ _ | exact r_lit H (r_asRow' H fun _ => zoy H fun _ => r_lit H (h _ _ _))
  · split <;> first | exact H.fail _ _ | skip
    split <;> first | exact H.fail _ _ | exact r_asRow' H fun _ => H.asm _ _ _ _ (h _ _ _)
  · split <;> first | exact H.fail _ _ | exact r_lit H (r_asRow' H fun _ => z19 H fun _ => h _ _ _)
  · split
    · exact r_lit H (h _ _ _)
    · exact zxl H fun _ => h _ _ _
  · split <;> first | exact H.fail _ _ | skip
    refine r_lit H ?_
    split
    · exact zxo H h
    refine z2m ?_ ?_
    · split <;> first | exact H.fail _ _ | skip
      exact z19 H fun _ => r_asRow' H fun _ => z7r H fun _ => r_chk H (r_lit H (H.callx _ _ _ _ _ fun _ => zhv H fun _ => h _ _ _))
    exact z2m (z7s H fun _ _ _ _ _ => H.call _ _ _ _ _ _ fun _ _ => zlk H fun _ _ _ => zhu H fun _ _ _ => h _ _ _) (r_lit H (H.callx _ _ _ _ _ fun _ => zhv H fun _ => h _ _ _))
  · exact zv0 H fun _ => h _ _ _
theorem zhx : ∀ {qs : List Nm} {v : AV} {cl : Cl} {k : AV → Cl → α} {k' : AV → Cl → β}, (∀ a b, R i (k a b) (k' a b)) → R i (stillR A qs v cl k) (stillR B qs v cl k')
  | [], v, cl, k, k', h => h _ _
  | q :: qs, v, cl, k, k', h => r_asRow' H fun _ => r_lit H (zhx h)
theorem zhy : ∀ {qs : List Nm} {env : Ev} {objs : Os} {cl : Cl} {k : Ev → Os → Cl → α} {k' : Ev → Os → Cl → β}, (∀ a b c, R i (k a b c) (k' a b c)) → R i (stillV A qs env objs cl k) (stillV B qs env objs cl k')
  | [], env, objs, cl, k, k', h => h _ _ _
  | q :: qs, env, objs, cl, k, k', h => r_asRow' H fun _ => r_lit H (zhy h)
theorem z82 : ∀ {ts : List Nat} {env : Ev} {objs : Os} {cl : Cl} {k : Ev → Os → Cl → α} {k' : Ev → Os → Cl → β}, (∀ a b c, R i (k a b c) (k' a b c)) → R i (stillT A ts env objs cl k) (stillT B ts env objs cl k')
  | [], env, objs, cl, k, k', h => h _ _ _
  | t :: ts, env, objs, cl, k, k', h => zhy H fun _ _ _ => z82 h
theorem zb6 {T : Tab} {ops : Array Oper} {o : Oper} {env : Ev} {objs : Os} {cl : Cl} {k : Ev → Os → Cl → α} {k' : Ev → Os → Cl → β} (h : ∀ a b c, R i (k a b c) (k' a b c)) : R i (stepV A T ops o env objs cl k) (stepV B T ops o env objs cl k') := by
  have hgo : ∀ env, R i (orFail A (opvs env o.op.operands.toList) fun vs => opV A T (o.dst.getD noDst) o.op vs objs cl fun v objs cl => bif T.fz (o.dst.getD noDst) then stillR A (rowsOf v) v cl fun v cl => k (setE env o.dst v) objs cl else k (setE env o.dst v) objs cl)
      (orFail B (opvs env o.op.operands.toList) fun vs => opV B T (o.dst.getD noDst) o.op vs objs cl fun v objs cl => bif T.fz (o.dst.getD noDst) then stillR B (rowsOf v) v cl fun v cl => k' (setE env o.dst v) objs cl else k' (setE env o.dst v) objs cl) := fun env =>
    z19 H fun _ => r_opV H fun _ _ _ => z2m (zhx H fun _ _ => h _ _ _) (h _ _ _)
  unfold stepV; dsimp only
  split
  · exact hgo _
  · refine z19 H fun t => z19 H fun b => z2m (h _ _ _) (r_asB' H fun b => ?_)
    exact z2m (z2m (hgo _) (h _ _ _)) (z2m (h _ _ _) (hgo _))
theorem zhz {T : Tab} {ops : Array Oper} : ∀ {l : List Oper} {env : Ev} {objs : Os} {cl : Cl} {k : Ev → Os → Cl → α} {k' : Ev → Os → Cl → β}, (∀ a b c, R i (k a b c) (k' a b c)) → R i (stepsV A T ops l env objs cl k) (stepsV B T ops l env objs cl k')
  | [], env, objs, cl, k, k', h => h _ _ _
  | o :: l, env, objs, cl, k, k', h => zb6 H fun _ _ _ => zhz h
theorem zll {f : Nat → α} {f' : Nat → β} (h : ∀ n, R i (f n) (f' n)) : ∀ {l : List Nat}, R i (allOf A f l) (allOf B f' l)
  | [] => H.fail _ _
  | [n] => h n
  | n :: m :: l => H.both _ _ _ _ _ (h n) (zll h (l := m :: l))
theorem zf0 {T : Tab} {ops : Array Oper} : ∀ {fuel : Nat} {listed : Array Bool} {env : Ev} {objs : Os} {cl : Cl} {k : Ev → Os → Cl → α} {k' : Ev → Os → Cl → β}, (∀ a b c, R i (k a b c) (k' a b c)) → R i (drawV A T ops fuel listed env objs cl k) (drawV B T ops fuel listed env objs cl k')
  | 0, listed, env, objs, cl, k, k', h => r_lit H (h _ _ _)
  | fuel + 1, listed, env, objs, cl, k, k', h => by
    unfold drawV; generalize Region.ready Region.Mode.any ops listed = rd
    cases rd with
    | nil => exact h _ _ _
    | cons r rs =>
      dsimp only; generalize (r :: rs).find? (isPnow T ops env objs) = fd
      cases fd with
      | some n => exact r_lit H (z19 H fun o => zb6 H fun _ _ _ => zf0 h)
      | none => exact zll H fun n => z19 H fun o => zb6 H fun _ _ _ => zf0 h
theorem zi0 {T : Tab} {ops : Array Oper} : ∀ {l : List Oper} {env : Ev} {objs : Os} {cl : Cl} {k : Ev → α} {k' : Ev → β}, (∀ a, R i (k a) (k' a)) → R i (stepsJ A T ops l env objs cl k) (stepsJ B T ops l env objs cl k')
  | [], env, objs, cl, k, k', h => h _
  | o :: l, env, objs, cl, k, k', h => r_lit H (zb6 H fun _ _ _ => zi0 h)
theorem zv1 {T : Tab} {ops : Array Oper} {t : Nat} {env : Ev} {objs : Os} {cl : Cl} {k : Ev → α} {k' : Ev → β} (h : ∀ a, R i (k a) (k' a)) : R i (joinV A T ops t env objs cl k) (joinV B T ops t env objs cl k') :=
  H.join _ _ _ _ _ (fun _ _ _ hk => zi0 H fun _ => z19 H fun _ => r_asB' H hk) fun _ => h _
theorem zf1 {kept : Nat → Bool} : ∀ {l : List (Nat × Sh)} {env : Ev} {cl : Cl} {k : List AV → Cl → α} {k' : List AV → Cl → β}, (∀ a b, R i (k a b) (k' a b)) → R i (keepE A kept l env cl k) (keepE B kept l env cl k')
  | [], env, cl, k, k', h => h _ _
  | (t, sh) :: l, env, cl, k, k', h => by
    unfold keepE; refine z19 H fun v => ?_
    cases sh <;> first
      | exact r_lit H (zf1 h)
      | exact zhs H fun _ _ => zf1 fun _ _ => h _ _
theorem zf2 : ∀ {l : List (Nat × List Sh)} {objs : Os} {cl : Cl} {k : List (List AV) → Cl → α} {k' : List (List AV) → Cl → β}, (∀ a b, R i (k a b) (k' a b)) → R i (keepO A l objs cl k) (keepO B l objs cl k')
  | [], objs, cl, k, k', h => h _ _
  | (o, shs) :: l, objs, cl, k, k', h => by
    unfold keepO
    split
    · exact r_lit H (z98 H fun _ _ => zf2 fun _ _ => h _ _)
    · exact r_lit H (zf2 fun _ _ => h _ _)
    · exact H.fail _ _
theorem z63 {sp : Spec} {env : Ev} {objs : Os} {cl : Cl} {k : List AV → List (List AV) → α} {k' : List AV → List (List AV) → β} (h : ∀ a b, R i (k a b) (k' a b)) : R i (flatV A sp env objs cl k) (flatV B sp env objs cl k') :=
  r_lit H (zf1 H fun _ _ => zf2 H fun _ _ => h _ _)
theorem r_shN {sh : Sh} {nm : Nm} {v : AV} {k : AV → α} {k' : AV → β} (h : ∀ b, R i (k b) (k' b)) : R i (shN A sh nm v k) (shN B sh nm v k') := by
  cases sh <;> simp only [shN] <;> first
    | exact r_asOwn' H fun _ _ => r_lit H (h _)
    | exact z62 H h
theorem r_shE : ∀ {l : List (Nat × Sh)} {vs : List AV} {k : List AV → α} {k' : List AV → β}, (∀ a, R i (k a) (k' a)) → R i (shE A l vs k) (shE B l vs k')
  | [], vs, k, k', h => r_asN' H (h _)
  | (t, sh) :: l, vs, k, k', h => by
    unfold shE
    cases sh <;> first
      | exact r_shE h
      | exact r_asC' H fun _ _ => r_shN H fun _ => r_shE fun _ => h _
theorem r_shC {nm : Nat → Nm} : ∀ {shs : List Sh} {n : Nat} {cs : List AV} {k : List AV → α} {k' : List AV → β}, (∀ a, R i (k a) (k' a)) → R i (shC A nm n shs cs k) (shC B nm n shs cs k')
  | [], n, cs, k, k', h => by simp only [shC]; exact r_asN' H (h _)
  | [sh], n, cs, k, k', h => by
    cases sh <;> simp only [shC] <;> first
      | exact h _
      | exact r_asC' H fun v r => r_shN H fun _ => r_asN' H (h _)
  | sh :: sh2 :: shs, n, cs, k, k', h => by
    have ih := fun r v' => r_shC (nm := nm) (shs := sh2 :: shs) (n := n + 1) (cs := r) (k := fun r' => k (v' :: r')) (k' := fun r' => k' (v' :: r')) fun r' => h _
    cases sh <;> simp only [shC] <;> exact r_asC' H fun v r => r_shN H fun v' => ih r v'
theorem r_shO : ∀ {l : List (Nat × List Sh)} {os : List (List AV)} {k : List (List AV) → α} {k' : List (List AV) → β}, (∀ a, R i (k a) (k' a)) → R i (shO A l os k) (shO B l os k')
  | [], os, k, k', h => r_asN' H (h _)
  | (o, shs) :: l, os, k, k', h => by unfold shO; exact r_asC' H fun _ _ => r_shC H fun _ => r_shO fun _ => h _
theorem zlm : ∀ {out : List (Option Nat × Spec)} {j : Nat} {k : Option Nat → Spec → α} {k' : Option Nat → Spec → β}, (∀ a b, R i (k a b) (k' a b)) → R i (pickX A out j k) (pickX B out j k')
  | [], j, k, k', h => H.fail _ _
  | (x, sp) :: l, j, k, k', h => by unfold pickX; cases Nat.beq j (xcode x); exact zlm h; exact h _ _
theorem zb7 : ∀ {out : List (Option Nat × Spec)} {y : Option Nat} {k : Spec → α} {k' : Spec → β}, (∀ a, R i (k a) (k' a)) → R i (findX A out y k) (findX B out y k')
  | [], y, k, k', h => H.fail _ _
  | (x, sp) :: l, y, k, k', h => by unfold findX; cases Nat.beq (xcode y) (xcode x); exact zb7 h; exact h _
theorem zln {sp : Spec} {out : List (Option Nat × Spec)} {id : Nat} {env : Ev} {objs : Os} {cl : Cl} {k : Xt → Ev → Os → Cl → α} {k' : Xt → Ev → Os → Cl → β} (h : ∀ a b c d, R i (k a b c d) (k' a b c d)) : R i (loopV A sp out id env objs cl k) (loopV B sp out id env objs cl k') :=
  z63 H fun _ _ => H.loop _ _ _ _ _ _ fun _ _ _ => zlm H fun _ _ => r_shE H fun _ => r_shO H fun _ => h _ _ _ _
theorem z83 {id : Nat} {sp : Spec} {out : List (Option Nat × Spec)} {body : Ev → Os → Cl → (Xt → Ev → Os → Cl → α) → α} {body' : Ev → Os → Cl → (Xt → Ev → Os → Cl → β) → β} {vs : List AV} {os : List (List AV)} {next : List AV → List (List AV) → α} {next' : List AV → List (List AV) → β} {k : Nat → List AV → List (List AV) → α} {k' : Nat → List AV → List (List AV) → β}
    (hb : ∀ env objs cl k k', (∀ a b c d, R i (k a b c d) (k' a b c d)) → R i (body env objs cl k) (body' env objs cl k')) (hn : ∀ a b, R i (next a b) (next' a b)) (h : ∀ a b c, R i (k a b c) (k' a b c)) : R i (roundV A id sp out body vs os next k) (roundV B id sp out body' vs os next' k') :=
  hb _ _ _ _ _ fun e _ _ _ => by
    cases e
    · exact z2m (z63 H hn) (zb7 H fun _ => z63 H fun _ _ => h _ _ _)
    · exact r_lit H (zb7 H fun _ => z63 H fun _ _ => h _ _ _)
    · exact zb7 H fun _ => z63 H fun _ _ => h _ _ _
theorem z99 : ∀ {l : List Nat} {objs : Os} {k : Os → α} {k' : Os → β}, (∀ a, R i (k a) (k' a)) → R i (freezeV A l objs k) (freezeV B l objs k')
  | [], objs, k, k', h => h _
  | o :: l, objs, k, k', h => by
    unfold freezeV
    split
    · exact r_lit H (z99 h)
    · exact z99 h
theorem zp0 {f : Ev → Os → Cl → (Xt → Ev → Os → Cl → α) → α} {f' : Ev → Os → Cl → (Xt → Ev → Os → Cl → β) → β} (hf : ∀ env objs cl k k', (∀ a b c d, R i (k a b c d) (k' a b c d)) → R i (f env objs cl k) (f' env objs cl k')) : ∀ {n : Nat} {env : Ev} {objs : Os} {cl : Cl} {k : Xt → Ev → Os → Cl → α} {k' : Xt → Ev → Os → Cl → β}, (∀ a b c d, R i (k a b c d) (k' a b c d)) → R i (unrV A f n env objs cl k) (unrV B f' n env objs cl k')
  | 0, env, objs, cl, k, k', h => H.fail _ _
  | n + 1, env, objs, cl, k, k', h => hf _ _ _ _ _ fun e _ _ _ => by
    cases e
    · exact zp0 hf h
    · exact h _ _ _ _
    · exact h _ _ _ _
theorem r_run {T : Tab} {an : Ann} : ∀ {c : Code} {env : Ev} {objs : Os} {cl : Cl} {k : Xt → Ev → Os → Cl → α} {k' : Xt → Ev → Os → Cl → β}, (∀ a b c d, R i (k a b c d) (k' a b c d)) → R i (run A T an c env objs cl k) (run B T an c env objs cl k')
  | .skip, env, objs, cl, k, k', h => h _ _ _ _
  | .region id ops draw, env, objs, cl, k, k', h => by
    unfold run; refine z99 H fun objs => z82 H fun env objs cl => ?_
    cases draw && !rdR (tabAt T an) ops
    · dsimp only [cond_false]
      split
      · exact zhz H fun _ _ _ => h _ _ _ _
      · exact zv1 H fun _ => h _ _ _ _
    · exact zf0 H fun _ _ _ => h _ _ _ _
  | .seq a b, env, objs, cl, k, k', h => by
    unfold run; refine r_run fun e _ _ _ => ?_
    cases e
    · exact z2m (zln H h) (r_run h)
    · exact h _ _ _ _
    · exact h _ _ _ _
  | .cond c a b, env, objs, cl, k, k', h => by
    unfold run; refine z19 H fun v => r_asB' H fun v => ?_
    cases v
    · exact r_run h
    · exact r_run h
  | .block id body, env, objs, cl, k, k', h => by
    unfold run; refine r_run fun e _ _ _ => ?_; rename_i j
    cases e
    · exact h _ _ _ _
    · rename_i j
      dsimp only
      cases Nat.beq j id
      · exact h _ _ _ _
      · exact h _ _ _ _
    · exact h _ _ _ _
  | .loop body, env, objs, cl, k, k', h => by
    unfold run
    split
    · exact zln H h
    · exact zp0 H (f := run A T an body) (f' := run B T an body) (fun _ _ _ _ _ h => r_run h) h
  | .exit id, env, objs, cl, k, k', h => h _ _ _ _
  | .ret, env, objs, cl, k, k', h => h _ _ _ _
  | .label _, env, objs, cl, k, k', h => H.fail _ _
  | .goto _, env, objs, cl, k, k', h => H.fail _ _
  | .scope _, env, objs, cl, k, k', h => H.fail _ _
  | .rangeFunc _ _ _ _, env, objs, cl, k, k', h => H.fail _ _
  | .refuse _, env, objs, cl, k, k', h => H.fail _ _
theorem z9a {T : Tab} : ∀ {l : List ResultVar} {env : Ev} {objs : Os} {k : List AV → α} {k' : List AV → β}, (∀ a, R i (k a) (k' a)) → R i (retV A T l env objs k) (retV B T l env objs k')
  | [], env, objs, k, k', h => h _
  | .tmp t :: l, env, objs, k, k', h => z19 H fun _ => z9a fun _ => h _
  | .cell t ty :: l, env, objs, k, k', h => by
    unfold retV; refine z19 H fun a => ?_
    cases a <;> first | exact H.fail _ _ | skip
    dsimp only
    split
    · exact z6a H fun _ => z9a fun _ => h _
    · exact z6a H fun _ => z9a fun _ => h _
    · exact H.fail _ _
theorem zde : ∀ {shs : List Sh} {r : Nat} {vs : List AV} {objs : Os} {cl : Cl} {k : List AV → List (Nat × List AV) → Cl → α} {k' : List AV → List (Nat × List AV) → Cl → β}, (∀ a b c, R i (k a b c) (k' a b c)) → R i (expR A r shs vs objs cl k) (expR B r shs vs objs cl k')
  | [], r, vs, objs, cl, k, k', h => r_asN' H (h _ _ _)
  | sh :: shs, r, vs, objs, cl, k, k', h => by
    unfold expR; refine r_asC' H fun v vs => ?_
    cases sh <;> first
      | exact zhs H fun _ _ => zde fun _ _ _ => h _ _ _
      | skip
    cases v <;> first | exact H.fail _ _ | skip
    rename_i o n
    cases n
    · show R i (match objs o with | some (.live cs) => _ | _ => A.fail) (match objs o with | some (.live cs) => _ | _ => B.fail)
      generalize objs o = ob
      cases ob with
      | none => exact H.fail _ _
      | some x => cases x <;> first | exact H.fail _ _ | exact z98 H fun _ _ => zde fun _ _ _ => h _ _ _
    · exact H.fail _ _
theorem zi1 : ∀ {l : List (Nat × List Sh)} {objs : Os} {cl : Cl} {k : List (Nat × List AV) → Os → Cl → α} {k' : List (Nat × List AV) → Os → Cl → β}, (∀ a b c, R i (k a b c) (k' a b c)) → R i (expO A l objs cl k) (expO B l objs cl k')
  | [], objs, cl, k, k', h => h _ _ _
  | (j, shs) :: l, objs, cl, k, k', h => by
    unfold expO
    split
    · exact z98 H fun _ _ => zi1 fun _ _ _ => h _ _ _
    · exact H.fail _ _
theorem zdf {T : Tab} {an : Ann} {fn : Func} {body : Code} {rs : List Sh} {osh : List (Nat × List Sh)} {args : List AV} {ins : List (Nat × List AV)} {k : List AV → List (Nat × List AV) → α} {k' : List AV → List (Nat × List AV) → β} (h : ∀ a b, R i (k a b) (k' a b)) : R i (runF A T an fn body rs osh args ins k) (runF B T an fn body rs osh args ins k') := by
  unfold runF; refine r_lit H (r_run H fun e _ _ _ => ?_)
  cases e
  · exact z82 H fun _ _ _ => z9a H fun _ => zi1 H fun _ _ _ => zde H fun _ _ _ => h _ _
  · exact H.fail _ _
  · exact z82 H fun _ _ _ => z9a H fun _ => zi1 H fun _ _ _ => zde H fun _ _ _ => h _ _
end
end V
namespace V
structure E3 where
  S : Nat → Nat → Option Value
  mu : Nat → Option Nat
  ka : Nm → Option (Value × Nat)
mutual
def Rep (E : E3) : AV → Value → Prop
  | .int k n, v => v = .int k n
  | .bool b, v => v = .bool b
  | .str s, v => v = .string ⟨s.toArray⟩ ∧ s.length ≤ maxL
  | .lst m w l, v => ∃ a len cap, v = .slice a len cap ∧ len = l.length ∧ len ≤ cap ∧ cap ≤ maxL ∧
      (l ≠ [] → ∃ b off, a = some ⟨b, off, none⟩ ∧ RepE E w b off l) ∧ (m = .nil → a = none ∧ cap = 0 ∧ l = []) ∧ (∀ q, m = .own q → E.ka q = some (v, w))
  | .agg l, v => ∃ vs : List Value, v = .agg vs.toArray ∧ RepL E l vs
  | .ref o i, v => ∃ b, E.mu o = some b ∧ v = .pointer (some ⟨b, i, none⟩)
  | .rp l i, v => ∃ b off, v = .pointer (some ⟨b, off + i, none⟩) ∧ l.all AV.flat1 = true ∧ ∃ vs, RepL E l vs ∧ ∀ j, j < vs.length → E.S b (off + j) = vs[j]?
  | .nilp, v => v = .pointer none
  | .clo f caps, v => ∃ vs : List Value, v = .func (.func f) #[] vs.toArray ∧ caps.all AV.flat1 = true ∧ RepL E caps vs
  | .tup l, v => ∃ vs : List Value, v = .tuple vs.toArray ∧ RepT E l vs
  | .undef, _ => True
  | .sq q w, v => E.ka q = some (v, w) ∧ ∃ a n cap, v = .slice a n cap
  | .ua q w i j, v => ∃ b n cap, E.ka q = some (.slice (some ⟨b, 0, none⟩) n cap, w) ∧ i < n ∧ v = .pointer (some ⟨b, i * w + j, none⟩)
  | .sv q w m, v => ∃ b n cap, E.ka q = some (.slice (some ⟨b, 0, none⟩) n cap, w) ∧ m ≤ n ∧ v = .slice (some ⟨b, 0, none⟩) m cap
  | .bclo f o, v => ∃ b, E.mu o = some b ∧ v = .func (.func f) #[] #[.pointer (some ⟨b, 0, none⟩)]
def RepE (E : E3) (w : Nat) (b : Nat) : Nat → List AV → Prop
  | _, [] => True
  | off, x :: l => (x.flat = true ∧ ∃ u, Rep E x u ∧ u.cells.size = w ∧ ∀ j, j < w → E.S b (off + j) = u.cells[j]?) ∧ RepE E w b (off + w) l
def RepL (E : E3) : List AV → List Value → Prop
  | [], vs => vs = []
  | x :: l, vs => ∃ v r, vs = v :: r ∧ x.one = true ∧ v.oneCell' = true ∧ Rep E x v ∧ RepL E l r
def RepT (E : E3) : List AV → List Value → Prop
  | [], vs => vs = []
  | x :: l, vs => ∃ v r, vs = v :: r ∧ Rep E x v ∧ RepT E l r
end
structure E3.le (E F : E3) : Prop where
  S : ∀ b i v, E.S b i = some v → F.S b i = some v
  mu : ∀ o b, E.mu o = some b → F.mu o = some b
  ka : ∀ q v, E.ka q = some v → F.ka q = some v
theorem E3.le.refl (E : E3) : E.le E := ⟨fun _ _ _ h => h, fun _ _ h => h, fun _ _ h => h⟩
theorem E3.le.trans {E F G : E3} (h : E.le F) (k : F.le G) : E.le G := ⟨fun b i v x => k.S b i v (h.S b i v x), fun o b x => k.mu o b (h.mu o b x), fun q v x => k.ka q v (h.ka q v x)⟩
theorem z4i {E F : E3} (h : ∀ b i v, E.S b i = some v → F.S b i = some v) {b i : Nat} {o : Option Value} (ho : o.isSome) (e : E.S b i = o) : F.S b i = o := by
  cases o with
  | none => cases ho
  | some v => exact h b i v e
theorem z2c {β : Type} {l : List β} {j : Nat} (h : j < l.length) : (l[j]?).isSome := by simp [h]
theorem zkz {β : Type} {l : Array β} {j : Nat} (h : j < l.size) : (l[j]?).isSome := by simp [h]
theorem z9b (E F : E3) (hS : ∀ b i v, E.S b i = some v → F.S b i = some v) (x : AV) :
    (∀ v, ((∀ o b, E.mu o = some b → F.mu o = some b) ∧ (∀ q v, E.ka q = some v → F.ka q = some v) ∨ x.flat = true) → Rep E x v → Rep F x v) := by
  refine AV.rec (motive_1 := fun x => ∀ v, ((∀ o b, E.mu o = some b → F.mu o = some b) ∧ (∀ q v, E.ka q = some v → F.ka q = some v) ∨ x.flat = true) → Rep E x v → Rep F x v)
    (motive_2 := fun l => (∀ w b off, RepE E w b off l → RepE F w b off l) ∧
      (∀ vs, ((∀ o b, E.mu o = some b → F.mu o = some b) ∧ (∀ q v, E.ka q = some v → F.ka q = some v) ∨ l.all AV.flat1 = true) → RepL E l vs → RepL F l vs) ∧
      (∀ vs, ((∀ o b, E.mu o = some b → F.mu o = some b) ∧ (∀ q v, E.ka q = some v → F.ka q = some v)) → RepT E l vs → RepT F l vs)) ?_ ?_ ?_ ?_ ?_ ?_ ?_ ?_ ?_ ?_ ?_ ?_ ?_ ?_ ?_ ?_ ?_ x
  · intro k n v _ h; simpa [Rep] using h
  · intro b v _ h; simpa [Rep] using h
  · intro s v _ h; simpa [Rep] using h
  · intro m w l ih v hm h
    simp only [Rep] at h ⊢; obtain ⟨a, len, cap, h1, h2, h3, h4, h5, h6, h7⟩ := h; refine ⟨a, len, cap, h1, h2, h3, h4, ?_, h6, ?_⟩
    · intro hl
      obtain ⟨b, off, e, r⟩ := h5 hl; exact ⟨b, off, e, ih.1 w b off r⟩
    · intro q hq
      rcases hm with hm | hm
      · exact hm.2 q _ (h7 q hq)
      · subst hq; simp [AV.flat, AV.flat1] at hm
  · intro l ih v hm h
    simp only [Rep] at h ⊢; obtain ⟨vs, h1, h2⟩ := h; refine ⟨vs, h1, ih.2.1 vs ?_ h2⟩
    rcases hm with hm | hm
    · exact .inl hm
    · exact .inr (by simpa [AV.flat] using hm)
  · intro o i v hm h
    simp only [Rep] at h ⊢; obtain ⟨b, h1, h2⟩ := h
    rcases hm with hm | hm
    · exact ⟨b, hm.1 o b h1, h2⟩
    · simp [AV.flat, AV.flat1] at hm
  · intro l i ih v hm h
    simp only [Rep] at h ⊢; obtain ⟨b, off, h1, h2, vs, h3, h4⟩ := h; exact ⟨b, off, h1, h2, vs, ih.2.1 vs (.inr h2) h3, fun j hj => z4i hS (z2c hj) (h4 j hj)⟩
  · intro v _ h; simpa [Rep] using h
  · intro f caps ih v hm h
    simp only [Rep] at h ⊢; obtain ⟨vs, h1, h2, h3⟩ := h; exact ⟨vs, h1, h2, ih.2.1 vs (.inr h2) h3⟩
  · intro l ih v hm h
    simp only [Rep] at h ⊢; obtain ⟨vs, h1, h2⟩ := h
    rcases hm with hm | hm
    · exact ⟨vs, h1, ih.2.2 vs hm h2⟩
    · simp [AV.flat, AV.flat1] at hm
  · intro v _ _; simp [Rep]
  · intro q w v hm h
    simp only [Rep] at h ⊢
    rcases hm with hm | hm
    · exact ⟨hm.2 q _ h.1, h.2⟩
    · simp [AV.flat, AV.flat1] at hm
  · intro q w i j v hm h
    simp only [Rep] at h ⊢; obtain ⟨b, n, cap, h1, h2⟩ := h
    rcases hm with hm | hm
    · exact ⟨b, n, cap, hm.2 q _ h1, h2⟩
    · simp [AV.flat, AV.flat1] at hm
  · intro q w m v hm h
    simp only [Rep] at h ⊢; obtain ⟨b, n, cap, h1, h2⟩ := h
    rcases hm with hm | hm
    · exact ⟨b, n, cap, hm.2 q _ h1, h2⟩
    · simp [AV.flat, AV.flat1] at hm
  · intro f o v hm h
    simp only [Rep] at h ⊢; obtain ⟨b, h1, h2⟩ := h
    rcases hm with hm | hm
    · exact ⟨b, hm.1 o b h1, h2⟩
    · simp [AV.flat, AV.flat1] at hm
  · refine ⟨fun _ _ _ _ => by simp [RepE], fun vs _ h => by simpa [RepL] using h, fun vs _ h => by simpa [RepT] using h⟩
  · intro x l ihx ihl
    refine ⟨?_, ?_, ?_⟩
    · intro w b off h
      simp only [RepE] at h ⊢; obtain ⟨⟨h1, u, h2, h3, h4⟩, h5⟩ := h
      exact ⟨⟨h1, u, ihx u (.inr h1) h2, h3, fun j hj => z4i hS (zkz (by omega)) (h4 j hj)⟩, ihl.1 w b _ h5⟩
    · intro vs hm h
      simp only [RepL] at h ⊢; obtain ⟨v, r, h1, h2, h3, h4, h5⟩ := h; refine ⟨v, r, h1, h2, h3, ihx v ?_ h4, ihl.2.1 r ?_ h5⟩
      · rcases hm with hm | hm
        · exact .inl hm
        · simp only [List.all_cons, Bool.and_eq_true] at hm
          refine .inr ?_; have := hm.1
          cases x <;> simp_all [AV.flat, AV.flat1]
      · rcases hm with hm | hm
        · exact .inl hm
        · simp only [List.all_cons, Bool.and_eq_true] at hm
          exact .inr hm.2
    · intro vs hm h
      simp only [RepT] at h ⊢; obtain ⟨v, r, h1, h2, h3⟩ := h; exact ⟨v, r, h1, ihx v (.inl hm) h2, ihl.2.2 r hm h3⟩
theorem Rep.mono {E F : E3} (h : E.le F) {x : AV} {v : Value} (r : Rep E x v) : Rep F x v := z9b E F h.S x v (.inl ⟨h.mu, h.ka⟩) r
theorem Rep.flat_mono {E F : E3} (hS : ∀ b i v, E.S b i = some v → F.S b i = some v) {x : AV} (hx : x.flat = true) {v : Value} (r : Rep E x v) : Rep F x v := z9b E F hS x v (.inr hx) r
theorem RepL.mono {E F : E3} (h : E.le F) {l : List AV} {vs : List Value} (r : RepL E l vs) : RepL F l vs := by
  have h1 : Rep E (.agg l) (.agg vs.toArray) := by simp only [Rep]; exact ⟨vs, rfl, r⟩
  have h2 := h1.mono h; simp only [Rep] at h2; obtain ⟨vs', e, r'⟩ := h2
  have : vs = vs' := by simpa using e
  exact this ▸ r'
theorem RepL.flat_mono {E F : E3} (hS : ∀ b i v, E.S b i = some v → F.S b i = some v) {l : List AV} (hl : l.all AV.flat1 = true) {vs : List Value} (r : RepL E l vs) : RepL F l vs := by
  have h1 : Rep E (.agg l) (.agg vs.toArray) := by simp only [Rep]; exact ⟨vs, rfl, r⟩
  have h2 := h1.flat_mono hS (by simpa [AV.flat] using hl)
  simp only [Rep] at h2; obtain ⟨vs', e, r'⟩ := h2
  have : vs = vs' := by simpa using e
  exact this ▸ r'
theorem RepT.mono {E F : E3} (h : E.le F) : ∀ {l : List AV} {vs : List Value}, RepT E l vs → RepT F l vs
  | [], vs, r => by simpa [RepT] using r
  | x :: l, vs, r => by
    simp only [RepT] at r ⊢; obtain ⟨v, r', h1, h2, h3⟩ := r; exact ⟨v, r', h1, h2.mono h, RepT.mono h h3⟩
theorem RepL.length {E : E3} : ∀ {l : List AV} {vs : List Value}, RepL E l vs → l.length = vs.length
  | [], vs, r => by simp [RepL] at r; simp [r]
  | x :: l, vs, r => by
    simp only [RepL] at r; obtain ⟨v, r', rfl, _, _, _, h⟩ := r; simp [RepL.length h]
theorem RepL.get {E : E3} : ∀ {l : List AV} {vs : List Value}, RepL E l vs → ∀ (i : Nat) (x : AV), l[i]? = some x → ∃ v, vs[i]? = some v ∧ x.one = true ∧ v.oneCell' = true ∧ Rep E x v
  | [], vs, _, i, x, hx => by simp at hx
  | y :: l, vs, r, i, x, hx => by
    simp only [RepL] at r; obtain ⟨v, r', rfl, h1, h2, h3, h⟩ := r
    cases i with
    | zero => simp at hx; subst hx; exact ⟨v, by simp, h1, h2, h3⟩
    | succ i => simp at hx; simpa using RepL.get h i x hx
theorem RepL.of_get {E : E3} : ∀ {l : List AV} {vs : List Value}, l.length = vs.length → (∀ (i : Nat) (x : AV) (v : Value), l[i]? = some x → vs[i]? = some v → x.one = true ∧ v.oneCell' = true ∧ Rep E x v) → RepL E l vs
  | [], vs, hl, _ => by simp at hl; simp [RepL, List.eq_nil_of_length_eq_zero hl.symm]
  | x :: l, [], hl, _ => by simp at hl
  | x :: l, v :: vs, hl, h => by
    simp only [RepL]
    obtain ⟨h1, h2, h3⟩ := h 0 x v (by simp) (by simp)
    exact ⟨v, vs, rfl, h1, h2, h3, RepL.of_get (by simpa using hl) fun i y u hy hu => h (i + 1) y u (by simpa using hy) (by simpa using hu)⟩
theorem RepL.all_one {E : E3} {l : List AV} {vs : List Value} (r : RepL E l vs) : ∀ u ∈ vs, u.oneCell' = true := by
  intro u hu; obtain ⟨i, hi⟩ := List.getElem?_of_mem hu
  have hlt : i < l.length := by rw [r.length]; exact (List.getElem?_eq_some_iff.1 hi).1
  obtain ⟨v, hv, _, h2, _⟩ := r.get i l[i] (by simp [hlt])
  rw [hi] at hv
  cases hv
  exact h2
theorem RepE.get {E : E3} {w b : Nat} : ∀ {off : Nat} {l : List AV}, RepE E w b off l → ∀ (i : Nat) (x : AV), l[i]? = some x → x.flat = true ∧ ∃ u, Rep E x u ∧ u.cells.size = w ∧ ∀ j, j < w → E.S b (off + i * w + j) = u.cells[j]?
  | off, [], _, i, x, hx => by simp at hx
  | off, y :: l, r, i, x, hx => by
    simp only [RepE] at r; obtain ⟨⟨h1, u, h2, h3, h4⟩, h⟩ := r
    cases i with
    | zero => simp at hx; subst hx; exact ⟨h1, u, h2, h3, by simpa using h4⟩
    | succ i =>
      simp at hx; obtain ⟨g1, u', g2, g3, g4⟩ := RepE.get h i x hx; refine ⟨g1, u', g2, g3, fun j hj => ?_⟩; have := g4 j hj
      rw [show off + (i + 1) * w + j = off + w + i * w + j from by rw [Nat.add_mul]; omega]
      exact this
theorem RepE.of_get {E : E3} {w b : Nat} : ∀ {off : Nat} {l : List AV}, (∀ (i : Nat) (x : AV), l[i]? = some x → x.flat = true ∧ ∃ u, Rep E x u ∧ u.cells.size = w ∧ ∀ j, j < w → E.S b (off + i * w + j) = u.cells[j]?) → RepE E w b off l
  | off, [], _ => by simp [RepE]
  | off, y :: l, h => by
    simp only [RepE]; refine ⟨?_, RepE.of_get fun i x hx => ?_⟩
    · simpa using h 0 y (by simp)
    · obtain ⟨g1, u', g2, g3, g4⟩ := h (i + 1) x (by simpa using hx)
      refine ⟨g1, u', g2, g3, fun j hj => ?_⟩; have := g4 j hj
      rw [show off + (i + 1) * w + j = off + w + i * w + j from by rw [Nat.add_mul]; omega] at this
      exact this
end V
namespace V
structure TyOK (P : Program) (T : Tab) (t : Nat) : Prop where
  desc : match (T.ty t).k with
    | .int k => P.underlying t = some (.int k)
    | .bool => P.underlying t = some .bool
    | .str => P.underlying t = some .string
    | .ptr e => P.underlying t = some (.pointer e)
    | .slice e => P.underlying t = some (.slice e)
    | .struct fs => ∃ fields : Array Field, P.underlying t = some (.struct fields) ∧ fields.toList.map (fun f => (f.offset, f.type)) = fs
    | .array n e => P.underlying t = some (.array n e)
    | .fn => ∃ ps rs v, P.underlying t = some (.func ps rs v)
    | .other => True
  info : (T.ty t).known = true → ∃ i, P.info? t = some i ∧ i.size = (T.ty t).size ∧ i.bytes = (T.ty t).bytes ∧
    ((T.ty t).zero.isEmpty = false → ∃ z, i.zero = some z ∧ z.cells.size = (T.ty t).size ∧ ((T.ty t).isAgg = true → ∃ cs, z = .agg cs) ∧ ((T.ty t).isAgg = false → (T.ty t).size = 1 ∧ z.oneCell' = true) ∧ ∀ E, RepL E (T.ty t).zero z.cells.toList)
  eq : ∀ (E : E3) (l r : List AV) (xs ys : List Value) (b : Bool) (w : World), (T.ty t).eqs l r = true → RepL E l xs → RepL E r ys → eqL l r = some b →
    P.eqGuardType P.depth t = false ∧ (Op.equalIn 10000 t (.agg xs.toArray) (.agg ys.toArray)).run P w = .ok b w
def TabOK (P : Program) (T : Tab) : Prop := ∀ t, TyOK P T t
section
variable {P : Program} {T : Tab}
theorem TabOK.int (h : TabOK P T) {t : Nat} {k : IntKind} (e : (T.ty t).k = .int k) : P.underlying t = some (.int k) := by have := (h t).desc; rw [e] at this; exact this
theorem TabOK.bool (h : TabOK P T) {t : Nat} (e : (T.ty t).k = .bool) : P.underlying t = some .bool := by have := (h t).desc; rw [e] at this; exact this
theorem TabOK.str (h : TabOK P T) {t : Nat} (e : (T.ty t).k = .str) : P.underlying t = some .string := by have := (h t).desc; rw [e] at this; exact this
theorem TabOK.ptr (h : TabOK P T) {t e : Nat} (he : (T.ty t).k = .ptr e) : P.underlying t = some (.pointer e) := by have := (h t).desc; rw [he] at this; exact this
theorem TabOK.slice (h : TabOK P T) {t e : Nat} (he : (T.ty t).k = .slice e) : P.underlying t = some (.slice e) := by have := (h t).desc; rw [he] at this; exact this
theorem TabOK.array (h : TabOK P T) {t n e : Nat} (he : (T.ty t).k = .array n e) : P.underlying t = some (.array n e) := by have := (h t).desc; rw [he] at this; exact this
theorem TabOK.struct (h : TabOK P T) {t : Nat} {fs : List (Nat × Nat)} (he : (T.ty t).k = .struct fs) :
    ∃ fields : Array Field, P.underlying t = some (.struct fields) ∧ fields.toList.map (fun f => (f.offset, f.type)) = fs := by have := (h t).desc; rw [he] at this; exact this
theorem TabOK.sizeAt (h : TabOK P T) {t : Nat} (hk : (T.ty t).known = true) (w : World) : (sizeOf t).run P w = .ok (T.ty t).size w := by
  obtain ⟨i, h1, h2, _⟩ := (h t).info hk; simp [sizeOf, typeInfo, h1, h2]
theorem TabOK.aggOf (h : TabOK P T) {t : Nat} (hk : (T.ty t).known = true) (w : World) : (Go.isAgg t).run P w = .ok (T.ty t).isAgg w := by
  have hd := (h t).desc; unfold TD.isAgg TD.known at *
  cases hh : (T.ty t).k <;> rw [hh] at hd hk <;> dsimp only at hd hk ⊢
  all_goals first
    | (cases hk; done)
    | (obtain ⟨a, b, c, hd⟩ := hd; simp [Go.isAgg, run_underlying hd]; done)
    | (obtain ⟨a, hd, _⟩ := hd; simp [Go.isAgg, run_underlying hd]; done)
    | (simp [Go.isAgg, run_underlying hd]; done)
end
def Gives (P : Program) (E : E3) (W : World → Prop) (s : Sem Value) (k : AV → Prop) : Prop := ∃ x v, k x ∧ Rep E x v ∧ ∀ w, W w → s.run P w = .ok v w
theorem gives {P : Program} {E : E3} {W : World → Prop} {s : Sem Value} {k : AV → Prop} (x : AV) (v : Value) (h : k x) (hr : Rep E x v) (hs : ∀ w, W w → s.run P w = .ok v w) : Gives P E W s k := ⟨x, v, h, hr, hs⟩
abbrev LoopM := Nat → List AV → List (List AV) → (Nat → List AV → List (List AV) → Prop) → Prop
structure Meaning where
  call : Nat → List AV → List (Nat × List AV) → (List AV → List (Nat × List AV) → Prop) → Prop
  loop : LoopM
def PA (M : Meaning) : Alg Prop where
  fail := False
  chk b x := b = true ∧ x
  asm p x := p → x
  amb f := f true ∧ f false
  call := M.call
  callx f as1 k := ∃ res, M.call f as1 [] (fun r o => r = res ∧ o = []) ∧ k res
  both x y := x ∧ y
  join r k := ∃ b, r (fun b' => b' = b) ∧ k b
  loop := M.loop
section
variable {M : Meaning}
@[simp] theorem z4z : (PA M).fail = False := rfl
@[simp] theorem z1f (b : Bool) (x : Prop) : (PA M).chk b x = (b = true ∧ x) := rfl
@[simp] theorem zdg (p x : Prop) : (PA M).asm p x = (p → x) := rfl
@[simp] theorem zxp (f : Bool → Prop) : (PA M).amb f = (f true ∧ f false) := rfl
@[simp] theorem zv2 (x y : Prop) : (PA M).both x y = (x ∧ y) := rfl
@[simp] theorem zb (b : Bool) (x : Prop) : lit (PA M) b x = (b = true ∧ x) := by cases b <;> simp [lit]
@[simp] theorem zi {β : Type} (o : Option β) (k : β → Prop) : orFail (PA M) o k = ∃ b, o = some b ∧ k b := by cases o <;> simp [orFail]
@[simp] theorem z50 {β : Type} (l : List β) (i : Nat) (k : β → Prop) : nthE (PA M) l i k = ∃ e, l[i]? = some e ∧ k e := by unfold nthE; cases l[i]? <;> simp
@[simp] theorem zf3 {β : Type} (n : Int) (l : List β) (k : β → Prop) : nthI (PA M) n l k = (0 ≤ n ∧ ∃ e, l[n.toNat]? = some e ∧ k e) := by simp [nthI]
@[simp] theorem z42 (n : Int) (len : Nat) (k : Nat → Prop) : idxN (PA M) n len k = ((0 ≤ n ∧ n < (len : Int)) ∧ k n.toNat) := by simp [idxN]
@[simp] theorem z3u (v : AV) (k : Bool → Prop) : asB (PA M) v k = ∃ b, v = .bool b ∧ k b := by cases v <;> simp [asB]
@[simp] theorem zp1 (ik : IntKind) (v : AV) (k : Int → Prop) : asI (PA M) ik v k = ∃ n, v = .int ik n ∧ k n := by
  cases v <;> simp [asI]
  rename_i j n; constructor
  · rintro ⟨rfl, h⟩; exact ⟨n, ⟨rfl, rfl⟩, h⟩
  · rintro ⟨m, ⟨rfl, rfl⟩, h⟩; exact ⟨rfl, h⟩
@[simp] theorem zxq (v : AV) (k : List UInt8 → Prop) : asS (PA M) v k = ∃ b, v = .str b ∧ k b := by cases v <;> simp [asS]
@[simp] theorem z6b (v : AV) (k : List AV → Prop) : asA (PA M) v k = ∃ b, v = .agg b ∧ k b := by cases v <;> simp [asA]
@[simp] theorem z20 {β : Type} (l : List β) (k : β → List β → Prop) : asC (PA M) l k = ∃ x r, l = x :: r ∧ k x r := by
  cases l <;> simp [asC]
  exact ⟨fun h => ⟨_, _, ⟨rfl, rfl⟩, h⟩, fun ⟨_, _, ⟨h1, h2⟩, h⟩ => by subst h1; subst h2; exact h⟩
@[simp] theorem z26 {β : Type} (l : List β) (k : Prop) : asN (PA M) l k = (l = [] ∧ k) := by cases l <;> simp [asN]
@[simp] theorem zxr (w : Nat) (v : AV) (k : List AV → Prop) : asL (PA M) w v k = ∃ l, v = .lst .ro w l ∧ k l := by
  cases v <;> simp [asL]
  rename_i m w' l
  cases m <;> simp
  constructor
  · rintro ⟨rfl, h⟩; exact ⟨l, ⟨rfl, rfl⟩, h⟩
  · rintro ⟨m, ⟨rfl, rfl⟩, h⟩; exact ⟨rfl, h⟩
@[simp] theorem zrz (w : Nat) (v : AV) (k : Nm → List AV → Prop) : asOwn (PA M) w v k = ∃ q l, v = .lst (.own q) w l ∧ k q l := by
  cases v <;> simp [asOwn]
  rename_i m w' l
  cases m <;> simp
  rename_i q; constructor
  · rintro ⟨rfl, h⟩; exact ⟨q, l, ⟨rfl, rfl, rfl⟩, h⟩
  · rintro ⟨q, m, ⟨rfl, rfl, rfl⟩, h⟩; exact ⟨rfl, h⟩
@[simp] theorem zv3 (w : Nat) (v : AV) (k : List AV → Prop) : asUq (PA M) w v k = ∃ l, v = .lst .uq w l ∧ k l := by
  cases v <;> simp [asUq]
  rename_i m w' l
  cases m <;> simp
  constructor
  · rintro ⟨rfl, h⟩; exact ⟨l, ⟨rfl, rfl⟩, h⟩
  · rintro ⟨m, ⟨rfl, rfl⟩, h⟩; exact ⟨rfl, h⟩
@[simp] theorem zv (o : Option Cs) (k : List AV → Prop) : asRow (PA M) o k = ∃ l, o = some (.row l) ∧ k l := by
  cases o with
  | none => simp [asRow]
  | some c => cases c <;> simp [asRow]
theorem zbj {sh : Sh} {v : AV} {k : AV → Prop} (h : shape1 (PA M) sh v k) : k v := by
  cases sh <;> simp only [shape1, zp1, z3u, zxq, zxr, zrz, zv3] at h
  all_goals first
    | (unfold asNilp at h; split at h <;> first | exact h | exact h.elim)
    | exact h
    | (obtain ⟨n, rfl, h⟩ := h; exact h)
    | (obtain ⟨q, n, rfl, h⟩ := h; exact h)
theorem z79 : ∀ {shs : List Sh} {l : List AV} {k : List AV → Prop}, shapes (PA M) shs l k → k l
  | [], l, k, h => by simp only [shapes, z26] at h; obtain ⟨rfl, h⟩ := h; exact h
  | sh :: shs, l, k, h => by
    have key : asC (PA M) l (fun v r => shape1 (PA M) sh v fun v' => shapes (PA M) shs r fun r' => k (v' :: r')) → k l := by
      intro g; simp only [z20] at g; obtain ⟨x, r, e, g⟩ := g; rw [e]; exact z79 (k := fun r' => k (x :: r')) (zbj (k := fun v' => shapes (PA M) shs r fun r' => k (v' :: r')) g)
    cases sh <;> cases shs <;> first | exact key h | exact h
theorem z21 {sh : Sh} {v : AV} {k : AV → Prop} (h : shape (PA M) sh v k) : k v := by
  cases sh <;> simp only [shape, z6b] at h <;> first
    | exact zbj h
    | (obtain ⟨l, rfl, h⟩ := h; exact z79 h)
end
end V
namespace V
variable {P : Program} {T : Tab} {M : Meaning} {E : E3} {w : World} {W : World → Prop}
theorem z1x (b off n : Nat) : (⟨b, off, none⟩ : Addr).add n = ⟨b, off + n, none⟩ := by unfold Addr.add; split <;> simp_all
theorem z1p {k : IntKind} {n : Int} : Rep E (.int k n) (.int k n) := by simp [Rep]
theorem z1g {b : Bool} : Rep E (.bool b) (.bool b) := by simp [Rep]
theorem zf4 {s : List UInt8} (h : s.length ≤ maxL) : Rep E (.str s) (.string ⟨s.toArray⟩) := by simp only [Rep]; exact ⟨trivial, h⟩
theorem z43 {op : BinOp} {b : Bool} {k : AV → Prop} (h : eqB (PA M) op b k) : (op = .eql ∧ k (.bool b)) ∨ (op = .neq ∧ k (.bool (!b))) := by
  cases op <;> simp [eqB] at h ⊢ <;> exact h
structure Known (E : E3) (w : World) : Prop where
  agree : ∀ b i v, E.S b i = some v → w.cell? ⟨b, i, none⟩ = some v
theorem z84 (d : Nat) {t e : Nat} (hu : P.underlying t = some (.pointer e)) (p : Option Addr) : (Op.equalIn (d + 1) t (.pointer p) (.pointer none)).run P w = .ok p.isNone w := by
  cases p <;> simp [Op.equalIn, run_underlying hu]
theorem zn9 (d : Nat) {t e : Nat} (hu : P.underlying t = some (.slice e)) (a : Option Addr) (n c n' c' : Nat) : (Op.equalIn (d + 1) t (.slice a n c) (.slice none n' c')).run P w = .ok a.isNone w := by
  cases a <;> simp [Op.equalIn, run_underlying hu]
set_option maxHeartbeats 1000000 in
theorem zp2 (hT : TabOK P T) {t : Nat} {op : BinOp} {xo yo : Operand} {x y : AV} {u v : Value} {k : AV → Prop} (hx : Rep E x u) (hy : Rep E y v) (h : bin (PA M) (T.ty t) op x y k) :
    Gives P E W (do eqGuard op t xo yo u v; binOp op t u v) k := by
  unfold bin at h
  split at h
  · -- whole numbers
    rename_i ik a jk b; simp only [Rep] at hx hy
    subst hx; subst hy
    have hg : ∀ w, (eqGuard op t xo yo (.int ik a) (.int jk b)).run P w = .ok () w := by intro w; unfold eqGuard; cases op <;> simp
    split at h
    · simp only [z1f, decide_eq_true_eq] at h
      refine gives _ (.int ik (ik.wrap (a * 2 ^ (min b.toNat ik.bits)))) h.2 (by simp [Rep]) ?_
      intro w hw
      have : ¬ b < 0 := by omega
      simp [hg, binOp, Op.shift, this]
    · simp only [z1f, decide_eq_true_eq] at h
      refine gives _ (.int ik (a.fdiv (2 ^ (min b.toNat ik.bits)))) h.2 (by simp [Rep]) ?_
      intro w hw
      have : ¬ b < 0 := by omega
      simp [hg, binOp, Op.shift, this]
    · simp only [zb, decide_eq_true_eq] at h
      obtain ⟨rfl, h⟩ := h; unfold binI at h
      split at h
      all_goals first
        | (cases h; done)
        | (simp only [z1f] at h; obtain ⟨hb, h⟩ := h; refine gives _ _ h z1p ?_; intro w hw; have hb' : ¬ b = 0 := by simpa using hb
           simp [eqGuard, binOp, Op.intDiv, hb']; done)
        | (refine gives _ _ h z1p ?_; intro w hw; simp [eqGuard, binOp, Op.intArith, Op.intBits, bits]; done)
        | (refine gives _ _ h z1g ?_; intro w hw; simp [eqGuard, binOp, Op.intCmp]; done)
  · rename_i a b
    simp only [Rep] at hx hy
    subst hx; subst hy; simp only [zb, decide_eq_true_eq] at h; obtain ⟨hk, h⟩ := h; have hu := hT.bool hk
    rcases z43 h with ⟨rfl, h⟩ | ⟨rfl, h⟩
    · exact gives _ (.bool (a == b)) h (by simp [Rep]) (fun w hw => by simp [eqGuard, run_eql_bool w t a b hu])
    · exact gives _ (.bool (!(a == b))) h (by simp [Rep]) (fun w hw => by simp [eqGuard, run_neq_bool w t a b hu])
  · rename_i a b
    simp only [Rep] at hx hy; obtain ⟨rfl, hla⟩ := hx; obtain ⟨rfl, hlb⟩ := hy
    split at h
    · simp only [z1f, decide_eq_true_eq] at h
      refine gives _ (.string ⟨(a ++ b).toArray⟩) h.2 (zf4 (by simpa [maxL] using h.1)) ?_
      intro w hw
      have h1 : ¬ (((ByteArray.mk a.toArray).size + (ByteArray.mk b.toArray).size : Nat) : Int) > IntKind.max .i64 := by
        have e1 : (ByteArray.mk a.toArray).size = a.length := by simp [ByteArray.size]
        have e2 : (ByteArray.mk b.toArray).size = b.length := by simp [ByteArray.size]
        rw [show IntKind.max .i64 = (9223372036854775807 : Int) from rfl]
        omega
      have h2 : (ByteArray.mk a.toArray ++ ByteArray.mk b.toArray) = ByteArray.mk (a ++ b).toArray := by
        apply ByteArray.ext; simp
      have hb : (binOp .add t (.string ⟨a.toArray⟩) (.string ⟨b.toArray⟩)).run P w = .ok (.string ⟨(a ++ b).toArray⟩) w := by
        show (Op.stringOp .add _ _).run P w = _; unfold Op.stringOp; simp only [h1, if_false, h2, Sem.run_pure]
      simp [eqGuard, hb]
    · rcases z43 h with ⟨rfl, h⟩ | ⟨rfl, h⟩
      · exact gives _ (.bool (a == b)) h (by simp [Rep]) (fun w hw => by simp [eqGuard, binOp, Op.stringOp])
      · exact gives _ (.bool (!(a == b))) h (by simp [Rep]) (fun w hw => by simp [eqGuard, binOp, Op.stringOp])
  · -- two nil pointers
    simp only [zb] at h; obtain ⟨hp, h⟩ := h; simp only [Rep] at hx hy
    subst hx; subst hy; unfold TD.isPtr at hp
    split at hp <;> try cases hp
    rename_i e he; have hu := hT.ptr he; have hr : ∀ w, (Op.equal t (.pointer none) (.pointer none)).run P w = .ok true w := fun w => z84 9999 hu none
    rcases z43 h with ⟨rfl, h⟩ | ⟨rfl, h⟩
    · exact gives _ _ h z1g (fun w hw => by simp [eqGuard, binOp, hr])
    · exact gives _ _ h z1g (fun w hw => by simp [eqGuard, binOp, hr])
  · simp only [zb] at h
    obtain ⟨hp, h⟩ := h; simp only [Rep] at hx hy
    obtain ⟨b, _, rfl⟩ := hx; subst hy; unfold TD.isPtr at hp
    split at hp <;> try cases hp
    rename_i e he; have hu := hT.ptr he; have hr : ∀ a w, (Op.equal t (.pointer (some a)) (.pointer none)).run P w = .ok false w := fun a w => z84 9999 hu (some a)
    rcases z43 h with ⟨rfl, h⟩ | ⟨rfl, h⟩
    · exact gives _ _ h z1g (fun w hw => by simp [eqGuard, binOp, hr])
    · exact gives _ _ h z1g (fun w hw => by simp [eqGuard, binOp, hr])
  · simp only [zb] at h
    obtain ⟨hp, h⟩ := h; simp only [Rep] at hx hy
    obtain ⟨b, off, rfl, _⟩ := hx; subst hy; unfold TD.isPtr at hp
    split at hp <;> try cases hp
    rename_i e he; have hu := hT.ptr he; have hr : ∀ a w, (Op.equal t (.pointer (some a)) (.pointer none)).run P w = .ok false w := fun a w => z84 9999 hu (some a)
    rcases z43 h with ⟨rfl, h⟩ | ⟨rfl, h⟩
    · exact gives _ _ h z1g (fun w hw => by simp [eqGuard, binOp, hr])
    · exact gives _ _ h z1g (fun w hw => by simp [eqGuard, binOp, hr])
  · rename_i m wd l wd' l'
    simp only [zb] at h; obtain ⟨hp, h⟩ := h; unfold TD.isSl at hp
    split at hp <;> try cases hp
    rename_i e he; have hu := hT.slice he; simp only [Rep] at hx hy; obtain ⟨a', len', cap', rfl, hl', _, _, _, hn', _⟩ := hy; obtain ⟨rfl, rfl, rfl⟩ := hn' trivial; obtain ⟨a, len, cap, rfl, hl, hlc, hcm, he1, hn, _⟩ := hx; have hr : ∀ w, (Op.equal t (.slice a len cap) (.slice none len' 0)).run P w = .ok a.isNone w := fun w => zn9 9999 hu a len cap len' 0
    have fin : ∀ b, a.isNone = b → eqB (PA M) op b k → Gives P E W (do eqGuard op t xo yo (.slice a len cap) (.slice none len' 0); binOp op t (.slice a len cap) (.slice none len' 0)) k := by
      intro b hb h; simp only [hb] at hr
      rcases z43 h with ⟨rfl, h⟩ | ⟨rfl, h⟩
      · exact gives _ _ h z1g (fun w hw => by simp [eqGuard, binOp, hr])
      · exact gives _ _ h z1g (fun w hw => by simp [eqGuard, binOp, hr])
    unfold nilEq at h
    split at h
    · exact fin true (by rw [(hn rfl).1]; rfl) h
    · split at h
      · simp only [zxp] at h
        cases hh : a.isNone
        · exact fin false hh h.2
        · exact fin true hh h.1
      · obtain ⟨b, off, rfl, _⟩ := he1 (by simp)
        exact fin false rfl h
  · simp only [zb] at h
    obtain ⟨hp, h⟩ := h; simp only [Rep] at hx hy
    obtain ⟨b, n, cap, _, _, rfl⟩ := hx; subst hy; unfold TD.isPtr at hp
    split at hp <;> try cases hp
    rename_i e he; have hu := hT.ptr he; have hr : ∀ a w, (Op.equal t (.pointer (some a)) (.pointer none)).run P w = .ok false w := fun a w => z84 9999 hu (some a)
    rcases z43 h with ⟨rfl, h⟩ | ⟨rfl, h⟩
    · exact gives _ _ h z1g (fun w hw => by simp [eqGuard, binOp, hr])
    · exact gives _ _ h z1g (fun w hw => by simp [eqGuard, binOp, hr])
  · rename_i l r
    simp only [zb, zi] at h; obtain ⟨he, b, hb, h⟩ := h; simp only [Rep] at hx hy; obtain ⟨xs, rfl, hxs⟩ := hx; obtain ⟨ys, rfl, hys⟩ := hy
    have both : ∀ w, (do eqGuard .eql t xo yo (.agg xs.toArray) (.agg ys.toArray); binOp .eql t (.agg xs.toArray) (.agg ys.toArray)).run P w = .ok (.bool b) w ∧ (do eqGuard .neq t xo yo (.agg xs.toArray) (.agg ys.toArray); binOp .neq t (.agg xs.toArray) (.agg ys.toArray)).run P w = .ok (.bool (!b)) w := by
      intro w; obtain ⟨hg, hr⟩ := (hT t).eq E l r xs ys b w he hxs hys hb; have hgr := fun op' => run_eqGuard_agg (P := P) (w := w) op' t xo yo xs.toArray ys.toArray hg; have h1 := run_eql_struct (P := P) (w := w) t xs.toArray ys.toArray; have h2 := run_neq_struct (P := P) (w := w) t xs.toArray ys.toArray; rw [hr] at h1 h2; simp only [Result.andThen_ok] at h1 h2
      exact ⟨by simp only [Sem.run_bind, hgr, Result.andThen_ok, h1], by simp only [Sem.run_bind, hgr, Result.andThen_ok, h2]⟩
    rcases z43 h with ⟨rfl, h⟩ | ⟨rfl, h⟩
    · exact gives _ _ h z1g (fun w hw => (both w).1)
    · exact gives _ _ h z1g (fun w hw => (both w).2)
  · cases h
theorem zs0 {op : UnOp} {x : AV} {u : Value} {k : AV → Prop} (hx : Rep E x u) (h : un (PA M) op x k) : Gives P E W (Op.unary op u) k := by
  unfold un at h
  split at h
  · simp only [Rep] at hx; subst hx; exact gives _ _ h z1g (fun w hw => by simp [Op.unary])
  · simp only [Rep] at hx; subst hx; exact gives _ _ h z1p (fun w hw => by simp [Op.unary, Op.intArith])
  · simp only [Rep] at hx; subst hx; exact gives _ _ h z1p (fun w hw => by simp [Op.unary, Op.intBits, bits])
  · cases h
theorem z7t {l : List AV} {vs : List Value} (h : RepL E l vs) (i n : Nat) : RepL E ((l.drop i).take n) ((vs.drop i).take n) := by
  refine RepL.of_get (by simp [h.length]) fun j x v hx hv => ?_
  rw [List.getElem?_take] at hx hv
  split at hx
  · rename_i hj
    simp only [hj, if_true, List.getElem?_drop] at hx hv; obtain ⟨v', e, r⟩ := h.get _ x hx; rw [hv] at e
    cases e
    exact r
  · cases hx
theorem z5t (hT : TabOK P T) {t : Nat} {l : List AV} {vs : List Value} {i b off : Nat} {k : AV → Prop} (hl : RepL E l vs)
    (hc : ∀ w, W w → ∀ j v, vs[j]? = some v → w.cell? ⟨b, off + j, none⟩ = some v) (h : part (PA M) (T.ty t) l i k) : Gives P E W (loadVar t ⟨b, off + i, none⟩) k := by
  simp only [part, zb] at h; obtain ⟨hk, h⟩ := h; unfold loadVar
  cases ha : (T.ty t).isAgg with
  | true =>
    rw [ha] at h; simp only [cond_true, z1f, Nat.ble_eq] at h
    have h1 : ∀ w, W w → (loadCells ⟨b, off + i, none⟩ (T.ty t).size).run P w = .ok ((vs.drop i).take (T.ty t).size).toArray w := by
      intro w hw
      have hlen : ((vs.drop i).take (T.ty t).size).length = (T.ty t).size := by
        have := hl.length; simp; omega
      have := run_loadCells_list (P := P) w ⟨b, off + i, none⟩ ((vs.drop i).take (T.ty t).size) (fun j v hj => ?_)
      · rwa [hlen] at this
      · rw [List.getElem?_take] at hj
        split at hj
        · rw [List.getElem?_drop] at hj
          rw [z1x, Nat.add_assoc]; exact hc w hw _ _ hj
        · cases hj
    refine gives _ (.agg ((vs.drop i).take (T.ty t).size).toArray) h.2 (by simp only [Rep]; exact ⟨_, rfl, z7t hl _ _⟩) ?_
    intro w hw; simp [hT.aggOf hk, ha, hT.sizeAt hk, h1 w hw]
  | false =>
    rw [ha] at h; simp only [cond_false, z50] at h; obtain ⟨x, hx, h⟩ := h; obtain ⟨v, hv, _, _, hr⟩ := hl.get i x hx; refine gives _ v h hr ?_; intro w hw; simp [hT.aggOf hk, ha, hc w hw _ _ hv]
theorem zbk (hT : TabOK P T) {t : Nat} {l : List AV} {vs : List Value} {i : Nat} {k : AV → Prop} (hl : RepL E l vs)
    (h : part (PA M) (T.ty t) l i k) : Gives P E W (Go.part t vs.toArray i) k := by
  simp only [part, zb] at h; obtain ⟨hk, h⟩ := h; unfold Go.part
  cases ha : (T.ty t).isAgg with
  | true =>
    rw [ha] at h; simp only [cond_true, z1f, Nat.ble_eq] at h
    refine gives _ (.agg ((vs.drop i).take (T.ty t).size).toArray) h.2 (by simp only [Rep]; exact ⟨_, rfl, z7t hl _ _⟩) ?_
    intro w hw
    have e : vs.toArray.extract i (i + (T.ty t).size) = ((vs.drop i).take (T.ty t).size).toArray := by
      simp [List.take_drop]
    simp only [Sem.run_bind, hT.aggOf hk, ha, Result.andThen_ok, if_true, hT.sizeAt hk, Sem.run_pure, e]
  | false =>
    rw [ha] at h; simp only [cond_false, z50] at h; obtain ⟨x, hx, h⟩ := h; obtain ⟨v, hv, _, _, hr⟩ := hl.get i x hx; refine gives _ v h hr ?_; intro w hw; simp [hT.aggOf hk, ha, hv]
theorem z85 (hT : TabOK P T) {t : Nat} (hk : (T.ty t).known = true) : ∃ d, P.underlying t = some d := by
  have hd := (hT t).desc; unfold TD.known at hk
  cases hh : (T.ty t).k <;> rw [hh] at hd hk <;> dsimp only at hd hk
  all_goals first
    | (cases hk; done)
    | (obtain ⟨a, b, c, hd⟩ := hd; exact ⟨_, hd⟩)
    | (obtain ⟨a, hd, _⟩ := hd; exact ⟨_, hd⟩)
    | exact ⟨_, hd⟩
theorem zg4 (hT : TabOK P T) {t : Nat} (h : isU8 T t = true) : ∃ e, (T.ty t).k = .slice e ∧ P.underlying t = some (.slice e) ∧ P.underlying e = some (.int .u8) ∧ (T.ty e).k = .int .u8 := by
  unfold isU8 at h
  split at h
  · rename_i e he
    have := of_decide_eq_true h; exact ⟨e, he, hT.slice he, hT.int this, this⟩
  · cases h
theorem zbl (l : List AV) : ∀ {bs : List UInt8}, bytesOf l = some bs → ∃ ns : List Int, l = ns.map (AV.int .u8) ∧ bs = ns.map fun n => UInt8.ofNat n.toNat := by
  induction l with
  | nil => intro bs h; exact ⟨[], by simp [bytesOf] at h; simp [h]⟩
  | cons x l ih =>
    intro bs h
    cases x with
    | int k n =>
      cases k <;> simp only [bytesOf] at h <;> try (cases h; done)
      split at h
      · rename_i r hr
        obtain ⟨ns, h1, h2⟩ := ih hr; injection h with h
        exact ⟨n :: ns, by rw [h1]; rfl, by rw [← h, h2]; rfl⟩
      · cases h
    | _ => simp [bytesOf] at h
theorem z86 (hT : TabOK P T) (hK : ∀ w, W w → Known E w) {s d : Nat} {x : AV} {u : Value} {k : AV → Prop} (hx : Rep E x u) (h : conv (PA M) T s d x k) : Gives P E W (convert s d u) k := by
  unfold conv at h
  split at h
  · rename_i ik jk n hd
    simp only [zb] at h; obtain ⟨hk, h⟩ := h; obtain ⟨ds, hs⟩ := z85 hT hk; have hd := hT.int hd; simp only [Rep] at hx; subst hx
    exact gives _ _ h z1p (fun w hw => by simp [convert, run_underlying hs, run_underlying hd, Conv.intToInt])
  · rename_i b hd
    simp only [zb] at h; obtain ⟨hk, h⟩ := h; obtain ⟨ds, hs⟩ := z85 hT hk; have hd := hT.str hd; have hx' := hx; simp only [Rep] at hx; obtain ⟨rfl, _⟩ := hx
    exact gives _ _ h hx' (fun w hw => by simp [convert, run_underlying hs, run_underlying hd])
  · rename_i m wd l hd
    simp only [zb, zi, Bool.and_eq_true, Nat.beq_eq] at h; obtain ⟨⟨hu, hw⟩, bs, hb, h⟩ := h; obtain ⟨e, _, hs, he, _⟩ := zg4 hT hu; have hd := hT.str hd; obtain ⟨ns, rfl, rfl⟩ := zbl _ hb; simp only [Rep] at hx; obtain ⟨a, len, cap, rfl, hl, hlc, hcm, he1, _, _⟩ := hx
    have hlen : ns.length = len := by simpa using hl.symm
    have hr : Rep E (.str (ns.map fun n => UInt8.ofNat n.toNat)) (.string (strOfNums ns)) := zf4 (by simp; omega)
    cases hns : ns with
    | nil =>
      subst hns
      have : len = 0 := by simpa using hl
      subst this
      cases a with
      | none => exact gives _ (.string ByteArray.empty) h (show Rep E (.str _) (.string (strOfNums [])) from hr) (fun w hw => run_convert_bytes_nil w s e hs he 0 cap d hd)
      | some ad =>
        obtain ⟨b, off, sp⟩ := ad; refine gives _ _ h hr ?_; intro w hw
        have hlz : (loadCells ⟨b, off, sp⟩ 0).run P w = .ok #[] w := by simp [loadCells, loadCellsFrom]
        simp only [convert, Sem.run_bind, run_underlying hs, run_underlying hd, run_underlying he, Result.andThen_ok, Conv.bytesToString, hlz]; simp [strOfNums]; rfl
    | cons n0 ns0 =>
      obtain ⟨b, off, rfl, hE⟩ := he1 (by rw [hns]; simp)
      refine gives _ _ h hr ?_; intro w hww; have := run_convert_bytes_arg w s e hs he b off len cap ns hlen (fun i hi => ?_) d hd
      · exact this
      · have hi' : i < ns.length := by omega
        obtain ⟨_, u, hu1, hu2, hu3⟩ := hE.get i (.int .u8 (ns.getD i 0)) (by simp [List.getD, List.getElem?_eq_getElem hi'])
        simp only [Rep] at hu1; subst hu1
        have h0 := hu3 0 (by omega)
        refine (hK w hww).agree _ _ _ ?_; rw [hw] at h0
        simpa [Value.cells] using h0
  · cases h
theorem z87 {lo hi mx : Option Operand} {ρ : Operand → Value} {dlo dhi : Int} {vs : List AV} {k : Int → Int → Int → Prop} {isSl : Bool} {len cap : Nat}
    (hv : RepT E vs ((lo.map ρ).toList ++ (hi.map ρ).toList ++ (mx.map ρ).toList)) (h : bnds (PA M) lo hi mx dlo dhi vs k) (hlo : dlo = 0) (hhi : dhi = len) (hc : len ≤ cap) :
    ∃ a b c, k a b c ∧ (0 ≤ a → a ≤ b → b ≤ c → c ≤ len → ∃ m : Nat, b.toNat ≤ m ∧ m ≤ cap ∧ ∀ w, (Instr.sliceBounds isSl len cap (lo.map ρ) (hi.map ρ) (mx.map ρ)).run P w = .ok (a.toNat, b.toNat, m) w) := by
  have hb : ∀ (w : World) (k : IntKind) (i : Int) (y : Nat) (code : BoundsCode), 0 ≤ i → i ≤ y → (Instr.sliceBound (.int k i) y code).run P w = .ok i.toNat w := fun w k i y code h0 h1 => run_sliceBound w k i y code h0 h1; unfold bnds at h; subst hlo; subst hhi
  split at h
  · exact ⟨_, _, _, h, fun _ _ _ _ => ⟨cap, by omega, Nat.le_refl _, by intro w; simp [Instr.sliceBounds]⟩⟩
  · rename_i x1 x2 a
    simp [RepT, Rep] at hv
    refine ⟨_, _, _, h, fun h0 h1 h2 h3 => ⟨cap, by omega, Nat.le_refl _, ?_⟩⟩
    simp only [Option.map_some, Option.map_none, hv]; intro w; simp [Instr.sliceBounds, hb w _ a len _ h0 h1]
  · rename_i x1 x2 b
    simp [RepT, Rep] at hv
    refine ⟨_, _, _, h, fun h0 h1 h2 h3 => ⟨cap, by omega, Nat.le_refl _, ?_⟩⟩
    simp only [Option.map_some, Option.map_none, hv]; intro w
    simp [Instr.sliceBounds, hb w _ b cap _ h1 (by omega)]
  · rename_i x1 x2 x3 a x4 b
    simp [RepT, Rep] at hv; obtain ⟨hv1, hv2⟩ := hv
    refine ⟨_, _, _, h, fun h0 h1 h2 h3 => ⟨cap, by omega, Nat.le_refl _, ?_⟩⟩
    simp only [Option.map_some, Option.map_none, hv1, hv2]; intro w
    simp [Instr.sliceBounds, hb w _ b cap _ (by omega) (by omega), hb w _ a b.toNat _ h0 (by omega)]
  · rename_i x1 x2 x3 b x4 c
    simp [RepT, Rep] at hv; obtain ⟨hv1, hv2⟩ := hv
    refine ⟨_, _, _, h, fun h0 h1 h2 h3 => ⟨c.toNat, by omega, by omega, ?_⟩⟩
    simp only [Option.map_some, Option.map_none, hv1, hv2]; intro w
    simp [Instr.sliceBounds, hb w _ c cap _ (by omega) (by omega), hb w _ b c.toNat _ h1 (by omega)]
  · rename_i x1 x2 x3 x4 a x5 b x6 c
    simp [RepT, Rep] at hv; obtain ⟨hv1, hv2, hv3⟩ := hv
    refine ⟨_, _, _, h, fun h0 h1 h2 h3 => ⟨c.toNat, by omega, by omega, ?_⟩⟩
    simp only [Option.map_some, Option.map_none, hv1, hv2, hv3]; intro w
    simp [Instr.sliceBounds, hb w _ c cap _ (by omega) (by omega), hb w _ b c.toNat _ (by omega) (by omega), hb w _ a b.toNat _ h0 (by omega)]
  · cases h
theorem zi2 {β : Type} {l : List β} {lo hi mx : Int} {k : List β → Prop} (h : cut (PA M) l lo hi mx k) :
    0 ≤ lo ∧ lo ≤ hi ∧ hi ≤ mx ∧ mx ≤ l.length ∧ k ((l.take hi.toNat).drop lo.toNat) := by
  simp only [cut, z1f, Bool.and_eq_true, decide_eq_true_eq] at h; exact ⟨h.1.1.1.1, h.1.1.1.2, h.1.1.2, h.1.2, h.2⟩
theorem zl0 (hT : TabOK P T) {t : Nat} {x : AV} {u : Value} {lo hi mx : Option Operand} {ρ : Operand → Value} {vs : List AV} {k : AV → Prop} (hx : Rep E x u)
    (hv : RepT E vs ((lo.map ρ).toList ++ (hi.map ρ).toList ++ (mx.map ρ).toList)) (h : sliceV (PA M) T t x lo hi mx vs k) :
    Gives P E W (Instr.sliceAt t u (lo.map ρ) (hi.map ρ) (mx.map ρ)) k := by
  unfold sliceV at h
  split at h
  · rename_i s ht
    have ht := hT.str ht
    split at h
    · simp only [Rep] at hx
      obtain ⟨rfl, hl⟩ := hx
      have hsz : (ByteArray.mk s.toArray).size = s.length := by simp [ByteArray.size]
      obtain ⟨a, b, c, h, hs⟩ := z87 (P := P) (isSl := false) (len := s.length) (cap := s.length) (mx := none) hv h rfl rfl (Nat.le_refl _); obtain ⟨h0, h1, h2, h3, h⟩ := zi2 h; obtain ⟨m, _, _, hs⟩ := hs h0 h1 h2 h3
      refine gives _ (.string ⟨((s.take b.toNat).drop a.toNat).toArray⟩) h (zf4 (by simp; omega)) ?_
      intro w hw
      have he : (ByteArray.mk s.toArray).extract a.toNat b.toNat = ⟨((s.take b.toNat).drop a.toNat).toArray⟩ := by
        apply ByteArray.ext; apply Array.ext'; rw [ByteArray.data_extract]; simp [List.drop_take]
      simp only [Option.map_none] at hs ⊢; simp [Instr.sliceAt, Instr.slice, run_underlying ht, hsz, hs, he]
    · cases h
  · rename_i e m wd l ht
    have hu := hT.slice ht
    split at h
    · have hx' := hx
      simp only [Rep] at hx; obtain ⟨a, len, cap, rfl, hl, _, _, _, hn, _⟩ := hx; obtain ⟨rfl, rfl, rfl⟩ := hn trivial; simp only [List.length_nil] at hl; subst hl; simp only [zb] at h; obtain ⟨hk, h⟩ := h; obtain ⟨a, b, c, h, hs⟩ := z87 (P := P) (isSl := true) (len := 0) (cap := 0) hv h rfl rfl (Nat.le_refl _); simp only [z1f, Bool.and_eq_true, beq_iff_eq] at h; obtain ⟨⟨⟨rfl, rfl⟩, rfl⟩, h⟩ := h
      obtain ⟨m, hm1, hm2, hs⟩ := hs (by omega) (by omega) (by omega) (by omega)
      have hm : m = 0 := by omega
      subst hm; refine gives _ (.slice none 0 0) h hx' ?_; intro w hw; simp only [Instr.sliceAt, Instr.slice, Sem.run_bind, run_underlying hu, Result.andThen_ok, hs, hT.sizeAt hk]; simp
    · simp only [zb, Bool.and_eq_true, Nat.beq_eq] at h
      obtain ⟨⟨hw, hk⟩, h⟩ := h; simp only [Rep] at hx; obtain ⟨ba, len, cap, rfl, hl, hlc, hcm, he1, _, _⟩ := hx; subst hl; obtain ⟨a, b, c, h, hs⟩ := z87 (P := P) (isSl := true) (len := l.length) (cap := cap) hv h rfl rfl hlc; obtain ⟨h0, h1, h2, h3, h⟩ := zi2 h; obtain ⟨m, hm1, hm2, hs⟩ := hs h0 h1 h2 h3
      refine gives _ (.slice (if m = a.toNat then ba else ba.map (·.add (a.toNat * (T.ty e).size))) (b.toNat - a.toNat) (m - a.toNat)) h ?_ ?_
      · simp only [Rep]
        refine ⟨_, _, _, rfl, by simp; omega, by omega, by omega, ?_, by simp, by simp⟩
        intro hne
        have hab : a.toNat < b.toNat := by
          rcases Nat.lt_or_ge a.toNat b.toNat with h' | h'
          · exact h'
          · exact absurd (List.eq_nil_of_length_eq_zero (by simp; omega)) hne
        obtain ⟨B, off, rfl, hE⟩ := he1 (by intro h0; subst h0; simp at hne)
        rw [if_neg (by omega)]
        refine ⟨B, off + a.toNat * (T.ty e).size, by simp [z1x], RepE.of_get fun i x hx => ?_⟩
        rw [List.getElem?_drop, List.getElem?_take] at hx
        split at hx
        · obtain ⟨g1, u, g2, g3, g4⟩ := hE.get _ x hx
          refine ⟨g1, u, g2, g3, fun j hj => ?_⟩; have := g4 j hj; rw [← hw]
          rw [show off + a.toNat * wd + i * wd + j = off + (a.toNat + i) * wd + j from by rw [Nat.add_mul]; omega]
          exact this
        · cases hx
      · intro w hww
        simp only [Instr.sliceAt, Instr.slice, Sem.run_bind, run_underlying hu, Result.andThen_ok, hs, hT.sizeAt hk, Sem.run_pure]
  · cases h
end V
namespace V
variable {P : Program} {T : Tab} {M : Meaning} {E : E3} {w : World} {W : World → Prop}
theorem z27 {β : Type} : ∀ (cs l : List β) (i : Nat), (setAt l i cs).length = l.length
  | [], l, i => by simp [setAt]
  | c :: cs, l, i => by simp [setAt, z27 cs]
theorem z1u {β : Type} : ∀ (cs l : List β) (i j : Nat), i + cs.length ≤ l.length → (setAt l i cs)[j]? = if i ≤ j ∧ j < i + cs.length then cs[j - i]? else l[j]?
  | [], l, i, j, h => by simp [setAt]; intro h1 h2; omega
  | c :: cs, l, i, j, h => by
    simp only [List.length_cons] at h; simp only [setAt]
    rw [z1u cs (l.set i c) (i + 1) j (by simp; omega)]
    by_cases h1 : i + 1 ≤ j ∧ j < i + 1 + cs.length
    · rw [if_pos h1, if_pos (by simp; omega), show j - i = (j - (i + 1)) + 1 from by omega, List.getElem?_cons_succ]
    · rw [if_neg h1, List.getElem?_set]
      by_cases h2 : i = j
      · subst h2
        rw [if_pos (by simp), if_pos (by omega)]
        simp
      · rw [if_neg h2, if_neg (by simp only [List.length_cons]; omega)]
theorem zi3 {β : Type} (cs l : List β) (i : Nat) (h : i + cs.length ≤ l.length) : setAt l i cs = l.take i ++ cs ++ l.drop (i + cs.length) := by
  apply List.ext_getElem?; intro j; rw [z1u cs l i j h]
  by_cases h1 : i ≤ j
  · by_cases h2 : j < i + cs.length
    · rw [if_pos ⟨h1, h2⟩, List.getElem?_append_left (by simp; omega), List.getElem?_append_right (by simp; omega)]
      simp
      congr 1
      omega
    · rw [if_neg (by omega), List.getElem?_append_right (by simp; omega)]
      simp
      congr 1
      omega
  · rw [if_neg (by omega), List.getElem?_append_left (by simp; omega), List.getElem?_append_left (by simp; omega), List.getElem?_take, if_pos (by omega)]
theorem z88 {l : List AV} {vs : List Value} {i : Nat} {cs : List AV} {us : List Value} (h : RepL E l vs) (hc : RepL E cs us) (hi : i + cs.length ≤ l.length) : RepL E (setAt l i cs) (setAt vs i us) := by
  have e1 := h.length; have e2 := hc.length
  refine RepL.of_get (by simp [z27, e1]) fun j x v hx hv => ?_
  rw [z1u _ _ _ _ hi] at hx
  rw [z1u _ _ _ _ (by omega)] at hv
  split at hx
  · rename_i hj
    rw [if_pos (by omega)] at hv
    obtain ⟨v', e, r⟩ := hc.get _ x hx; rw [hv] at e
    cases e
    exact r
  · rename_i hj
    rw [if_neg (by omega)] at hv
    obtain ⟨v', e, r⟩ := h.get _ x hx; rw [hv] at e
    cases e
    exact r
theorem z37 {td : TD} {x : AV} {u : Value} {k : List AV → Prop} (hx : Rep E x u) (h : cellsAs (PA M) td x k) :
    ∃ cs, k cs ∧ td.known = true ∧ RepL E cs u.cells.toList ∧ u.cells.size = td.size ∧ cs.length = td.size ∧ ((td.isAgg = true ∧ x = .agg cs) ∨ (td.isAgg = false ∧ cs = [x] ∧ x.one = true)) := by
  simp only [cellsAs, zb] at h; obtain ⟨hk, h⟩ := h
  cases ha : td.isAgg with
  | true =>
    rw [ha] at h; simp only [cond_true, z6b, z1f, Nat.beq_eq] at h; obtain ⟨l, rfl, hl, h⟩ := h; simp only [Rep] at hx; obtain ⟨vs, rfl, hv⟩ := hx
    exact ⟨l, h, hk, by simpa [Value.cells] using hv, by simp [Value.cells, ← hv.length, hl], hl, .inl ⟨rfl, rfl⟩⟩
  | false =>
    rw [ha] at h; simp only [cond_false, zb, Bool.and_eq_true, Nat.beq_eq] at h; obtain ⟨⟨ho, hs⟩, h⟩ := h
    have hv : u.oneCell' = true ∧ u.cells = #[u] := by
      cases x <;> simp only [Rep] at hx <;> simp only [AV.one] at ho <;> try (cases ho; done)
      · subst hx; exact ⟨rfl, rfl⟩
      · subst hx; exact ⟨rfl, rfl⟩
      · obtain ⟨rfl, _⟩ := hx; exact ⟨rfl, rfl⟩
      · obtain ⟨a, n, c, rfl, _⟩ := hx; exact ⟨rfl, rfl⟩
      · obtain ⟨b, _, rfl⟩ := hx; exact ⟨rfl, rfl⟩
      · obtain ⟨b, o, rfl, _⟩ := hx; exact ⟨rfl, rfl⟩
      · subst hx; exact ⟨rfl, rfl⟩
      · obtain ⟨vs, rfl, _⟩ := hx; exact ⟨rfl, rfl⟩
      · obtain ⟨_, a, n, c, rfl⟩ := hx; exact ⟨rfl, rfl⟩
      · obtain ⟨b, n, c, _, _, rfl⟩ := hx; exact ⟨rfl, rfl⟩
      · obtain ⟨b, n, c, _, _, rfl⟩ := hx; exact ⟨rfl, rfl⟩
      · obtain ⟨b, _, rfl⟩ := hx; exact ⟨rfl, rfl⟩
    refine ⟨[x], h, hk, ?_, by rw [hv.2]; simpa using hs.symm, by simpa using hs.symm, .inr ⟨rfl, rfl, ho⟩⟩
    rw [hv.2]; simp only [RepL]; exact ⟨u, [], rfl, ho, hv.1, hx, rfl⟩
theorem z7a : ∀ (us : List Value) (off i : Nat) (cells : Array Value),
    (us.zipIdx i).foldl (fun cs (p : Value × Nat) => cs.setIfInBounds (off + p.2) p.1) cells = (setAt cells.toList (off + i) us).toArray
  | [], off, i, cells => by simp [setAt]
  | u :: us, off, i, cells => by
    simp only [List.zipIdx_cons, List.foldl_cons]; rw [z7a us off (i + 1)]; simp [setAt, Nat.add_assoc]
theorem zdh {ρ : Operand → Value} {place : Nat → Option (Nat × TD)} {pl : Nat → Option (Nat × Nat)} (hp : ∀ i off td, place i = some (off, td) → td.known = true → pl i = some (off, td.size)) {k : List AV → Prop} :
    ∀ (ps : List (Nat × Operand)) (vs z : List AV) (zc : Array Value), RepL E z zc.toList → RepT E vs (ps.map fun p => ρ p.2) → fillV (PA M) place z ps vs k →
      ∃ z' zc', k z' ∧ RepL E z' zc'.toList ∧ Instr.fill pl zc (ps.map fun p => (p.1, ρ p.2)) = some zc'
  | [], vs, z, zc, hz, hv, h => by
    cases vs with
    | nil => exact ⟨z, zc, h, hz, rfl⟩
    | cons v vs => simp [RepT] at hv
  | (i, x) :: ps, vs, z, zc, hz, hv, h => by
    cases vs with
    | nil => simp [RepT] at hv
    | cons v vs =>
      simp only [List.map_cons, RepT] at hv; obtain ⟨u, r, he, hv1, hv2⟩ := hv; injection he with he1 he2
      subst he1; subst he2; unfold fillV at h
      split at h
      · cases h
      · rename_i off td hpl
        obtain ⟨cs, h, hk, hcs, hsz, hln, _⟩ := z37 hv1 h; simp only [z1f, Nat.ble_eq] at h; obtain ⟨hfit, h⟩ := h; have hzl := hz.length
        obtain ⟨z', zc', h1, h2, h3⟩ := zdh hp ps vs (setAt z off cs) ((setAt zc.toList off (ρ x).cells.toList).toArray) (by simpa using z88 hz hcs hfit) hv2 h
        refine ⟨z', zc', h1, h2, ?_⟩; simp only [List.map_cons, Instr.fill, hp i off td hpl hk]
        have hb : ((ρ x).cells.size ≠ td.size || decide (off + (ρ x).cells.size > zc.size)) = false := by
          simp at hzl; simp [hsz]; omega
        have hb' : ¬ (((ρ x).cells.size ≠ td.size || decide (off + (ρ x).cells.size > zc.size)) = true) := by rw [hb]; simp
        have hf := z7a (ρ x).cells.toList off 0 zc; simp only [Nat.add_zero] at hf
        have hf' : (Array.foldl (fun cs (x : Value × Nat) => cs.setIfInBounds (off + x.2) x.1) zc (ρ x).cells.zipIdx) = (setAt zc.toList off (ρ x).cells.toList).toArray := by
          rw [← hf, ← Array.foldl_toList]; simp
        rw [if_neg hb', hf']; exact h3
theorem zg5 {x : AV} (h : x.flat1 = true) : x.one = true := by cases x <;> simp_all [AV.flat1, AV.one]
theorem z2n {x : AV} {u : Value} (hx : Rep E x u) (ho : x.one = true) : u.oneCell' = true ∧ u.cells = #[u] := by
  cases x <;> simp only [Rep] at hx <;> simp only [AV.one] at ho <;> try (cases ho; done)
  · subst hx; exact ⟨rfl, rfl⟩
  · subst hx; exact ⟨rfl, rfl⟩
  · obtain ⟨rfl, _⟩ := hx; exact ⟨rfl, rfl⟩
  · obtain ⟨a, n, c, rfl, _⟩ := hx; exact ⟨rfl, rfl⟩
  · obtain ⟨b, _, rfl⟩ := hx; exact ⟨rfl, rfl⟩
  · obtain ⟨b, o, rfl, _⟩ := hx; exact ⟨rfl, rfl⟩
  · subst hx; exact ⟨rfl, rfl⟩
  · obtain ⟨vs, rfl, _⟩ := hx; exact ⟨rfl, rfl⟩
  · obtain ⟨_, a, n, c, rfl⟩ := hx; exact ⟨rfl, rfl⟩
  · obtain ⟨b, n, c, _, _, rfl⟩ := hx; exact ⟨rfl, rfl⟩
  · obtain ⟨b, n, c, _, _, rfl⟩ := hx; exact ⟨rfl, rfl⟩
  · obtain ⟨b, _, rfl⟩ := hx; exact ⟨rfl, rfl⟩
theorem z3o {x : AV} {u : Value} (hf : x.flat = true) (hx : Rep E x u) : RepL E x.cells u.cells.toList ∧ x.cells.all AV.flat1 = true := by
  have key : x.flat1 = true → x.cells = [x] → RepL E x.cells u.cells.toList ∧ x.cells.all AV.flat1 = true := by
    intro h1 h2; obtain ⟨g1, g2⟩ := z2n hx (zg5 h1); rw [h2, g2]
    refine ⟨?_, by simpa using h1⟩
    simp only [RepL]; exact ⟨u, [], rfl, zg5 h1, g1, hx, rfl⟩
  cases x with
  | agg l =>
    simp only [Rep] at hx; obtain ⟨vs, rfl, hv⟩ := hx
    exact ⟨by simpa [Value.cells, AV.cells] using hv, by simpa [AV.flat, AV.cells] using hf⟩
  | _ => exact key hf rfl
def ObjK (E : E3) (objs : Os) (W : World → Prop) : Prop :=
  ∀ o cs, (objs o = some (.live cs) ∨ objs o = some (.frz cs)) → ∃ b vs, E.mu o = some b ∧ RepL E cs vs ∧ ∀ w, W w → ∀ (j : Nat) (v : Value), vs[j]? = some v → w.cell? ⟨b, j, none⟩ = some v
theorem z15 {x : AV} {us : List Value} (h : RepT E [x] us) : ∃ u, us = [u] ∧ Rep E x u := by
  simp only [RepT] at h; obtain ⟨v, r, rfl, h1, rfl⟩ := h; exact ⟨v, rfl, h1⟩
theorem z1y {x y : AV} {us : List Value} (h : RepT E [x, y] us) : ∃ u v, us = [u, v] ∧ Rep E x u ∧ Rep E y v := by
  simp only [RepT] at h; obtain ⟨v, r, rfl, h1, v2, r2, rfl, h2, rfl⟩ := h; exact ⟨v, v2, rfl, h1, h2⟩
theorem zna {x y z : AV} {us : List Value} (h : RepT E [x, y, z] us) : ∃ u v t, us = [u, v, t] ∧ Rep E x u ∧ Rep E y v ∧ Rep E z t := by
  simp only [RepT] at h; obtain ⟨v, r, rfl, h1, v2, r2, rfl, h2, v3, r3, rfl, h3, rfl⟩ := h; exact ⟨v, v2, v3, rfl, h1, h2, h3⟩
theorem RepT.get : ∀ {l : List AV} {vs : List Value}, RepT E l vs → ∀ (i : Nat) (x : AV), l[i]? = some x → ∃ v, vs[i]? = some v ∧ Rep E x v
  | [], vs, _, i, x, hx => by simp at hx
  | y :: l, vs, r, i, x, hx => by
    simp only [RepT] at r; obtain ⟨v, r', rfl, h3, h⟩ := r
    cases i with
    | zero => simp at hx; subst hx; exact ⟨v, by simp, h3⟩
    | succ i => simp at hx; simpa using RepT.get h i x hx
theorem zc0 {isMax : Bool} {k : AV → Prop} : ∀ (l : List AV) (x : AV) (u : Value) (us : List Value), Rep E x u → RepT E l us → mm (PA M) isMax x l k →
    ∃ x' v, k x' ∧ Rep E x' v ∧ ∀ w, (us.foldlM (if isMax then Builtin.max2 else Builtin.min2) u).run P w = .ok v w
  | [], x, u, us, hx, hl, h => by
    simp only [RepT] at hl; subst hl
    exact ⟨x, u, by cases x <;> simpa [mm] using h, hx, by simp⟩
  | y :: l, x, u, us, hx, hl, h => by
    simp only [RepT] at hl; obtain ⟨v, r, rfl, h1, h2⟩ := hl
    cases x with
    | int ik a =>
      cases y with
      | int jk b =>
        simp only [mm, zb, decide_eq_true_eq] at h; obtain ⟨rfl, h⟩ := h; simp only [Rep] at hx h1
        subst hx; subst h1
        obtain ⟨x', v', g1, g2, g3⟩ := zc0 l _ (.int ik (bif isMax then (if a < b then b else a) else (if b < a then b else a))) r z1p h2 h
        refine ⟨x', v', g1, g2, ?_⟩; intro w; have g3 := g3 w
        cases isMax <;> simp [Builtin.max2, Builtin.min2] at g3 ⊢ <;> exact g3
      | _ => simp [mm] at h
    | _ => cases y <;> simp [mm] at h
theorem z9c (hT : TabOK P T) : ∀ {fields : List Field}, ((fields.map (fun f => (f.offset, f.type))).all (fun f => (T.ty f.2).known)) = true →
    fields.mapM (fun f => (P.info? f.type).map fun i => (f.offset, i.size)) = some (fields.map fun f => (f.offset, (T.ty f.type).size))
  | [], _ => rfl
  | f :: fs, h => by
    simp only [List.map_cons, List.all_cons, Bool.and_eq_true] at h; obtain ⟨i, h1, h2, _⟩ := (hT f.type).info h.1; simp [List.mapM_cons, h1, h2, z9c hT h.2]
set_option maxHeartbeats 2000000 in
theorem z7b (hT : TabOK P T) (hK : ∀ w, W w → Known E w) {objs : Os} (hO : ObjK E objs W) {ρ : Operand → Value} {o : Oper} {vs : List AV} {k : AV → Prop}
    (hv : RepT E vs (o.op.operands.toList.map ρ)) (h : pureV (PA M) T o.op vs objs k) : ∃ x v, k x ∧ Rep E x v ∧ ∀ w, W w → (execOp ρ o).run P w = .ok (.value v) w := by
  obtain ⟨dst, op, ty, pos, after, guard⟩ := o; dsimp only at hv h
  have lift : ∀ (s : Sem Value) (k' : AV → Prop), Gives P E W s k' → (execOp ρ ⟨dst, op, ty, pos, after, guard⟩ = do pure (.value (← s))) → ∃ x v, k' x ∧ Rep E x v ∧ ∀ w, W w → (execOp ρ ⟨dst, op, ty, pos, after, guard⟩).run P w = .ok (.value v) w := by
    rintro s k' ⟨x, v, h1, h2, h3⟩ he
    exact ⟨x, v, h1, h2, fun w hww => by rw [he]; simp [h3 w hww]⟩
  unfold pureV at h
  split at h
  · rename_i a x
    simp only [Op.operands, List.map_cons, List.map_nil] at hv; obtain ⟨u, e, hx⟩ := z15 hv
    injection e with e _; subst e; exact ⟨x, ρ a, h, hx, fun _ _ => rfl⟩
  · rename_i a x
    simp only [Op.operands, List.map_cons, List.map_nil] at hv; obtain ⟨u, e, hx⟩ := z15 hv
    injection e with e _; subst e; exact ⟨x, ρ a, h, hx, fun _ _ => rfl⟩
  · rename_i c a b xc xa xb
    simp only [Op.operands, List.map_cons, List.map_nil] at hv; obtain ⟨uc, ua, ub, e, hc, ha, hb⟩ := zna hv
    injection e with e1 e; injection e with e2 e; injection e with e3 _; simp only [z3u] at h; obtain ⟨t, rfl, h⟩ := h; simp only [Rep] at hc; subst hc
    cases t
    · exact ⟨xb, ub, h, hb, fun w hww => by simp [execOp, e1, e3, asBool]⟩
    · exact ⟨xa, ua, h, ha, fun w hww => by simp [execOp, e1, e2, asBool]⟩
  · rename_i bo t a b yt x y
    simp only [Op.operands, List.map_cons, List.map_nil] at hv; obtain ⟨ux, uy, e, hx, hy⟩ := z1y hv
    injection e with e1 e; injection e with e2 _; refine lift _ _ (zp2 (xo := a) (yo := b) hT hx hy h) ?_; simp only [execOp, ← e1, ← e2]
  · rename_i uo t a x
    simp only [Op.operands, List.map_cons, List.map_nil] at hv; obtain ⟨ux, e, hx⟩ := z15 hv; injection e with e1 _; refine lift _ _ (zs0 hx h) ?_; simp only [execOp, ← e1]
  · rename_i a x
    simp only [Op.operands, List.map_cons, List.map_nil] at hv; obtain ⟨ux, e, hx⟩ := z15 hv; injection e with e1 _
    split at h
    · refine ⟨_, ux, h, hx, ?_⟩
      simp only [Rep] at hx; obtain ⟨b, _, rfl⟩ := hx; intro w hww; simp [execOp, e1]
    · refine ⟨_, ux, h, hx, ?_⟩
      simp only [Rep] at hx; obtain ⟨b, off, rfl, _⟩ := hx; intro w hww; simp [execOp, e1]
    · refine ⟨_, ux, h, hx, ?_⟩
      simp only [Rep] at hx; obtain ⟨vs, rfl, _⟩ := hx; intro w hww; simp [execOp, e1]
    · refine ⟨_, ux, h, hx, ?_⟩
      simp only [Rep] at hx; obtain ⟨b, n, c, _, _, rfl⟩ := hx; intro w hww; simp [execOp, e1]
    · cases h
  · rename_i s a f x
    simp only [Op.operands, List.map_cons, List.map_nil] at hv; obtain ⟨ux, e, hx⟩ := z15 hv; injection e with e1 _
    split at h
    · rename_i off ft hf
      simp only [zb, Bool.and_eq_true, Nat.blt_eq] at h; obtain ⟨⟨hk, hsz⟩, h⟩ := h; unfold fieldOf at hf
      split at hf
      · rename_i fs hfs
        obtain ⟨fields, hu, hfl⟩ := hT.struct hfs; rw [← hfl, List.getElem?_map] at hf
        cases hfe : fields.toList[f]? with
        | none => rw [hfe] at hf; cases hf
        | some fe =>
          rw [hfe] at hf; simp only [Option.map_some, Option.some.injEq, Prod.mk.injEq] at hf; obtain ⟨rfl, rfl⟩ := hf
          have hfe' : fields[f]? = some fe := by simpa using hfe
          have hplace : ∀ (w : World) b i, (fieldPlace ⟨b, i, none⟩ fe).run P w = .ok ⟨b, i + fe.offset, none⟩ w := by
            intro w b i
            have : (T.ty fe.type).size ≠ 0 := by omega
            simp [fieldPlace, hT.sizeAt hk, this, z1x]
          unfold padd at h
          split at h
          · rename_i ob i
            simp only [Rep] at hx; obtain ⟨b, hb, rfl⟩ := hx; refine lift (Instr.fieldAt s (ρ a) f) _ ?_ rfl
            refine gives _ (.pointer (some ⟨b, i + fe.offset, none⟩)) h (by simp only [Rep]; exact ⟨b, hb, rfl⟩) ?_
            intro w hww; rw [e1]; simp [Instr.fieldAt, run_underlying hu, hfe', Instr.sureAddr, hplace]
          · rename_i l i
            have hx' := hx; simp only [Rep] at hx; obtain ⟨b, of0, rfl, hfl1, vs0, g1, g2⟩ := hx; refine lift (Instr.fieldAt s (ρ a) f) _ ?_ rfl
            refine gives _ (.pointer (some ⟨b, of0 + i + fe.offset, none⟩)) h (by simp only [Rep]; exact ⟨b, of0, by rw [Nat.add_assoc], hfl1, vs0, g1, g2⟩) ?_
            intro w hww; rw [e1]; simp [Instr.fieldAt, run_underlying hu, hfe', Instr.sureAddr, hplace]
          · rename_i q0 w0 i j
            have hx' := hx; simp only [Rep] at hx; obtain ⟨b, n0, c0, g1, g2, rfl⟩ := hx; refine lift (Instr.fieldAt s (ρ a) f) _ ?_ rfl
            refine gives _ (.pointer (some ⟨b, i * w0 + j + fe.offset, none⟩)) h (by simp only [Rep]; exact ⟨b, n0, c0, g1, g2, by rw [Nat.add_assoc]⟩) ?_
            intro w hww; rw [e1]; simp [Instr.fieldAt, run_underlying hu, hfe', Instr.sureAddr, hplace]
          · cases h
      · cases hf
    · cases h
  · -- field of a value
    rename_i s a f x; simp only [Op.operands, List.map_cons, List.map_nil] at hv; obtain ⟨ux, e, hx⟩ := z15 hv; injection e with e1 _; simp only [z6b] at h; obtain ⟨l, rfl, h⟩ := h; simp only [Rep] at hx; obtain ⟨cs, rfl, hl⟩ := hx
    split at h
    · rename_i off ft hf
      unfold fieldOf at hf
      split at hf
      · rename_i fs hfs
        obtain ⟨fields, hu, hfl⟩ := hT.struct hfs; rw [← hfl, List.getElem?_map] at hf
        cases hfe : fields.toList[f]? with
        | none => rw [hfe] at hf; cases hf
        | some fe =>
          rw [hfe] at hf; simp only [Option.map_some, Option.some.injEq, Prod.mk.injEq] at hf; obtain ⟨rfl, rfl⟩ := hf
          have hfe' : fields[f]? = some fe := by simpa using hfe
          refine lift (Instr.field s (ρ a) f) _ ?_ rfl; obtain ⟨x', v', g1, g2, g3⟩ := zbk (W := W) hT hl h; refine gives x' v' g1 g2 ?_; intro w hww; rw [e1]; simp [Instr.field, run_underlying hu, hfe', asAgg, g3 w hww]
      · cases hf
    · cases h
  · -- load
    rename_i t a x; simp only [Op.operands, List.map_cons, List.map_nil] at hv; obtain ⟨ux, e, hx⟩ := z15 hv; injection e with e1 _
    split at h
    · rename_i l i
      have hx' := hx; simp only [Rep] at hx'; obtain ⟨b, off, rfl, _, us, hl, hSS⟩ := hx'
      have hc : ∀ w, W w → ∀ (j : Nat) (v : Value), us[j]? = some v → w.cell? ⟨b, off + j, none⟩ = some v := fun w hww j v hj => (hK w hww).agree _ _ _ (by rw [hSS j (List.getElem?_eq_some_iff.1 hj).1, hj])
      obtain ⟨x', v', g1, g2, g3⟩ := z5t hT hl hc h; refine lift (Instr.loadAt t (ρ a)) _ (gives x' v' g1 g2 ?_) rfl; intro w hww; rw [e1]; simp [Instr.loadAt, Instr.sureAddr, g3 w hww]
    · rename_i ob i
      simp only [Rep] at hx; obtain ⟨b, hb, rfl⟩ := hx; have key : ∀ cs, (objs ob = some (.live cs) ∨ objs ob = some (.frz cs)) → part (PA M) (T.ty t) cs i k →
          ∃ x v, k x ∧ Rep E x v ∧ ∀ w, W w → (execOp ρ ⟨dst, .load t a, ty, pos, after, guard⟩).run P w = .ok (.value v) w := by
        intro cs hcs h; obtain ⟨b', us, hb', hl, hc⟩ := hO ob cs hcs; rw [hb] at hb'
        cases hb'
        obtain ⟨x', v', g1, g2, g3⟩ := z5t (off := 0) hT hl (by simpa using hc) h
        refine lift (Instr.loadAt t (ρ a)) _ (gives x' v' g1 g2 ?_) rfl; intro w hww; rw [e1]; simp only [Nat.zero_add] at g3; simp [Instr.loadAt, Instr.sureAddr, g3 w hww]
      split at h
      · rename_i cs hcs
        exact key cs (.inl hcs) h
      · rename_i cs hcs
        exact key cs (.inr hcs) h
      · cases h
    · cases h
  · -- the address of an element
    rename_i t a ia x ix; simp only [Op.operands, List.map_cons, List.map_nil] at hv; obtain ⟨ux, ui, e, hx, hi⟩ := z1y hv
    injection e with e1 e; injection e with e2 _
    split at h
    · rename_i el m wd l ik n ht
      simp only [zb, Bool.and_eq_true, Nat.beq_eq, zf3] at h; obtain ⟨⟨hw, hek⟩, h0, v, hvn, h⟩ := h; have h := z21 h; have hu := hT.slice ht; simp only [Rep] at hi; subst hi; simp only [Rep] at hx; obtain ⟨ba, len, cap, rfl, hl, hlc, hcm, he1, _, _⟩ := hx; have hlt : n.toNat < l.length := (List.getElem?_eq_some_iff.1 hvn).1
      obtain ⟨b, off, rfl, hE⟩ := he1 (by intro h0; subst h0; simp at hlt)
      obtain ⟨g1, u, g2, g3, g4⟩ := hE.get _ v hvn; have hsz : ∀ w, (sizeOf el).run P w = .ok (T.ty el).size w := fun w => hT.sizeAt hek w; refine lift (Instr.indexAt t (ρ a) (ρ ia)) _ (gives _ (.pointer (some ⟨b, off + n.toNat * wd + 0, none⟩)) h ?_ ?_) rfl
      · have hcell : RepL E v.cells u.cells.toList ∧ v.cells.all AV.flat1 = true := z3o g1 g2
        simp only [Rep]; refine ⟨b, off + n.toNat * wd, rfl, hcell.2, u.cells.toList, hcell.1, fun j hj => ?_⟩
        rw [g4 j (by simpa [g3] using hj)]
        simp
      · intro w hww
        rw [e1, e2]
        have : n < (len : Int) := by omega
        simp [Instr.indexAt, asIntOf, run_underlying hu, h0, this, hsz, z1x, hw]
    · rename_i len el ob i ik n ht
      simp only [zb, z42] at h; obtain ⟨hek, ⟨h0, h1⟩, h⟩ := h; have hu := hT.array ht; simp only [Rep] at hi; subst hi; simp only [Rep] at hx; obtain ⟨b, hb, rfl⟩ := hx; have hsz : ∀ w, (sizeOf el).run P w = .ok (T.ty el).size w := fun w => hT.sizeAt hek w
      refine lift (Instr.indexAt t (ρ a) (ρ ia)) _ (gives _ (.pointer (some ⟨b, i + n.toNat * (T.ty el).size, none⟩)) h (by simp only [Rep]; exact ⟨b, hb, rfl⟩) ?_) rfl
      intro w hww; rw [e1, e2]; simp [Instr.indexAt, asIntOf, run_underlying hu, h0, h1, hsz, z1x, Instr.sureAddr]
    · rename_i len el l i ik n ht
      simp only [zb, z42] at h; obtain ⟨hek, ⟨h0, h1⟩, h⟩ := h; have hu := hT.array ht; simp only [Rep] at hi; subst hi; simp only [Rep] at hx; obtain ⟨b, off, rfl, hf1, vs0, q1, q2⟩ := hx; have hsz : ∀ w, (sizeOf el).run P w = .ok (T.ty el).size w := fun w => hT.sizeAt hek w
      refine lift (Instr.indexAt t (ρ a) (ρ ia)) _ (gives _ (.pointer (some ⟨b, off + i + n.toNat * (T.ty el).size, none⟩)) h (by simp only [Rep]; exact ⟨b, off, by rw [Nat.add_assoc], hf1, vs0, q1, q2⟩) ?_) rfl
      intro w hww; rw [e1, e2]; simp [Instr.indexAt, asIntOf, run_underlying hu, h0, h1, hsz, z1x, Instr.sureAddr]
    · cases h
  · -- an element of a value
    rename_i t a ia x ix; simp only [Op.operands, List.map_cons, List.map_nil] at hv; obtain ⟨ux, ui, e, hx, hi⟩ := z1y hv
    injection e with e1 e; injection e with e2 _
    split at h
    · rename_i s ik n ht
      simp only [zf3] at h; obtain ⟨h0, b, hb, h⟩ := h; have hu := hT.str ht; simp only [Rep] at hi hx; subst hi; obtain ⟨rfl, hl⟩ := hx; have hlt : n.toNat < s.length := (List.getElem?_eq_some_iff.1 hb).1; have hbe : s[n.toNat] = b := (List.getElem?_eq_some_iff.1 hb).2; refine lift (Instr.index t (ρ a) (ρ ia)) _ (gives _ _ h z1p ?_) rfl; intro w hww; rw [e1, e2, run_index_string w t _ ik n hu]
      have hsz : (ByteArray.mk s.toArray).size = s.length := by simp [ByteArray.size]
      rw [dif_pos ⟨h0, by rw [hsz]; omega⟩]
      have hg : (ByteArray.mk s.toArray)[n.toNat]'(by rw [hsz]; exact hlt) = b := by
        rw [← hbe]; rfl
      rw [hg]
    · rename_i len el l ik n ht
      simp only [zb, z42] at h; obtain ⟨hek, ⟨h0, h1⟩, h⟩ := h; have hu := hT.array ht; simp only [Rep] at hi hx; subst hi; obtain ⟨cs, rfl, hl⟩ := hx; obtain ⟨x', v', g1, g2, g3⟩ := zbk (W := W) hT hl h; refine lift (Instr.index t (ρ a) (ρ ia)) _ (gives x' v' g1 g2 ?_) rfl; intro w hww; rw [e1, e2]; simp [Instr.index, asIntOf, run_underlying hu, h0, h1, hT.sizeAt hek, g3 w hww]
    · cases h
  · -- a slice expression
    rename_i t a lo hi mx x vs; simp only [Op.operands, Array.toList_append, List.map_append, List.map_cons, List.map_nil, List.cons_append, List.nil_append] at hv; simp only [RepT] at hv; obtain ⟨u, r, e, hx, hr⟩ := hv; injection e with e1 e2; subst e2
    have hr' : RepT E vs ((lo.map ρ).toList ++ (hi.map ρ).toList ++ (mx.map ρ).toList) := by
      have : ∀ (o : Option Operand), List.map ρ o.toArray.toList = (o.map ρ).toList := by intro o; cases o <;> rfl
      simpa only [this, List.append_assoc] using hr
    refine lift (Instr.sliceAt t (ρ a) (lo.map ρ) (hi.map ρ) (mx.map ρ)) _ ?_ rfl; rw [e1]; exact zl0 hT hx hr' h
  · -- a component
    rename_i a i x; simp only [Op.operands, List.map_cons, List.map_nil] at hv; obtain ⟨ux, e, hx⟩ := z15 hv; injection e with e1 _
    split at h
    · rename_i l
      simp only [z50] at h; obtain ⟨y, hy, h⟩ := h; simp only [Rep] at hx; obtain ⟨us, rfl, hl⟩ := hx; obtain ⟨v, hv1, hv2⟩ := hl.get i y hy; refine lift (Instr.extract (ρ a) i) _ (gives _ _ h hv2 ?_) rfl; intro w hww; rw [e1]; simp [Instr.extract, hv1]
    · cases h
  · -- a struct or array out of parts
    rename_i vs' t parts; simp only [zb, Bool.and_eq_true, Bool.not_eq_true'] at h; obtain ⟨⟨⟨ha, hz⟩, hpk⟩, h⟩ := h
    have hk : (T.ty t).known = true := by unfold TD.isAgg at ha; unfold TD.known; split at ha <;> simp_all
    obtain ⟨i, hi1, hi2, hi3, hi4⟩ := (hT t).info hk; obtain ⟨z, hz1, hz2, hz3, _, hz4⟩ := hi4 hz; obtain ⟨zc, rfl⟩ := hz3 ha
    have hv' : RepT E vs (parts.toList.map fun p => ρ p.2) := by
      simpa [Op.operands, Function.comp_def] using hv
    refine lift (Instr.build t (parts.map fun (i, x) => (i, ρ x))) _ ?_ rfl; have fin : ∀ (pl : Nat → Option (Nat × Nat)), (∀ i off td, placeS T (T.ty t) i = some (off, td) → td.known = true → pl i = some (off, td.size)) →
        ∃ zc', Instr.fill pl zc (parts.toList.map fun p => (p.1, ρ p.2)) = some zc' ∧ ∃ z', k (.agg z') ∧ Rep E (.agg z') (.agg zc') := by
      intro pl hp
      obtain ⟨z', zc', g1, g2, g3⟩ := zdh (pl := pl) hp parts.toList vs (T.ty t).zero zc (by simpa [Value.cells] using hz4 E) hv' h
      exact ⟨zc', g3, z', g1, by simp only [Rep]; exact ⟨zc'.toList, by simp, g2⟩⟩
    have hmap : ∀ (pl : Nat → Option (Nat × Nat)), Instr.fill pl zc (parts.map fun (i, x) => (i, ρ x)).toList = Instr.fill pl zc (parts.toList.map fun p => (p.1, ρ p.2)) := by
      intro pl; simp
    unfold partsK at hpk
    split at hpk
    · rename_i fs hfs
      obtain ⟨fields, hu, hfl⟩ := hT.struct hfs
      have hpl := z9c hT (fields := fields.toList) (by rw [hfl]; exact hpk)
      have hr := fun w => run_places (P := P) w _ _ hpl
      obtain ⟨zc', g1, z', g2, g3⟩ := fin (fun i => ((fields.toList.map fun f => (f.offset, (T.ty f.type).size)).toArray)[i]?) (by
        intro i off td hp _; unfold placeS at hp; rw [hfs] at hp; dsimp only at hp
        split at hp
        · rename_i off' t' hfi
          injection hp with hp; injection hp with e1 e2
          subst e1; subst e2; rw [← hfl, List.getElem?_map] at hfi
          cases hfe : fields.toList[i]? with
          | none => rw [hfe] at hfi; cases hfi
          | some fe =>
            rw [hfe] at hfi; simp only [Option.map_some, Option.some.injEq, Prod.mk.injEq] at hfi; obtain ⟨rfl, rfl⟩ := hfi; simp only [Array.getElem?_toList] at hfe; simp [hfe]
        · cases hp)
      refine gives _ _ g2 g3 ?_; intro w hww; simp only [Instr.build, zeroValue, typeInfo, hi1, hz1, Sem.run_bind, run_program, Result.andThen_ok, Sem.run_pure, run_underlying hu, Value.cells, Array.mapM_eq_mapM_toList]; simp at g1; simp [hr, g1]
    · rename_i n el hfs
      have hu := hT.array hfs
      obtain ⟨zc', g1, z', g2, g3⟩ := fin (fun i => some (i * (T.ty el).size, (T.ty el).size)) (by
        intro i off td hp _; unfold placeS at hp; rw [hfs] at hp; injection hp with hp; injection hp with e1 e2
        subst e1; subst e2
        rfl)
      refine gives _ _ g2 g3 ?_; intro w hww; simp only [Instr.build, zeroValue, typeInfo, hi1, hz1, Sem.run_bind, run_program, Result.andThen_ok, Sem.run_pure, run_underlying hu, Value.cells, hT.sizeAt hpk]; simp [g1]
    · cases hpk
  · -- len, min, max
    rename_i vs' b args ats
    have ho : (Op.call { callee := .builtin b, args := args, argTypes := ats }).operands.toList = args.toList := by simp [Op.operands, Call.operands]
    rw [ho] at hv
    split at h
    · rename_i x t hts
      obtain ⟨u, e, hx⟩ := z15 hv
      have hrun : ∀ v, (∀ w, (Builtin.len_ ats ty (args.map ρ)).run P w = .ok v w) → ∀ w, W w → (execOp ρ ⟨dst, .call { callee := .builtin .len, args := args, argTypes := ats }, ty, pos, after, guard⟩).run P w = .ok (.value v) w := by
        intro v hv w hww; simp [execOp, resolve, invoke, builtin, hv w]
      have h1 : (args.map ρ)[0]? = some u := by
        rw [← Array.getElem?_toList, Array.toList_map, e]; rfl
      have h2 : ats[0]? = some t := by
        rw [← Array.getElem?_toList, hts]; rfl
      split at h
      · rename_i n el ht
        refine ⟨_, _, h, z1p, hrun _ ?_⟩; intro w; simp only [Builtin.len_, h1, h2, Sem.run_bind, run_underlying (hT.array ht), Result.andThen_ok]
        cases u <;> rfl
      · rename_i el ht
        cases x <;> simp only [lenOf, zdg, z4z] at h
        · rename_i m wd l
          simp only [Rep] at hx; obtain ⟨a, len, cap, rfl, hl, hlc, hcm, _⟩ := hx
          refine ⟨_, _, h (by omega), z1p, hrun _ ?_⟩
          intro w; simp only [Builtin.len_, h1, h2, Sem.run_bind, run_underlying (hT.slice ht), Result.andThen_ok]; rw [hl]; rfl
      · rename_i ht
        cases x <;> simp only [lenOf, zdg, z4z] at h
        · simp only [Rep] at hx
          obtain ⟨rfl, hl⟩ := hx; rename_i s; refine ⟨_, _, h hl, z1p, hrun _ ?_⟩; intro w; simp only [Builtin.len_, h1, h2, Sem.run_bind, run_underlying (hT.str ht), Result.andThen_ok]
          have hsz : (ByteArray.mk s.toArray).size = s.length := by simp [ByteArray.size]
          rw [hsz]; rfl
      · cases h
    · rename_i x r
      simp only [RepT] at hv; obtain ⟨u, us, e, hx, hr⟩ := hv; obtain ⟨x', v', g1, g2, g3⟩ := zc0 (P := P) (isMax := false) r x u us hx hr h; refine ⟨x', v', g1, g2, ?_⟩; intro w hww; have g3 := g3 w
      have : (Builtin.min_ ats ty (args.map ρ)).run P w = .ok v' w := by
        simp only [Builtin.min_, Array.toList_map, e]; exact g3
      simp [execOp, resolve, invoke, builtin, this]
    · rename_i x r
      simp only [RepT] at hv; obtain ⟨u, us, e, hx, hr⟩ := hv; obtain ⟨x', v', g1, g2, g3⟩ := zc0 (P := P) (isMax := true) r x u us hx hr h; refine ⟨x', v', g1, g2, ?_⟩; intro w hww; have g3 := g3 w
      have : (Builtin.max_ ats ty (args.map ρ)).run P w = .ok v' w := by
        simp only [Builtin.max_, Array.toList_map, e]; exact g3
      simp [execOp, resolve, invoke, builtin, this]
    · cases h
  · cases h
end V
namespace V
structure Fr where
  w0 : World
  O : Nat → Prop
  S0 : Nat → Nat → Option Value
  mu0 : Nat → Option Nat
  mudom : ∀ j b, mu0 j = some b → j < 1000
def Fr.own (F : Fr) (b : Nat) : Prop := F.w0.heap.size ≤ b ∨ F.O b
structure Step (F : Fr) (w : World) : Prop where
  os : w.os = F.w0.os
  tape : w.tape = F.w0.tape
  output : w.output = F.w0.output
  size : F.w0.heap.size ≤ w.heap.size
  block : ∀ i, i < F.w0.heap.size → ¬ F.O i → w.heap[i]? = F.w0.heap[i]?
structure SrcR (E : E3) (sz : Nat) (r : List AV) (news : List Value) : Prop where
  size : news.length = r.length * sz
  get : ∀ (i : Nat) (x : AV), r[i]? = some x → (x.flat = true ∨ holdsRef x = true) ∧ ∃ u, Rep E x u ∧ u.cells.size = sz ∧ ∀ j, j < sz → news[i * sz + j]? = u.cells[j]?
theorem SrcR.mono {E E' : E3} (h : E.le E') {sz : Nat} {r : List AV} {news : List Value} (k : SrcR E sz r news) : SrcR E' sz r news :=
  ⟨k.size, fun i x hx => by
    obtain ⟨h1, u, h2, h3⟩ := k.get i x hx; exact ⟨h1, u, h2.mono h, h3⟩⟩
structure WI (F : Fr) (E : E3) (objs : Os) (cl : Cl) (w : World) : Prop where
  agree : ∀ b i v, E.S b i = some v → w.cell? ⟨b, i, none⟩ = some v
  live : ∀ o cs, objs o = some (.live cs) → ∃ b t vs, E.mu o = some b ∧ w.heap[b]? = some (.cells vs.toArray t (0, 0)) ∧ RepL E cs vs ∧ (∀ i, E.S b i = none) ∧ F.own b
  frz : ∀ o cs, objs o = some (.frz cs) → ∃ b vs, E.mu o = some b ∧ cs.all AV.flat1 = true ∧ RepL E cs vs ∧ ∀ j, j < vs.length → E.S b j = vs[j]?
  claim : ∀ q, isAl (cl q) = true → ∃ v sz t n xs, E.ka q = some (v, sz) ∧ 0 < sz ∧ w.ownsRow 0 t sz v n xs ∧ ∀ g, v.ownBlock = some g → F.own g ∧ ∀ i, n * sz ≤ i → E.S g i = none
  rows : ∀ q l, cl q = some (.row l) → ∃ v sz t n xs, E.ka q = some (v, sz) ∧ w.ownsRow 0 t sz v n xs ∧ SrcR E sz l xs ∧ l.length = n ∧ ∀ g, v.ownBlock = some g → ∀ i, E.S g i = none
  oo : ∀ o o' cs cs' b, objs o = some (.live cs) → objs o' = some (.live cs') → E.mu o = some b → E.mu o' = some b → o = o'
  cc : ∀ q q' v v' s s' g, isAl (cl q) = true → isAl (cl q') = true → E.ka q = some (v, s) → E.ka q' = some (v', s') → v.ownBlock = some g → v'.ownBlock = some g → q = q'
  oc : ∀ o cs b q v s, objs o = some (.live cs) → E.mu o = some b → isAl (cl q) = true → E.ka q = some (v, s) → v.ownBlock ≠ some b
  mdom : ∀ o b, E.mu o = some b → objs o ≠ none
  kdom : ∀ q x, E.ka q = some x → cl q ≠ none
  step : Step F w
  base : ∀ b i v, F.S0 b i = some v → E.S b i = some v
  sdom : ∀ b i v, E.S b i = some v → F.S0 b i = some v ∨ F.own b
  pm : ∀ j b cs, F.mu0 j = some b → objs j = some (.live cs) → E.mu j = some b
variable {F : Fr} {E : E3} {objs : Os} {cl : Cl} {w : World}
@[simp] theorem zk {β : Type} (f : Nat → Option β) (k : Nat) (v : β) : upd f k v k = some v := by simp [upd]
theorem zf {β : Type} (f : Nat → Option β) {k j : Nat} (v : β) (h : k ≠ j) : upd f k v j = f j := by
  have : Nat.beq k j = false := by rw [Bool.eq_false_iff]; intro e; exact h (Nat.eq_of_beq_eq_true e)
  simp [upd, this]
theorem Nm.beq_iff : ∀ {a b : Nm}, Nm.beq a b = true ↔ a = b := by
  intro a b
  cases a <;> cases b <;> simp [Nm.beq, and_assoc]
@[simp] theorem zp (f : Cl) (k : Nm) (v : Cs) : updN f k v k = some v := by
  have : Nm.beq k k = true := Nm.beq_iff.2 rfl; simp [updN, this]
theorem zm (f : Cl) {k j : Nm} (v : Cs) (h : k ≠ j) : updN f k v j = f j := by
  have : Nm.beq k j = false := by rw [Bool.eq_false_iff]; intro e; exact h (Nm.beq_iff.1 e)
  simp [updN, this]
theorem WI.known (h : WI F E objs cl w) : Known E w := ⟨h.agree⟩
theorem WI.objK (h : WI F E objs cl w) : ObjK E objs (· = w) := by
  rintro o cs (ho | ho)
  · obtain ⟨b, t, vs, h1, h2, h3, _⟩ := h.live o cs ho
    exact ⟨b, vs, h1, h3, fun w' e j v hj => by subst e; rw [cell_of_row _ b j vs.toArray t (0, 0) h2]; simpa using hj⟩
  · obtain ⟨b, vs, h1, _, h3, h4⟩ := h.frz o cs ho
    exact ⟨b, vs, h1, h3, fun w' e j v hj => by subst e; exact h.agree b j v (by rw [h4 j (List.getElem?_eq_some_iff.1 hj).1, hj])⟩
theorem Step.same_heap {w' : World} (h : Step F w) (h1 : w'.os = w.os) (h2 : w'.tape = w.tape) (h3 : w'.output = w.output) (h4 : w'.heap = w.heap) : Step F w' :=
  ⟨h1.trans h.os, h2.trans h.tape, h3.trans h.output, by rw [h4]; exact h.size, fun i hi ho => by rw [h4]; exact h.block i hi ho⟩
theorem z2o {w' : World} {base : Nat} {e : TypeId} {size : Nat} {v : Value} {n : Nat} {xs : List Value} (h : w.ownsRow base e size v n xs)
    (hb : ∀ g, v.ownBlock = some g → w'.heap[g]? = w.heap[g]?) : w'.ownsRow base e size v n xs := by
  refine ⟨h.1, ?_⟩
  rcases h.2 with hn | ⟨g, cap, cur, rfl, hbg, hgg, rest⟩
  · exact .inl hn
  · refine .inr ⟨g, cap, cur, rfl, hbg, ?_, rest⟩
    rw [hb g (by simp [Value.ownBlock])]
    exact hgg
theorem z16 {o : Option Cs} {l : List AV} (h : o = some (.row l)) : isAl o = true := by subst h; rfl
theorem zs1 {o : Option Cs} (h : o = some .own) : isAl o = true := by subst h; rfl
theorem WI.world {w' : World} (h : WI F E objs cl w) (hs : Step F w') (hS : ∀ b i v, E.S b i = some v → w'.cell? ⟨b, i, none⟩ = some v)
    (ho : ∀ o cs b, objs o = some (.live cs) → E.mu o = some b → w'.heap[b]? = w.heap[b]?)
    (hc : ∀ q v s g, isAl (cl q) = true → E.ka q = some (v, s) → v.ownBlock = some g → w'.heap[g]? = w.heap[g]?) : WI F E objs cl w' :=
  { h with
    agree := hS
    live := fun o cs hoc => by
      obtain ⟨b, t, vs, h1, h2, h3⟩ := h.live o cs hoc
      exact ⟨b, t, vs, h1, by rw [ho o cs b hoc h1]; exact h2, h3⟩
    claim := fun q hq => by
      obtain ⟨v, sz, t, n, xs, h1, h2, h3, h4⟩ := h.claim q hq; exact ⟨v, sz, t, n, xs, h1, h2, z2o h3 fun g hg => hc q v sz g hq h1 hg, h4⟩
    rows := fun q l hq => by
      obtain ⟨v, sz, t, n, xs, h1, h2, h3⟩ := h.rows q l hq; exact ⟨v, sz, t, n, xs, h1, z2o h2 fun g hg => hc q v sz g (z16 hq) h1 hg, h3⟩
    step := hs }
theorem WI.drew (h : WI F E objs cl w) : WI F E objs cl w.drew :=
  h.world (h.step.same_heap rfl rfl rfl rfl) (fun b i v hv => by simpa using h.agree b i v hv) (fun _ _ _ _ _ => rfl) (fun _ _ _ _ _ _ _ => rfl)
theorem WI.alloc (h : WI F E objs cl w) (o : Obj) : WI F E objs cl (w.alloc o) := by
  refine h.world ⟨h.step.os, h.step.tape, h.step.output, by have := h.step.size; simp; omega, fun i hi ho => ?_⟩ ?_ ?_ ?_
  · rw [heap_alloc_old w o (by have := h.step.size; omega)]; exact h.step.block i hi ho
  · intro b i v hv
    have := h.agree b i v hv; rw [World.cell?_alloc_lt w o _ (World.block_lt_of_cell? w _ this)]; exact this
  · intro o' cs b ho hm
    obtain ⟨b', t, vs, h1, h2, _⟩ := h.live o' cs ho
    rw [hm] at h1; cases h1
    exact heap_alloc_old w o (Array.getElem?_eq_some_iff.1 h2).1
  · intro q v s g hq hk hg
    obtain ⟨v', sz, t, n, xs, h1, _, h3, _⟩ := h.claim q hq
    rw [hk] at h1; cases h1
    exact heap_alloc_old w o (h3.lt g hg).2
theorem WI.lt_of_live (h : WI F E objs cl w) {o : Nat} {cs : List AV} {b : Nat} (ho : objs o = some (.live cs)) (hm : E.mu o = some b) : b < w.heap.size := by
  obtain ⟨b', t, vs, h1, h2, _⟩ := h.live o cs ho
  rw [hm] at h1; cases h1
  exact (Array.getElem?_eq_some_iff.1 h2).1
theorem WI.lt_of_claim (h : WI F E objs cl w) {q : Nm} {v : Value} {s g : Nat} (hq : isAl (cl q) = true) (hk : E.ka q = some (v, s)) (hg : v.ownBlock = some g) : g < w.heap.size := by
  obtain ⟨v', sz, t, n, xs, h1, _, h3, _⟩ := h.claim q hq
  rw [hk] at h1; cases h1
  exact (h3.lt g hg).2
theorem WI.S_lt (h : WI F E objs cl w) {b i : Nat} (hb : w.heap.size ≤ b) : E.S b i = none := by
  cases hs : E.S b i with
  | none => rfl
  | some v => have := World.block_lt_of_cell? w _ (h.agree b i v hs); simp at this; omega
theorem WI.own_new (h : WI F E objs cl w) {b : Nat} (hb : w.heap.size ≤ b) : F.own b := .inl (Nat.le_trans h.step.size hb)
theorem le_mu {d b : Nat} (h : E.mu d = none) : E.le { E with mu := upd E.mu d b } :=
  ⟨fun _ _ _ h => h, fun o b' ho => by
    by_cases hd : d = o
    · subst hd; rw [h] at ho; cases ho
    · rw [← ho]; exact zf _ _ hd, fun _ _ h => h⟩
theorem WI.new_obj (h : WI F E objs cl w) {d : Nat} (hd1 : 1000 ≤ d) (hd : objs d = none) {cs : List AV} {vs : List Value} {t : TypeId} (hr : RepL E cs vs) :
    E.le { E with mu := upd E.mu d w.heap.size } ∧ WI F { E with mu := upd E.mu d w.heap.size } (upd objs d (.live cs)) cl (w.alloc (.cells vs.toArray t)) := by
  have hmd : E.mu d = none := by
    cases hm : E.mu d with
    | none => rfl
    | some b => exact absurd hd (h.mdom d b hm)
  have hle := le_mu (b := w.heap.size) hmd; have ha := h.alloc (.cells vs.toArray t); refine ⟨hle, ?_⟩
  have old : ∀ {o : Nat} {b : Nat}, (upd E.mu d w.heap.size) o = some b → (o = d ∧ b = w.heap.size) ∨ (o ≠ d ∧ E.mu o = some b) := by
    intro o b ho
    by_cases hod : d = o
    · subst hod; rw [zk] at ho; cases ho; exact .inl ⟨rfl, rfl⟩
    · rw [zf _ _ hod] at ho; exact .inr ⟨fun e => hod e.symm, ho⟩
  have oldo : ∀ {o : Nat} {x : Ob}, (upd objs d (.live cs)) o = some x → (o = d ∧ x = .live cs) ∨ (o ≠ d ∧ objs o = some x) := by
    intro o b ho
    by_cases hod : d = o
    · subst hod; rw [zk] at ho; cases ho; exact .inl ⟨rfl, rfl⟩
    · rw [zf _ _ hod] at ho; exact .inr ⟨fun e => hod e.symm, ho⟩
  refine ⟨ha.agree, ?_, ?_, ha.claim, fun q l hq => (by
    obtain ⟨v, sz, t, n, xs, h1, h2, h3, h4⟩ := ha.rows q l hq; exact ⟨v, sz, t, n, xs, h1, h2, h3.mono hle, h4⟩), ?_, ha.cc, ?_, ?_, ha.kdom, ha.step, ha.base, ha.sdom, ?_⟩
  · intro o cs' ho
    rcases oldo ho with ⟨rfl, e⟩ | ⟨hne, ho⟩
    · cases e
      exact ⟨w.heap.size, t, vs, zk _ _ _, heap_alloc_new w _, hr.mono hle, fun i => h.S_lt (Nat.le_refl _), h.own_new (Nat.le_refl _)⟩
    · obtain ⟨b, t', vs', h1, h2, h3, h4⟩ := ha.live o cs' ho
      exact ⟨b, t', vs', (zf _ _ (Ne.symm hne)).trans h1, h2, h3.mono hle, h4⟩
  · intro o cs' ho
    rcases oldo ho with ⟨rfl, e⟩ | ⟨hne, ho⟩
    · cases e
    · obtain ⟨b, vs', h1, h2, h3, h4⟩ := ha.frz o cs' ho
      exact ⟨b, vs', (zf _ _ (Ne.symm hne)).trans h1, h2, h3.mono hle, h4⟩
  · intro o o' c c' b ho ho' hm hm'
    rcases oldo ho with ⟨e1, _⟩ | ⟨hne, ho1⟩ <;> rcases oldo ho' with ⟨e2, _⟩ | ⟨hne', ho2⟩
    · rw [e1, e2]
    · exfalso
      rcases old hm with ⟨_, e3⟩ | ⟨h1, _⟩
      · rcases old hm' with ⟨h2, _⟩ | ⟨_, h2⟩
        · exact hne' h2
        · have := h.lt_of_live ho2 h2; omega
      · exact h1 e1
    · exfalso
      rcases old hm' with ⟨_, e3⟩ | ⟨h1, _⟩
      · rcases old hm with ⟨h2, _⟩ | ⟨_, h2⟩
        · exact hne h2
        · have := h.lt_of_live ho1 h2; omega
      · exact h1 e2
    · rcases old hm with ⟨h1, _⟩ | ⟨_, hm1⟩
      · exact absurd h1 hne
      · rcases old hm' with ⟨h1, _⟩ | ⟨_, hm2⟩
        · exact absurd h1 hne'
        · exact h.oo o o' c c' b ho1 ho2 hm1 hm2
  · intro o c b q v s ho hm hq hk
    rcases oldo ho with ⟨rfl, _⟩ | ⟨hne, ho⟩
    · rcases old hm with ⟨_, rfl⟩ | ⟨h1, _⟩
      · intro e
        have := h.lt_of_claim hq hk e; omega
      · exact absurd rfl h1
    · rcases old hm with ⟨h1, _⟩ | ⟨_, hm⟩
      · exact absurd h1 hne
      · exact h.oc o c b q v s ho hm hq hk
  · intro o b hm
    rcases old hm with ⟨rfl, _⟩ | ⟨hne, hm⟩
    · rw [zk]; simp
    · rw [zf _ _ (Ne.symm hne)]; exact h.mdom o b hm
  · intro j b c hj ho
    have hlt := F.mudom j b hj
    have hne : d ≠ j := by omega
    rw [zf _ _ hne] at ho; exact (zf _ _ hne).trans (h.pm j b c hj ho)
theorem setRow_other' (w : World) (g k : Nat) (cs : Array Value) (h : k ≠ g) : (w.setRow g cs).heap[k]? = w.heap[k]? := by
  simp only [World.setRow, Array.getElem?_modify]; rw [if_neg (fun e => h e.symm)]
theorem z44 {w w' : World} {b i : Nat} (h : w'.heap[b]? = w.heap[b]?) : w'.cell? ⟨b, i, none⟩ = w.cell? ⟨b, i, none⟩ := by simp [World.cell?, h]
theorem WI.store (h : WI F E objs cl w) {o b : Nat} {cs cs' : List AV} {vs : List Value} {t : TypeId} (ho : objs o = some (.live cs)) (hm : E.mu o = some b) (hb : ∃ vs0, w.heap[b]? = some (.cells vs0 t (0, 0)))
    (hr : RepL E cs' vs) : WI F E (upd objs o (.live cs')) cl (w.setRow b vs.toArray) := by
  obtain ⟨vs0, hb⟩ := hb; obtain ⟨b', t', vs1, h1, h2, h3, h4, h5⟩ := h.live o cs ho
  rw [hm] at h1; cases h1
  have hS : ∀ b' i v, E.S b' i = some v → b' ≠ b := by
    rintro b' i v hv rfl
    rw [h4 i] at hv; cases hv
  have oldo : ∀ {p : Nat} {x : Ob}, (upd objs o (.live cs')) p = some x → (p = o ∧ x = .live cs') ∨ (p ≠ o ∧ objs p = some x) := by
    intro p x hp
    by_cases hod : o = p
    · subst hod; rw [zk] at hp; cases hp; exact .inl ⟨rfl, rfl⟩
    · rw [zf _ _ hod] at hp; exact .inr ⟨fun e => hod e.symm, hp⟩
  refine ⟨?_, ?_, ?_, ?_, fun q l hq => (by
    obtain ⟨v, sz, t, n, xs, g1, g2, g3⟩ := h.rows q l hq; exact ⟨v, sz, t, n, xs, g1, z2o g2 fun g hg => setRow_other' w b g _ (fun e => h.oc o cs b q v sz ho hm (z16 hq) g1 (e ▸ hg)), g3⟩), ?_, h.cc, ?_, ?_, h.kdom, ?_, h.base, h.sdom, ?_⟩
  · intro b' i v hv
    rw [z44 (setRow_other' w b b' _ (hS b' i v hv))]; exact h.agree b' i v hv
  · intro p c hp
    rcases oldo hp with ⟨e1, e2⟩ | ⟨hne, hp⟩
    · cases e2; subst e1
      exact ⟨b, t, vs, hm, setRow_heap w b vs0 vs.toArray t (0, 0) hb, hr, h4, h5⟩
    · obtain ⟨b2, t2, vs2, g1, g2, g3⟩ := h.live p c hp
      refine ⟨b2, t2, vs2, g1, ?_, g3⟩; rw [setRow_other' w b b2 _ (fun e => hne (h.oo p o c cs b hp ho (e ▸ g1) hm))]; exact g2
  · intro p c hp
    rcases oldo hp with ⟨_, e2⟩ | ⟨hne, hp⟩
    · cases e2
    · exact h.frz p c hp
  · intro q hq
    obtain ⟨v, sz, t, n, xs, g1, g2, g3, g4⟩ := h.claim q hq; exact ⟨v, sz, t, n, xs, g1, g2, z2o g3 fun g hg => setRow_other' w b g _ (fun e => h.oc o cs b q v sz ho hm hq g1 (e ▸ hg)), g4⟩
  · intro p p' c c' b2 hp hp' hm1 hm2
    have e : ∀ {p : Nat} {c : List AV}, (upd objs o (.live cs')) p = some (.live c) → ∃ c0, objs p = some (.live c0) := by
      intro p c hp
      rcases oldo hp with ⟨e1, _⟩ | ⟨_, hp⟩
      · exact ⟨cs, e1 ▸ ho⟩
      · exact ⟨c, hp⟩
    obtain ⟨c0, hc0⟩ := e hp; obtain ⟨c1, hc1⟩ := e hp'; exact h.oo p p' c0 c1 b2 hc0 hc1 hm1 hm2
  · intro p c b2 q v s hp hm1 hq hk
    rcases oldo hp with ⟨e1, _⟩ | ⟨_, hp⟩
    · exact h.oc o cs b2 q v s ho (e1 ▸ hm1) hq hk
    · exact h.oc p c b2 q v s hp hm1 hq hk
  · intro p b2 hp
    by_cases hop : o = p
    · subst hop; rw [zk]; simp
    · rw [zf _ _ hop]; exact h.mdom p b2 hp
  · refine ⟨h.step.os, h.step.tape, h.step.output, by rw [size_setRow]; exact h.step.size, fun i hi ho' => ?_⟩
    rw [setRow_other' w b i _ (fun e => by rcases h5 with h5 | h5; · omega
                                           · exact ho' (e ▸ h5))]
    exact h.step.block i hi ho'
  · intro j b2 c hj hp
    rcases oldo hp with ⟨e1, _⟩ | ⟨_, hp⟩
    · exact h.pm j b2 cs hj (e1 ▸ ho)
    · exact h.pm j b2 c hj hp
def addS (E : E3) (b lo : Nat) (vs : List Value) : E3 :=
  { E with S := fun b' i => match E.S b' i with | some v => some v | none => if b' = b ∧ lo ≤ i ∧ i < lo + vs.length then vs[i - lo]? else none }
theorem z64 (E : E3) (b lo : Nat) (vs : List Value) : E.le (addS E b lo vs) :=
  ⟨fun b' i v h => by simp [addS, h], fun _ _ h => h, fun _ _ h => h⟩
theorem zg6 {b lo : Nat} {vs : List Value} {b' i : Nat} {v : Value} (h : (addS E b lo vs).S b' i = some v) : E.S b' i = some v ∨ (E.S b' i = none ∧ b' = b ∧ lo ≤ i ∧ i < lo + vs.length ∧ vs[i - lo]? = some v) := by
  simp only [addS] at h
  split at h
  · rename_i v' hv'; injection h with h; subst h; exact .inl hv'
  · rename_i hn
    split at h
    · rename_i hc; exact .inr ⟨hn, hc.1, hc.2.1, hc.2.2, h⟩
    · cases h
theorem z7u {b lo : Nat} {vs : List Value} (h : ∀ i v, E.S b i = some v → w.cell? ⟨b, i, none⟩ = some v) (hc : ∀ (j : Nat) (v : Value), vs[j]? = some v → w.cell? ⟨b, lo + j, none⟩ = some v) (j : Nat) (hj : j < vs.length) :
    (addS E b lo vs).S b (lo + j) = vs[j]? := by
  have hv : vs[j]? = some vs[j] := by simp [hj]
  simp only [addS]
  cases hs : E.S b (lo + j) with
  | some v' =>
    have h1 := h _ _ hs; rw [hc j _ hv] at h1; rw [hv]; exact h1.symm
  | none =>
    dsimp only
    rw [if_pos (by refine ⟨?_, by omega, by omega⟩; first | rfl | trivial)]
    congr 1
    omega
theorem z4j {b lo : Nat} {vs : List Value} {b' i : Nat} (h : ¬ (b' = b ∧ lo ≤ i ∧ i < lo + vs.length)) : (addS E b lo vs).S b' i = E.S b' i := by
  simp only [addS]
  cases hs : E.S b' i with
  | some v => rfl
  | none => simp [h]
theorem WI.addS (h : WI F E objs cl w) {b lo : Nat} {vs : List Value} (hb : F.own b) (hc : ∀ (j : Nat) (v : Value), vs[j]? = some v → w.cell? ⟨b, lo + j, none⟩ = some v)
    (ho : ∀ o cs, objs o = some (.live cs) → E.mu o ≠ some b)
    (hq : ∀ q v s t n xs, isAl (cl q) = true → E.ka q = some (v, s) → v.ownBlock = some b → w.ownsRow 0 t s v n xs → (∀ i, n * s ≤ i → E.S b i = none) → lo + vs.length ≤ n * s)
    (hrow : ∀ q l v s, cl q = some (.row l) → E.ka q = some (v, s) → v.ownBlock ≠ some b) : WI F (addS E b lo vs) objs cl w := by
  have hle := z64 E b lo vs
  refine { h with agree := ?_, live := ?_, frz := ?_, claim := ?_, rows := fun q l hq' => (by
    obtain ⟨v, sz, t, n, xs, h1, h2, h3, h4, h5⟩ := h.rows q l hq'; refine ⟨v, sz, t, n, xs, h1, h2, h3.mono hle, h4, fun g hg i => ?_⟩
    rw [z4j (fun e => hrow q l v sz hq' h1 (by rw [hg, e.1]))]
    exact h5 g hg i), oo := h.oo, cc := h.cc, oc := h.oc, mdom := h.mdom, kdom := h.kdom, base := fun b i v hv => hle.S b i v (h.base b i v hv), sdom := fun b' i v hv => ?_ }
  · intro b' i v hv
    rcases zg6 hv with hv | ⟨_, rfl, h1, h2, h3⟩
    · exact h.agree b' i v hv
    · have := hc _ _ h3
      rwa [show lo + (i - lo) = i from by omega] at this
  · intro o cs hcs
    obtain ⟨b', t, us, h1, h2, h3, h4, h5⟩ := h.live o cs hcs; refine ⟨b', t, us, h1, h2, h3.mono hle, fun i => ?_, h5⟩
    rw [z4j (fun e => ho o cs hcs (by rw [h1, e.1]))]
    exact h4 i
  · intro o cs hcs
    obtain ⟨b', us, h1, h2, h3, h4⟩ := h.frz o cs hcs; exact ⟨b', us, h1, h2, h3.mono hle, fun j hj => z4i hle.S (z2c hj) (h4 j hj)⟩
  · intro q hq'
    obtain ⟨v, sz, t, n, xs, h1, h2, h3, h4⟩ := h.claim q hq'; refine ⟨v, sz, t, n, xs, h1, h2, h3, fun g hg => ⟨(h4 g hg).1, fun i hi => ?_⟩⟩; rw [z4j]
    · exact (h4 g hg).2 i hi
    · rintro ⟨rfl, h5, h6⟩
      have := hq q v sz t n xs hq' h1 hg h3 (h4 g hg).2; omega
  · rcases zg6 hv with hv | ⟨_, rfl, _⟩
    · exact h.sdom b' i v hv
    · exact .inr hb
def updK (f : Nm → Option (Value × Nat)) (k : Nm) (v : Value × Nat) : Nm → Option (Value × Nat) := fun j => if k = j then some v else f j
theorem le_ka {q : Nm} {x : Value × Nat} (h : E.ka q = none) : E.le { E with ka := updK E.ka q x } :=
  ⟨fun _ _ _ h => h, fun _ _ h => h, fun q' v hq => by
    simp only [updK]
    rw [if_neg (fun e => by subst e; rw [h] at hq; cases hq)]
    exact hq⟩
theorem WI.ka_none (h : WI F E objs cl w) {q : Nm} (hq : cl q = none) : E.ka q = none := by
  cases hk : E.ka q with
  | none => rfl
  | some x => exact absurd hq (h.kdom q x hk)
theorem WI.new_claimC (h : WI F E objs cl w) {q : Nm} (hq : cl q = none) {c : Cs} (hca : isAl (some c) = true) {v : Value} {sz : Nat} {t : TypeId} {n : Nat} {xs : List Value} (hsz : 0 < sz) (hown : w.ownsRow 0 t sz v n xs)
    (hg : ∀ g, v.ownBlock = some g → F.own g ∧ (∀ i, n * sz ≤ i → E.S g i = none) ∧ (∀ o cs, objs o = some (.live cs) → E.mu o ≠ some g) ∧ (∀ q' v' s', isAl (cl q') = true → E.ka q' = some (v', s') → v'.ownBlock ≠ some g))
    (hrow : ∀ l, c = .row l → SrcR E sz l xs ∧ l.length = n ∧ ∀ g, v.ownBlock = some g → ∀ i, E.S g i = none) :
    E.le { E with ka := updK E.ka q (v, sz) } ∧ WI F { E with ka := updK E.ka q (v, sz) } objs (updN cl q c) w := by
  have hle := le_ka (x := (v, sz)) (h.ka_none hq)
  have oldc : ∀ {p : Nm}, isAl ((updN cl q c) p) = true → p = q ∨ (p ≠ q ∧ isAl (cl p) = true) := by
    intro p hp
    by_cases hqp : q = p
    · exact .inl hqp.symm
    · rw [zm _ _ hqp] at hp; exact .inr ⟨fun e => hqp e.symm, hp⟩
  have oldk : ∀ {p : Nm} {x : Value × Nat}, updK E.ka q (v, sz) p = some x → (p = q ∧ x = (v, sz)) ∨ (p ≠ q ∧ E.ka p = some x) := by
    intro p x hp; simp only [updK] at hp
    split at hp
    · rename_i e; injection hp with hp; exact .inl ⟨e.symm, hp.symm⟩
    · rename_i e; exact .inr ⟨fun e' => e e'.symm, hp⟩
  refine ⟨hle, { h with live := ?_, frz := ?_, claim := ?_, rows := fun p l hp => (by
    by_cases hqp : q = p
    · subst hqp
      rw [zp] at hp; injection hp with hp; obtain ⟨r1, r2, r3⟩ := hrow l hp
      exact ⟨v, sz, t, n, xs, by simp [updK], hown, r1.mono hle, r2, r3⟩
    · rw [zm _ _ hqp] at hp
      obtain ⟨v', s', t', n', xs', h1, h2, h3, h4⟩ := h.rows p l hp
      exact ⟨v', s', t', n', xs', by simp only [updK]; rw [if_neg hqp]; exact h1, h2, h3.mono hle, h4⟩), cc := ?_, oc := ?_, kdom := ?_ }⟩
  · intro o cs ho
    obtain ⟨b, t, vs, h1, h2, h3, h4⟩ := h.live o cs ho; exact ⟨b, t, vs, h1, h2, h3.mono hle, h4⟩
  · intro o cs ho
    obtain ⟨b, vs, h1, h2, h3, h4⟩ := h.frz o cs ho; exact ⟨b, vs, h1, h2, h3.mono hle, h4⟩
  · intro p hp
    rcases oldc hp with rfl | ⟨hne, hp⟩
    · exact ⟨v, sz, t, n, xs, by simp [updK], hsz, hown, fun g e => ⟨(hg g e).1, (hg g e).2.1⟩⟩
    · obtain ⟨v', s', t', n', xs', h1, h2⟩ := h.claim p hp
      exact ⟨v', s', t', n', xs', by simp only [updK]; rw [if_neg (Ne.symm hne)]; exact h1, h2⟩
  · intro p p' v1 v2 s1 s2 g hp hp' hk hk' hg1 hg2
    rcases oldc hp with e1 | ⟨hne, hp⟩ <;> rcases oldc hp' with e2 | ⟨hne', hp2⟩
    · rw [e1, e2]
    · exfalso
      rcases oldk hk with ⟨_, e⟩ | ⟨h1, _⟩
      · rcases oldk hk' with ⟨h2, _⟩ | ⟨_, h2⟩
        · exact hne' h2
        · injection e with e _
          subst e; exact (hg g hg1).2.2.2 p' v2 s2 hp2 h2 hg2
      · exact h1 e1
    · exfalso
      rcases oldk hk' with ⟨_, e⟩ | ⟨h1, _⟩
      · rcases oldk hk with ⟨h2, _⟩ | ⟨_, h2⟩
        · exact hne h2
        · injection e with e _
          subst e; exact (hg g hg2).2.2.2 p v1 s1 hp h2 hg1
      · exact h1 e2
    · rcases oldk hk with ⟨h1, _⟩ | ⟨_, hk⟩
      · exact absurd h1 hne
      · rcases oldk hk' with ⟨h1, _⟩ | ⟨_, hk'⟩
        · exact absurd h1 hne'
        · exact h.cc p p' v1 v2 s1 s2 g hp hp2 hk hk' hg1 hg2
  · intro o c b p v1 s1 ho hm hp hk
    rcases oldc hp with e1 | ⟨hne, hp⟩
    · rcases oldk hk with ⟨_, e⟩ | ⟨h1, _⟩
      · injection e with e _
        subst e; exact fun e => (hg b e).2.2.1 o c ho hm
      · exact absurd e1 h1
    · rcases oldk hk with ⟨h1, _⟩ | ⟨_, hk⟩
      · exact absurd h1 hne
      · exact h.oc o c b p v1 s1 ho hm hp hk
  · intro p x hp
    rcases oldk hp with ⟨rfl, _⟩ | ⟨hne, hp⟩
    · rw [zp]; simp
    · rw [zm _ _ (Ne.symm hne)]; exact h.kdom p x hp
theorem WI.new_claim (h : WI F E objs cl w) {q : Nm} (hq : cl q = none) {v : Value} {sz : Nat} {t : TypeId} {n : Nat} {xs : List Value} (hsz : 0 < sz) (hown : w.ownsRow 0 t sz v n xs)
    (hg : ∀ g, v.ownBlock = some g → F.own g ∧ (∀ i, n * sz ≤ i → E.S g i = none) ∧ (∀ o cs, objs o = some (.live cs) → E.mu o ≠ some g) ∧ (∀ q' v' s', isAl (cl q') = true → E.ka q' = some (v', s') → v'.ownBlock ≠ some g)) :
    E.le { E with ka := updK E.ka q (v, sz) } ∧ WI F { E with ka := updK E.ka q (v, sz) } objs (updN cl q .own) w :=
  h.new_claimC hq rfl hsz hown hg (fun l e => by cases e)
theorem WI.kill_claim (h : WI F E objs cl w) (q : Nm) : WI F E objs (updN cl q .dead) w := by
  have oldc : ∀ {p : Nm}, isAl ((updN cl q .dead) p) = true → isAl (cl p) = true := by
    intro p hp
    by_cases hqp : q = p
    · subst hqp; rw [zp] at hp; cases hp
    · rwa [zm _ _ hqp] at hp
  refine { h with claim := fun p hp => h.claim p (oldc hp), rows := fun p l hp => h.rows p l (by
    by_cases hqp : q = p
    · subst hqp; rw [zp] at hp; cases hp
    · rwa [zm _ _ hqp] at hp), cc := fun p p' v v' s s' g hp hp' => h.cc p p' v v' s s' g (oldc hp) (oldc hp'), oc := fun o c b p v s ho hm hp => h.oc o c b p v s ho hm (oldc hp), kdom := ?_ }
  intro p x hp
  by_cases hqp : q = p
  · subst hqp; rw [zp]; simp
  · rw [zm _ _ hqp]; exact h.kdom p x hp
theorem WI.kill_obj (h : WI F E objs cl w) (o : Nat) : WI F E (upd objs o .dead) cl w := by
  have oldo : ∀ {p : Nat} {c : Ob}, c ≠ .dead → (upd objs o .dead) p = some c → objs p = some c := by
    intro p c hc hp
    by_cases hqp : o = p
    · subst hqp; rw [zk] at hp; injection hp with hp; exact absurd hp.symm hc
    · rwa [zf _ _ hqp] at hp
  refine { h with live := fun p c hp => h.live p c (oldo (by simp) hp), frz := fun p c hp => h.frz p c (oldo (by simp) hp), oo := fun p p' c c' b hp hp' => h.oo p p' c c' b (oldo (by simp) hp) (oldo (by simp) hp'), oc := fun p c b q v s hp => h.oc p c b q v s (oldo (by simp) hp), mdom := ?_, pm := fun j b c hj hp => h.pm j b c hj (oldo (by simp) hp) }
  intro p x hp
  by_cases hqp : o = p
  · subst hqp; rw [zk]; simp
  · rw [zf _ _ hqp]; exact h.mdom p x hp
theorem z7v {m : Md} {wd : Nat} {l : List AV} {v : Value} (h : Rep E (.lst m wd l) v) : Rep E (.lst .ro wd l) v := by
  simp only [Rep] at h ⊢; obtain ⟨a, len, cap, h1, h2, h3, h4, h5, h6, h7⟩ := h
  exact ⟨a, len, cap, h1, h2, h3, h4, h5, by simp, by simp⟩
theorem zi4 {x : AV} {v : Value} (h : Rep E x v) : Rep E x.dem1 v := by
  cases x <;> simp only [AV.dem1] <;> first | exact z7v h | exact h
theorem zi5 {x : AV} (h : x.one = true) : x.dem1.one = true := by cases x <;> simp_all [AV.dem1, AV.one]
theorem z5n : ∀ {l : List AV} {vs : List Value}, RepL E l vs → RepL E (l.map AV.dem1) vs
  | [], vs, h => by simpa [RepL] using h
  | x :: l, vs, h => by
    simp only [RepL, List.map_cons] at h ⊢; obtain ⟨v, r, rfl, h1, h2, h3, h4⟩ := h; exact ⟨v, r, rfl, zi5 h1, h2, zi4 h3, z5n h4⟩
theorem WI.freeze (h : WI F E objs cl w) {o : Nat} {cs : List AV} (ho : objs o = some (.live cs)) (hf : (cs.map AV.dem1).all AV.flat1 = true) :
    ∃ b vs, E.mu o = some b ∧ RepL (V.addS E b 0 vs) (cs.map AV.dem1) vs ∧ (∀ j, j < vs.length → (V.addS E b 0 vs).S b j = vs[j]?) ∧ E.le (V.addS E b 0 vs) ∧ WI F (V.addS E b 0 vs) (upd objs o (.frz (cs.map AV.dem1))) cl w := by
  obtain ⟨b, t, vs, h1, h2, h3, h4, h5⟩ := h.live o cs ho
  have hcell : ∀ (j : Nat) (v : Value), vs[j]? = some v → w.cell? ⟨b, 0 + j, none⟩ = some v := fun j v hj => by
    rw [Nat.zero_add, cell_of_row w b j vs.toArray t (0, 0) h2]; simpa using hj
  have hle := z64 E b 0 vs
  have hat : ∀ j, j < vs.length → (V.addS E b 0 vs).S b j = vs[j]? := fun j hj => by
    have := z7u (E := E) (w := w) (b := b) (lo := 0) (vs := vs) (fun i v hv => h.agree b i v hv) hcell j hj
    rwa [Nat.zero_add] at this
  have hk := (h.kill_obj o).addS (b := b) (lo := 0) (vs := vs) h5 hcell (by
      intro p c hp hm
      by_cases hop : o = p
      · subst hop; rw [zk] at hp; cases hp
      · rw [zf _ _ hop] at hp
        exact hop (h.oo o p cs c b ho hp h1 hm)) (by
      intro q v s t n xs hq hk hg; exact absurd hg (h.oc o cs b q v s ho h1 hq hk)) (fun q l v s hq hk => h.oc o cs b q v s ho h1 (z16 hq) hk)
  have oldo : ∀ {p : Nat} {c : List AV}, (upd objs o (.frz (cs.map AV.dem1))) p = some (.live c) → (upd objs o .dead) p = some (.live c) := by
    intro p c hp
    by_cases hqp : o = p
    · subst hqp; rw [zk] at hp; cases hp
    · rw [zf _ _ hqp] at hp ⊢; exact hp
  refine ⟨b, vs, h1, (z5n h3).mono hle, hat, hle, { hk with live := fun p c hp => hk.live p c (oldo hp), frz := ?_, oo := fun p p' c c' b hp hp' => hk.oo p p' c c' b (oldo hp) (oldo hp'), oc := fun p c b q v s hp => hk.oc p c b q v s (oldo hp), mdom := ?_, pm := fun j b c hj hp => hk.pm j b c hj (oldo hp) }⟩
  · intro p c hp
    by_cases hqp : o = p
    · subst hqp; rw [zk] at hp; injection hp with hp; injection hp with hp; subst hp
      exact ⟨b, vs, h1, hf, (z5n h3).mono hle, hat⟩
    · rw [zf _ _ hqp] at hp
      exact hk.frz p c (by rw [zf _ _ hqp]; exact hp)
  · intro p x hp
    by_cases hqp : o = p
    · subst hqp; rw [zk]; simp
    · rw [zf _ _ hqp]; exact h.mdom p x hp
end V
namespace V
variable {P : Program} {w : World}
theorem z4k {need old bytes : Nat} (h : old < need) (hm : bytes ≤ 1048576) (hb : need * bytes ≤ 211106232532992) : Builtin.nextslicecap need old * bytes ≤ 281474976710656 := by
  refine growslice_fits_wide h ?_; have h1 : (need / 4 * 4) * bytes ≤ need * bytes := Nat.mul_le_mul_right _ (Nat.div_mul_le_self need 4)
  have h2 : need / 4 * 4 * bytes = 4 * (need / 4 * bytes) := by rw [Nat.mul_comm (need / 4) 4, Nat.mul_assoc]
  rw [Nat.add_mul, Nat.add_mul]; omega
structure Src (P : Program) (w : World) (size n : Nat) (y : Value) (news : List Value) : Prop where
  len : ∀ W : World, W.heap = w.heap → (Builtin.lenOf y).run P W = .ok n W
  cells : ∀ W : World, W.heap = w.heap → (Builtin.firstCells size n y).run P W = .ok news.toArray W
  size : news.length = n * size
  one : ∀ u ∈ news, u.oneCell' = true
theorem z6c {t u ty e : TypeId} {i : TypeInfo} {d : TypeDesc} (ht : P.underlying t = some (.slice e)) (hu : P.underlying u = some d) (hd : (∃ e2, d = .slice e2) ∨ d = .string) (hi : P.info? e = some i)
    {base : Option Addr} {sLen sCap : Nat} (hc : sLen ≤ sCap) {y : Value} (hy : Src P w i.size 0 y []) :
    (Builtin.append_ #[t, u] ty #[.slice base sLen sCap, y]).run P w = .ok (.slice base sLen sCap) w := by
  have h1 := hy.len w rfl; have h2 := hy.cells w rfl
  rcases hd with ⟨e2, rfl⟩ | rfl <;> cases base <;> simp [Builtin.append_, run_underlying ht, run_underlying hu, sizeOf, typeInfo, hi, h1, h2, hc, storeCells]
theorem z28 {t u ty e e' : TypeId} {i : TypeInfo} {d : TypeDesc} (ht : P.underlying t = some (.slice e)) (hu : P.underlying u = some d) (hd : (∃ e2, d = .slice e2) ∨ d = .string) (hi : P.info? e = some i)
    {g sLen sCap n : Nat} {cur : Array Value} (hg : w.heap[g]? = some (.cells cur e' (0, 0))) {y : Value} {news : List Value} (hy : Src P w i.size n y news)
    (hroom : sLen + n ≤ sCap) (hfit : sLen * i.size + news.length ≤ cur.size) :
    (Builtin.append_ #[t, u] ty #[.slice (some ⟨g, 0, none⟩) sLen sCap, y]).run P w =
      .ok (.slice (some ⟨g, 0, none⟩) (sLen + n) sCap) (w.setRow g (cur.toList.take (sLen * i.size) ++ news ++ cur.toList.drop (sLen * i.size + news.length)).toArray) := by
  have h1 := hy.len w rfl; have h2 := hy.cells w rfl
  have hst := run_storeCells_at P g (sLen * i.size) e' news 0 cur w hg (by simpa using hfit) hy.one
  simp only [Nat.add_zero] at hst
  rcases hd with ⟨e2, rfl⟩ | rfl <;> simp [Builtin.append_, run_underlying ht, run_underlying hu, sizeOf, typeInfo, hi, h1, h2, hroom, Addr.add_lit, hst]
theorem z3e {t u ty e : TypeId} {i : TypeInfo} {z : Value} {d : TypeDesc} (ht : P.underlying t = some (.slice e)) (hu : P.underlying u = some d) (hd : (∃ e2, d = .slice e2) ∨ d = .string) (hi : P.info? e = some i) (hz : i.zero = some z)
    {base : Option Addr} {sLen sCap n : Nat} {olds : List Value} (hold : ∀ W : World, W.heap = w.heap → (Builtin.firstCells i.size sLen (.slice base sLen sCap)).run P W = .ok olds.toArray W)
    {y : Value} {news : List Value} (hy : Src P w i.size n y news)
    (hg : sCap < sLen + n) (h63 : ((sLen + n : Nat) : Int) ≤ 9223372036854775807) (hfit : Builtin.nextslicecap (sLen + n) sCap * i.bytes ≤ 281474976710656) :
    (Builtin.append_ #[t, u] ty #[.slice base sLen sCap, y]).run P w =
      .ok (.slice (some ⟨w.heap.size, 0, none⟩) (sLen + n) (grownCap w (sLen + n) sCap e))
        (w.drew.alloc (.cells (olds.toArray ++ news.toArray ++ Builtin.zeroCells z.cells (grownCap w (sLen + n) sCap e - (sLen + n))) e)) := by
  have hn : ¬ (sLen + n ≤ sCap) := by omega
  have h63' : ¬ (9223372036854775807 < ((sLen : Int) + (n : Int))) := by omega
  have h48' : ¬ (281474976710656 < Builtin.nextslicecap (sLen + n) sCap * i.bytes) := by omega
  have h1 := hy.len w rfl; have h2 := hy.cells w.drew rfl; have h3 := hold w.drew rfl
  rcases hd with ⟨e2, rfl⟩ | rfl <;>
  · simp [Builtin.append_, run_underlying ht, run_underlying hu, sizeOf, typeInfo, zeroValue, hi, hz, hn, h63', h48', Question.forced, h1, h2, h3, newRow, grownCap]
    congr 2
    apply Array.ext'; simp [List.append_assoc]
variable {F : Fr} {E : E3} {objs : Os} {cl : Cl}
structure SrcE (E : E3) (sz : Nat) (r : List AV) (news : List Value) : Prop where
  size : news.length = r.length * sz
  get : ∀ (i : Nat) (x : AV), r[i]? = some x → x.flat = true ∧ ∃ u, Rep E x u ∧ u.cells.size = sz ∧ ∀ j, j < sz → news[i * sz + j]? = u.cells[j]?
theorem SrcE.nil (E : E3) (sz : Nat) : SrcE E sz [] [] := ⟨by simp, by simp⟩
theorem SrcE.mono {E' : E3} (hS : ∀ b i v, E.S b i = some v → E'.S b i = some v) {sz : Nat} {r : List AV} {news : List Value} (h : SrcE E sz r news) : SrcE E' sz r news :=
  ⟨h.size, fun i x hx => by
    obtain ⟨h1, u, h2, h3⟩ := h.get i x hx; exact ⟨h1, u, h2.flat_mono hS h1, h3⟩⟩
theorem SrcE.append {sz : Nat} {r r' : List AV} {ns ns' : List Value} (h : SrcE E sz r ns) (k : SrcE E sz r' ns') : SrcE E sz (r ++ r') (ns ++ ns') := by
  refine ⟨by rw [List.length_append, List.length_append, h.size, k.size, Nat.add_mul], fun i x hx => ?_⟩
  rcases Nat.lt_or_ge i r.length with hi | hi
  · rw [List.getElem?_append_left hi] at hx
    obtain ⟨h1, u, h2, h3, h4⟩ := h.get i x hx; refine ⟨h1, u, h2, h3, fun j hj => ?_⟩; rw [List.getElem?_append_left, h4 j hj]; rw [h.size]; have : (i + 1) * sz ≤ r.length * sz := Nat.mul_le_mul_right _ hi; rw [Nat.add_mul] at this; omega
  · rw [List.getElem?_append_right hi] at hx
    obtain ⟨h1, u, h2, h3, h4⟩ := k.get _ x hx; refine ⟨h1, u, h2, h3, fun j hj => ?_⟩; have e : r.length * sz ≤ i * sz := Nat.mul_le_mul_right _ hi
    rw [List.getElem?_append_right (by rw [h.size]; omega), ← h4 j hj, h.size]
    congr 1
    rw [Nat.sub_mul]; omega
theorem SrcE.one {sz : Nat} (hsz : 0 < sz) {r : List AV} {news : List Value} (h : SrcE E sz r news) : ∀ u ∈ news, u.oneCell' = true := by
  intro u hu; obtain ⟨k, hk⟩ := List.getElem?_of_mem hu
  have hkl : k < r.length * sz := by rw [← h.size]; exact (List.getElem?_eq_some_iff.1 hk).1
  have hi : k / sz < r.length := Nat.div_lt_of_lt_mul (by rw [Nat.mul_comm]; exact hkl)
  obtain ⟨h1, v, h2, h3, h4⟩ := h.get (k / sz) r[k / sz] (by simp [hi])
  have hm : k % sz < sz := Nat.mod_lt _ hsz; have e := h4 (k % sz) hm; rw [Nat.mul_comm, Nat.div_add_mod, hk] at e; have hv := z3o h1 h2
  exact hv.1.all_one u (List.mem_of_getElem? (i := k % sz) (by simpa using e.symm))
theorem SrcE.repE {sz : Nat} {r : List AV} {news : List Value} (h : SrcE E sz r news) {b off : Nat} (hS : ∀ j, j < news.length → E.S b (off + j) = news[j]?) : RepE E sz b off r := by
  refine RepE.of_get fun i x hx => ?_; obtain ⟨h1, u, h2, h3, h4⟩ := h.get i x hx; refine ⟨h1, u, h2, h3, fun j hj => ?_⟩; rw [← h4 j hj, ← hS, Nat.add_assoc]; rw [h.size]; have hi : i < r.length := (List.getElem?_eq_some_iff.1 hx).1; have : (i + 1) * sz ≤ r.length * sz := Nat.mul_le_mul_right _ hi; rw [Nat.add_mul] at this; omega
theorem z3f {sz b : Nat} : ∀ {off : Nat} {r : List AV}, RepE E sz b off r → ∃ news, SrcE E sz r news ∧ ∀ j, j < news.length → E.S b (off + j) = news[j]?
  | off, [], _ => ⟨[], SrcE.nil E sz, by simp⟩
  | off, x :: r, h => by
    simp only [RepE] at h; obtain ⟨⟨h1, u, h2, h3, h4⟩, h5⟩ := h; obtain ⟨ns, g1, g2⟩ := z3f h5
    have hx : SrcE E sz [x] u.cells.toList := ⟨by simp [h3], fun i y hy => by
      cases i with
      | zero => simp at hy; subst hy; exact ⟨h1, u, h2, h3, fun j hj => by simp⟩
      | succ i => simp at hy⟩
    refine ⟨u.cells.toList ++ ns, by simpa using hx.append g1, fun j hj => ?_⟩
    rcases Nat.lt_or_ge j sz with hj' | hj'
    · rw [h4 j hj', List.getElem?_append_left (by simpa [h3] using hj')]
      simp
    · rw [List.getElem?_append_right (by simpa [h3] using hj')]
      have := g2 (j - sz) (by simp [h3] at hj; omega)
      rw [show off + sz + (j - sz) = off + j from by omega] at this
      simpa [h3] using this
theorem zi6 (s : List UInt8) : SrcE E 1 (encB s) (s.map fun b => .int .u8 (b.toNat : Int)) := by
  refine ⟨by simp [encB], fun i x hx => ?_⟩
  simp only [encB, List.getElem?_map] at hx
  cases hb : s[i]? with
  | none => rw [hb] at hx; cases hx
  | some b =>
    rw [hb] at hx; simp only [Option.map_some, Option.some.injEq] at hx; subst hx
    refine ⟨rfl, .int .u8 (b.toNat : Int), by simp [Rep], rfl, fun j hj => ?_⟩
    have : j = 0 := by omega
    subst this; simp [hb, Value.cells]
theorem WI.new_row (h : WI F E objs cl w) {q : Nm} (hq : cl q = none) {arr : Array Value} {e : TypeId} {N cap sz : Nat} (hsz : 0 < sz) (hN : N ≤ cap) (hcap : cap ≤ maxLen) (harr : arr.size = cap * sz)
    {r : List AV} (hr : r.length = N) (hsrc : SrcE E sz r (arr.toList.take (N * sz))) :
    ∃ E', E.le E' ∧ Rep E' (.lst (.own q) sz r) (.slice (some ⟨w.heap.size, 0, none⟩) N cap) ∧ WI F E' objs (updN cl q .own) (w.alloc (.cells arr e)) := by
  have ha := h.alloc (.cells arr e); have hb : (w.alloc (.cells arr e)).heap[w.heap.size]? = some (.cells arr e (0, 0)) := heap_alloc_new w _
  have hfit : N * sz ≤ arr.size := by rw [harr]; exact Nat.mul_le_mul_right _ hN
  have hlen : (arr.toList.take (N * sz)).length = N * sz := by simp; omega
  have hcell : ∀ (j : Nat) (v : Value), (arr.toList.take (N * sz))[j]? = some v → (w.alloc (.cells arr e)).cell? ⟨w.heap.size, 0 + j, none⟩ = some v := by
    intro j v hj; rw [Nat.zero_add, cell_of_row _ _ j arr e (0, 0) hb]; rw [List.getElem?_take] at hj
    split at hj
    · simpa using hj
    · cases hj
  have h1 := ha.addS (b := w.heap.size) (lo := 0) (vs := arr.toList.take (N * sz)) (h.own_new (Nat.le_refl _)) hcell
    (fun o cs ho hm => by have := h.lt_of_live ho hm; omega)
    (fun q' v s t n xs hq' hk hg _ _ => by have := h.lt_of_claim hq' hk hg; omega)
    (fun q' l v s hq' hk hg => by have := h.lt_of_claim (z16 hq') hk hg; omega)
  have hle := z64 E w.heap.size 0 (arr.toList.take (N * sz))
  have hown : (w.alloc (.cells arr e)).ownsRow 0 e sz (.slice (some ⟨w.heap.size, 0, none⟩) N cap) N (arr.toList.take (N * sz)) :=
    ⟨hlen, .inr ⟨w.heap.size, cap, arr, rfl, Nat.zero_le _, hb, hN, hcap, harr, rfl⟩⟩
  have h2 := h1.new_claim hq hsz hown (fun g hg => by
    simp only [Value.ownBlock, Option.some.injEq] at hg; subst hg
    refine ⟨h.own_new (Nat.le_refl _), fun i hi => ?_, fun o cs ho hm => by have := h.lt_of_live ho hm; omega, fun q' v' s' hq' hk hg => by have := h.lt_of_claim hq' hk hg; omega⟩
    rw [z4j (by rw [hlen]; omega)]
    exact h.S_lt (Nat.le_refl _))
  refine ⟨_, hle.trans h2.1, ?_, h2.2⟩; simp only [Rep]
  refine ⟨_, _, _, rfl, hr.symm, hN, hcap, fun _ => ⟨w.heap.size, 0, rfl, ?_⟩, by simp, fun q' hq' => ?_⟩
  · refine ((hsrc.mono (hle.trans h2.1).S).repE fun j hj => ?_)
    refine z4i h2.1.S (z2c hj) ?_; exact z7u (fun i v hv => ha.agree _ i v hv) hcell j hj
  · injection hq' with hq'
    subst hq'; simp [updK]
theorem z22 (z : Array Value) (n : Nat) : (Builtin.zeroCells z n).size = n * z.size := by simp [Builtin.zeroCells]
theorem zi7 (h : WI F E objs cl w) {t u ty e : TypeId} {i : TypeInfo} {z : Value} {d : TypeDesc} (ht : P.underlying t = some (.slice e)) (hu : P.underlying u = some d) (hd : (∃ e2, d = .slice e2) ∨ d = .string)
    (hi : P.info? e = some i) (hz : i.zero = some z) (hzs : z.cells.size = i.size) (hsz : 0 < i.size) (hby : 0 < i.bytes) (hbm : i.bytes ≤ 1048576) {q : Nm} (hq : cl q = none) {y : Value} {r : List AV} {news : List Value}
    (hy : Src P w i.size r.length y news) (hr : SrcE E i.size r news) (hb : r.length * i.bytes ≤ 211106232532992) :
    ∃ E' v w', (Builtin.append_ #[t, u] ty #[.slice none 0 0, y]).run P w = .ok v w' ∧ E.le E' ∧ Rep E' (.lst (.own q) i.size r) v ∧ WI F E' objs (updN cl q .own) w' := by
  have h63 : r.length ≤ 211106232532992 := Nat.le_trans (Nat.le_mul_of_pos_right _ hby) hb
  cases r with
  | nil =>
    have hn : news = [] := List.eq_nil_of_length_eq_zero (by rw [hr.size]; simp)
    subst hn
    have hk := h.new_claim (q := q) hq (v := .slice none 0 0) (t := e) (n := 0) (xs := []) hsz (World.ownsRow_nil w 0 e i.size) (fun g hg => by simp [Value.ownBlock] at hg)
    refine ⟨_, _, _, z6c ht hu hd hi (Nat.le_refl _) hy, hk.1, ?_, hk.2⟩; simp only [Rep]
    exact ⟨none, 0, 0, rfl, rfl, Nat.le_refl _, Nat.zero_le _, fun h => absurd rfl h, by simp, fun q' hq' => by injection hq' with hq'; subst hq'; simp [updK]⟩
  | cons x r =>
    have hlen : 0 < (x :: r).length := by simp
    generalize (x :: r) = r at *
    have hg := z3e (P := P) (w := w) (ty := ty) (sLen := 0) (sCap := 0) (base := none) (olds := []) ht hu hd hi hz (fun W _ => by simp [Builtin.firstCells]) hy (by omega) (by omega)
      (z4k (by omega) hbm (by simpa using hb))
    simp only [Nat.zero_add] at hg; have hge := grownCap_ge w r.length 0 e
    have hcm : grownCap w r.length 0 e ≤ maxLen := grownCap_le_maxLen w _ 0 e (by simp only [maxLen]; omega)
    have hsize : (#[] ++ news.toArray ++ Builtin.zeroCells z.cells (grownCap w r.length 0 e - r.length)).size = grownCap w r.length 0 e * i.size := by
      simp only [Array.size_append, List.size_toArray, z22, hzs, hr.size, ← Nat.add_mul, List.size_toArray]; simp only [List.length_nil, Nat.zero_add, ← Nat.add_mul]
      congr 1
      omega
    obtain ⟨E', g1, g2, g3⟩ := h.drew.new_row (q := q) (e := e) hq hsz hge hcm hsize rfl (by
      have : (#[] ++ news.toArray ++ Builtin.zeroCells z.cells (grownCap w r.length 0 e - r.length)).toList.take (r.length * i.size) = news := by
        simp only [Array.toList_append, List.append_assoc, List.nil_append, ← hr.size]; exact List.take_left
      rw [this]; exact hr)
    exact ⟨E', _, _, hg, g1, g2, g3⟩
theorem zv4 (h : WI F E objs cl w) {t u ty e : TypeId} {i : TypeInfo} {z : Value} {d : TypeDesc} (ht : P.underlying t = some (.slice e)) (hu : P.underlying u = some d) (hd : (∃ e2, d = .slice e2) ∨ d = .string)
    (hi : P.info? e = some i) (hz : i.zero = some z) (hzs : z.cells.size = i.size) (hsz : 0 < i.size) (hby : 0 < i.bytes) (hbm : i.bytes ≤ 1048576) {p q : Nm} (hp : cl p = some .own) (hq : cl q = none) {s y : Value} {l r : List AV} {news : List Value}
    (hs : Rep E (.lst (.own p) i.size l) s) (hy : Src P w i.size r.length y news) (hr : SrcE E i.size r news) (hb : (l.length + r.length) * i.bytes ≤ 211106232532992) :
    ∃ E' v w', (Builtin.append_ #[t, u] ty #[s, y]).run P w = .ok v w' ∧ E.le E' ∧ Rep E' (.lst (.own q) i.size (l ++ r)) v ∧ WI F E' objs (updN (updN cl p .dead) q .own) w' := by
  have h63 : l.length + r.length ≤ 211106232532992 := Nat.le_trans (Nat.le_mul_of_pos_right _ hby) hb
  have hpq : p ≠ q := by rintro rfl; rw [hp] at hq; cases hq
  have hq' : updN cl p .dead q = none := by rw [zm _ _ hpq]; exact hq
  have hkill := h.kill_claim p; have hpa := zs1 hp; obtain ⟨v, sz, tt, n, xs, k1, k2, k3, k4⟩ := h.claim p hpa; simp only [Rep] at hs; obtain ⟨a, len, cap, rfl, hl, hlc, hcm, he1, _, hka⟩ := hs; have hk := hka p rfl; rw [k1] at hk; injection hk with hk; injection hk with e1 e2
  subst e1; subst e2
  rcases k3.2 with ⟨e, rfl⟩ | ⟨g, cap', cur, e, _, hg, hnc, hcm', hcs, htake⟩
  · injection e with e1 e2 e3
    subst e1; subst e2; subst e3; have hl0 : l = [] := List.eq_nil_of_length_eq_zero hl.symm; subst hl0
    simpa using zi7 hkill ht hu hd hi hz hzs hsz hby hbm hq' hy hr (by simpa using hb)
  · injection e with e1 e2 e3
    subst e1; subst e2; subst e3; subst hl; have hlt : g < w.heap.size := (Array.getElem?_eq_some_iff.1 hg).1
    have hxs : SrcE E i.size l xs := by
      cases hl0 : l with
      | nil => subst hl0; have : xs = [] := List.eq_nil_of_length_eq_zero (by rw [k3.1]; simp); subst this; exact SrcE.nil _ _
      | cons x l0 =>
        rw [← hl0]
        obtain ⟨b, off, eb, hE⟩ := he1 (by rw [hl0]; simp)
        injection eb with eb; injection eb with eb1 eb2
        subst eb1; subst eb2; obtain ⟨ns, n1, n2⟩ := z3f hE
        have : ns = xs := by
          apply List.ext_getElem?; intro j
          rcases Nat.lt_or_ge j ns.length with hj | hj
          · have hv : ns[j]? = some ns[j] := by simp [hj]
            have hc := h.agree _ _ _ ((n2 j hj).trans hv); rw [cell_of_row w g _ cur tt (0, 0) hg, Nat.zero_add] at hc
            rw [hv, ← hc, ← htake, List.getElem?_take, if_pos (by rw [← n1.size]; exact hj)]
            simp
          · rw [List.getElem?_eq_none hj, List.getElem?_eq_none (by rw [k3.1, ← n1.size]; exact hj)]
        exact this ▸ n1
    by_cases hroom : l.length + r.length ≤ cap
    · have hfit : l.length * i.size + news.length ≤ cur.size := by rw [hr.size, hcs, ← Nat.add_mul]; exact Nat.mul_le_mul_right _ hroom
      have hrun := z28 (P := P) (w := w) (ty := ty) ht hu hd hi hg hy hroom hfit; have hother : ∀ k, k ≠ g → (w.setRow g (cur.toList.take (l.length * i.size) ++ news ++ cur.toList.drop (l.length * i.size + news.length)).toArray).heap[k]? = w.heap[k]? := fun k hk => setRow_other' w g k _ hk; generalize hw' : w.setRow g (cur.toList.take (l.length * i.size) ++ news ++ cur.toList.drop (l.length * i.size + news.length)).toArray = w' at *
      have hg' : w'.heap[g]? = some (.cells (cur.toList.take (l.length * i.size) ++ news ++ cur.toList.drop (l.length * i.size + news.length)).toArray tt (0, 0)) := by
        rw [← hw']; exact setRow_heap w g cur _ tt (0, 0) hg
      have hxl : xs.length = l.length * i.size := k3.1
      have hcur : (cur.toList.take (l.length * i.size) ++ news ++ cur.toList.drop (l.length * i.size + news.length)).toArray.size = cap * i.size := by
        simp only [List.size_toArray, List.length_append, List.length_take, List.length_drop, Array.length_toList]; omega
      have hown' : w'.ownsRow 0 tt i.size (.slice (some ⟨g, 0, none⟩) (l.length + r.length) cap) (l.length + r.length) (xs ++ news) := by
        refine ⟨by rw [List.length_append, k3.1, hr.size, Nat.add_mul], .inr ⟨g, cap, _, rfl, Nat.zero_le _, hg', hroom, hcm', hcur, ?_⟩⟩
        rw [htake]
        have : (l.length + r.length) * i.size = (xs ++ news).length := by rw [List.length_append, k3.1, hr.size, Nat.add_mul]
        rw [this]; exact List.take_left
      have hnotS : ∀ j, l.length * i.size ≤ j → E.S g j = none := (k4 g rfl).2
      have hstep : Step F w' := by
        refine ⟨by rw [← hw']; exact h.step.os, by rw [← hw']; exact h.step.tape, by rw [← hw']; exact h.step.output, by rw [← hw', size_setRow]; exact h.step.size, fun k hk ho => ?_⟩
        rw [hother k (fun e => by subst e; rcases (k4 k rfl).1 with h5 | h5; · omega
                                  · exact ho h5)]
        exact h.step.block k hk ho
      have hW := hkill.world hstep (fun b k v hv => by
          by_cases hbg : b = g
          · subst hbg
            have hk : k < l.length * i.size := by
              rcases Nat.lt_or_ge k (l.length * i.size) with h' | h'
              · exact h'
              · rw [hnotS k h'] at hv; cases hv
            have hc := h.agree _ _ _ hv; rw [cell_of_row w b _ cur tt (0, 0) hg] at hc; rw [cell_of_row w' b _ _ tt (0, 0) hg']; simp only [List.getElem?_toArray]
            rw [List.append_assoc, List.getElem?_append_left (by simp; have := (Array.getElem?_eq_some_iff.1 hc).1; omega), List.getElem?_take, if_pos hk]
            simpa using hc
          · rw [z44 (hother b hbg)]
            exact h.agree b k v hv)
        (fun o cs b ho hm => hother b (fun e => by subst e; exact h.oc o cs b p _ _ ho hm hpa k1 rfl))
        (fun q2 v2 s2 g2 hq2 hk2 hg2 => hother g2 (fun e => by
          subst e
          have hne : p ≠ q2 := by rintro rfl; rw [zp] at hq2; cases hq2
          rw [zm _ _ hne] at hq2; exact hne (h.cc p q2 _ _ _ _ g2 hpa hq2 k1 hk2 rfl hg2)))
      have hcell : ∀ (j : Nat) (v : Value), news[j]? = some v → w'.cell? ⟨g, l.length * i.size + j, none⟩ = some v := by
        intro j v hj; rw [cell_of_row w' g _ _ tt (0, 0) hg']; have hjl := (List.getElem?_eq_some_iff.1 hj).1; simp only [List.getElem?_toArray]
        rw [List.append_assoc, List.getElem?_append_right (by simp; omega), List.getElem?_append_left (by simp; omega)]
        rw [← hj]
        congr 1
        simp; omega
      have hA := hW.addS (b := g) (lo := l.length * i.size) (vs := news) (k4 g rfl).1 hcell (fun o cs ho hm => h.oc o cs g p _ _ ho hm hpa k1 rfl) (fun q2 v2 s2 t2 n2 xs2 hq2 hk2 hg2 _ _ => by
          exfalso
          have hne : p ≠ q2 := by rintro rfl; rw [zp] at hq2; cases hq2
          rw [zm _ _ hne] at hq2
          exact hne (h.cc p q2 _ _ _ _ g hpa hq2 k1 hk2 rfl hg2)) (fun q2 l2 v2 s2 hq2 hk2 hg2 => by
          have hne : p ≠ q2 := by rintro rfl; rw [zp] at hq2; cases hq2
          rw [zm _ _ hne] at hq2; exact hne (h.cc p q2 _ _ _ _ g hpa (z16 hq2) k1 hk2 rfl hg2))
      have hle := z64 E g (l.length * i.size) news
      have hN := hA.new_claim hq' hsz hown' (fun g2 hg2 => by
        simp only [Value.ownBlock, Option.some.injEq] at hg2; subst hg2; refine ⟨(k4 g rfl).1, fun j hj => ?_, fun o cs ho hm => h.oc o cs g p _ _ ho hm hpa k1 rfl, fun q2 v2 s2 hq2 hk2 hg2 => ?_⟩
        · rw [z4j (by rw [hr.size]; rw [Nat.add_mul] at hj; omega)]
          exact hnotS j (by rw [Nat.add_mul] at hj; omega)
        · have hne : p ≠ q2 := by rintro rfl; rw [zp] at hq2; cases hq2
          rw [zm _ _ hne] at hq2; exact hne (h.cc p q2 _ _ _ _ g hpa hq2 k1 hk2 rfl hg2))
      refine ⟨_, _, _, hrun, hle.trans hN.1, ?_, hN.2⟩; simp only [Rep]
      refine ⟨_, _, _, rfl, by simp, hroom, hcm', fun _ => ⟨g, 0, rfl, ?_⟩, by simp, fun q2 hq2 => by injection hq2 with hq2; subst hq2; simp [updK]⟩
      refine (((hxs.append hr).mono (hle.trans hN.1).S).repE fun j hj => ?_); refine z4i hN.1.S (z2c hj) ?_; rw [Nat.zero_add]
      rcases Nat.lt_or_ge j xs.length with hj' | hj'
      · rw [List.getElem?_append_left hj']
        have hv : xs[j]? = some xs[j] := by simp [hj']
        refine z4i hle.S (z2c hj') ?_
        obtain ⟨b0, off0, eb, hE⟩ := he1 (by intro h0; rw [hxl, h0] at hj'; simp at hj')
        injection eb with eb; injection eb with eb1 eb2
        subst eb1; subst eb2; obtain ⟨ns, n1, n2⟩ := z3f hE
        have hj2 : j < ns.length := by rw [n1.size, ← hxl]; exact hj'
        have hv2 : ns[j]? = some ns[j] := by simp [hj2]
        have hc := h.agree _ _ _ ((n2 j hj2).trans hv2); rw [cell_of_row w g _ cur tt (0, 0) hg, Nat.zero_add] at hc
        have : xs[j]? = some ns[j] := by
          rw [← htake, List.getElem?_take, if_pos (by rw [← hxl]; exact hj')]
          simpa using hc
        rw [this, ← hv2, ← n2 j hj2, Nat.zero_add]
      · rw [List.getElem?_append_right hj']
        have := z7u (E := E) (w := w') (b := g) (lo := l.length * i.size) (vs := news) (fun i v hv => hW.agree _ i v hv) hcell (j - xs.length) (by rw [List.length_append] at hj; omega)
        rw [← this]
        congr 1
        omega
    · have hgrow := z3e (P := P) (w := w) (ty := ty) (sLen := l.length) (sCap := cap) (base := some ⟨g, 0, none⟩) (olds := xs) ht hu hd hi hz (fun W hW => by
          refine run_firstCells_some W i.size l.length _ _ _ xs k3.1 fun j v hj => ?_; have := k3.cells (g := g) rfl j v hj
          simpa [World.cell?, hW] using this) hy (by omega) (by omega) (z4k (by omega) hbm hb)
      have hge := grownCap_ge w (l.length + r.length) cap e
      have hcm2 : grownCap w (l.length + r.length) cap e ≤ maxLen := grownCap_le_maxLen w _ cap e (by simp only [maxLen]; omega)
      have hsize : (xs.toArray ++ news.toArray ++ Builtin.zeroCells z.cells (grownCap w (l.length + r.length) cap e - (l.length + r.length))).size = grownCap w (l.length + r.length) cap e * i.size := by
        simp only [Array.size_append, List.size_toArray, z22, hzs, hr.size, k3.1, ← Nat.add_mul]
        congr 1
        omega
      obtain ⟨E', g1, g2, g3⟩ := hkill.drew.new_row (q := q) (e := e) (r := l ++ r) hq' hsz hge hcm2 hsize (by simp) (by
        have : (xs.toArray ++ news.toArray ++ Builtin.zeroCells z.cells (grownCap w (l.length + r.length) cap e - (l.length + r.length))).toList.take ((l.length + r.length) * i.size) = xs ++ news := by
          simp only [Array.toList_append, List.append_assoc]; rw [← List.append_assoc]
          have : (l.length + r.length) * i.size = (xs ++ news).length := by rw [List.length_append, k3.1, hr.size, Nat.add_mul]
          rw [this]; exact List.take_left
        rw [this]; exact hxs.append hr)
      exact ⟨E', _, _, hgrow, g1, g2, g3⟩
theorem SrcR.nil (E : E3) (sz : Nat) : SrcR E sz [] [] := ⟨by simp, by simp⟩
theorem SrcE.toR {sz : Nat} {r : List AV} {news : List Value} (h : SrcE E sz r news) : SrcR E sz r news :=
  ⟨h.size, fun i x hx => ⟨.inl (h.get i x hx).1, (h.get i x hx).2⟩⟩
theorem SrcR.toE {sz : Nat} {r : List AV} {news : List Value} (h : SrcR E sz r news) (hf : r.all AV.flat = true) : SrcE E sz r news :=
  ⟨h.size, fun i x hx => ⟨List.all_eq_true.1 hf x (List.mem_of_getElem? hx), (h.get i x hx).2⟩⟩
theorem SrcR.append {sz : Nat} {r r' : List AV} {ns ns' : List Value} (h : SrcR E sz r ns) (k : SrcR E sz r' ns') : SrcR E sz (r ++ r') (ns ++ ns') := by
  refine ⟨by rw [List.length_append, List.length_append, h.size, k.size, Nat.add_mul], fun i x hx => ?_⟩
  rcases Nat.lt_or_ge i r.length with hi | hi
  · rw [List.getElem?_append_left hi] at hx
    obtain ⟨h1, u, h2, h3, h4⟩ := h.get i x hx; refine ⟨h1, u, h2, h3, fun j hj => ?_⟩; rw [List.getElem?_append_left, h4 j hj]; rw [h.size]; have : (i + 1) * sz ≤ r.length * sz := Nat.mul_le_mul_right _ hi; rw [Nat.add_mul] at this; omega
  · rw [List.getElem?_append_right hi] at hx
    obtain ⟨h1, u, h2, h3, h4⟩ := k.get _ x hx; refine ⟨h1, u, h2, h3, fun j hj => ?_⟩; have e : r.length * sz ≤ i * sz := Nat.mul_le_mul_right _ hi
    rw [List.getElem?_append_right (by rw [h.size]; omega), ← h4 j hj, h.size]
    congr 1
    rw [Nat.sub_mul]; omega
theorem WI.new_rowR (h : WI F E objs cl w) {q : Nm} (hq : cl q = none) {arr : Array Value} {e : TypeId} {N cap sz : Nat} (hsz : 0 < sz) (hN : N ≤ cap) (hcap : cap ≤ maxLen) (harr : arr.size = cap * sz)
    {r : List AV} (hr : r.length = N) (hsrc : SrcR E sz r (arr.toList.take (N * sz))) :
    ∃ E', E.le E' ∧ Rep E' (.sq q sz) (.slice (some ⟨w.heap.size, 0, none⟩) N cap) ∧ WI F E' objs (updN cl q (.row r)) (w.alloc (.cells arr e)) := by
  have ha := h.alloc (.cells arr e); have hb : (w.alloc (.cells arr e)).heap[w.heap.size]? = some (.cells arr e (0, 0)) := heap_alloc_new w _
  have hfit : N * sz ≤ arr.size := by rw [harr]; exact Nat.mul_le_mul_right _ hN
  have hlen : (arr.toList.take (N * sz)).length = N * sz := by simp; omega
  have hown : (w.alloc (.cells arr e)).ownsRow 0 e sz (.slice (some ⟨w.heap.size, 0, none⟩) N cap) N (arr.toList.take (N * sz)) :=
    ⟨hlen, .inr ⟨w.heap.size, cap, arr, rfl, Nat.zero_le _, hb, hN, hcap, harr, rfl⟩⟩
  have h2 := ha.new_claimC (c := .row r) hq rfl hsz hown (fun g hg => by
    simp only [Value.ownBlock, Option.some.injEq] at hg; subst hg
    exact ⟨h.own_new (Nat.le_refl _), fun i hi => h.S_lt (Nat.le_refl _), fun o cs ho hm => by have := h.lt_of_live ho hm; omega, fun q' v' s' hq' hk hg => by have := h.lt_of_claim hq' hk hg; omega⟩)
    (fun l e => by
      cases e
      exact ⟨hsrc, hr, fun g hg i => by
        simp only [Value.ownBlock, Option.some.injEq] at hg; subst hg; exact h.S_lt (Nat.le_refl _)⟩)
  refine ⟨_, h2.1, ?_, h2.2⟩; simp only [Rep]
  exact ⟨by simp [updK], _, _, _, rfl⟩
theorem z9d {t u ty e : TypeId} {i : TypeInfo} {z : Value} {d : TypeDesc} (ht : P.underlying t = some (.slice e)) (hu : P.underlying u = some d) (hd : (∃ e2, d = .slice e2) ∨ d = .string)
    (hi : P.info? e = some i) (hz : i.zero = some z) (hzs : z.cells.size = i.size) (hby : 0 < i.bytes) (hbm : i.bytes ≤ 1048576) {y : Value} {n : Nat} {news : List Value}
    (hy : Src P w i.size n y news) (hn : 0 < n) (hb : n * i.bytes ≤ 211106232532992) :
    (Builtin.append_ #[t, u] ty #[.slice none 0 0, y]).run P w = .ok (.slice (some ⟨w.heap.size, 0, none⟩) n (grownCap w n 0 e)) (w.drew.alloc (.cells (#[] ++ news.toArray ++ Builtin.zeroCells z.cells (grownCap w n 0 e - n)) e)) ∧
    n ≤ grownCap w n 0 e ∧ grownCap w n 0 e ≤ maxLen ∧ (#[] ++ news.toArray ++ Builtin.zeroCells z.cells (grownCap w n 0 e - n)).size = grownCap w n 0 e * i.size ∧
    (#[] ++ news.toArray ++ Builtin.zeroCells z.cells (grownCap w n 0 e - n)).toList.take (n * i.size) = news := by
  have h63 : n ≤ 211106232532992 := Nat.le_trans (Nat.le_mul_of_pos_right _ hby) hb
  have hg := z3e (P := P) (w := w) (ty := ty) (sLen := 0) (sCap := 0) (base := none) (olds := []) ht hu hd hi hz (fun W _ => by simp [Builtin.firstCells]) hy (by omega) (by omega)
    (z4k (by omega) hbm (by simpa using hb))
  simp only [Nat.zero_add] at hg; have hge := grownCap_ge w n 0 e
  have hcm : grownCap w n 0 e ≤ maxLen := grownCap_le_maxLen w _ 0 e (by simp only [maxLen]; omega)
  refine ⟨hg, hge, hcm, ?_, ?_⟩
  · simp only [Array.size_append, List.size_toArray, z22, hzs, hy.size, List.length_nil, Nat.zero_add, ← Nat.add_mul]
    congr 1
    omega
  · simp only [Array.toList_append, List.append_assoc, List.nil_append, ← hy.size]
    exact List.take_left
theorem zg7 (h : WI F E objs cl w) {t u ty e : TypeId} {i : TypeInfo} {z : Value} {d : TypeDesc} (ht : P.underlying t = some (.slice e)) (hu : P.underlying u = some d) (hd : (∃ e2, d = .slice e2) ∨ d = .string)
    (hi : P.info? e = some i) (hz : i.zero = some z) (hzs : z.cells.size = i.size) (hsz : 0 < i.size) (hby : 0 < i.bytes) (hbm : i.bytes ≤ 1048576) {q : Nm} (hq : cl q = none) {y : Value} {r : List AV} {news : List Value}
    (hy : Src P w i.size r.length y news) (hr : SrcR E i.size r news) (hb : r.length * i.bytes ≤ 211106232532992) :
    ∃ E' v w', (Builtin.append_ #[t, u] ty #[.slice none 0 0, y]).run P w = .ok v w' ∧ E.le E' ∧ Rep E' (.sq q i.size) v ∧ WI F E' objs (updN cl q (.row r)) w' := by
  cases r with
  | nil =>
    have hn : news = [] := List.eq_nil_of_length_eq_zero (by rw [hr.size]; simp)
    subst hn
    have hk := h.new_claimC (q := q) (c := .row []) hq rfl (v := .slice none 0 0) (t := e) (n := 0) (xs := []) hsz (World.ownsRow_nil w 0 e i.size) (fun g hg => by simp [Value.ownBlock] at hg) (fun l e => by
      cases e
      exact ⟨SrcR.nil E _, rfl, fun g hg => by simp [Value.ownBlock] at hg⟩)
    refine ⟨_, _, _, z6c ht hu hd hi (Nat.le_refl _) hy, hk.1, ?_, hk.2⟩; simp only [Rep]
    exact ⟨by simp [updK], _, _, _, rfl⟩
  | cons x r =>
    have hlen : 0 < (x :: r).length := by simp
    generalize (x :: r) = r at *; obtain ⟨k1, k2, k3, k4, k5⟩ := z9d (ty := ty) ht hu hd hi hz hzs hby hbm hy hlen hb
    obtain ⟨E', g1, g2, g3⟩ := h.drew.new_rowR (q := q) (e := e) hq hsz k2 k3 k4 rfl (by rw [k5]; exact hr)
    exact ⟨E', _, _, k1, g1, g2, g3⟩
theorem z1j (h : WI F E objs cl w) {p : Nm} {l : List AV} (hp : cl p = some (.row l)) {v : Value} {sz : Nat} (hk : E.ka p = some (v, sz)) :
    ∃ t xs, w.ownsRow 0 t sz v l.length xs ∧ SrcR E sz l xs ∧ 0 < sz ∧ (∀ g, v.ownBlock = some g → F.own g ∧ ∀ i, E.S g i = none) := by
  obtain ⟨v', s', t, n, xs, k1, k2, k3, k4, k5⟩ := h.rows p l hp
  rw [hk] at k1; cases k1
  obtain ⟨v', s', t', n', xs', m1, m2, m3, m4⟩ := h.claim p (z16 hp)
  rw [hk] at m1; cases m1
  subst k4; exact ⟨t, xs, k2, k3, m2, fun g hg => ⟨(m4 g hg).1, k5 g hg⟩⟩
theorem WI.row_set (h : WI F E objs cl w) {p : Nm} {l l' : List AV} (hp : cl p = some (.row l)) {g n cap sz : Nat} (hk : E.ka p = some (.slice (some ⟨g, 0, none⟩) n cap, sz)) {cur cur' : Array Value} {tt : TypeId}
    (hg : w.heap[g]? = some (.cells cur tt (0, 0))) (hs : cur'.size = cur.size) (hl : l'.length = l.length) (hsrc : SrcR E sz l' (cur'.toList.take (n * sz))) :
    WI F E objs (updN cl p (.row l')) (w.setRow g cur') := by
  have hpa := z16 hp; obtain ⟨t, xs, k1, k2, k3, k6⟩ := z1j h hp hk; obtain ⟨k4, k5⟩ := k6 g rfl; have hother : ∀ k, k ≠ g → (w.setRow g cur').heap[k]? = w.heap[k]? := fun k hk => setRow_other' w g k _ hk; have hnew : (w.setRow g cur').heap[g]? = some (.cells cur' tt (0, 0)) := setRow_heap w g cur _ tt (0, 0) hg
  have hstep : Step F (w.setRow g cur') := by
    refine ⟨h.step.os, h.step.tape, h.step.output, by rw [size_setRow]; exact h.step.size, fun k hk ho => ?_⟩
    rw [hother k (fun e => by subst e; rcases k4 with h5 | h5; · omega
                              · exact ho h5)]
    exact h.step.block k hk ho
  have hkill := h.kill_claim p
  have hW := hkill.world hstep (fun b k v hv => by
      by_cases hbg : b = g
      · subst hbg; rw [k5 k] at hv; cases hv
      · rw [z44 (hother b hbg)]; exact h.agree b k v hv)
    (fun o cs b ho hm => hother b (fun e => by subst e; exact h.oc o cs b p _ _ ho hm hpa hk rfl))
    (fun q2 v2 s2 g2 hq2 hk2 hg2 => hother g2 (fun e => by
      subst e
      have hne : p ≠ q2 := by rintro rfl; rw [zp] at hq2; cases hq2
      rw [zm _ _ hne] at hq2; exact hne (h.cc p q2 _ _ _ _ g2 hpa hq2 hk hk2 rfl hg2)))
  have hn : n = l.length ∧ n ≤ cap ∧ cap ≤ maxLen ∧ cur.size = cap * sz := by
    rcases k1.2 with ⟨e, _⟩ | ⟨g', cap', cur0, e, _, hg', hnc, hcm', hcs, htake⟩
    · cases e
    · cases e
      rw [hg] at hg'
      cases hg'
      exact ⟨rfl, hnc, hcm', hcs⟩
  obtain ⟨rfl, hnc, hcm, hcs⟩ := hn
  have hown : (w.setRow g cur').ownsRow 0 tt sz (.slice (some ⟨g, 0, none⟩) l.length cap) l.length (cur'.toList.take (l.length * sz)) := by
    refine ⟨?_, .inr ⟨g, cap, cur', rfl, Nat.zero_le _, hnew, hnc, hcm, by rw [hs]; exact hcs, rfl⟩⟩
    rw [hsrc.size, hl]
  -- the same name again
  have e1 : updN cl p (.row l') = updN (updN cl p .dead) p (.row l') := by
    funext q
    by_cases hq : p = q
    · subst hq; simp
    · rw [zm _ _ hq, zm _ _ hq, zm _ _ hq]
  have oldc : ∀ {q : Nm}, isAl ((updN cl p (.row l')) q) = true → isAl (cl q) = true := by
    intro q hq
    by_cases hpq : p = q
    · subst hpq; exact hpa
    · rwa [zm _ _ hpq] at hq
  refine { hW with claim := ?_, rows := ?_, cc := ?_, oc := ?_, kdom := ?_ }
  · intro q hq
    by_cases hpq : p = q
    · subst hpq
      refine ⟨_, _, tt, _, _, hk, k3, hown, fun g' hg' => ?_⟩; simp only [Value.ownBlock, Option.some.injEq] at hg'; subst hg'; exact ⟨k4, fun i _ => k5 i⟩
    · exact hW.claim q (by rw [zm _ _ hpq] at hq ⊢; exact hq)
  · intro q r hq
    by_cases hpq : p = q
    · subst hpq
      rw [zp] at hq
      cases hq
      refine ⟨_, _, tt, _, _, hk, hown, hsrc, hl, fun g' hg' => ?_⟩; simp only [Value.ownBlock, Option.some.injEq] at hg'; subst hg'; exact k5
    · exact hW.rows q r (by rw [zm _ _ hpq] at hq ⊢; exact hq)
  · intro q q' v v' s s' g' h1 h2 h3 h4
    exact h.cc q q' v v' s s' g' (oldc h1) (oldc h2) h3 h4
  · intro o cs b q v s h1 h2 h3 h4
    exact h.oc o cs b q v s h1 h2 (oldc h3) h4
  · intro q x hx
    by_cases hpq : p = q
    · subst hpq; rw [zp]; simp
    · rw [zm _ _ hpq]; exact h.kdom q x hx
theorem zv5 (h : WI F E objs cl w) {t u ty e : TypeId} {i : TypeInfo} {z : Value} {d : TypeDesc} (ht : P.underlying t = some (.slice e)) (hu : P.underlying u = some d) (hd : (∃ e2, d = .slice e2) ∨ d = .string)
    (hi : P.info? e = some i) (hz : i.zero = some z) (hzs : z.cells.size = i.size) (hsz : 0 < i.size) (hby : 0 < i.bytes) (hbm : i.bytes ≤ 1048576) {p q : Nm} {l r : List AV} (hp : cl p = some (.row l)) (hq : cl q = none) {s y : Value} {news : List Value}
    (hs : Rep E (.sq p i.size) s) (hy : Src P w i.size r.length y news) (hr : SrcR E i.size r news) (hb : (l.length + r.length) * i.bytes ≤ 211106232532992) :
    ∃ E' v w', (Builtin.append_ #[t, u] ty #[s, y]).run P w = .ok v w' ∧ E.le E' ∧ Rep E' (.sq q i.size) v ∧ WI F E' objs (updN (updN cl p .dead) q (.row (l ++ r))) w' := by
  have h63 : l.length + r.length ≤ 211106232532992 := Nat.le_trans (Nat.le_mul_of_pos_right _ hby) hb; have hpa := z16 hp
  have hpq : p ≠ q := by rintro rfl; rw [hp] at hq; cases hq
  have hq' : updN cl p .dead q = none := by rw [zm _ _ hpq]; exact hq
  have hkill := h.kill_claim p; simp only [Rep] at hs; obtain ⟨k1, _⟩ := hs; obtain ⟨tt, xs, k3, hxs, _, k4⟩ := z1j h hp k1
  rcases k3.2 with ⟨rfl, hl0⟩ | ⟨g, cap, cur, rfl, _, hg, hnc, hcm', hcs, htake⟩
  · have hl0 : l = [] := List.eq_nil_of_length_eq_zero hl0
    subst hl0; simp only [List.length_nil, Nat.zero_add] at hb; obtain ⟨E', v, w', g1, g2, g3, g4⟩ := zg7 hkill (ty := ty) ht hu hd hi hz hzs hsz hby hbm hq' hy hr hb; exact ⟨E', v, w', g1, g2, g3, g4⟩
  · have hlt : g < w.heap.size := (Array.getElem?_eq_some_iff.1 hg).1
    replace k4 := k4 g rfl; obtain ⟨k4, k5⟩ := k4
    by_cases hroom : l.length + r.length ≤ cap
    · have hfit : l.length * i.size + news.length ≤ cur.size := by rw [hr.size, hcs, ← Nat.add_mul]; exact Nat.mul_le_mul_right _ hroom
      have hrun := z28 (P := P) (w := w) (ty := ty) ht hu hd hi hg hy hroom hfit; have hother : ∀ k, k ≠ g → (w.setRow g (cur.toList.take (l.length * i.size) ++ news ++ cur.toList.drop (l.length * i.size + news.length)).toArray).heap[k]? = w.heap[k]? := fun k hk => setRow_other' w g k _ hk; generalize hw' : w.setRow g (cur.toList.take (l.length * i.size) ++ news ++ cur.toList.drop (l.length * i.size + news.length)).toArray = w' at *
      have hg' : w'.heap[g]? = some (.cells (cur.toList.take (l.length * i.size) ++ news ++ cur.toList.drop (l.length * i.size + news.length)).toArray tt (0, 0)) := by
        rw [← hw']; exact setRow_heap w g cur _ tt (0, 0) hg
      have hxl : xs.length = l.length * i.size := k3.1
      have hcur : (cur.toList.take (l.length * i.size) ++ news ++ cur.toList.drop (l.length * i.size + news.length)).toArray.size = cap * i.size := by
        simp only [List.size_toArray, List.length_append, List.length_take, List.length_drop, Array.length_toList]; omega
      have hown' : w'.ownsRow 0 tt i.size (.slice (some ⟨g, 0, none⟩) (l.length + r.length) cap) (l.length + r.length) (xs ++ news) := by
        refine ⟨by rw [List.length_append, k3.1, hr.size, Nat.add_mul], .inr ⟨g, cap, _, rfl, Nat.zero_le _, hg', hroom, hcm', hcur, ?_⟩⟩
        rw [htake]
        have : (l.length + r.length) * i.size = (xs ++ news).length := by rw [List.length_append, k3.1, hr.size, Nat.add_mul]
        rw [this]; exact List.take_left
      have hstep : Step F w' := by
        refine ⟨by rw [← hw']; exact h.step.os, by rw [← hw']; exact h.step.tape, by rw [← hw']; exact h.step.output, by rw [← hw', size_setRow]; exact h.step.size, fun k hk ho => ?_⟩
        rw [hother k (fun e => by subst e; rcases k4 with h5 | h5; · omega
                                  · exact ho h5)]
        exact h.step.block k hk ho
      have hW := hkill.world hstep (fun b k v hv => by
          by_cases hbg : b = g
          · subst hbg; rw [k5 k] at hv; cases hv
          · rw [z44 (hother b hbg)]
            exact h.agree b k v hv)
        (fun o cs b ho hm => hother b (fun e => by subst e; exact h.oc o cs b p _ _ ho hm hpa k1 rfl))
        (fun q2 v2 s2 g2 hq2 hk2 hg2 => hother g2 (fun e => by
          subst e
          have hne : p ≠ q2 := by rintro rfl; rw [zp] at hq2; cases hq2
          rw [zm _ _ hne] at hq2; exact hne (h.cc p q2 _ _ _ _ g2 hpa hq2 k1 hk2 rfl hg2)))
      have hN := hW.new_claimC (c := .row (l ++ r)) hq' rfl hsz hown' (fun g2 hg2 => by
        simp only [Value.ownBlock, Option.some.injEq] at hg2; subst hg2; refine ⟨k4, fun j hj => k5 j, fun o cs ho hm => h.oc o cs g p _ _ ho hm hpa k1 rfl, fun q2 v2 s2 hq2 hk2 hg2 => ?_⟩
        have hne : p ≠ q2 := by rintro rfl; rw [zp] at hq2; cases hq2
        rw [zm _ _ hne] at hq2
        exact hne (h.cc p q2 _ _ _ _ g hpa hq2 k1 hk2 rfl hg2)) (fun l2 e2 => by
          cases e2
          refine ⟨hxs.append hr, by simp, fun g2 hg2 => ?_⟩
          simp only [Value.ownBlock, Option.some.injEq] at hg2; subst hg2; exact k5)
      refine ⟨_, _, _, hrun, hN.1, ?_, hN.2⟩; simp only [Rep]
      exact ⟨by simp [updK], _, _, _, rfl⟩
    · have hgrow := z3e (P := P) (w := w) (ty := ty) (sLen := l.length) (sCap := cap) (base := some ⟨g, 0, none⟩) (olds := xs) ht hu hd hi hz (fun W hW => by
          refine run_firstCells_some W i.size l.length _ _ _ xs k3.1 fun j v hj => ?_; have := k3.cells (g := g) rfl j v hj
          simpa [World.cell?, hW] using this) hy (by omega) (by omega) (z4k (by omega) hbm hb)
      have hge := grownCap_ge w (l.length + r.length) cap e
      have hcm2 : grownCap w (l.length + r.length) cap e ≤ maxLen := grownCap_le_maxLen w _ cap e (by simp only [maxLen]; omega)
      have hsize : (xs.toArray ++ news.toArray ++ Builtin.zeroCells z.cells (grownCap w (l.length + r.length) cap e - (l.length + r.length))).size = grownCap w (l.length + r.length) cap e * i.size := by
        simp only [Array.size_append, List.size_toArray, z22, hzs, hr.size, k3.1, ← Nat.add_mul]
        congr 1
        omega
      obtain ⟨E', g1, g2, g3⟩ := hkill.drew.new_rowR (q := q) (e := e) (r := l ++ r) hq' hsz hge hcm2 hsize (by simp) (by
        have : (xs.toArray ++ news.toArray ++ Builtin.zeroCells z.cells (grownCap w (l.length + r.length) cap e - (l.length + r.length))).toList.take ((l.length + r.length) * i.size) = xs ++ news := by
          simp only [Array.toList_append, List.append_assoc]; rw [← List.append_assoc]
          have : (l.length + r.length) * i.size = (xs ++ news).length := by rw [List.length_append, k3.1, hr.size, Nat.add_mul]
          rw [this]; exact List.take_left
        rw [this]; exact hxs.append hr)
      exact ⟨E', _, _, hgrow, g1, g2, g3⟩
theorem WI.row_still (h : WI F E objs cl w) {p : Nm} {l : List AV} (hp : cl p = some (.row l)) (hf : l.all AV.flat = true) :
    ∃ E', E.le E' ∧ E'.mu = E.mu ∧ E'.ka = E.ka ∧ WI F E' objs (updN cl p .dead) w ∧ ∀ sz v, Rep E (.sq p sz) v → Rep E' (.lst .ro sz l) v := by
  have hpa := z16 hp; obtain ⟨v, sz, t, n, xs, k1, k2, k3, k4, k5⟩ := h.rows p l hp; obtain ⟨v', s', t', n', xs', m1, m2, m3, m4⟩ := h.claim p hpa
  rw [k1] at m1; cases m1
  subst k4
  rcases k2.2 with ⟨rfl, hl0⟩ | ⟨g, cap, cur, rfl, _, hg, hnc, hcm', hcs, htake⟩
  · have hl0 : l = [] := List.eq_nil_of_length_eq_zero hl0
    subst hl0; refine ⟨E, E3.le.refl E, rfl, rfl, h.kill_claim p, fun sz' v hv => ?_⟩; simp only [Rep] at hv ⊢; rw [k1] at hv; obtain ⟨hv, _⟩ := hv
    cases hv
    exact ⟨none, 0, 0, rfl, rfl, Nat.le_refl _, Nat.zero_le _, fun h => absurd rfl h, by simp, by simp⟩
  · obtain ⟨m4, m5⟩ := m4 g rfl
    have hcell : ∀ (j : Nat) (v : Value), xs[j]? = some v → w.cell? ⟨g, 0 + j, none⟩ = some v := by
      intro j v hj; rw [Nat.zero_add]; have := k2.cells (g := g) rfl j v hj; rw [z1x] at this
      simpa using this
    have hle := z64 E g 0 xs
    have hA := (h.kill_claim p).addS (b := g) (lo := 0) (vs := xs) m4 hcell (fun o cs ho hm => h.oc o cs g p _ _ ho hm hpa k1 rfl) (fun q2 v2 s2 t2 n2 xs2 hq2 hk2 hg2 _ _ => by
        exfalso
        have hne : p ≠ q2 := by rintro rfl; rw [zp] at hq2; cases hq2
        rw [zm _ _ hne] at hq2
        exact hne (h.cc p q2 _ _ _ _ g hpa hq2 k1 hk2 rfl hg2)) (fun q2 l2 v2 s2 hq2 hk2 hg2 => by
        have hne : p ≠ q2 := by rintro rfl; rw [zp] at hq2; cases hq2
        rw [zm _ _ hne] at hq2; exact hne (h.cc p q2 _ _ _ _ g hpa (z16 hq2) k1 hk2 rfl hg2))
    refine ⟨_, hle, rfl, rfl, hA, fun sz' v hv => ?_⟩; simp only [Rep] at hv ⊢; rw [k1] at hv; obtain ⟨hv, _⟩ := hv
    cases hv
    refine ⟨_, _, _, rfl, rfl, hnc, hcm', fun _ => ⟨g, 0, rfl, ?_⟩, by simp, by simp⟩
    refine (((k3.toE hf).mono hle.S).repE fun j hj => ?_); exact z7u (fun i v hv => h.agree _ i v hv) hcell j hj
end V
end Go.Proofs.YtgkiakemfcbgiaaGreat
