/- Part 3 of the proof that: What is answered makes of the first schema the forms of the other one, and no way of fewer links is there. -/
import Derived.ProofKit
import Derived.Carry
import Derived.SizedLaws
import Derived.JoinedCond
import Derived.OpenShut
import Derived.Test.YtjkjhgfiaodgmaaProg
import Derived.KernelRfl
import Derived.WalkKit
import Derived.Deep.RegionLaw
import Derived.Shelf.RegionOpenPlain
import Derived.Lib.Walk
import Derived.Lib.SliceRun
import Derived.Lib.Overlaps
import Derived.Laws.Externs
import Derived.Lib.Hide
import Derived.OwnWalk
import Derived.Lib.AppendZerosOnto
import Derived.Deep.WholeRow
import Derived.Shelf.SlicesQ.Reverse
import Derived.Test.YtjkjhgfiaodgmaaQb
set_option linter.unusedVariables false
set_option linter.unusedSimpArgs false
namespace Go.Proofs.Ytjkjhgfiaodgmaa.V
open Go
def findLoop (id : Nat) : Code → Option Code
  | .seq a b => match findLoop id a with | some c => some c | none => findLoop id b
  | .cond _ a b => match findLoop id a with | some c => some c | none => findLoop id b
  | .block _ a => findLoop id a
  | .loop a => bif Nat.beq (firstR a) id then some a else findLoop id a
  | _ => none
def findBlk (an : Ann) (r : Nat) : Code → Option Code
  | .seq a b => bif an.meet (firstR b) && Nat.beq (firstR b) r then some b else match findBlk an r a with | some c => some c | none => findBlk an r b
  | .cond _ a b => match findBlk an r a with | some c => some c | none => findBlk an r b
  | .block _ a => findBlk an r a
  | .loop a => findBlk an r a
  | _ => none
def loopB (an : Ann) (c : Code) (id : Nat) : Code := bif isL id then (match findLoop id c with | some b => b | none => .skip) else match findBlk an (id - 1000000) c with | some b => b | none => .skip
def loopIds : Code → List Nat
  | .seq a b => loopIds a ++ loopIds b
  | .cond _ a b => loopIds a ++ loopIds b
  | .block _ a => loopIds a
  | .loop a => firstR a :: loopIds a
  | _ => []
def blkIds (an : Ann) : Code → List Nat
  | .seq a b => (bif an.meet (firstR b) then [firstR b] else []) ++ (blkIds an a ++ blkIds an b)
  | .cond _ a b => blkIds an a ++ blkIds an b
  | .block _ a => blkIds an a
  | .loop a => blkIds an a
  | _ => []
def ckOK (an : Ann) (c : Code) : Bool := nodupN (loopIds c) && nodupN (blkIds an c) && (loopIds c).all isL
def bodyOf (fn : Func) : Code := match fn.body with | some c => c | none => .skip
theorem z15 {id : Nat} : ∀ {c b : Code}, findLoop id c = some b → id ∈ loopIds c
  | .seq a c, b, h => by
    simp only [findLoop] at h; simp only [loopIds, List.mem_append]
    split at h
    · rename_i e; exact .inl (z15 e)
    · exact .inr (z15 h)
  | .cond _ a c, b, h => by
    simp only [findLoop] at h; simp only [loopIds, List.mem_append]
    split at h
    · rename_i e; exact .inl (z15 e)
    · exact .inr (z15 h)
  | .block _ a, b, h => by simp only [findLoop] at h; exact z15 (c := a) h
  | .loop a, b, h => by
    simp only [findLoop] at h; simp only [loopIds, List.mem_cons]
    cases hb : Nat.beq (firstR a) id with
    | true => exact .inl (Nat.eq_of_beq_eq_true hb).symm
    | false => rw [hb] at h; exact .inr (z15 (c := a) h)
  | .skip, b, h => by cases h
  | .region _ _ _, b, h => by cases h
  | .exit _, b, h => by cases h
  | .ret, b, h => by cases h
  | .label _, b, h => by cases h
  | .goto _, b, h => by cases h
  | .scope _, b, h => by cases h
  | .rangeFunc _ _ _ _, b, h => by cases h
  | .refuse _, b, h => by cases h
theorem z1a {an : Ann} {r : Nat} : ∀ {c b : Code}, findBlk an r c = some b → r ∈ blkIds an c
  | .seq a c, b, h => by
    simp only [findBlk] at h; simp only [blkIds, List.mem_append]
    cases hm : an.meet (firstR c) && Nat.beq (firstR c) r with
    | true =>
      simp only [Bool.and_eq_true, Nat.beq_eq] at hm
      left; rw [hm.1]; simp [hm.2]
    | false =>
      rw [hm] at h; simp only [cond_false] at h; right
      split at h
      · rename_i e; exact .inl (z1a e)
      · exact .inr (z1a h)
  | .cond _ a c, b, h => by
    simp only [findBlk] at h; simp only [blkIds, List.mem_append]
    split at h
    · rename_i e; exact .inl (z1a e)
    · exact .inr (z1a h)
  | .block _ a, b, h => z1a (c := a) h
  | .loop a, b, h => z1a (c := a) h
  | .skip, b, h => by cases h
  | .region _ _ _, b, h => by cases h
  | .exit _, b, h => by cases h
  | .ret, b, h => by cases h
  | .label _, b, h => by cases h
  | .goto _, b, h => by cases h
  | .scope _, b, h => by cases h
  | .rangeFunc _ _ _ _, b, h => by cases h
  | .refuse _, b, h => by cases h
theorem z1w : ∀ {l : List Nat}, l.Nodup → nodupN l = true
  | [], _ => rfl
  | x :: l, h => by
    rw [List.nodup_cons] at h; simp only [nodupN, Bool.and_eq_true, Bool.not_eq_true', List.any_eq_false]
    exact ⟨fun y hy e => h.1 (by rw [Nat.eq_of_beq_eq_true e]; exact hy), z1w h.2⟩
theorem z2o {an : Ann} {B : Nat → Code} : ∀ (c : Code), nodupN (loopIds c) = true → nodupN (blkIds an c) = true → (∀ id b, findLoop id c = some b → B id = b) → (∀ r b, findBlk an r c = some b → B (bid r) = b) → loopsIn an B c
  | .seq a c, hn, hm, h, g => by
    have hd := z2a hn; simp only [loopIds, List.nodup_append] at hd; have hd2 := z2a hm; simp only [blkIds, List.nodup_append] at hd2; obtain ⟨_, ⟨hda, hdc, hdd⟩, hde⟩ := hd2
    have hne : ∀ r, r ∈ blkIds an a ++ blkIds an c → (an.meet (firstR c) && Nat.beq (firstR c) r) = false := by
      intro r hr; rw [Bool.eq_false_iff]; intro hh; simp only [Bool.and_eq_true, Nat.beq_eq] at hh
      exact hde (firstR c) (by rw [hh.1]; simp) r hr hh.2
    refine ⟨z2o a (z1w hd.1) (z1w hda) (fun id b hb => h id b (by simp only [findLoop, hb])) (fun r b hb => g r b ?_), z2o c (z1w hd.2.1) (z1w hdc) (fun id b hb => h id b ?_) (fun r b hb => g r b ?_), fun hmt => g _ _ ?_⟩
    · simp only [findBlk, hne r (List.mem_append_left _ (z1a hb)), cond_false, hb]
    · simp only [findLoop]
      split
      · rename_i e; exact absurd rfl (hd.2.2 id (z15 e) id (z15 hb))
      · exact hb
    · simp only [findBlk, hne r (List.mem_append_right _ (z1a hb)), cond_false]
      split
      · rename_i e; exact absurd rfl (hdd r (z1a e) r (z1a hb))
      · exact hb
    · simp [findBlk, hmt]
  | .cond _ a c, hn, hm, h, g => by
    have hd := z2a hn; simp only [loopIds, List.nodup_append] at hd; have hd2 := z2a hm; simp only [blkIds, List.nodup_append] at hd2; obtain ⟨hda, hdc, hdd⟩ := hd2
    refine ⟨z2o a (z1w hd.1) (z1w hda) (fun id b hb => h id b (by simp only [findLoop, hb])) (fun r b hb => g r b (by simp only [findBlk, hb])), z2o c (z1w hd.2.1) (z1w hdc) (fun id b hb => h id b ?_) (fun r b hb => g r b ?_)⟩
    · simp only [findLoop]
      split
      · rename_i e; exact absurd rfl (hd.2.2 id (z15 e) id (z15 hb))
      · exact hb
    · simp only [findBlk]
      split
      · rename_i e; exact absurd rfl (hdd r (z1a e) r (z1a hb))
      · exact hb
  | .block _ a, hn, hm, h, g => z2o a hn hm h g
  | .loop a, hn, hm, h, g => by
    have hd := z2a hn; simp only [loopIds, List.nodup_cons] at hd
    refine ⟨h _ _ (by simp [findLoop]), z2o a (z1w hd.2) hm (fun id b hb => h id b ?_) g⟩
    simp only [findLoop]
    cases hb2 : Nat.beq (firstR a) id with
    | true =>
      have := Nat.eq_of_beq_eq_true hb2; subst this; exact absurd (z15 hb) hd.1
    | false => exact hb
  | .skip, _, _, _, _ => trivial
  | .region _ _ _, _, _, _, _ => trivial
  | .exit _, _, _, _, _ => trivial
  | .ret, _, _, _, _ => trivial
  | .label _, _, _, _, _ => trivial
  | .goto _, _, _, _, _ => trivial
  | .scope _, _, _, _, _ => trivial
  | .rangeFunc _ _ _ _, _, _, _, _ => trivial
  | .refuse _, _, _, _, _ => trivial
theorem zhd {an : Ann} {c : Code} (h : ckOK an c = true) : loopsIn an (loopB an c) c := by
  unfold ckOK at h; simp only [Bool.and_eq_true] at h; refine z2o c h.1.1 h.1.2 (fun id b hb => ?_) (fun r b hb => ?_)
  · have := List.all_eq_true.1 h.2 id (z15 hb)
    simp [loopB, hb, this]
  · have h2 : bid r - 1000000 = r := Nat.add_sub_cancel r 1000000
    unfold loopB; rw [zkl, h2, hb]; rfl
end Go.Proofs.Ytjkjhgfiaodgmaa.V
namespace Go.Proofs.Ytjkjhgfiaodgmaa.V
open Go
mutual
def AV.same : AV → AV → Bool
  | .int k n, .int k' n' => decide (k = k') && decide (n = n')
  | .bool b, .bool b' => b == b'
  | .str s, .str s' => decide (s = s')
  | .lst m w l, .lst m' w' l' => decide (m = m') && Nat.beq w w' && AV.sameL l l'
  | .agg l, .agg l' => AV.sameL l l'
  | .ref o i, .ref o' i' => Nat.beq o o' && Nat.beq i i'
  | .rp l i, .rp l' i' => AV.sameL l l' && Nat.beq i i'
  | .nilp, .nilp => true
  | .clo f l, .clo f' l' => Nat.beq f f' && AV.sameL l l'
  | .tup l, .tup l' => AV.sameL l l'
  | .undef, .undef => true
  | .sq q w, .sq q' w' => decide (q = q') && Nat.beq w w'
  | .ua q w i j, .ua q' w' i' j' => decide (q = q') && Nat.beq w w' && Nat.beq i i' && Nat.beq j j'
  | _, _ => false
def AV.sameL : List AV → List AV → Bool
  | [], [] => true
  | x :: l, y :: r => AV.same x y && AV.sameL l r
  | _, _ => false
end
mutual
theorem AV.same_eq : ∀ (x y : AV), AV.same x y = true → x = y
  | .int k n, y, h => by cases y <;> simp [AV.same] at h; simp [h]
  | .bool b, y, h => by cases y <;> simp [AV.same] at h; simp [h]
  | .str s, y, h => by cases y <;> simp [AV.same] at h; simp [h]
  | .lst m w l, y, h => by
    cases y <;> simp [AV.same] at h
    obtain ⟨⟨h1, h2⟩, h3⟩ := h; rw [h1, h2, AV.sameL_eq l _ h3]
  | .agg l, y, h => by
    cases y <;> simp [AV.same] at h
    rw [AV.sameL_eq l _ h]
  | .ref o i, y, h => by cases y <;> simp [AV.same] at h; simp [h]
  | .rp l i, y, h => by
    cases y <;> simp [AV.same] at h
    rw [AV.sameL_eq l _ h.1, h.2]
  | .nilp, y, h => by cases y <;> simp [AV.same] at h; rfl
  | .clo f l, y, h => by
    cases y <;> simp [AV.same] at h
    rw [h.1, AV.sameL_eq l _ h.2]
  | .tup l, y, h => by
    cases y <;> simp [AV.same] at h
    rw [AV.sameL_eq l _ h]
  | .undef, y, h => by cases y <;> simp [AV.same] at h; rfl
  | .sq q w, y, h => by cases y <;> simp [AV.same] at h; simp [h]
  | .ua q w i j, y, h => by cases y <;> simp [AV.same] at h; simp [h]
theorem AV.sameL_eq : ∀ (l r : List AV), AV.sameL l r = true → l = r
  | [], r, h => by cases r <;> simp [AV.sameL] at h; rfl
  | x :: l, r, h => by
    cases r <;> simp [AV.sameL] at h
    rw [AV.same_eq x _ h.1, AV.sameL_eq l _ h.2]
end
mutual
theorem AV.same_refl : ∀ (x : AV), AV.same x x = true
  | .int k n => by simp [AV.same]
  | .bool b => by simp [AV.same]
  | .str s => by simp [AV.same]
  | .lst m w l => by simp [AV.same, AV.sameL_refl l]
  | .agg l => by simp [AV.same, AV.sameL_refl l]
  | .ref o i => by simp [AV.same]
  | .rp l i => by simp [AV.same, AV.sameL_refl l]
  | .nilp => rfl
  | .clo f l => by simp [AV.same, AV.sameL_refl l]
  | .tup l => by simp [AV.same, AV.sameL_refl l]
  | .undef => rfl
  | .sq q w => by simp [AV.same]
  | .ua q w i j => by simp [AV.same]
theorem AV.sameL_refl : ∀ (l : List AV), AV.sameL l l = true
  | [] => rfl
  | x :: l => by simp [AV.sameL, AV.same_refl x, AV.sameL_refl l]
end
abbrev CR := List AV × List (Nat × List AV)
abbrev LR := Nat × List AV × List (List AV)
class Tok (R : Type) where
  tok : Bool → R
  untok : R → Option Bool
  untok_tok : ∀ b, untok (tok b) = some b
  same : R → R → Bool
  same_eq : ∀ x y, same x y = true → x = y
  same_refl : ∀ x, same x x = true
def sameI : List (Nat × List AV) → List (Nat × List AV) → Bool
  | [], [] => true
  | (i, x) :: l, (j, y) :: r => Nat.beq i j && AV.sameL x y && sameI l r
  | _, _ => false
theorem zhe : ∀ (l r : List (Nat × List AV)), sameI l r = true → l = r
  | [], r, h => by cases r <;> simp [sameI] at h; rfl
  | (i, x) :: l, r, h => by
    cases r <;> simp [sameI] at h
    rename_i p r; obtain ⟨⟨h1, h2⟩, h3⟩ := h; rw [h1, AV.sameL_eq _ _ h2, zhe _ _ h3]
theorem zci : ∀ (l : List (Nat × List AV)), sameI l l = true
  | [] => rfl
  | (i, x) :: l => by simp [sameI, AV.sameL_refl, zci l]
def sameLL : List (List AV) → List (List AV) → Bool
  | [], [] => true
  | x :: l, y :: r => AV.sameL x y && sameLL l r
  | _, _ => false
theorem zeq : ∀ (l r : List (List AV)), sameLL l r = true → l = r
  | [], r, h => by cases r <;> simp [sameLL] at h; rfl
  | x :: l, r, h => by
    cases r <;> simp [sameLL] at h
    rw [AV.sameL_eq _ _ h.1, zeq _ _ h.2]
theorem zam : ∀ (l : List (List AV)), sameLL l l = true
  | [] => rfl
  | x :: l => by simp [sameLL, AV.sameL_refl, zam l]
instance tokC : Tok CR where
  tok b := ([.bool b], [])
  untok r := match r with | ([.bool b], []) => some b | _ => none
  untok_tok _ := rfl
  same x y := AV.sameL x.1 y.1 && sameI x.2 y.2
  same_eq x y h := by
    simp only [Bool.and_eq_true] at h; exact Prod.ext (AV.sameL_eq _ _ h.1) (zhe _ _ h.2)
  same_refl x := by simp [AV.sameL_refl, zci]
instance tokL : Tok LR where
  tok b := (bif b then 1 else 0, [], [])
  untok r := match r with | (0, [], []) => some false | (1, [], []) => some true | _ => none
  untok_tok b := by cases b <;> rfl
  same x y := Nat.beq x.1 y.1 && AV.sameL x.2.1 y.2.1 && sameLL x.2.2 y.2.2
  same_eq x y h := by
    simp only [Bool.and_eq_true, Nat.beq_eq] at h; exact Prod.ext h.1.1 (Prod.ext (AV.sameL_eq _ _ h.1.2) (zeq _ _ h.2))
  same_refl x := by simp [AV.sameL_refl, zam]
def sameO {R : Type} [Tok R] : Option R → Option R → Bool
  | some x, some y => Tok.same x y
  | _, _ => false
theorem z31 {R : Type} [Tok R] {x y : Option R} (h : sameO x y = true) : x = y := by
  cases x <;> cases y <;> simp [sameO] at h
  rw [Tok.same_eq _ _ h]
abbrev CT := Nat → List AV → List (Nat × List AV) → Option CR
abbrev LT := Nat → List AV → List (List AV) → Option LR
def OA {R : Type} [Tok R] (c : CT) (l : LT) : Alg (Option R) where
  fail := none
  chk b x := bif b then x else none
  asm _ x := x
  amb f := bif sameO (f true) (f false) then f true else none
  call f as1 ins k := (c f as1 ins).bind fun ro => k ro.1 ro.2
  callx f as1 k := (c f as1 []).bind fun ro => match ro.2 with | [] => k ro.1 | _ => none
  both x y := bif sameO x y then x else none
  join f k := (f fun b => some (Tok.tok b)).bind fun r => (Tok.untok r).bind k
  loop id vs os k := (l id vs os).bind fun x => k x.1 x.2.1 x.2.2
def OB {R : Type} [Tok R] (c : Nat → CT) (l : Nat → LT) : Alg (Nat → Option R) where
  fail := fun _ => none
  chk b x := fun n => bif b then x n else none
  asm _ x := x
  amb f := fun n => bif sameO (f true n) (f false n) then f true n else none
  call f as1 ins k := fun n => (c n f as1 ins).bind fun ro => k ro.1 ro.2 n
  callx f as1 k := fun n => (c n f as1 []).bind fun ro => match ro.2 with | [] => k ro.1 n | _ => none
  both x y := fun n => bif sameO (x n) (y n) then x n else none
  join f k := fun n => (f (fun b _ => some (Tok.tok b)) n).bind fun r => (Tok.untok r).bind fun b => k b n
  loop id vs os k := fun n => (l n id vs os).bind fun x => k x.1 x.2.1 x.2.2 n
theorem OA_PA {R : Type} [Tok R] {c : CT} {l : LT} {M : Meaning} (hm : ∀ f as1 ins Q Q', M.call f as1 ins Q → (∀ r o, Q r o → Q' r o) → M.call f as1 ins Q') (hml : ∀ id vs os Q Q', M.loop id vs os Q → (∀ j r o, Q j r o → Q' j r o) → M.loop id vs os Q')
    (hc : ∀ f as1 ins r o, c f as1 ins = some (r, o) → M.call f as1 ins (fun r' o' => r' = r ∧ o' = o)) (hl : ∀ id vs os j r o, l id vs os = some (j, r, o) → M.loop id vs os (fun j' r' o' => j' = j ∧ r' = r ∧ o' = o)) :
    AlgRel (OA c l) (PA M) (fun (Q : R → Prop) (x : Option R) (p : Prop) => ∀ r, x = some r → Q r → p) where
  fail i y r h := by cases h
  chk i b x y h r := by cases b <;> simp [OA]; exact h r
  asm i p x y h r hr hq := fun _ => h r hr hq
  amb i f g h r hr hq := by
    simp only [OA] at hr
    cases hs : sameO (f true) (f false) with
    | false => rw [hs] at hr; cases hr
    | true =>
      rw [hs] at hr; have e := z31 hs; exact ⟨h true r hr hq, h false r (e ▸ hr) hq⟩
  call i f as1 ins k k' h r hr hq := by
    simp only [OA, Option.bind_eq_some_iff] at hr; obtain ⟨⟨r1, o1⟩, h1, h2⟩ := hr
    exact hm _ _ _ _ _ (hc _ _ _ _ _ h1) (by rintro r' o' ⟨rfl, rfl⟩; exact h _ _ r h2 hq)
  callx i f as1 k k' h r hr hq := by
    simp only [OA, Option.bind_eq_some_iff] at hr; obtain ⟨⟨r1, o1⟩, h1, h2⟩ := hr
    cases o1 with
    | nil => exact ⟨r1, hm _ _ _ _ _ (hc _ _ _ _ _ h1) (by rintro r' o' ⟨rfl, rfl⟩; exact ⟨rfl, rfl⟩), h _ r h2 hq⟩
    | cons p l => cases h2
  both i x y x' y' h h' r hr hq := by
    simp only [OA] at hr
    cases hs : sameO x y with
    | false => rw [hs] at hr; cases hr
    | true =>
      rw [hs] at hr; have e := z31 hs; exact ⟨h r hr hq, h' r (e ▸ hr) hq⟩
  join i f f' k k' h h' r hr hq := by
    simp only [OA, Option.bind_eq_some_iff] at hr; obtain ⟨r1, h1, b, h2, h3⟩ := hr; refine ⟨b, ?_, h' b r h3 hq⟩; refine h (fun r => r = r1) _ _ ?_ r1 h1 rfl; intro b' r2 e2 e3
    have e4 : Tok.tok b' = r1 := by simpa [e3] using e2
    rw [← e4, Tok.untok_tok] at h2; exact Option.some.inj h2
  loop i id vs os k k' h r hr hq := by
    simp only [OA, Option.bind_eq_some_iff] at hr; obtain ⟨⟨j, r1, o1⟩, h1, h2⟩ := hr
    exact hml _ _ _ _ _ (hl _ _ _ _ _ _ h1) (by rintro j' r' o' ⟨rfl, rfl, rfl⟩; exact h _ _ _ r h2 hq)
theorem zkn {R : Type} [Tok R] {c c' : CT} {l l' : LT} (hc : ∀ f as1 ins r, c f as1 ins = some r → c' f as1 ins = some r) (hl : ∀ id vs os r, l id vs os = some r → l' id vs os = some r) :
    AlgRel (OA c l) (OA c' l') (fun (_ : Unit) (x y : Option R) => ∀ r, x = some r → y = some r) where
  fail i y r h := by cases h
  chk i b x y h r := by cases b <;> simp [OA]; exact h r
  asm i p x y h r hr := h r hr
  amb i f g h r hr := by
    simp only [OA] at hr ⊢
    cases hs : sameO (f true) (f false) with
    | false => rw [hs] at hr; cases hr
    | true =>
      rw [hs] at hr; have e := z31 hs; rw [h true r hr, h false r (e ▸ hr)]; simp [sameO, Tok.same_refl]
  call i f as1 ins k k' h r hr := by
    simp only [OA, Option.bind_eq_some_iff] at hr ⊢; obtain ⟨r1, h1, h2⟩ := hr; exact ⟨r1, hc _ _ _ _ h1, h _ _ r h2⟩
  callx i f as1 k k' h r hr := by
    simp only [OA, Option.bind_eq_some_iff] at hr ⊢; obtain ⟨⟨r1, o1⟩, h1, h2⟩ := hr; refine ⟨_, hc _ _ _ _ h1, ?_⟩
    cases o1 with
    | nil => exact h _ r h2
    | cons p l => cases h2
  both i x y x' y' h h' r hr := by
    simp only [OA] at hr ⊢
    cases hs : sameO x y with
    | false => rw [hs] at hr; cases hr
    | true =>
      rw [hs] at hr; have e := z31 hs; rw [h r hr, h' r (e ▸ hr)]; simp [sameO, Tok.same_refl]
  join i f f' k k' h h' r hr := by
    simp only [OA, Option.bind_eq_some_iff] at hr ⊢; obtain ⟨r1, h1, b, h2, h3⟩ := hr; exact ⟨r1, h () _ _ (fun b r h => h) r1 h1, b, h2, h' b r h3⟩
  loop i id vs os k k' h r hr := by
    simp only [OA, Option.bind_eq_some_iff] at hr ⊢; obtain ⟨r1, h1, h2⟩ := hr; exact ⟨r1, hl _ _ _ _ h1, h _ _ _ r h2⟩
theorem OB_at {R : Type} [Tok R] {c : Nat → CT} {l : Nat → LT} (n : Nat) :
    AlgRel (OB c l) (OA (c n) (l n)) (fun (_ : Unit) (x : Nat → Option R) (y : Option R) => ∀ r, x n = some r → y = some r) where
  fail i y r h := by cases h
  chk i b x y h r := by cases b <;> simp [OA, OB]; exact h r
  asm i p x y h r hr := h r hr
  amb i f g h r hr := by
    simp only [OA, OB] at hr ⊢
    cases hs : sameO (f true n) (f false n) with
    | false => rw [hs] at hr; cases hr
    | true =>
      rw [hs] at hr; have e := z31 hs; rw [h true r hr, h false r (e ▸ hr)]; simp [sameO, Tok.same_refl]
  call i f as1 ins k k' h r hr := by
    simp only [OA, OB, Option.bind_eq_some_iff] at hr ⊢; obtain ⟨r1, h1, h2⟩ := hr; exact ⟨r1, h1, h _ _ r h2⟩
  callx i f as1 k k' h r hr := by
    simp only [OA, OB, Option.bind_eq_some_iff] at hr ⊢; obtain ⟨⟨r1, o1⟩, h1, h2⟩ := hr; refine ⟨_, h1, ?_⟩
    cases o1 with
    | nil => exact h _ r h2
    | cons p l => cases h2
  both i x y x' y' h h' r hr := by
    simp only [OA, OB] at hr ⊢
    cases hs : sameO (x n) (y n) with
    | false => rw [hs] at hr; cases hr
    | true =>
      rw [hs] at hr; have e := z31 hs; rw [h r hr, h' r (e ▸ hr)]; simp [sameO, Tok.same_refl]
  join i f f' k k' h h' r hr := by
    simp only [OA, OB, Option.bind_eq_some_iff] at hr ⊢; obtain ⟨r1, h1, b, h2, h3⟩ := hr; exact ⟨r1, h () _ _ (fun b r h => h) r1 h1, b, h2, h' b r h3⟩
  loop i id vs os k k' h r hr := by
    simp only [OA, OB, Option.bind_eq_some_iff] at hr ⊢; obtain ⟨r1, h1, h2⟩ := hr; exact ⟨r1, h1, h _ _ _ r h2⟩
theorem zo0 {R : Type} [Tok R] {c : CT} {l : LT} {cn : Nat → CT} {ln : Nat → LT} (hc : ∀ f as1 ins r, c f as1 ins = some r → ∃ n0, ∀ n, n0 ≤ n → cn n f as1 ins = some r) (hl : ∀ id vs os r, l id vs os = some r → ∃ n0, ∀ n, n0 ≤ n → ln n id vs os = some r) :
    AlgRel (OA c l) (OB cn ln) (fun (_ : Unit) (x : Option R) (y : Nat → Option R) => ∀ r, x = some r → ∃ n0, ∀ n, n0 ≤ n → y n = some r) where
  fail i y r h := by cases h
  chk i b x y h r := by cases b <;> simp [OA, OB]; exact h r
  asm i p x y h r hr := h r hr
  amb i f g h r hr := by
    simp only [OA, OB] at hr ⊢
    cases hs : sameO (f true) (f false) with
    | false => rw [hs] at hr; cases hr
    | true =>
      rw [hs] at hr; have e := z31 hs; obtain ⟨n1, h1⟩ := h true r hr; obtain ⟨n2, h2⟩ := h false r (e ▸ hr); refine ⟨max n1 n2, fun n hn => ?_⟩
      rw [h1 n (by omega), h2 n (by omega)]
      simp [sameO, Tok.same_refl]
  call i f as1 ins k k' h r hr := by
    simp only [OA, OB, Option.bind_eq_some_iff] at hr ⊢; obtain ⟨r1, h1, h2⟩ := hr; obtain ⟨n1, h1⟩ := hc _ _ _ _ h1; obtain ⟨n2, h2⟩ := h _ _ r h2
    exact ⟨max n1 n2, fun n hn => ⟨r1, h1 n (by omega), h2 n (by omega)⟩⟩
  callx i f as1 k k' h r hr := by
    simp only [OA, OB, Option.bind_eq_some_iff] at hr ⊢; obtain ⟨⟨r1, o1⟩, h1, h2⟩ := hr
    cases o1 with
    | nil =>
      obtain ⟨n1, h1⟩ := hc _ _ _ _ h1; obtain ⟨n2, h2⟩ := h _ r h2
      exact ⟨max n1 n2, fun n hn => ⟨_, h1 n (by omega), h2 n (by omega)⟩⟩
    | cons p l => cases h2
  both i x y x' y' h h' r hr := by
    simp only [OA, OB] at hr ⊢
    cases hs : sameO x y with
    | false => rw [hs] at hr; cases hr
    | true =>
      rw [hs] at hr; have e := z31 hs; obtain ⟨n1, h1⟩ := h r hr; obtain ⟨n2, h2⟩ := h' r (e ▸ hr); refine ⟨max n1 n2, fun n hn => ?_⟩
      rw [h1 n (by omega), h2 n (by omega)]
      simp [sameO, Tok.same_refl]
  join i f f' k k' h h' r hr := by
    simp only [OA, OB, Option.bind_eq_some_iff] at hr ⊢; obtain ⟨r1, h1, b, h2, h3⟩ := hr; obtain ⟨n1, h1⟩ := h () _ (fun b _ => some (Tok.tok b)) (fun b r h => ⟨0, fun _ _ => h⟩) r1 h1; obtain ⟨n2, h3⟩ := h' b r h3
    exact ⟨max n1 n2, fun n hn => ⟨r1, h1 n (by omega), b, h2, h3 n (by omega)⟩⟩
  loop i id vs os k k' h r hr := by
    simp only [OA, OB, Option.bind_eq_some_iff] at hr ⊢; obtain ⟨r1, h1, h2⟩ := hr; obtain ⟨n1, h1⟩ := hl _ _ _ _ h1; obtain ⟨n2, h2⟩ := h _ _ _ r h2
    exact ⟨max n1 n2, fun n hn => ⟨r1, h1 n (by omega), h2 n (by omega)⟩⟩
structure Env where
  P : Program
  T : Tab
  an : Nat → Nat → Ann
  key : Nat → List AV → Nat
  X : CT := fun _ _ _ => none
def oshOf (T : Tab) : Nat → List AV → List Nat → List (Nat × List Sh)
  | j, v :: vs, t :: ts => match v, (T.ty t).k with
    | .ref _ _, .ptr e => (j, T.osh e) :: oshOf T (j + 1) vs ts
    | _, _ => oshOf T (j + 1) vs ts
  | _, _, _ => []
abbrev LTs := Nat → Nat → LT
def withB {β : Type} (P : Program) (f : Nat) (k : Func → Code → Option β) : Option β := match P.funcs[f]? with | some fn => (match fn.body with | some body => k fn body | none => none) | none => none
def stepC0 (E : Env) (c : CT) (l : LTs) : CT := fun f args ins => withB E.P f fun fn body =>
  bif codeOK fn.ntmps body && ckOK (E.an f (E.key f args)) body && Nat.ble args.length fn.ntmps then
    runF (OA c (l f (E.key f args))) E.T (E.an f (E.key f args)) fn body (E.T.res f) (oshOf E.T 0 args fn.params.toList) args ins fun r o => some (r, o)
  else none
def stepC (E : Env) (c : CT) (l : LTs) : CT := fun f args ins => match E.X f args ins with | some r => some r | none => stepC0 E c l f args ins
def stepL (E : Env) (c : CT) (l : LTs) : LTs := fun f key id vs os => withB E.P f fun fn body =>
  bif codeOK fn.ntmps (loopB (E.an f key) body id) && ckOK (E.an f key) body then
    roundV (OA c (l f key)) id ((E.an f key).loop id) ((E.an f key).out id) (fun env objs cl k => run (OA c (l f key)) E.T (E.an f key) (loopB (E.an f key) body id) env objs cl k) vs os (fun vs os => l f key id vs os) (fun j vs os => some (j, vs, os))
  else none
def G (E : Env) : Nat → CT × LTs
  | 0 => (fun _ _ _ => none, fun _ _ _ _ _ => none)
  | n + 1 => (stepC E (G E n).1 (G E n).2, stepL E (G E n).1 (G E n).2)
theorem z37 {β : Type} {P : Program} {f : Nat} {k : Func → Code → Option β} {r : β} (h : withB P f k = some r) : ∃ fn body, P.funcs[f]? = some fn ∧ fn.body = some body ∧ k fn body = some r := by
  unfold withB at h
  split at h
  · split at h
    · exact ⟨_, _, ‹_›, ‹_›, h⟩
    · cases h
  · cases h
theorem z3x {β : Type} {b : Bool} {x : Option β} {r : β} (h : (bif b then x else none) = some r) : b = true ∧ x = some r := by
  cases b; cases h; exact ⟨rfl, h⟩
theorem z2b {an : Ann} {B : Nat → Code} {id : Nat} : ∀ {c b : Code}, loopsIn an B c → findLoop id c = some b → loopsIn an B b
  | .seq a c, b, hl, h => by
    simp only [findLoop] at h
    split at h
    · rename_i e; cases h; exact z2b hl.1 e
    · exact z2b hl.2.1 h
  | .cond _ a c, b, hl, h => by
    simp only [findLoop] at h
    split at h
    · rename_i e; cases h; exact z2b hl.1 e
    · exact z2b hl.2 h
  | .block _ a, b, hl, h => by simp only [findLoop] at h; exact z2b (c := a) hl h
  | .loop a, b, hl, h => by
    simp only [findLoop] at h
    cases hb : Nat.beq (firstR a) id with
    | true => rw [hb] at h; cases h; exact hl.2
    | false => rw [hb] at h; exact z2b (c := a) hl.2 h
  | .skip, b, _, h => by cases h
  | .region _ _ _, b, _, h => by cases h
  | .exit _, b, _, h => by cases h
  | .ret, b, _, h => by cases h
  | .label _, b, _, h => by cases h
  | .goto _, b, _, h => by cases h
  | .scope _, b, _, h => by cases h
  | .rangeFunc _ _ _ _, b, _, h => by cases h
  | .refuse _, b, _, h => by cases h
theorem z2p {an : Ann} {B : Nat → Code} {r : Nat} : ∀ {c b : Code}, loopsIn an B c → findBlk an r c = some b → loopsIn an B b
  | .seq a c, b, hl, h => by
    simp only [findBlk] at h
    cases hm : an.meet (firstR c) && Nat.beq (firstR c) r with
    | true => rw [hm] at h; cases h; exact hl.2.1
    | false =>
      rw [hm] at h; simp only [cond_false] at h
      split at h
      · rename_i e; cases h; exact z2p hl.1 e
      · exact z2p hl.2.1 h
  | .cond _ a c, b, hl, h => by
    simp only [findBlk] at h
    split at h
    · rename_i e; cases h; exact z2p hl.1 e
    · exact z2p hl.2 h
  | .block _ a, b, hl, h => z2p (c := a) hl h
  | .loop a, b, hl, h => z2p (c := a) hl.2 h
  | .skip, b, _, h => by cases h
  | .region _ _ _, b, _, h => by cases h
  | .exit _, b, _, h => by cases h
  | .ret, b, _, h => by cases h
  | .label _, b, _, h => by cases h
  | .goto _, b, _, h => by cases h
  | .scope _, b, _, h => by cases h
  | .rangeFunc _ _ _ _, b, _, h => by cases h
  | .refuse _, b, _, h => by cases h
theorem zmj {an : Ann} {c : Code} {id : Nat} (h : ckOK an c = true) : loopsIn an (loopB an c) (loopB an c id) := by
  have hl := zhd h
  have e : loopB an c id = bif isL id then (match findLoop id c with | some b => b | none => .skip) else match findBlk an (id - 1000000) c with | some b => b | none => .skip := rfl
  rw [e]
  cases isL id with
  | true =>
    dsimp only [cond_true]
    split
    · rename_i b e; exact z2b hl e
    · trivial
  | false =>
    dsimp only [cond_false]
    split
    · rename_i b e; exact z2p hl e
    · trivial
structure EnvOK' (E : Env) : Prop where
  T : TabOK E.P E.T
  F : FnOK E.P E.T
  m : E.P.follows .mixedOrders = true
  X : ∀ f as1 ins r o, E.X f as1 ins = some (r, o) → Sem E.P f as1 ins (fun r' o' => r' = r ∧ o' = o) := by intro f as1 ins r o h; cases h
theorem zko {E : Env} (hE : EnvOK' E) : ∀ n,
    (∀ f args ins r o, (G E n).1 f args ins = some (r, o) → Sem E.P f args ins (fun r' o' => r' = r ∧ o' = o)) ∧
    (∀ f key id vs os j r o, (G E n).2 f key id vs os = some (j, r, o) → ∀ fn body, E.P.funcs[f]? = some fn → fn.body = some body → LSem E.P fn.ntmps (E.an f key) (loopB (E.an f key) body) id vs os (fun j' r' o' => j' = j ∧ r' = r ∧ o' = o))
  | 0 => ⟨fun _ _ _ _ _ h => (nomatch h), fun _ _ _ _ _ _ _ _ h => (nomatch h)⟩
  | n + 1 => by
    obtain ⟨ih1, ih2⟩ := zko hE n; refine ⟨fun f args ins r o h => ?_, fun f key id vs os j r o h fn body hf hb => ?_⟩
    · have h : stepC E _ _ f args ins = _ := h
      unfold stepC at h
      split at h
      · rename_i r' e
        cases h
        exact hE.X f args ins r o e
      obtain ⟨fn, body, hf, hb, h⟩ := z37 h; obtain ⟨h0, h⟩ := z3x h; simp only [Bool.and_eq_true] at h0; refine zmh (an := E.an f (E.key f args)) (rs := E.T.res f) (osh := oshOf E.T 0 args fn.params.toList) hE.T hE.F hE.m hf hb h0.1.1 (zhd h0.1.2) (Nat.le_of_ble_eq_true h0.2) ?_; refine zc1 (OA_PA (M := SM E.P (LSem E.P fn.ntmps (E.an f (E.key f args)) (loopB (E.an f (E.key f args)) body))) (fun _ _ _ _ _ h hq => Sem.mono h hq) (fun _ _ _ _ _ h hq => LSem.mono h hq) ih1 (fun id vs os j r o h => ih2 f _ id vs os j r o h fn body hf hb)) (i := fun x => x = (r, o)) ?_ (r, o) h rfl
      intro a b r1 e1 e2
      cases e1
      cases e2
      exact ⟨rfl, rfl⟩
    · obtain ⟨fn', body', hf', hb', h⟩ := z37 (show stepL E _ _ f key id vs os = _ from h)
      rw [hf] at hf'; cases hf'
      rw [hb] at hb'; cases hb'
      obtain ⟨h0, h⟩ := z3x h; simp only [Bool.and_eq_true] at h0; refine zme hE.T hE.F hE.m h0.1 (zmj h0.2) ?_; have H := OA_PA (R := LR) (c := (G E n).1) (l := (G E n).2 f key) (M := SM E.P (LSem E.P fn.ntmps (E.an f key) (loopB (E.an f key) body))) (fun _ _ _ _ _ h hq => Sem.mono h hq) (fun _ _ _ _ _ h hq => LSem.mono h hq) ih1 (fun id vs os j r o h => ih2 f _ id vs os j r o h fn body hf hb); refine z6z H (i := fun x => x = (j, r, o)) (fun _ _ _ _ _ hk => r_run H hk) ?_ ?_ (j, r, o) h rfl
      · rintro a b ⟨j1, r1, o1⟩ e1 e2
        cases e2
        exact ih2 f key id a b j r o e1 fn body hf hb
      · intro a b c r1 e1 e2
        cases e1
        cases e2
        exact ⟨rfl, rfl, rfl⟩
theorem zo1 {E : Env} {c c' : CT} {l l' : LTs} (hc : ∀ f as1 ins r, c f as1 ins = some r → c' f as1 ins = some r) (hl : ∀ f key id vs os r, l f key id vs os = some r → l' f key id vs os = some r) :
    (∀ f as1 ins r, stepC E c l f as1 ins = some r → stepC E c' l' f as1 ins = some r) ∧ (∀ f key id vs os r, stepL E c l f key id vs os = some r → stepL E c' l' f key id vs os = some r) := by
  refine ⟨fun f args ins r h => ?_, fun f key id vs os r h => ?_⟩
  · unfold stepC at h ⊢
    split at h
    · exact h
    obtain ⟨fn, body, hf, hb, h⟩ := z37 h; obtain ⟨h0, h⟩ := z3x h; unfold stepC0 withB
    rw [hf]; dsimp only; rw [hb]; dsimp only; rw [h0]; exact zc1 (zkn hc (hl f _)) (i := ()) (fun a b r h => h) r h
  · obtain ⟨fn, body, hf, hb, h⟩ := z37 h
    obtain ⟨h0, h⟩ := z3x h; unfold stepL withB
    rw [hf]; dsimp only; rw [hb]; dsimp only; rw [h0]; have H := zkn (R := LR) hc (hl f key); exact z6z H (i := ()) (body := fun env objs cl k => run (OA c (l f key)) E.T (E.an f key) (loopB (E.an f key) body id) env objs cl k) (body' := fun env objs cl k => run (OA c' (l' f key)) E.T (E.an f key) (loopB (E.an f key) body id) env objs cl k) (fun _ _ _ _ _ hk => r_run H (i := ()) hk) (fun a b r h => hl _ _ _ _ _ _ h) (fun _ _ _ r h => h) r h
theorem zcj {E : Env} : ∀ n, (∀ f as1 ins r, (G E n).1 f as1 ins = some r → (G E (n + 1)).1 f as1 ins = some r) ∧ (∀ f key id vs os r, (G E n).2 f key id vs os = some r → (G E (n + 1)).2 f key id vs os = some r)
  | 0 => ⟨fun _ _ _ _ h => (nomatch h), fun _ _ _ _ _ _ h => (nomatch h)⟩
  | n + 1 => zo1 (zcj n).1 (zcj n).2
theorem z6v {E : Env} {n m : Nat} (h : n ≤ m) : (∀ f as1 ins r, (G E n).1 f as1 ins = some r → (G E m).1 f as1 ins = some r) ∧ (∀ f key id vs os r, (G E n).2 f key id vs os = some r → (G E m).2 f key id vs os = some r) := by
  induction h with
  | refl => exact ⟨fun _ _ _ _ h => h, fun _ _ _ _ _ _ h => h⟩
  | step _ ih => exact ⟨fun f as1 ins r h => (zcj _).1 _ _ _ _ (ih.1 _ _ _ _ h), fun f key id vs os r h => (zcj _).2 _ _ _ _ _ _ (ih.2 _ _ _ _ _ _ h)⟩
noncomputable def tbl (E : Env) : CT := fun f as1 ins => open Classical in if h : ∃ r n, (G E n).1 f as1 ins = some r then some h.choose else none
noncomputable def ltbl (E : Env) : LTs := fun f key id vs os => open Classical in if h : ∃ r n, (G E n).2 f key id vs os = some r then some h.choose else none
theorem z4j {E : Env} {f : Nat} {as1 : List AV} {ins : List (Nat × List AV)} {r : CR} : tbl E f as1 ins = some r ↔ ∃ n, (G E n).1 f as1 ins = some r := by
  unfold tbl; constructor
  · intro h
    split at h
    · rename_i he
      cases h
      exact he.choose_spec
    · cases h
  · rintro ⟨n, h⟩
    have he : ∃ r n, (G E n).1 f as1 ins = some r := ⟨r, n, h⟩; rw [dif_pos he]; obtain ⟨m, hm⟩ := he.choose_spec; have h1 := (z6v (Nat.le_max_left n m)).1 _ _ _ _ h; have h2 := (z6v (Nat.le_max_right n m)).1 _ _ _ _ hm; rw [h1] at h2; exact h2.symm
theorem zhf {E : Env} {f key id : Nat} {vs : List AV} {os : List (List AV)} {r : LR} : ltbl E f key id vs os = some r ↔ ∃ n, (G E n).2 f key id vs os = some r := by
  unfold ltbl; constructor
  · intro h
    split at h
    · rename_i he
      cases h
      exact he.choose_spec
    · cases h
  · rintro ⟨n, h⟩
    have he : ∃ r n, (G E n).2 f key id vs os = some r := ⟨r, n, h⟩; rw [dif_pos he]; obtain ⟨m, hm⟩ := he.choose_spec; have h1 := (z6v (Nat.le_max_left n m)).2 _ _ _ _ _ _ h; have h2 := (z6v (Nat.le_max_right n m)).2 _ _ _ _ _ _ hm; rw [h1] at h2; exact h2.symm
theorem zkp {E : Env} : ∀ f as1 ins r, tbl E f as1 ins = some r → ∃ n0, ∀ n, n0 ≤ n → (G E n).1 f as1 ins = some r := fun f as1 ins r h => by
  obtain ⟨n, h⟩ := z4j.1 h; exact ⟨n, fun m hm => (z6v hm).1 _ _ _ _ h⟩
theorem zb9 {E : Env} : ∀ f key id vs os r, ltbl E f key id vs os = some r → ∃ n0, ∀ n, n0 ≤ n → (G E n).2 f key id vs os = some r := fun f key id vs os r h => by
  obtain ⟨n, h⟩ := zhf.1 h; exact ⟨n, fun m hm => (z6v hm).2 _ _ _ _ _ _ h⟩
theorem zhg {E : Env} {f : Nat} {args : List AV} {ins : List (Nat × List AV)} {r : CR} (h : stepC E (tbl E) (ltbl E) f args ins = some r) : tbl E f args ins = some r := by
  refine z4j.2 ?_; unfold stepC at h
  split at h
  · rename_i r' e
    refine ⟨1, ?_⟩; show stepC E _ _ f args ins = some r; unfold stepC; rw [e]; exact h
  rename_i eX; obtain ⟨fn, body, hf, hb, h⟩ := z37 h; obtain ⟨h0, h⟩ := z3x h; obtain ⟨n0, h⟩ := zc1 (zo0 (cn := fun n => (G E n).1) (ln := fun n => (G E n).2 f (E.key f args)) zkp (fun id vs os r h => zb9 _ _ _ _ _ _ h)) (i := ()) (k' := fun r o _ => some (r, o)) (fun a b r h => ⟨0, fun _ _ => h⟩) r h; refine ⟨n0 + 1, ?_⟩; show stepC E (G E n0).1 (G E n0).2 f args ins = some r; unfold stepC; rw [eX]
  unfold stepC0 withB
  rw [hf]; dsimp only; rw [hb]; dsimp only; rw [h0]; exact zc1 (OB_at (c := fun n => (G E n).1) (l := fun n => (G E n).2 f (E.key f args)) n0) (i := ()) (fun a b r h => h) r (h n0 (Nat.le_refl _))
theorem tbl_X {E : Env} {f : Nat} {args : List AV} {ins : List (Nat × List AV)} {r : CR} (h : E.X f args ins = some r) : tbl E f args ins = some r :=
  zhg (by unfold stepC; rw [h])
theorem zo2 {E : Env} {f key id : Nat} {vs : List AV} {os : List (List AV)} {r : LR} (h : stepL E (tbl E) (ltbl E) f key id vs os = some r) : ltbl E f key id vs os = some r := by
  refine zhf.2 ?_; obtain ⟨fn, body, hf, hb, h⟩ := z37 h; obtain ⟨h0, h⟩ := z3x h; have H := zo0 (R := LR) (cn := fun n => (G E n).1) (ln := fun n => (G E n).2 f key) zkp (fun id vs os r h => zb9 f key _ _ _ _ h); obtain ⟨n0, h⟩ := z6z H (i := ()) (body' := fun env objs cl k => run (OB (fun n => (G E n).1) (fun n => (G E n).2 f key)) E.T (E.an f key) (loopB (E.an f key) body id) env objs cl k) (next' := fun vs os n => (G E n).2 f key id vs os) (k' := fun j vs os _ => some (j, vs, os)) (fun _ _ _ _ _ hk => r_run H (i := ()) hk) (fun a b r h => zb9 _ _ _ _ _ _ h) (fun a b c r h => ⟨0, fun _ _ => h⟩) r h
  refine ⟨n0 + 1, ?_⟩; show stepL E (G E n0).1 (G E n0).2 f key id vs os = some r; unfold stepL withB
  rw [hf]; dsimp only; rw [hb]; dsimp only; rw [h0]; have H2 := OB_at (R := LR) (c := fun n => (G E n).1) (l := fun n => (G E n).2 f key) n0; exact z6z H2 (i := ()) (body := fun env objs cl k => run (OB (fun n => (G E n).1) (fun n => (G E n).2 f key)) E.T (E.an f key) (loopB (E.an f key) body id) env objs cl k) (body' := fun env objs cl k => run (OA (G E n0).1 ((G E n0).2 f key)) E.T (E.an f key) (loopB (E.an f key) body id) env objs cl k) (fun _ _ _ _ _ hk => r_run H2 (i := ()) hk) (fun a b r h => h) (fun _ _ _ r h => h) r (h n0 (Nat.le_refl _))
theorem zo3 {E : Env} (hE : EnvOK' E) {f : Nat} {args : List AV} {ins : List (Nat × List AV)} {r : List AV} {o : List (Nat × List AV)} (h : tbl E f args ins = some (r, o)) : Sem E.P f args ins (fun r' o' => r' = r ∧ o' = o) := by
  obtain ⟨n, h⟩ := z4j.1 h; exact (zko hE n).1 _ _ _ _ _ h
end Go.Proofs.Ytjkjhgfiaodgmaa.V
namespace Go.Proofs.Ytjkjhgfiaodgmaa.V
open Go Go.ChangeShapes Go.WideShapes Go.ChangeAt Go.RowKit
variable {H : Type} {enc : TypeId × Value → H} {P : Program} {T : Tab}
def Each {α β : Type} (R : α → β → Prop) : List α → List β → Prop
  | [], [] => True
  | a :: l, b :: r => R a b ∧ Each R l r
  | _, _ => False
def Each3 {α β γ : Type} (R : α → β → γ → Prop) : List α → List β → List γ → Prop
  | [], [], [] => True
  | a :: l, b :: r, c :: s => R a b c ∧ Each3 R l r s
  | _, _, _ => False
def ElemOf (td : TD) (x : AV) (ys : List AV) : Prop := if td.isAgg then x = .agg ys else ys = [x]
def Fit (T : Tab) : Nat → Nat → DataW H → List AV → Prop
  | 0, _, _, _ => False
  | n + 1, t, d, xs =>
    match (T.ty t).k with
    | .bool => ∃ b, d = .lit (.bool b) ∧ xs = [.bool b]
    | .int k => ∃ z, (Lit.int k z).wf = true ∧ d = .lit (.int k z) ∧ xs = [.int k z]
    | .str => ∃ s : List UInt8, d = .lit (.string s) ∧ xs = [.str s]
    | .slice e => ∃ (ds sp : List (DataW H)) (l : List AV), (d = .slice ds sp ∨ (d = .nil ∧ ds = [])) ∧ xs = [.lst .ro (T.ty e).size l] ∧ Each (fun d x => ∃ ys, Fit T n e d ys ∧ ElemOf (T.ty e) x ys) ds l
    | .struct fs => ∃ (ds : List (DataW H)) (yss : List (List AV)), d = .agg ds ∧ xs = yss.flatten ∧ Each3 (fun f d ys => Fit T n f.2 d ys) fs ds yss
    | _ => False
def offsOK (T : Tab) : Nat → List (Nat × Nat) → Nat → Bool
  | o, [], n => Nat.beq o n
  | o, f :: fs, n => Nat.beq f.1 o && offsOK T (o + (T.ty f.2).size) fs n
def fitTy (T : Tab) : Nat → Nat → Bool
  | 0, _ => false
  | n + 1, t => (T.ty t).known &&
    match (T.ty t).k with
    | .bool | .int _ | .str => Nat.beq (T.ty t).size 1
    | .slice e => Nat.beq (T.ty t).size 1 && Nat.blt 0 (T.ty e).size && fitTy T n e
    | .struct fs => offsOK T 0 fs (T.ty t).size && fs.all (fun f => fitTy T n f.2)
    | _ => false
theorem TabOK.cellsOf (hT : TabOK P T) {t : Nat} (hk : (T.ty t).known = true) : P.cellsOf t = (T.ty t).size := by
  obtain ⟨i, h1, h2, _⟩ := (hT t).info hk; simp [Program.cellsOf, h1, h2]
def snapE (W : World) : E3 := ⟨fun b i => W.cell? ⟨b, i, none⟩, fun _ => none, fun _ => none⟩
theorem RepL.append {E : E3} : ∀ {l r : List AV} {vs us : List Value}, RepL E l vs → RepL E r us → RepL E (l ++ r) (vs ++ us)
  | [], r, vs, us, h, h' => by simp only [RepL] at h; subst h; simpa using h'
  | x :: l, r, vs, us, h, h' => by
    simp only [RepL] at h; obtain ⟨v, r', rfl, h1, h2, h3, h4⟩ := h; exact ⟨v, r' ++ us, rfl, h1, h2, h3, RepL.append h4 h'⟩
def fitsAt (E : E3) (T : Tab) (W : World) (n t : Nat) (d : DataW H) (cs : List Value) : Prop := ∃ xs, RepL E xs cs ∧ xs.all AV.flat1 = true ∧ Fit T n t d xs
theorem Each.length {α β : Type} {R : α → β → Prop} : ∀ {l : List α} {r : List β}, Each R l r → l.length = r.length
  | [], [], _ => rfl
  | _ :: _, _ :: _, h => by simp [Each.length h.2]
  | [], _ :: _, h => h.elim
  | _ :: _, [], h => h.elim
theorem zqq {E : E3} {td : TD} {ys : List AV} {cs : List Value} (hr : RepL E ys cs) (hf : ys.all AV.flat1 = true) (h1 : td.isAgg = false → cs.length = 1) : ∃ x u, ElemOf td x ys ∧ x.flat = true ∧ Rep E x u ∧ u.cells.toList = cs := by
  unfold ElemOf
  cases hagg : td.isAgg with
  | true =>
    refine ⟨.agg ys, .agg cs.toArray, by simp, by simpa [AV.flat] using hf, ?_, by simp [Value.cells]⟩
    simp only [Rep]; exact ⟨cs, rfl, hr⟩
  | false =>
    have hl := h1 hagg; have hl2 := hr.length
    match cs, hl, ys, hl2 with
    | [c], _, [y], _ =>
      simp only [RepL] at hr; obtain ⟨v, r, e, h1, h2, h3, h4⟩ := hr
      cases e
      refine ⟨y, c, by simp, ?_, h3, ?_⟩
      · simp only [List.all_cons, List.all_nil, Bool.and_true] at hf
        cases y <;> first | exact hf | (simp [AV.flat1] at hf)
      · cases c <;> first | rfl | (simp [Value.oneCell'] at h2)
theorem z5e {E : E3} {x : AV} {v : Value} (h1 : x.one = true) (h2 : v.oneCell' = true) (h3 : Rep E x v) : RepL E [x] [v] := by
  simp only [RepL]; exact ⟨v, [], rfl, h1, h2, h3, rfl⟩
theorem zmk (hT : TabOK P T) {n t : Nat} (hk : fitTy T n t = true) (ha : (T.ty t).isAgg = false) : P.cellsOf t = 1 := by
  cases n with
  | zero => cases hk
  | succ n =>
    simp only [fitTy, Bool.and_eq_true] at hk; rw [hT.cellsOf hk.1]; have h := hk.2; unfold TD.isAgg at ha
    cases hh : (T.ty t).k <;> rw [hh] at h ha <;> simp at h ha
    all_goals first | exact h | exact h.1 | exact h.1.1
theorem zkq {α β : Type} {R : α → β → Prop} : ∀ (l : List α), (∀ (i : Nat) (a : α), l[i]? = some a → ∃ b, R a b) → ∃ r, Each R l r
  | [], _ => ⟨[], trivial⟩
  | a :: l, h => by
    obtain ⟨b, hb⟩ := h 0 a rfl; obtain ⟨r, hr⟩ := zkq l fun i a ha => h (i + 1) a ha; exact ⟨b :: r, hb, hr⟩
theorem Each.get {α β : Type} {R : α → β → Prop} : ∀ {l : List α} {r : List β}, Each R l r → ∀ (i : Nat) (b : β), r[i]? = some b → ∃ a, l[i]? = some a ∧ R a b
  | [], [], _, i, b, h => by simp at h
  | a :: l, b :: r, h, i, x, hx => by
    cases i with
    | zero => simp at hx; subst hx; exact ⟨a, rfl, h.1⟩
    | succ i => exact Each.get h.2 i x (by simpa using hx)
  | [], _ :: _, h, _, _, _ => h.elim
  | _ :: _, [], h, _, _, _ => h.elim
theorem Each.mk {α β : Type} {R : α → β → Prop} : ∀ {l : List α} {r : List β}, l.length = r.length → (∀ (i : Nat) (a : α) (b : β), l[i]? = some a → r[i]? = some b → R a b) → Each R l r
  | [], [], _, _ => trivial
  | a :: l, b :: r, hl, h => ⟨h 0 a b rfl rfl, Each.mk (by simpa using hl) fun i a b h1 h2 => h (i + 1) a b h1 h2⟩
  | [], _ :: _, h, _ => by cases h
  | _ :: _, [], h, _ => by cases h
theorem zan {n t : Nat} (h : fitTy T n t = true) : (T.ty t).known = true := by
  cases n with
  | zero => cases h
  | succ n => simp only [fitTy, Bool.and_eq_true] at h; exact h.1
theorem zck (hT : TabOK P T) {W : World} {m n : Nat} {cs : List Value} (ih : ∀ (n t : Nat) (cs : List Value) (d : DataW H) (ps : List MemPlace), fitTy T m t = true → DataW.trod enc P W 0 (fun _ => true) true n t cs = some (d, ps) → fitsAt (snapE W) T W m t d cs) :
    ∀ (fs : List Field) (o : Nat) (xs : List (DataW H × List MemPlace)), offsOK T o (fs.map fun f => (f.offset, f.type)) cs.length = true → (fs.all fun f => fitTy T m f.type) = true → xs.length = fs.length →
      (∀ (i : Nat) (f : Field), fs[i]? = some f → DataW.trod enc P W 0 (fun _ => true) true n f.type ((cs.drop f.offset).take (P.cellsOf f.type)) = xs[i]?) →
      ∃ yss : List (List AV), Each3 (fun (f : Nat × Nat) (d : DataW H) ys => Fit T m f.2 d ys) (fs.map fun f => (f.offset, f.type)) (xs.map (·.1)) yss ∧ RepL (snapE W) yss.flatten (cs.drop o) ∧ yss.flatten.all AV.flat1 = true
  | [], o, xs, ho, _, hl, _ => by
    simp only [List.map_nil, offsOK, Nat.beq_eq] at ho
    cases xs with
    | nil => exact ⟨[], trivial, by simp [RepL, ho], rfl⟩
    | cons x l => simp at hl
  | f :: fs, o, xs, ho, hf, hl, hx => by
    cases xs with
    | nil => simp at hl
    | cons x xs =>
      simp only [List.map_cons, offsOK, Bool.and_eq_true, Nat.beq_eq] at ho; simp only [List.all_cons, Bool.and_eq_true] at hf; have h0 := hx 0 f rfl; simp only [List.getElem?_cons_zero] at h0; obtain ⟨ys, g1, g2, g3⟩ := ih _ _ _ x.1 x.2 hf.1 h0
      obtain ⟨yss, q1, q2, q3⟩ := zck hT ih fs (o + (T.ty f.type).size) xs ho.2 hf.2 (by simpa using hl) fun i f h => by simpa using hx (i + 1) f (by simpa using h)
      refine ⟨ys :: yss, ⟨g3, q1⟩, ?_, by simp [g2, q3]⟩
      rw [List.flatten_cons]
      have e : cs.drop o = (cs.drop f.offset).take (P.cellsOf f.type) ++ cs.drop (o + (T.ty f.type).size) := by
        rw [ho.1, hT.cellsOf (zan hf.1), ← List.drop_drop]; exact (List.take_append_drop _ _).symm
      rw [e]; exact RepL.append g1 q2
theorem zba (hT : TabOK P T) {W : World} : ∀ (m : Nat) (n t : Nat) (cs : List Value) (d : DataW H) (ps : List MemPlace), fitTy T m t = true → DataW.trod enc P W 0 (fun _ => true) true n t cs = some (d, ps) → fitsAt (snapE W) T W m t d cs
  | 0, n, t, cs, d, ps, hk, h => by cases hk
  | m + 1, n, t, cs, d, ps, hk, h => by
    simp only [fitTy, Bool.and_eq_true] at hk; obtain ⟨hkn, hk⟩ := hk; have hd := (hT t).desc; have hsz := hT.cellsOf hkn; unfold fitsAt Fit
    cases hh : (T.ty t).k with
    | int k =>
      rw [hh] at hd; obtain ⟨z, rfl, e, hw⟩ := DataW.trod_int hd h
      cases e
      exact ⟨[.int k z], z5e rfl rfl (by rw [Rep]), rfl, z, hw, rfl, rfl⟩
    | bool =>
      rw [hh] at hd; obtain ⟨b, rfl, e⟩ := DataW.trod_bool hd h
      cases e
      exact ⟨[.bool b], z5e rfl rfl (by rw [Rep]), rfl, b, rfl, rfl⟩
    | str =>
      rw [hh] at hd; obtain ⟨s, rfl, e, hs⟩ := DataW.trod_string hd h
      cases e
      refine ⟨[.str s.data.toList], z5e rfl rfl ?_, rfl, _, rfl, rfl⟩; rw [Rep]; refine ⟨rfl, ?_⟩
      have : s.data.toList.length = s.size := by rw [Array.length_toList]; rfl
      rw [this]; exact hs
    | slice e =>
      rw [hh] at hd hk; simp only [Bool.and_eq_true, Nat.beq_eq, Nat.blt_eq] at hk; have hce := hT.cellsOf (zan hk.2)
      rcases DataW.trod_slice hd h with ⟨rfl, e1⟩ | ⟨a, len, cap, elems, rest, n', rfl, rfl, e1, _, hlc, hcap, hlen, hel, _, _⟩
      · cases e1
        refine ⟨[.lst .ro (T.ty e).size []], z5e rfl rfl ?_, rfl, [], [], [], .inr ⟨rfl, rfl⟩, rfl, trivial⟩; rw [Rep]
        exact ⟨none, 0, 0, rfl, rfl, Nat.le_refl _, Nat.zero_le _, fun h => absurd rfl h, fun h => (by cases h), fun q h => (by cases h)⟩
      · cases e1
        have hone : ∀ i x, elems[i]? = some x → a.spot = none ∧ ∃ y u, (∃ ys, Fit T m e x.1 ys ∧ ElemOf (T.ty e) y ys) ∧ y.flat = true ∧ Rep (snapE W) y u ∧ u.cells.size = (T.ty e).size ∧ ∀ j, j < (T.ty e).size → W.cell? ⟨a.block, a.off + i * (T.ty e).size + j, none⟩ = u.cells[j]? := by
          intro i x hx
          have hi : i < len := by rw [← hlen]; exact (List.getElem?_eq_some_iff.1 hx).1
          have h1 := hel i hi; rw [hx, hce] at h1; simp only [Option.bind_eq_some_iff] at h1; obtain ⟨ecs, hc1, hc2⟩ := h1; obtain ⟨_, hcl, hcg⟩ := World.cells?_some hc1
          have hsp : (a.add (i * (T.ty e).size)).spot = none := by
            have h2 := hcg 0 hk.1.2
            have e0 : (a.add (i * (T.ty e).size)).add 0 = a.add (i * (T.ty e).size) := by simp [Addr.add]
            rw [e0, List.getElem?_eq_getElem (by omega)] at h2
            unfold World.cell? at h2
            cases hs : (a.add (i * (T.ty e).size)).spot with
            | none => rfl
            | some z => rw [hs] at h2; split at h2 <;> simp at h2
          obtain ⟨ys, g1, g2, g3⟩ := zba hT m n' e ecs x.1 x.2 hk.2 hc2
          obtain ⟨y, u, q1, q2, q3, q4⟩ := zqq (td := T.ty e) g1 g2 (fun ha => by rw [hcl, ← hce]; exact zmk hT hk.2 ha)
          have ha0 : a.spot = none := by
            -- the first element's place
            have hx0 := hel 0 (by omega)
            rw [Nat.zero_mul] at hx0
            have e0 : a.add 0 = a := by simp [Addr.add]
            rw [e0, hce] at hx0
            have hsome : (elems[0]?).isSome = true := by
              rw [List.getElem?_eq_getElem (by omega)]; rfl
            rw [← hx0] at hsome
            cases hc : W.cells? 0 a (T.ty e).size with
            | none => rw [hc] at hsome; cases hsome
            | some cs0 =>
              obtain ⟨_, hcl0, hcg0⟩ := World.cells?_some hc; have h2 := hcg0 0 hk.1.2
              rw [e0, List.getElem?_eq_getElem (by omega)] at h2
              unfold World.cell? at h2
              cases hs : a.spot with
              | none => rfl
              | some z => rw [hs] at h2; split at h2 <;> simp at h2
          refine ⟨ha0, y, u, ⟨ys, g3, q1⟩, q2, q3, by rw [← Array.length_toList, q4, hcl], fun j hj => ?_⟩
          have h5 := hcg j hj
          have e3 : (a.add (i * (T.ty e).size)).add j = ⟨a.block, a.off + i * (T.ty e).size + j, none⟩ := by
            obtain ⟨b0, o0, s0⟩ := a; simp only at ha0; subst ha0; unfold Addr.add
            split <;> split <;> simp_all [Nat.add_assoc]
          rw [e3] at h5; rw [h5, ← q4]; simp
        obtain ⟨l, hl⟩ := zkq (R := fun (p : (DataW H × List MemPlace) × Nat) y => ∃ u, (∃ ys, Fit T m e p.1.1 ys ∧ ElemOf (T.ty e) y ys) ∧ y.flat = true ∧ Rep (snapE W) y u ∧ u.cells.size = (T.ty e).size ∧ ∀ j, j < (T.ty e).size → W.cell? ⟨a.block, a.off + p.2 * (T.ty e).size + j, none⟩ = u.cells[j]?) elems.zipIdx (by
          intro i p hp; rw [List.getElem?_zipIdx] at hp
          cases hx : elems[i]? with
          | none => rw [hx] at hp; cases hp
          | some x =>
            rw [hx] at hp; simp only [Option.map_some, Option.some.injEq, Nat.zero_add] at hp; obtain ⟨_, y, u, h1⟩ := hone i x hx; subst hp; exact ⟨y, u, h1⟩)
        have hll : len = l.length := by rw [← hl.length, List.length_zipIdx, hlen]
        have hget : ∀ (i : Nat) (y : AV), l[i]? = some y → ∃ x, elems[i]? = some x ∧ ∃ u, (∃ ys, Fit T m e x.1 ys ∧ ElemOf (T.ty e) y ys) ∧ y.flat = true ∧ Rep (snapE W) y u ∧ u.cells.size = (T.ty e).size ∧ ∀ j, j < (T.ty e).size → W.cell? ⟨a.block, a.off + i * (T.ty e).size + j, none⟩ = u.cells[j]? := by
          intro i y hy; obtain ⟨p, hp, hr⟩ := hl.get i y hy; rw [List.getElem?_zipIdx] at hp
          cases hx : elems[i]? with
          | none => rw [hx] at hp; cases hp
          | some x =>
            rw [hx] at hp; simp only [Option.map_some, Option.some.injEq, Nat.zero_add] at hp; subst hp; exact ⟨x, rfl, hr⟩
        refine ⟨[.lst .ro (T.ty e).size l], z5e rfl rfl ?_, rfl, elems.map (·.1), rest.map (·.1), l, .inl rfl, rfl, ?_⟩
        · rw [Rep]
          refine ⟨some a, len, cap, rfl, hll, hlc, hcap, fun hne => ?_, fun h => (by cases h), fun q h => (by cases h)⟩
          have hpos : 0 < l.length := by
            cases l with
            | nil => exact absurd rfl hne
            | cons _ _ => simp
          obtain ⟨x0, hx0, _⟩ := hget 0 l[0] (List.getElem?_eq_getElem hpos); have ha0 := (hone 0 x0 hx0).1; refine ⟨a.block, a.off, ?_, ?_⟩
          · obtain ⟨b0, o0, s0⟩ := a
            simp only at ha0; subst ha0; rfl
          · refine RepE.of_get fun i y hy => ?_
            obtain ⟨x, hx, u, _, h2, h3, h4, h5⟩ := hget i y hy; exact ⟨h2, u, h3, h4, h5⟩
        · refine Each.mk (by rw [List.length_map, hlen, hll]) fun i d y h1 h2 => ?_
          obtain ⟨x, hx, u, h3, _⟩ := hget i y h2; rw [List.getElem?_map, hx] at h1
          cases h1
          exact h3
    | struct fs =>
      rw [hh] at hk; simp only [Bool.and_eq_true] at hk; obtain ⟨fields, hu, hfs⟩ := hT.struct hh; obtain ⟨xs, n', rfl, e, hcl, hxl, hx⟩ := DataW.trod_struct hu h
      cases e
      subst hfs
      have hcl' : cs.length = (T.ty t).size := by rw [hcl, hsz]
      rw [← hcl'] at hk
      obtain ⟨yss, q1, q2, q3⟩ := zck hT (enc := enc) (W := W) (m := m) (n := n') (cs := cs) (fun n t cs d ps h1 h2 => zba hT m n t cs d ps h1 h2) fields.toList 0 xs hk.1 (by simpa using hk.2) (by simpa using hxl) (fun i f hf => hx i f (by simpa using hf))
      exact ⟨yss.flatten, by simpa using q2, q3, xs.map (·.1), yss, rfl, rfl, q1⟩
    | array len e => rw [hh] at hk; cases hk
    | ptr e => rw [hh] at hk; cases hk
    | fn => rw [hh] at hk; cases hk
    | other => rw [hh] at hk; cases hk
end Go.Proofs.Ytjkjhgfiaodgmaa.V
namespace Go.Proofs.Ytjkjhgfiaodgmaa.V
open Go Go.ChangeShapes Go.WideShapes Go.ChangeAt Go.RowKit
variable {H : Type} {enc : TypeId × Value → H} {P : Program} {T : Tab}
abbrev FitAll (T : Tab) (m : Nat) (ts : List Nat) (ds : List (DataW H)) (xs : List AV) : Prop := Each3 (fun t d x => ∃ ys, Fit T m t d ys ∧ ElemOf (T.ty t) x ys) ts ds xs
theorem zml (hT : TabOK P T) {m t base : Nat} {W : World} {v : Value} (hk : fitTy T m t = true) (h : Value.okWide P W .any base t v) : ((T.ty t).isAgg = true → ∃ cs, v = .agg cs) ∧ ((T.ty t).isAgg = false → v.oneCell' = true ∧ v.cells.toList = [v]) := by
  cases m with
  | zero => cases hk
  | succ m =>
    simp only [fitTy, Bool.and_eq_true] at hk; have hd := (hT t).desc; unfold TD.isAgg; have hk := hk.2
    cases hh : (T.ty t).k <;> rw [hh] at hd hk <;> simp at hk ⊢
    · unfold Value.okWide Cell.okWide at h; simp only [hd] at h; unfold Cell.ok at h; simp only [hd] at h; cases v <;> first | exact h.elim | exact ⟨rfl, rfl⟩
    · unfold Value.okWide Cell.okWide at h; simp only [hd] at h; unfold Cell.ok at h; simp only [hd] at h; cases v <;> first | exact h.elim | exact ⟨rfl, rfl⟩
    · unfold Value.okWide Cell.okWide at h; simp only [hd] at h; unfold Cell.ok at h; simp only [hd] at h; cases v <;> first | exact h.elim | exact ⟨rfl, rfl⟩
    · unfold Value.okWide Cell.okWide at h; simp only [hd] at h; unfold Cell.ok at h; simp only [hd] at h; cases v <;> first | exact h.elim | exact ⟨rfl, rfl⟩
    · obtain ⟨fields, hu, _⟩ := hd
      unfold Value.okWide at h; simp only [hu] at h; obtain ⟨cs, e, _⟩ := h; exact ⟨cs, e⟩
theorem zhh (hT : TabOK P T) {W : World} {m base : Nat} : ∀ (ts : List Nat) (vs : List Value) (ds : List (DataW H)) (ps : List MemPlace), (ts.all fun t => fitTy T m t) = true → (∀ (j : Nat) t v, ts[j]? = some t → vs[j]? = some v → Value.okWide P W .any base t v) →
    DataW.TrodAll enc P W 0 (fun _ => true) true ts vs ds ps → ∃ xs, RepT (snapE W) xs vs ∧ xs.all AV.flat = true ∧ FitAll T m ts ds xs
  | [], [], [], ps, _, _, h => ⟨[], by simp [RepT], rfl, trivial⟩
  | t :: ts, v :: vs, d :: ds, ps, hk, hv, h => by
    simp only [List.all_cons, Bool.and_eq_true] at hk; obtain ⟨p, q, ⟨fuel, h1⟩, h2, _⟩ := h
    obtain ⟨xs, g1, g2, g3⟩ := zhh hT ts vs ds q hk.2 (fun j t v a b => hv (j + 1) t v (by simpa using a) (by simpa using b)) h2
    obtain ⟨ys, q1, q2, q3⟩ := zba hT m fuel t _ d p hk.1 h1; have ho := zml hT hk.1 (hv 0 t v rfl rfl)
    cases ha : (T.ty t).isAgg with
    | true =>
      obtain ⟨cs, rfl⟩ := ho.1 ha
      refine ⟨.agg ys :: xs, ?_, by simp [AV.flat, q2, g2], ⟨ys, q3, by simp [ElemOf, ha]⟩, g3⟩
      simp only [RepT]; refine ⟨_, _, rfl, ?_, g1⟩; rw [Rep]
      exact ⟨cs.toList, by simp, by simpa [Value.cells] using q1⟩
    | false =>
      obtain ⟨h3, h4⟩ := ho.2 ha; rw [h4] at q1; have hl := q1.length
      match ys, hl with
      | [y], _ =>
        simp only [RepL] at q1; obtain ⟨v', r, e, a1, a2, a3, a4⟩ := q1
        cases e
        refine ⟨y :: xs, ?_, ?_, ⟨[y], q3, by simp [ElemOf, ha]⟩, g3⟩
        · simp only [RepT]
          exact ⟨_, _, rfl, a3, g1⟩
        · simp only [List.all_cons, List.all_nil, Bool.and_true, Bool.and_eq_true] at q2 ⊢
          refine ⟨?_, g2⟩
          cases y <;> first | exact q2 | (simp [AV.flat1] at q2)
  | [], [], _ :: _, _, _, _, h => h.elim
  | [], _ :: _, _, _, _, _, h => by cases ‹List (DataW H)› <;> exact h.elim
  | _ :: _, [], _, _, _, _, h => by cases ‹List (DataW H)› <;> exact h.elim
  | _ :: _, _ :: _, [], _, _, _, h => h.elim
theorem zo4 {E : Env} (hE : EnvOK' E) {W : World} {m base f : Nat} {ts : List Nat} {args : Array Value} {ds : List (DataW H)} {ps : List MemPlace} (hk : (ts.all fun t => fitTy E.T m t) = true)
    (hv : ∀ (j : Nat) t v, ts[j]? = some t → args.toList[j]? = some v → Value.okWide E.P W .any base t v) (hA : DataW.TrodAll enc E.P W 0 (fun _ => true) true ts args.toList ds ps)
    (hlaw : ∀ xs, FitAll E.T m ts ds xs → tbl E f xs [] = some ([.bool true], [])) : Calls E.P f args W fun e W' => e = .returned (.bool true) ∧ Below W.heap.size W W' := by
  obtain ⟨xs, h1, h2, h3⟩ := zhh hE.T ts args.toList ds ps hk hv hA; have hs := zo3 hE (hlaw xs h3)
  have hI : WI ⟨W, fun _ => False, (snapE W).S, fun _ => none, fun _ _ h => by cases h⟩ (snapE W) (objsOf []) (fun _ => none) W := by
    refine ⟨fun _ _ _ h => h, ?_, ?_, ?_, ?_, ?_, ?_, ?_, ?_, ?_, ⟨rfl, rfl, rfl, Nat.le_refl _, fun _ _ _ => rfl⟩, fun _ _ _ h => h, fun _ _ _ h => .inl h, ?_⟩
    · intro o cs h; cases h
    · intro o cs h; cases h
    · intro q h; cases h
    · intro q l h; cases h
    · intro o o' cs cs' b h; cases h
    · intro q q' v v' s s' g h; cases h
    · intro o cs b q v s h; cases h
    · intro o b h; cases h
    · intro q x h; cases h
    · intro j b cs h; cases h
  refine (hs ⟨W, fun _ => False, (snapE W).S, fun _ => none, fun _ _ h => by cases h⟩ (snapE W) (fun _ => none) W args rfl rfl rfl (by rw [z79 h2]; exact h1) hI (fun j cs h => by cases h) (fun j x e => z3c (List.all_eq_true.1 h2 _ (List.mem_of_getElem? e)))).mono ?_
  rintro e W' ⟨v, res, outs, E', cl', g1, ⟨g2, g3⟩, g4, g5, _⟩; subst g2
  rw [show one1 (frR 0 [AV.bool true]) = .bool true from rfl, Rep] at g4
  subst g4; exact ⟨g1, g5.step.os, g5.step.tape, g5.step.output, g5.step.size, fun k hk => g5.step.block k hk id⟩
theorem z7w (hl : laidOutB P = true) {W W' : World} (hb : Below W.heap.size W W') : ∀ {ts : List TypeId} {vs : List Value} {ds : List (DataW H)} {ps : List MemPlace}, (ts.all fun t => P.readableRec t && decide (t < P.types.size)) = true →
    DataW.TrodAll enc P W 0 (fun _ => true) true ts vs ds ps → DataW.TrodAll enc P W' 0 (fun b => decide (b < W.heap.size)) true ts vs ds ps
  | [], [], [], ps, _, h => h
  | t :: ts, v :: vs, d :: ds, ps, hk, h => by
    simp only [List.all_cons, Bool.and_eq_true, decide_eq_true_eq] at hk; obtain ⟨p, q, h1, h2, e⟩ := h
    refine ⟨p, q, Below.trod hl hk.1.1 hk.1.2 h1 hb ?_, z7w hl hb (by simpa using hk.2) h2, e⟩
    obtain ⟨n, h1⟩ := h1; exact DataW.trod_lt n _ _ _ h1
  | [], [], _ :: _, _, _, h => h.elim
  | [], _ :: _, _, _, _, h => by cases ‹List (DataW H)› <;> exact h.elim
  | _ :: _, [], _, _, _, h => by cases ‹List (DataW H)› <;> exact h.elim
  | _ :: _, _ :: _, [], _, _, h => h.elim
theorem zqr {f : Func} {s : ChangeSpec} {W W' : World} {args : Array Value} {ds : List (DataW H)} {before p : List MemPlace} {tb : TypeId} (hl : laidOutB P = true) (hr : (f.params.toList.all fun t => P.readableRec t && decide (t < P.types.size)) = true)
    (hres : f.resultTypes = #[tb]) (htb : P.underlying tb = some .bool) (hv : s.vars = []) (hs : s.fn H (ds ++ []) = { results := [.lit (.bool true)], args := ds }) (hW : DataW.Whole enc P f.params.toList s.vars false W args.toList ds [] before) (hA : DataW.TrodAll enc P W 0 (fun _ => true) true f.params.toList args.toList ds p) (hb : Below W.heap.size W W') :
    s.post enc P f false true false false W args (.bool true) W' := by
  refine ⟨ds, [], before, [], p, [], hW, ?_, ?_, ?_, hb.frame _, fun h => by cases h⟩
  · rw [hres, hs]
    exact trodAll_mk1 (shut_bool htb true)
  · rw [hs]
    exact z7w hl hb hr hA
  · rw [hs, hv]
    rfl
end Go.Proofs.Ytjkjhgfiaodgmaa.V
namespace Go.Proofs.Ytjkjhgfiaodgmaa.V
open Go
def tyTab : List TD := [
  (TD.mk TK.other 1 0 [] Sh.any []),
  (TD.mk TK.fn 1 8 [] Sh.any []),
  (TD.mk (TK.int IntKind.i64) 1 8 [(AV.int IntKind.i64 0)] (Sh.int IntKind.i64) []),
  (TD.mk (TK.int IntKind.i64) 1 8 [(AV.int IntKind.i64 0)] (Sh.int IntKind.i64) []),
  (TD.mk TK.bool 1 1 [(AV.bool false)] Sh.bool []),
  (TD.mk (TK.int IntKind.u8) 1 1 [(AV.int IntKind.u8 0)] (Sh.int IntKind.u8) []),
  (TD.mk (TK.int IntKind.u8) 1 1 [(AV.int IntKind.u8 0)] (Sh.int IntKind.u8) []),
  (TD.mk (TK.struct [(0, 2), (1, 3), (2, 4), (3, 6)]) 4 24 [(AV.int IntKind.i64 0), (AV.int IntKind.i64 0), (AV.bool false), (AV.int IntKind.u8 0)] (Sh.agg [(Sh.int IntKind.i64), (Sh.int IntKind.i64), Sh.bool, (Sh.int IntKind.u8)]) [(Sh.int IntKind.i64), (Sh.int IntKind.i64), Sh.bool, (Sh.int IntKind.u8)]),
  (TD.mk (TK.struct [(0, 2), (1, 3), (2, 4), (3, 6)]) 4 24 [(AV.int IntKind.i64 0), (AV.int IntKind.i64 0), (AV.bool false), (AV.int IntKind.u8 0)] (Sh.agg [(Sh.int IntKind.i64), (Sh.int IntKind.i64), Sh.bool, (Sh.int IntKind.u8)]) [(Sh.int IntKind.i64), (Sh.int IntKind.i64), Sh.bool, (Sh.int IntKind.u8)]),
  (TD.mk TK.str 1 16 [(AV.str [])] Sh.str []),
  (TD.mk TK.str 1 16 [(AV.str [])] Sh.str []),
  (TD.mk TK.str 1 16 [(AV.str [])] Sh.str []),
  (TD.mk (TK.int IntKind.u64) 1 8 [(AV.int IntKind.u64 0)] (Sh.int IntKind.u64) []),
  (TD.mk (TK.struct [(0, 9), (1, 12)]) 2 24 [(AV.str []), (AV.int IntKind.u64 0)] (Sh.agg [Sh.str, (Sh.int IntKind.u64)]) []),
  (TD.mk (TK.struct [(0, 9), (1, 12)]) 2 24 [(AV.str []), (AV.int IntKind.u64 0)] (Sh.agg [Sh.str, (Sh.int IntKind.u64)]) []),
  (TD.mk (TK.ptr 145) 1 8 [AV.nilp] Sh.any []),
  (TD.mk (TK.ptr 148) 1 8 [AV.nilp] Sh.any []),
  (TD.mk (TK.ptr 158) 1 8 [AV.nilp] Sh.any []),
  (TD.mk (TK.struct [(0, 17)]) 1 8 [AV.nilp] (Sh.agg [Sh.any]) []),
  (TD.mk (TK.struct [(0, 17)]) 1 8 [AV.nilp] (Sh.agg [Sh.any]) []),
  (TD.mk TK.other 1 16 [] Sh.any []),
  (TD.mk (TK.int IntKind.i32) 1 4 [(AV.int IntKind.i32 0)] (Sh.int IntKind.i32) []),
  (TD.mk (TK.slice 60) 1 24 [(AV.lst Md.nil 0 [])] (Sh.lst 2) []),
  (TD.mk (TK.struct [(0, 3), (1, 22)]) 2 32 [(AV.int IntKind.i64 0), (AV.lst Md.nil 0 [])] (Sh.agg [(Sh.int IntKind.i64), (Sh.lst 2)]) []),
  (TD.mk (TK.struct [(0, 3), (1, 22)]) 2 32 [(AV.int IntKind.i64 0), (AV.lst Md.nil 0 [])] (Sh.agg [(Sh.int IntKind.i64), (Sh.lst 2)]) []),
  (TD.mk (TK.slice 39) 1 24 [(AV.lst Md.nil 0 [])] (Sh.lst 5) []),
  (TD.mk TK.fn 1 8 [] Sh.any []),
  (TD.mk TK.fn 1 8 [] Sh.any []),
  (TD.mk (TK.slice 52) 1 24 [(AV.lst Md.nil 0 [])] (Sh.lst 16) []),
  (TD.mk (TK.int IntKind.i64) 1 8 [(AV.int IntKind.i64 0)] (Sh.int IntKind.i64) []),
  (TD.mk TK.other 1 0 [] Sh.any []),
  (TD.mk TK.fn 1 8 [] Sh.any []),
  (TD.mk TK.other 1 0 [] Sh.any []),
  (TD.mk TK.fn 1 8 [] Sh.any []),
  (TD.mk (TK.slice 3) 1 24 [(AV.lst Md.nil 0 [])] (Sh.lst 1) []),
  (TD.mk TK.other 1 0 [] Sh.any []),
  (TD.mk TK.fn 1 8 [] Sh.any []),
  (TD.mk TK.fn 1 8 [] Sh.any []),
  (TD.mk (TK.struct [(0, 3), (1, 24), (3, 28), (4, 28)]) 5 88 [(AV.int IntKind.i64 0), (AV.int IntKind.i64 0), (AV.lst Md.nil 0 []), (AV.lst Md.nil 0 []), (AV.lst Md.nil 0 [])] (Sh.agg [(Sh.int IntKind.i64), (Sh.int IntKind.i64), (Sh.lst 2), (Sh.lst 16), (Sh.lst 16)]) []),
  (TD.mk (TK.struct [(0, 3), (1, 24), (3, 28), (4, 28)]) 5 88 [(AV.int IntKind.i64 0), (AV.int IntKind.i64 0), (AV.lst Md.nil 0 []), (AV.lst Md.nil 0 []), (AV.lst Md.nil 0 [])] (Sh.agg [(Sh.int IntKind.i64), (Sh.int IntKind.i64), (Sh.lst 2), (Sh.lst 16), (Sh.lst 16)]) []),
  (TD.mk TK.fn 1 8 [] Sh.any []),
  (TD.mk TK.fn 1 8 [] Sh.any []),
  (TD.mk TK.fn 1 8 [] Sh.any []),
  (TD.mk TK.other 1 0 [] Sh.any []),
  (TD.mk TK.fn 1 8 [] Sh.any []),
  (TD.mk TK.fn 1 8 [] Sh.any []),
  (TD.mk (TK.struct [(0, 3), (1, 3), (2, 3), (3, 3), (4, 3)]) 5 40 [(AV.int IntKind.i64 0), (AV.int IntKind.i64 0), (AV.int IntKind.i64 0), (AV.int IntKind.i64 0), (AV.int IntKind.i64 0)] (Sh.agg [(Sh.int IntKind.i64), (Sh.int IntKind.i64), (Sh.int IntKind.i64), (Sh.int IntKind.i64), (Sh.int IntKind.i64)]) [(Sh.int IntKind.i64), (Sh.int IntKind.i64), (Sh.int IntKind.i64), (Sh.int IntKind.i64), (Sh.int IntKind.i64)]),
  (TD.mk (TK.struct [(0, 3), (1, 3), (2, 3), (3, 3), (4, 3)]) 5 40 [(AV.int IntKind.i64 0), (AV.int IntKind.i64 0), (AV.int IntKind.i64 0), (AV.int IntKind.i64 0), (AV.int IntKind.i64 0)] (Sh.agg [(Sh.int IntKind.i64), (Sh.int IntKind.i64), (Sh.int IntKind.i64), (Sh.int IntKind.i64), (Sh.int IntKind.i64)]) [(Sh.int IntKind.i64), (Sh.int IntKind.i64), (Sh.int IntKind.i64), (Sh.int IntKind.i64), (Sh.int IntKind.i64)]),
  (TD.mk (TK.struct [(0, 3), (1, 9)]) 2 24 [(AV.int IntKind.i64 0), (AV.str [])] (Sh.agg [(Sh.int IntKind.i64), Sh.str]) [(Sh.int IntKind.i64), Sh.str]),
  (TD.mk (TK.struct [(0, 3), (1, 9)]) 2 24 [(AV.int IntKind.i64 0), (AV.str [])] (Sh.agg [(Sh.int IntKind.i64), Sh.str]) [(Sh.int IntKind.i64), Sh.str]),
  (TD.mk (TK.slice 47) 1 24 [(AV.lst Md.nil 0 [])] (Sh.lst 5) []),
  (TD.mk (TK.struct [(0, 3), (1, 3), (2, 3), (3, 3), (4, 3), (5, 3), (6, 3), (7, 47), (12, 49), (14, 34), (15, 50)]) 16 168 [(AV.int IntKind.i64 0), (AV.int IntKind.i64 0), (AV.int IntKind.i64 0), (AV.int IntKind.i64 0), (AV.int IntKind.i64 0), (AV.int IntKind.i64 0), (AV.int IntKind.i64 0), (AV.int IntKind.i64 0), (AV.int IntKind.i64 0), (AV.int IntKind.i64 0), (AV.int IntKind.i64 0), (AV.int IntKind.i64 0), (AV.int IntKind.i64 0), (AV.str []), (AV.lst Md.nil 0 []), (AV.lst Md.nil 0 [])] (Sh.agg [(Sh.int IntKind.i64), (Sh.int IntKind.i64), (Sh.int IntKind.i64), (Sh.int IntKind.i64), (Sh.int IntKind.i64), (Sh.int IntKind.i64), (Sh.int IntKind.i64), (Sh.int IntKind.i64), (Sh.int IntKind.i64), (Sh.int IntKind.i64), (Sh.int IntKind.i64), (Sh.int IntKind.i64), (Sh.int IntKind.i64), Sh.str, (Sh.lst 1), (Sh.lst 5)]) []),
  (TD.mk (TK.struct [(0, 3), (1, 3), (2, 3), (3, 3), (4, 3), (5, 3), (6, 3), (7, 47), (12, 49), (14, 34), (15, 50)]) 16 168 [(AV.int IntKind.i64 0), (AV.int IntKind.i64 0), (AV.int IntKind.i64 0), (AV.int IntKind.i64 0), (AV.int IntKind.i64 0), (AV.int IntKind.i64 0), (AV.int IntKind.i64 0), (AV.int IntKind.i64 0), (AV.int IntKind.i64 0), (AV.int IntKind.i64 0), (AV.int IntKind.i64 0), (AV.int IntKind.i64 0), (AV.int IntKind.i64 0), (AV.str []), (AV.lst Md.nil 0 []), (AV.lst Md.nil 0 [])] (Sh.agg [(Sh.int IntKind.i64), (Sh.int IntKind.i64), (Sh.int IntKind.i64), (Sh.int IntKind.i64), (Sh.int IntKind.i64), (Sh.int IntKind.i64), (Sh.int IntKind.i64), (Sh.int IntKind.i64), (Sh.int IntKind.i64), (Sh.int IntKind.i64), (Sh.int IntKind.i64), (Sh.int IntKind.i64), (Sh.int IntKind.i64), Sh.str, (Sh.lst 1), (Sh.lst 5)]) []),
  (TD.mk TK.fn 1 8 [] Sh.any []),
  (TD.mk TK.other 1 0 [] Sh.any []),
  (TD.mk (TK.struct [(0, 25), (1, 3)]) 2 32 [(AV.lst Md.nil 0 []), (AV.int IntKind.i64 0)] (Sh.agg [(Sh.lst 5), (Sh.int IntKind.i64)]) []),
  (TD.mk (TK.struct [(0, 25), (1, 3)]) 2 32 [(AV.lst Md.nil 0 []), (AV.int IntKind.i64 0)] (Sh.agg [(Sh.lst 5), (Sh.int IntKind.i64)]) []),
  (TD.mk TK.fn 1 8 [] Sh.any []),
  (TD.mk TK.fn 1 8 [] Sh.any []),
  (TD.mk (TK.struct [(0, 3), (1, 50)]) 2 32 [(AV.int IntKind.i64 0), (AV.lst Md.nil 0 [])] (Sh.agg [(Sh.int IntKind.i64), (Sh.lst 5)]) []),
  (TD.mk (TK.struct [(0, 3), (1, 50)]) 2 32 [(AV.int IntKind.i64 0), (AV.lst Md.nil 0 [])] (Sh.agg [(Sh.int IntKind.i64), (Sh.lst 5)]) []),
  (TD.mk TK.fn 1 8 [] Sh.any []),
  (TD.mk TK.fn 1 8 [] Sh.any []),
  (TD.mk TK.fn 1 8 [] Sh.any []),
  (TD.mk TK.fn 1 8 [] Sh.any []),
  (TD.mk TK.other 1 0 [] Sh.any []),
  (TD.mk TK.fn 1 8 [] Sh.any []),
  (TD.mk TK.fn 1 8 [] Sh.any []),
  (TD.mk TK.fn 1 8 [] Sh.any []),
  (TD.mk (TK.ptr 71) 1 8 [AV.nilp] Sh.any []),
  (TD.mk (TK.struct [(0, 52), (16, 24), (18, 3), (19, 3)]) 20 216 [(AV.int IntKind.i64 0), (AV.int IntKind.i64 0), (AV.int IntKind.i64 0), (AV.int IntKind.i64 0), (AV.int IntKind.i64 0), (AV.int IntKind.i64 0), (AV.int IntKind.i64 0), (AV.int IntKind.i64 0), (AV.int IntKind.i64 0), (AV.int IntKind.i64 0), (AV.int IntKind.i64 0), (AV.int IntKind.i64 0), (AV.int IntKind.i64 0), (AV.str []), (AV.lst Md.nil 0 []), (AV.lst Md.nil 0 []), (AV.int IntKind.i64 0), (AV.lst Md.nil 0 []), (AV.int IntKind.i64 0), (AV.int IntKind.i64 0)] (Sh.agg [(Sh.int IntKind.i64), (Sh.int IntKind.i64), (Sh.int IntKind.i64), (Sh.int IntKind.i64), (Sh.int IntKind.i64), (Sh.int IntKind.i64), (Sh.int IntKind.i64), (Sh.int IntKind.i64), (Sh.int IntKind.i64), (Sh.int IntKind.i64), (Sh.int IntKind.i64), (Sh.int IntKind.i64), (Sh.int IntKind.i64), Sh.str, (Sh.lst 1), (Sh.lst 5), (Sh.int IntKind.i64), (Sh.lst 2), (Sh.int IntKind.i64), (Sh.int IntKind.i64)]) []),
  (TD.mk (TK.struct [(0, 52), (16, 24), (18, 3), (19, 3)]) 20 216 [(AV.int IntKind.i64 0), (AV.int IntKind.i64 0), (AV.int IntKind.i64 0), (AV.int IntKind.i64 0), (AV.int IntKind.i64 0), (AV.int IntKind.i64 0), (AV.int IntKind.i64 0), (AV.int IntKind.i64 0), (AV.int IntKind.i64 0), (AV.int IntKind.i64 0), (AV.int IntKind.i64 0), (AV.int IntKind.i64 0), (AV.int IntKind.i64 0), (AV.str []), (AV.lst Md.nil 0 []), (AV.lst Md.nil 0 []), (AV.int IntKind.i64 0), (AV.lst Md.nil 0 []), (AV.int IntKind.i64 0), (AV.int IntKind.i64 0)] (Sh.agg [(Sh.int IntKind.i64), (Sh.int IntKind.i64), (Sh.int IntKind.i64), (Sh.int IntKind.i64), (Sh.int IntKind.i64), (Sh.int IntKind.i64), (Sh.int IntKind.i64), (Sh.int IntKind.i64), (Sh.int IntKind.i64), (Sh.int IntKind.i64), (Sh.int IntKind.i64), (Sh.int IntKind.i64), (Sh.int IntKind.i64), Sh.str, (Sh.lst 1), (Sh.lst 5), (Sh.int IntKind.i64), (Sh.lst 2), (Sh.int IntKind.i64), (Sh.int IntKind.i64)]) []),
  (TD.mk TK.fn 1 8 [] Sh.any []),
  (TD.mk TK.fn 1 8 [] Sh.any []),
  (TD.mk TK.fn 1 8 [] Sh.any []),
  (TD.mk TK.fn 1 8 [] Sh.any []),
  (TD.mk (TK.array 256 4) 256 256 [(AV.bool false), (AV.bool false), (AV.bool false), (AV.bool false), (AV.bool false), (AV.bool false), (AV.bool false), (AV.bool false), (AV.bool false), (AV.bool false), (AV.bool false), (AV.bool false), (AV.bool false), (AV.bool false), (AV.bool false), (AV.bool false), (AV.bool false), (AV.bool false), (AV.bool false), (AV.bool false), (AV.bool false), (AV.bool false), (AV.bool false), (AV.bool false), (AV.bool false), (AV.bool false), (AV.bool false), (AV.bool false), (AV.bool false), (AV.bool false), (AV.bool false), (AV.bool false), (AV.bool false), (AV.bool false), (AV.bool false), (AV.bool false), (AV.bool false), (AV.bool false), (AV.bool false), (AV.bool false), (AV.bool false), (AV.bool false), (AV.bool false), (AV.bool false), (AV.bool false), (AV.bool false), (AV.bool false), (AV.bool false), (AV.bool false), (AV.bool false), (AV.bool false), (AV.bool false), (AV.bool false), (AV.bool false), (AV.bool false), (AV.bool false), (AV.bool false), (AV.bool false), (AV.bool false), (AV.bool false), (AV.bool false), (AV.bool false), (AV.bool false), (AV.bool false), (AV.bool false), (AV.bool false), (AV.bool false), (AV.bool false), (AV.bool false), (AV.bool false), (AV.bool false), (AV.bool false), (AV.bool false), (AV.bool false), (AV.bool false), (AV.bool false), (AV.bool false), (AV.bool false), (AV.bool false), (AV.bool false), (AV.bool false), (AV.bool false), (AV.bool false), (AV.bool false), (AV.bool false), (AV.bool false), (AV.bool false), (AV.bool false), (AV.bool false), (AV.bool false), (AV.bool false), (AV.bool false), (AV.bool false), (AV.bool false), (AV.bool false), (AV.bool false), (AV.bool false), (AV.bool false), (AV.bool false), (AV.bool false), (AV.bool false), (AV.bool false), (AV.bool false), (AV.bool false), (AV.bool false), (AV.bool false), (AV.bool false), (AV.bool false), (AV.bool false), (AV.bool false), (AV.bool false), (AV.bool false), (AV.bool false), (AV.bool false), (AV.bool false), (AV.bool false), (AV.bool false), (AV.bool false), (AV.bool false), (AV.bool false), (AV.bool false), (AV.bool false), (AV.bool false), (AV.bool false), (AV.bool false), (AV.bool false), (AV.bool false), (AV.bool false), (AV.bool false), (AV.bool false), (AV.bool false), (AV.bool false), (AV.bool false), (AV.bool false), (AV.bool false), (AV.bool false), (AV.bool false), (AV.bool false), (AV.bool false), (AV.bool false), (AV.bool false), (AV.bool false), (AV.bool false), (AV.bool false), (AV.bool false), (AV.bool false), (AV.bool false), (AV.bool false), (AV.bool false), (AV.bool false), (AV.bool false), (AV.bool false), (AV.bool false), (AV.bool false), (AV.bool false), (AV.bool false), (AV.bool false), (AV.bool false), (AV.bool false), (AV.bool false), (AV.bool false), (AV.bool false), (AV.bool false), (AV.bool false), (AV.bool false), (AV.bool false), (AV.bool false), (AV.bool false), (AV.bool false), (AV.bool false), (AV.bool false), (AV.bool false), (AV.bool false), (AV.bool false), (AV.bool false), (AV.bool false), (AV.bool false), (AV.bool false), (AV.bool false), (AV.bool false), (AV.bool false), (AV.bool false), (AV.bool false), (AV.bool false), (AV.bool false), (AV.bool false), (AV.bool false), (AV.bool false), (AV.bool false), (AV.bool false), (AV.bool false), (AV.bool false), (AV.bool false), (AV.bool false), (AV.bool false), (AV.bool false), (AV.bool false), (AV.bool false), (AV.bool false), (AV.bool false), (AV.bool false), (AV.bool false), (AV.bool false), (AV.bool false), (AV.bool false), (AV.bool false), (AV.bool false), (AV.bool false), (AV.bool false), (AV.bool false), (AV.bool false), (AV.bool false), (AV.bool false), (AV.bool false), (AV.bool false), (AV.bool false), (AV.bool false), (AV.bool false), (AV.bool false), (AV.bool false), (AV.bool false), (AV.bool false), (AV.bool false), (AV.bool false), (AV.bool false), (AV.bool false), (AV.bool false), (AV.bool false), (AV.bool false), (AV.bool false), (AV.bool false), (AV.bool false), (AV.bool false), (AV.bool false), (AV.bool false), (AV.bool false), (AV.bool false), (AV.bool false), (AV.bool false), (AV.bool false), (AV.bool false), (AV.bool false), (AV.bool false), (AV.bool false), (AV.bool false), (AV.bool false), (AV.bool false), (AV.bool false), (AV.bool false), (AV.bool false), (AV.bool false), (AV.bool false), (AV.bool false), (AV.bool false), (AV.bool false), (AV.bool false)] (Sh.agg [Sh.arr]) []),
  (TD.mk TK.fn 1 8 [] Sh.any []),
  (TD.mk (TK.slice 5) 1 24 [(AV.lst Md.nil 0 [])] (Sh.lst 1) []),
  (TD.mk TK.other 1 0 [] Sh.any []),
  (TD.mk TK.fn 1 8 [] Sh.any []),
  (TD.mk TK.fn 1 8 [] Sh.any []),
  (TD.mk TK.fn 1 8 [] Sh.any []),
  (TD.mk TK.fn 1 8 [] Sh.any []),
  (TD.mk (TK.slice 86) 1 24 [(AV.lst Md.nil 0 [])] (Sh.lst 1) []),
  (TD.mk TK.fn 1 8 [] Sh.any []),
  (TD.mk (TK.int IntKind.i64) 1 8 [(AV.int IntKind.i64 0)] (Sh.int IntKind.i64) []),
  (TD.mk TK.fn 1 8 [] Sh.any []),
  (TD.mk TK.fn 1 8 [] Sh.any []),
  (TD.mk TK.fn 1 8 [] Sh.any []),
  (TD.mk TK.fn 1 8 [] Sh.any []),
  (TD.mk TK.fn 1 8 [] Sh.any []),
  (TD.mk TK.fn 1 8 [] Sh.any []),
  (TD.mk TK.fn 1 8 [] Sh.any []),
  (TD.mk TK.fn 1 8 [] Sh.any []),
  (TD.mk TK.fn 1 8 [] Sh.any []),
  (TD.mk TK.other 1 0 [] Sh.any []),
  (TD.mk TK.fn 1 8 [] Sh.any []),
  (TD.mk TK.fn 1 8 [] Sh.any []),
  (TD.mk TK.fn 1 8 [] Sh.any []),
  (TD.mk TK.fn 1 8 [] Sh.any []),
  (TD.mk TK.fn 1 8 [] Sh.any []),
  (TD.mk (TK.ptr 125) 1 8 [AV.nilp] Sh.any []),
  (TD.mk TK.fn 1 8 [] Sh.any []),
  (TD.mk TK.fn 1 8 [] Sh.any []),
  (TD.mk (TK.slice 78) 1 24 [(AV.lst Md.nil 0 [])] (Sh.lst 1) []),
  (TD.mk TK.fn 1 8 [] Sh.any []),
  (TD.mk TK.fn 1 8 [] Sh.any []),
  (TD.mk TK.other 1 0 [] Sh.any []),
  (TD.mk TK.fn 1 8 [] Sh.any []),
  (TD.mk TK.fn 1 8 [] Sh.any []),
  (TD.mk TK.fn 1 8 [] Sh.any []),
  (TD.mk (TK.array 7 3) 7 56 [(AV.int IntKind.i64 0), (AV.int IntKind.i64 0), (AV.int IntKind.i64 0), (AV.int IntKind.i64 0), (AV.int IntKind.i64 0), (AV.int IntKind.i64 0), (AV.int IntKind.i64 0)] (Sh.agg [(Sh.int IntKind.i64), (Sh.int IntKind.i64), (Sh.int IntKind.i64), (Sh.int IntKind.i64), (Sh.int IntKind.i64), (Sh.int IntKind.i64), (Sh.int IntKind.i64)]) [(Sh.int IntKind.i64), (Sh.int IntKind.i64), (Sh.int IntKind.i64), (Sh.int IntKind.i64), (Sh.int IntKind.i64), (Sh.int IntKind.i64), (Sh.int IntKind.i64)]),
  (TD.mk TK.fn 1 8 [] Sh.any []),
  (TD.mk TK.fn 1 8 [] Sh.any []),
  (TD.mk TK.fn 1 8 [] Sh.any []),
  (TD.mk TK.fn 1 8 [] Sh.any []),
  (TD.mk TK.fn 1 8 [] Sh.any []),
  (TD.mk TK.fn 1 8 [] Sh.any []),
  (TD.mk TK.other 1 0 [] Sh.any []),
  (TD.mk TK.fn 1 8 [] Sh.any []),
  (TD.mk TK.fn 1 8 [] Sh.any []),
  (TD.mk TK.fn 1 8 [] Sh.any []),
  (TD.mk TK.fn 1 8 [] Sh.any []),
  (TD.mk (TK.struct [(0, 78), (1, 29)]) 2 32 [(AV.lst Md.nil 0 []), (AV.int IntKind.i64 0)] (Sh.agg [(Sh.lst 1), (Sh.int IntKind.i64)]) []),
  (TD.mk (TK.struct [(0, 78), (1, 29)]) 2 32 [(AV.lst Md.nil 0 []), (AV.int IntKind.i64 0)] (Sh.agg [(Sh.lst 1), (Sh.int IntKind.i64)]) []),
  (TD.mk TK.fn 1 8 [] Sh.any []),
  (TD.mk (TK.int IntKind.u64) 1 8 [(AV.int IntKind.u64 0)] (Sh.int IntKind.u64) []),
  (TD.mk TK.fn 1 8 [] Sh.any []),
  (TD.mk TK.fn 1 8 [] Sh.any []),
  (TD.mk TK.other 1 0 [] Sh.any []),
  (TD.mk TK.fn 1 8 [] Sh.any []),
  (TD.mk TK.fn 1 8 [] Sh.any []),
  (TD.mk TK.other 1 0 [] Sh.any []),
  (TD.mk TK.fn 1 8 [] Sh.any []),
  (TD.mk TK.other 1 0 [] Sh.any []),
  (TD.mk TK.fn 1 8 [] Sh.any []),
  (TD.mk (TK.array 1000 4) 1000 1000 [(AV.bool false), (AV.bool false), (AV.bool false), (AV.bool false), (AV.bool false), (AV.bool false), (AV.bool false), (AV.bool false), (AV.bool false), (AV.bool false), (AV.bool false), (AV.bool false), (AV.bool false), (AV.bool false), (AV.bool false), (AV.bool false), (AV.bool false), (AV.bool false), (AV.bool false), (AV.bool false), (AV.bool false), (AV.bool false), (AV.bool false), (AV.bool false), (AV.bool false), (AV.bool false), (AV.bool false), (AV.bool false), (AV.bool false), (AV.bool false), (AV.bool false), (AV.bool false), (AV.bool false), (AV.bool false), (AV.bool false), (AV.bool false), (AV.bool false), (AV.bool false), (AV.bool false), (AV.bool false), (AV.bool false), (AV.bool false), (AV.bool false), (AV.bool false), (AV.bool false), (AV.bool false), (AV.bool false), (AV.bool false), (AV.bool false), (AV.bool false), (AV.bool false), (AV.bool false), (AV.bool false), (AV.bool false), (AV.bool false), (AV.bool false), (AV.bool false), (AV.bool false), (AV.bool false), (AV.bool false), (AV.bool false), (AV.bool false), (AV.bool false), (AV.bool false), (AV.bool false), (AV.bool false), (AV.bool false), (AV.bool false), (AV.bool false), (AV.bool false), (AV.bool false), (AV.bool false), (AV.bool false), (AV.bool false), (AV.bool false), (AV.bool false), (AV.bool false), (AV.bool false), (AV.bool false), (AV.bool false), (AV.bool false), (AV.bool false), (AV.bool false), (AV.bool false), (AV.bool false), (AV.bool false), (AV.bool false), (AV.bool false), (AV.bool false), (AV.bool false), (AV.bool false), (AV.bool false), (AV.bool false), (AV.bool false), (AV.bool false), (AV.bool false), (AV.bool false), (AV.bool false), (AV.bool false), (AV.bool false), (AV.bool false), (AV.bool false), (AV.bool false), (AV.bool false), (AV.bool false), (AV.bool false), (AV.bool false), (AV.bool false), (AV.bool false), (AV.bool false), (AV.bool false), (AV.bool false), (AV.bool false), (AV.bool false), (AV.bool false), (AV.bool false), (AV.bool false), (AV.bool false), (AV.bool false), (AV.bool false), (AV.bool false), (AV.bool false), (AV.bool false), (AV.bool false), (AV.bool false), (AV.bool false), (AV.bool false), (AV.bool false), (AV.bool false), (AV.bool false), (AV.bool false), (AV.bool false), (AV.bool false), (AV.bool false), (AV.bool false), (AV.bool false), (AV.bool false), (AV.bool false), (AV.bool false), (AV.bool false), (AV.bool false), (AV.bool false), (AV.bool false), (AV.bool false), (AV.bool false), (AV.bool false), (AV.bool false), (AV.bool false), (AV.bool false), (AV.bool false), (AV.bool false), (AV.bool false), (AV.bool false), (AV.bool false), (AV.bool false), (AV.bool false), (AV.bool false), (AV.bool false), (AV.bool false), (AV.bool false), (AV.bool false), (AV.bool false), (AV.bool false), (AV.bool false), (AV.bool false), (AV.bool false), (AV.bool false), (AV.bool false), (AV.bool false), (AV.bool false), (AV.bool false), (AV.bool false), (AV.bool false), (AV.bool false), (AV.bool false), (AV.bool false), (AV.bool false), (AV.bool false), (AV.bool false), (AV.bool false), (AV.bool false), (AV.bool false), (AV.bool false), (AV.bool false), (AV.bool false), (AV.bool false), (AV.bool false), (AV.bool false), (AV.bool false), (AV.bool false), (AV.bool false), (AV.bool false), (AV.bool false), (AV.bool false), (AV.bool false), (AV.bool false), (AV.bool false), (AV.bool false), (AV.bool false), (AV.bool false), (AV.bool false), (AV.bool false), (AV.bool false), (AV.bool false), (AV.bool false), (AV.bool false), (AV.bool false), (AV.bool false), (AV.bool false), (AV.bool false), (AV.bool false), (AV.bool false), (AV.bool false), (AV.bool false), (AV.bool false), (AV.bool false), (AV.bool false), (AV.bool false), (AV.bool false), (AV.bool false), (AV.bool false), (AV.bool false), (AV.bool false), (AV.bool false), (AV.bool false), (AV.bool false), (AV.bool false), (AV.bool false), (AV.bool false), (AV.bool false), (AV.bool false), (AV.bool false), (AV.bool false), (AV.bool false), (AV.bool false), (AV.bool false), (AV.bool false), (AV.bool false), (AV.bool false), (AV.bool false), (AV.bool false), (AV.bool false), (AV.bool false), (AV.bool false), (AV.bool false), (AV.bool false), (AV.bool false), (AV.bool false), (AV.bool false), (AV.bool false), (AV.bool false), (AV.bool false), (AV.bool false), (AV.bool false), (AV.bool false), (AV.bool false), (AV.bool false), (AV.bool false), (AV.bool false), (AV.bool false), (AV.bool false), (AV.bool false), (AV.bool false), (AV.bool false), (AV.bool false), (AV.bool false), (AV.bool false), (AV.bool false), (AV.bool false), (AV.bool false), (AV.bool false), (AV.bool false), (AV.bool false), (AV.bool false), (AV.bool false), (AV.bool false), (AV.bool false), (AV.bool false), (AV.bool false), (AV.bool false), (AV.bool false), (AV.bool false), (AV.bool false), (AV.bool false), (AV.bool false), (AV.bool false), (AV.bool false), (AV.bool false), (AV.bool false), (AV.bool false), (AV.bool false), (AV.bool false), (AV.bool false), (AV.bool false), (AV.bool false), (AV.bool false), (AV.bool false), (AV.bool false), (AV.bool false), (AV.bool false), (AV.bool false), (AV.bool false), (AV.bool false), (AV.bool false), (AV.bool false), (AV.bool false), (AV.bool false), (AV.bool false), (AV.bool false), (AV.bool false), (AV.bool false), (AV.bool false), (AV.bool false), (AV.bool false), (AV.bool false), (AV.bool false), (AV.bool false), (AV.bool false), (AV.bool false), (AV.bool false), (AV.bool false), (AV.bool false), (AV.bool false), (AV.bool false), (AV.bool false), (AV.bool false), (AV.bool false), (AV.bool false), (AV.bool false), (AV.bool false), (AV.bool false), (AV.bool false), (AV.bool false), (AV.bool false), (AV.bool false), (AV.bool false), (AV.bool false), (AV.bool false), (AV.bool false), (AV.bool false), (AV.bool false), (AV.bool false), (AV.bool false), (AV.bool false), (AV.bool false), (AV.bool false), (AV.bool false), (AV.bool false), (AV.bool false), (AV.bool false), (AV.bool false), (AV.bool false), (AV.bool false), (AV.bool false), (AV.bool false), (AV.bool false), (AV.bool false), (AV.bool false), (AV.bool false), (AV.bool false), (AV.bool false), (AV.bool false), (AV.bool false), (AV.bool false), (AV.bool false), (AV.bool false), (AV.bool false), (AV.bool false), (AV.bool false), (AV.bool false), (AV.bool false), (AV.bool false), (AV.bool false), (AV.bool false), (AV.bool false), (AV.bool false), (AV.bool false), (AV.bool false), (AV.bool false), (AV.bool false), (AV.bool false), (AV.bool false), (AV.bool false), (AV.bool false), (AV.bool false), (AV.bool false), (AV.bool false), (AV.bool false), (AV.bool false), (AV.bool false), (AV.bool false), (AV.bool false), (AV.bool false), (AV.bool false), (AV.bool false), (AV.bool false), (AV.bool false), (AV.bool false), (AV.bool false), (AV.bool false), (AV.bool false), (AV.bool false), (AV.bool false), (AV.bool false), (AV.bool false), (AV.bool false), (AV.bool false), (AV.bool false), (AV.bool false), (AV.bool false), (AV.bool false), (AV.bool false), (AV.bool false), (AV.bool false), (AV.bool false), (AV.bool false), (AV.bool false), (AV.bool false), (AV.bool false), (AV.bool false), (AV.bool false), (AV.bool false), (AV.bool false), (AV.bool false), (AV.bool false), (AV.bool false), (AV.bool false), (AV.bool false), (AV.bool false), (AV.bool false), (AV.bool false), (AV.bool false), (AV.bool false), (AV.bool false), (AV.bool false), (AV.bool false), (AV.bool false), (AV.bool false), (AV.bool false), (AV.bool false), (AV.bool false), (AV.bool false), (AV.bool false), (AV.bool false), (AV.bool false), (AV.bool false), (AV.bool false), (AV.bool false), (AV.bool false), (AV.bool false), (AV.bool false), (AV.bool false), (AV.bool false), (AV.bool false), (AV.bool false), (AV.bool false), (AV.bool false), (AV.bool false), (AV.bool false), (AV.bool false), (AV.bool false), (AV.bool false), (AV.bool false), (AV.bool false), (AV.bool false), (AV.bool false), (AV.bool false), (AV.bool false), (AV.bool false), (AV.bool false), (AV.bool false), (AV.bool false), (AV.bool false), (AV.bool false), (AV.bool false), (AV.bool false), (AV.bool false), (AV.bool false), (AV.bool false), (AV.bool false), (AV.bool false), (AV.bool false), (AV.bool false), (AV.bool false), (AV.bool false), (AV.bool false), (AV.bool false), (AV.bool false), (AV.bool false), (AV.bool false), (AV.bool false), (AV.bool false), (AV.bool false), (AV.bool false), (AV.bool false), (AV.bool false), (AV.bool false), (AV.bool false), (AV.bool false), (AV.bool false), (AV.bool false), (AV.bool false), (AV.bool false), (AV.bool false), (AV.bool false), (AV.bool false), (AV.bool false), (AV.bool false), (AV.bool false), (AV.bool false), (AV.bool false), (AV.bool false), (AV.bool false), (AV.bool false), (AV.bool false), (AV.bool false), (AV.bool false), (AV.bool false), (AV.bool false), (AV.bool false), (AV.bool false), (AV.bool false), (AV.bool false), (AV.bool false), (AV.bool false), (AV.bool false), (AV.bool false), (AV.bool false), (AV.bool false), (AV.bool false), (AV.bool false), (AV.bool false), (AV.bool false), (AV.bool false), (AV.bool false), (AV.bool false), (AV.bool false), (AV.bool false), (AV.bool false), (AV.bool false), (AV.bool false), (AV.bool false), (AV.bool false), (AV.bool false), (AV.bool false), (AV.bool false), (AV.bool false), (AV.bool false), (AV.bool false), (AV.bool false), (AV.bool false), (AV.bool false), (AV.bool false), (AV.bool false), (AV.bool false), (AV.bool false), (AV.bool false), (AV.bool false), (AV.bool false), (AV.bool false), (AV.bool false), (AV.bool false), (AV.bool false), (AV.bool false), (AV.bool false), (AV.bool false), (AV.bool false), (AV.bool false), (AV.bool false), (AV.bool false), (AV.bool false), (AV.bool false), (AV.bool false), (AV.bool false), (AV.bool false), (AV.bool false), (AV.bool false), (AV.bool false), (AV.bool false), (AV.bool false), (AV.bool false), (AV.bool false), (AV.bool false), (AV.bool false), (AV.bool false), (AV.bool false), (AV.bool false), (AV.bool false), (AV.bool false), (AV.bool false), (AV.bool false), (AV.bool false), (AV.bool false), (AV.bool false), (AV.bool false), (AV.bool false), (AV.bool false), (AV.bool false), (AV.bool false), (AV.bool false), (AV.bool false), (AV.bool false), (AV.bool false), (AV.bool false), (AV.bool false), (AV.bool false), (AV.bool false), (AV.bool false), (AV.bool false), (AV.bool false), (AV.bool false), (AV.bool false), (AV.bool false), (AV.bool false), (AV.bool false), (AV.bool false), (AV.bool false), (AV.bool false), (AV.bool false), (AV.bool false), (AV.bool false), (AV.bool false), (AV.bool false), (AV.bool false), (AV.bool false), (AV.bool false), (AV.bool false), (AV.bool false), (AV.bool false), (AV.bool false), (AV.bool false), (AV.bool false), (AV.bool false), (AV.bool false), (AV.bool false), (AV.bool false), (AV.bool false), (AV.bool false), (AV.bool false), (AV.bool false), (AV.bool false), (AV.bool false), (AV.bool false), (AV.bool false), (AV.bool false), (AV.bool false), (AV.bool false), (AV.bool false), (AV.bool false), (AV.bool false), (AV.bool false), (AV.bool false), (AV.bool false), (AV.bool false), (AV.bool false), (AV.bool false), (AV.bool false), (AV.bool false), (AV.bool false), (AV.bool false), (AV.bool false), (AV.bool false), (AV.bool false), (AV.bool false), (AV.bool false), (AV.bool false), (AV.bool false), (AV.bool false), (AV.bool false), (AV.bool false), (AV.bool false), (AV.bool false), (AV.bool false), (AV.bool false), (AV.bool false), (AV.bool false), (AV.bool false), (AV.bool false), (AV.bool false), (AV.bool false), (AV.bool false), (AV.bool false), (AV.bool false), (AV.bool false), (AV.bool false), (AV.bool false), (AV.bool false), (AV.bool false), (AV.bool false), (AV.bool false), (AV.bool false), (AV.bool false), (AV.bool false), (AV.bool false), (AV.bool false), (AV.bool false), (AV.bool false), (AV.bool false), (AV.bool false), (AV.bool false), (AV.bool false), (AV.bool false), (AV.bool false), (AV.bool false), (AV.bool false), (AV.bool false), (AV.bool false), (AV.bool false), (AV.bool false), (AV.bool false), (AV.bool false), (AV.bool false), (AV.bool false), (AV.bool false), (AV.bool false), (AV.bool false), (AV.bool false), (AV.bool false), (AV.bool false), (AV.bool false), (AV.bool false), (AV.bool false), (AV.bool false), (AV.bool false), (AV.bool false), (AV.bool false), (AV.bool false), (AV.bool false), (AV.bool false), (AV.bool false), (AV.bool false), (AV.bool false), (AV.bool false), (AV.bool false), (AV.bool false), (AV.bool false), (AV.bool false), (AV.bool false), (AV.bool false), (AV.bool false), (AV.bool false), (AV.bool false), (AV.bool false), (AV.bool false), (AV.bool false), (AV.bool false), (AV.bool false), (AV.bool false), (AV.bool false), (AV.bool false), (AV.bool false), (AV.bool false), (AV.bool false), (AV.bool false), (AV.bool false), (AV.bool false), (AV.bool false), (AV.bool false), (AV.bool false), (AV.bool false), (AV.bool false), (AV.bool false), (AV.bool false), (AV.bool false), (AV.bool false), (AV.bool false), (AV.bool false), (AV.bool false), (AV.bool false), (AV.bool false), (AV.bool false), (AV.bool false), (AV.bool false), (AV.bool false), (AV.bool false), (AV.bool false), (AV.bool false), (AV.bool false), (AV.bool false), (AV.bool false), (AV.bool false), (AV.bool false), (AV.bool false), (AV.bool false), (AV.bool false), (AV.bool false), (AV.bool false), (AV.bool false), (AV.bool false), (AV.bool false), (AV.bool false), (AV.bool false), (AV.bool false), (AV.bool false), (AV.bool false), (AV.bool false), (AV.bool false), (AV.bool false), (AV.bool false), (AV.bool false), (AV.bool false), (AV.bool false), (AV.bool false), (AV.bool false), (AV.bool false), (AV.bool false), (AV.bool false), (AV.bool false), (AV.bool false), (AV.bool false), (AV.bool false), (AV.bool false), (AV.bool false), (AV.bool false), (AV.bool false), (AV.bool false), (AV.bool false), (AV.bool false), (AV.bool false), (AV.bool false), (AV.bool false), (AV.bool false), (AV.bool false), (AV.bool false), (AV.bool false), (AV.bool false), (AV.bool false), (AV.bool false), (AV.bool false), (AV.bool false), (AV.bool false), (AV.bool false), (AV.bool false), (AV.bool false), (AV.bool false), (AV.bool false), (AV.bool false), (AV.bool false), (AV.bool false), (AV.bool false), (AV.bool false), (AV.bool false), (AV.bool false), (AV.bool false), (AV.bool false), (AV.bool false), (AV.bool false), (AV.bool false), (AV.bool false), (AV.bool false), (AV.bool false), (AV.bool false), (AV.bool false), (AV.bool false), (AV.bool false), (AV.bool false), (AV.bool false), (AV.bool false), (AV.bool false), (AV.bool false), (AV.bool false), (AV.bool false), (AV.bool false), (AV.bool false), (AV.bool false), (AV.bool false), (AV.bool false), (AV.bool false), (AV.bool false), (AV.bool false), (AV.bool false), (AV.bool false), (AV.bool false), (AV.bool false), (AV.bool false), (AV.bool false), (AV.bool false), (AV.bool false), (AV.bool false), (AV.bool false), (AV.bool false), (AV.bool false), (AV.bool false), (AV.bool false), (AV.bool false), (AV.bool false), (AV.bool false), (AV.bool false), (AV.bool false), (AV.bool false), (AV.bool false), (AV.bool false), (AV.bool false), (AV.bool false), (AV.bool false), (AV.bool false), (AV.bool false), (AV.bool false), (AV.bool false), (AV.bool false), (AV.bool false), (AV.bool false), (AV.bool false), (AV.bool false), (AV.bool false), (AV.bool false), (AV.bool false), (AV.bool false), (AV.bool false), (AV.bool false), (AV.bool false), (AV.bool false), (AV.bool false), (AV.bool false), (AV.bool false), (AV.bool false), (AV.bool false), (AV.bool false), (AV.bool false), (AV.bool false), (AV.bool false), (AV.bool false), (AV.bool false), (AV.bool false), (AV.bool false), (AV.bool false), (AV.bool false), (AV.bool false), (AV.bool false), (AV.bool false), (AV.bool false), (AV.bool false), (AV.bool false), (AV.bool false), (AV.bool false), (AV.bool false), (AV.bool false), (AV.bool false), (AV.bool false), (AV.bool false), (AV.bool false), (AV.bool false), (AV.bool false), (AV.bool false), (AV.bool false), (AV.bool false), (AV.bool false), (AV.bool false), (AV.bool false), (AV.bool false), (AV.bool false), (AV.bool false), (AV.bool false), (AV.bool false), (AV.bool false), (AV.bool false), (AV.bool false), (AV.bool false), (AV.bool false), (AV.bool false), (AV.bool false), (AV.bool false), (AV.bool false), (AV.bool false), (AV.bool false), (AV.bool false), (AV.bool false), (AV.bool false), (AV.bool false), (AV.bool false), (AV.bool false), (AV.bool false), (AV.bool false), (AV.bool false), (AV.bool false), (AV.bool false), (AV.bool false), (AV.bool false), (AV.bool false), (AV.bool false), (AV.bool false), (AV.bool false), (AV.bool false), (AV.bool false), (AV.bool false), (AV.bool false), (AV.bool false), (AV.bool false), (AV.bool false), (AV.bool false), (AV.bool false), (AV.bool false), (AV.bool false), (AV.bool false), (AV.bool false), (AV.bool false), (AV.bool false), (AV.bool false), (AV.bool false), (AV.bool false)] (Sh.agg [Sh.arr]) []),
  (TD.mk TK.fn 1 8 [] Sh.any []),
  (TD.mk (TK.ptr 47) 1 8 [AV.nilp] Sh.any []),
  (TD.mk TK.fn 1 8 [] Sh.any []),
  (TD.mk (TK.int IntKind.u64) 1 8 [(AV.int IntKind.u64 0)] (Sh.int IntKind.u64) []),
  (TD.mk TK.fn 1 8 [] Sh.any []),
  (TD.mk TK.fn 1 8 [] Sh.any []),
  (TD.mk (TK.struct [(0, 17), (1, 17), (2, 17), (3, 9)]) 4 40 [AV.nilp, AV.nilp, AV.nilp, (AV.str [])] (Sh.agg [Sh.any, Sh.any, Sh.any, Sh.str]) []),
  (TD.mk (TK.struct [(0, 17), (1, 17), (2, 17), (3, 9)]) 4 40 [AV.nilp, AV.nilp, AV.nilp, (AV.str [])] (Sh.agg [Sh.any, Sh.any, Sh.any, Sh.str]) []),
  (TD.mk (TK.array 0 16) 0 0 [] (Sh.agg []) []),
  (TD.mk (TK.struct [(0, 146)]) 0 0 [] (Sh.agg []) []),
  (TD.mk (TK.struct [(0, 146)]) 0 0 [] (Sh.agg []) []),
  (TD.mk TK.fn 1 8 [] Sh.any []),
  (TD.mk (TK.int IntKind.u32) 1 4 [(AV.int IntKind.u32 0)] (Sh.int IntKind.u32) []),
  (TD.mk (TK.int IntKind.u8) 1 1 [(AV.int IntKind.u8 0)] (Sh.int IntKind.u8) []),
  (TD.mk (TK.int IntKind.u8) 1 1 [(AV.int IntKind.u8 0)] (Sh.int IntKind.u8) []),
  (TD.mk TK.fn 1 8 [] Sh.any []),
  (TD.mk (TK.ptr 5) 1 8 [AV.nilp] Sh.any []),
  (TD.mk (TK.int IntKind.i32) 1 4 [(AV.int IntKind.i32 0)] (Sh.int IntKind.i32) []),
  (TD.mk (TK.int IntKind.i32) 1 4 [(AV.int IntKind.i32 0)] (Sh.int IntKind.i32) []),
  (TD.mk (TK.struct [(0, 12), (1, 12), (2, 150), (3, 151), (4, 5), (5, 5), (6, 152), (7, 153), (8, 154), (9, 155), (10, 156)]) 11 48 [] (Sh.agg [(Sh.int IntKind.u64), (Sh.int IntKind.u64), (Sh.int IntKind.u32), (Sh.int IntKind.u8), (Sh.int IntKind.u8), (Sh.int IntKind.u8), (Sh.int IntKind.u8), Sh.any, Sh.any, (Sh.int IntKind.i32), (Sh.int IntKind.i32)]) []),
  (TD.mk (TK.struct [(0, 12), (1, 12), (2, 150), (3, 151), (4, 5), (5, 5), (6, 152), (7, 153), (8, 154), (9, 155), (10, 156)]) 11 48 [] (Sh.agg [(Sh.int IntKind.u64), (Sh.int IntKind.u64), (Sh.int IntKind.u32), (Sh.int IntKind.u8), (Sh.int IntKind.u8), (Sh.int IntKind.u8), (Sh.int IntKind.u8), Sh.any, Sh.any, (Sh.int IntKind.i32), (Sh.int IntKind.i32)]) []),
  (TD.mk TK.fn 1 8 [] Sh.any []),
  (TD.mk TK.other 1 8 [AV.nilp] Sh.any [])]
def fnTab : List Bool := [false, false, true, true, true, true, true, true, true, true, true, true, true, true, true, true, true, true, true, true, true, true, true, true, true, true, true, true, true, true, true, true, true, true, true, true, true, true, true, true, false, true, true, true, true, true, true, true, true, true, true, true, true, true, true, true, true, true, true, true, true, true, true, true, false, true, true, true, true, true, true, true, true, true, true, true, true, true, true, true, true, true, true, true, true, false, false, false, false, false, false, false, false, false, false, false, false, false, false, false, false, false]
def shTab : List (List Sh) := [
  [Sh.any],
  [Sh.any],
  [(Sh.int IntKind.i64)],
  [(Sh.int IntKind.i64)],
  [Sh.bool],
  [(Sh.int IntKind.u8)],
  [(Sh.int IntKind.u8)],
  [(Sh.int IntKind.i64), (Sh.int IntKind.i64), Sh.bool, (Sh.int IntKind.u8)],
  [(Sh.int IntKind.i64), (Sh.int IntKind.i64), Sh.bool, (Sh.int IntKind.u8)],
  [Sh.str],
  [Sh.str],
  [Sh.str],
  [(Sh.int IntKind.u64)],
  [Sh.str, (Sh.int IntKind.u64)],
  [Sh.str, (Sh.int IntKind.u64)],
  [Sh.any],
  [Sh.any],
  [Sh.any],
  [Sh.any],
  [Sh.any],
  [Sh.any],
  [(Sh.int IntKind.i32)],
  [(Sh.lst 2)],
  [(Sh.int IntKind.i64), (Sh.lst 2)],
  [(Sh.int IntKind.i64), (Sh.lst 2)],
  [(Sh.lst 5)],
  [Sh.any],
  [Sh.any],
  [(Sh.lst 16)],
  [(Sh.int IntKind.i64)],
  [Sh.any],
  [Sh.any],
  [Sh.any],
  [Sh.any],
  [(Sh.lst 1)],
  [Sh.any],
  [Sh.any],
  [Sh.any],
  [(Sh.int IntKind.i64), (Sh.int IntKind.i64), (Sh.lst 2), (Sh.lst 16), (Sh.lst 16)],
  [(Sh.int IntKind.i64), (Sh.int IntKind.i64), (Sh.lst 2), (Sh.lst 16), (Sh.lst 16)],
  [Sh.any],
  [Sh.any],
  [Sh.any],
  [Sh.any],
  [Sh.any],
  [Sh.any],
  [(Sh.int IntKind.i64), (Sh.int IntKind.i64), (Sh.int IntKind.i64), (Sh.int IntKind.i64), (Sh.int IntKind.i64)],
  [(Sh.int IntKind.i64), (Sh.int IntKind.i64), (Sh.int IntKind.i64), (Sh.int IntKind.i64), (Sh.int IntKind.i64)],
  [(Sh.int IntKind.i64), Sh.str],
  [(Sh.int IntKind.i64), Sh.str],
  [(Sh.lst 5)],
  [(Sh.int IntKind.i64), (Sh.int IntKind.i64), (Sh.int IntKind.i64), (Sh.int IntKind.i64), (Sh.int IntKind.i64), (Sh.int IntKind.i64), (Sh.int IntKind.i64), (Sh.int IntKind.i64), (Sh.int IntKind.i64), (Sh.int IntKind.i64), (Sh.int IntKind.i64), (Sh.int IntKind.i64), (Sh.int IntKind.i64), Sh.str, (Sh.lst 1), (Sh.lst 5)],
  [(Sh.int IntKind.i64), (Sh.int IntKind.i64), (Sh.int IntKind.i64), (Sh.int IntKind.i64), (Sh.int IntKind.i64), (Sh.int IntKind.i64), (Sh.int IntKind.i64), (Sh.int IntKind.i64), (Sh.int IntKind.i64), (Sh.int IntKind.i64), (Sh.int IntKind.i64), (Sh.int IntKind.i64), (Sh.int IntKind.i64), Sh.str, (Sh.lst 1), (Sh.lst 5)],
  [Sh.any],
  [Sh.any],
  [(Sh.lst 5), (Sh.int IntKind.i64)],
  [(Sh.lst 5), (Sh.int IntKind.i64)],
  [Sh.any],
  [Sh.any],
  [(Sh.int IntKind.i64), (Sh.lst 5)],
  [(Sh.int IntKind.i64), (Sh.lst 5)],
  [Sh.any],
  [Sh.any],
  [Sh.any],
  [Sh.any],
  [Sh.any],
  [Sh.any],
  [Sh.any],
  [Sh.any],
  [Sh.any],
  [(Sh.int IntKind.i64), (Sh.int IntKind.i64), (Sh.int IntKind.i64), (Sh.int IntKind.i64), (Sh.int IntKind.i64), (Sh.int IntKind.i64), (Sh.int IntKind.i64), (Sh.int IntKind.i64), (Sh.int IntKind.i64), (Sh.int IntKind.i64), (Sh.int IntKind.i64), (Sh.int IntKind.i64), (Sh.int IntKind.i64), Sh.str, (Sh.lst 1), (Sh.lst 5), (Sh.int IntKind.i64), (Sh.lst 2), (Sh.int IntKind.i64), (Sh.int IntKind.i64)],
  [(Sh.int IntKind.i64), (Sh.int IntKind.i64), (Sh.int IntKind.i64), (Sh.int IntKind.i64), (Sh.int IntKind.i64), (Sh.int IntKind.i64), (Sh.int IntKind.i64), (Sh.int IntKind.i64), (Sh.int IntKind.i64), (Sh.int IntKind.i64), (Sh.int IntKind.i64), (Sh.int IntKind.i64), (Sh.int IntKind.i64), Sh.str, (Sh.lst 1), (Sh.lst 5), (Sh.int IntKind.i64), (Sh.lst 2), (Sh.int IntKind.i64), (Sh.int IntKind.i64)],
  [Sh.any],
  [Sh.any],
  [Sh.any],
  [Sh.any],
  [Sh.arr],
  [Sh.any],
  [(Sh.lst 1)],
  [Sh.any],
  [Sh.any],
  [Sh.any],
  [Sh.any],
  [Sh.any],
  [(Sh.lst 1)],
  [Sh.any],
  [(Sh.int IntKind.i64)],
  [Sh.any],
  [Sh.any],
  [Sh.any],
  [Sh.any],
  [Sh.any],
  [Sh.any],
  [Sh.any],
  [Sh.any],
  [Sh.any],
  [Sh.any],
  [Sh.any],
  [Sh.any],
  [Sh.any],
  [Sh.any],
  [Sh.any],
  [Sh.any],
  [Sh.any],
  [Sh.any],
  [(Sh.lst 1)],
  [Sh.any],
  [Sh.any],
  [Sh.any],
  [Sh.any],
  [Sh.any],
  [Sh.any],
  [(Sh.int IntKind.i64), (Sh.int IntKind.i64), (Sh.int IntKind.i64), (Sh.int IntKind.i64), (Sh.int IntKind.i64), (Sh.int IntKind.i64), (Sh.int IntKind.i64)],
  [Sh.any],
  [Sh.any],
  [Sh.any],
  [Sh.any],
  [Sh.any],
  [Sh.any],
  [Sh.any],
  [Sh.any],
  [Sh.any],
  [Sh.any],
  [Sh.any],
  [(Sh.lst 1), (Sh.int IntKind.i64)],
  [(Sh.lst 1), (Sh.int IntKind.i64)],
  [Sh.any],
  [(Sh.int IntKind.u64)],
  [Sh.any],
  [Sh.any],
  [Sh.any],
  [Sh.any],
  [Sh.any],
  [Sh.any],
  [Sh.any],
  [Sh.any],
  [Sh.any],
  [Sh.arr],
  [Sh.any],
  [Sh.any],
  [Sh.any],
  [(Sh.int IntKind.u64)],
  [Sh.any],
  [Sh.any],
  [Sh.any, Sh.any, Sh.any, Sh.str],
  [Sh.any, Sh.any, Sh.any, Sh.str],
  [],
  [],
  [],
  [Sh.any],
  [(Sh.int IntKind.u32)],
  [(Sh.int IntKind.u8)],
  [(Sh.int IntKind.u8)],
  [Sh.any],
  [Sh.any],
  [(Sh.int IntKind.i32)],
  [(Sh.int IntKind.i32)],
  [(Sh.int IntKind.u64), (Sh.int IntKind.u64), (Sh.int IntKind.u32), (Sh.int IntKind.u8), (Sh.int IntKind.u8), (Sh.int IntKind.u8), (Sh.int IntKind.u8), Sh.any, Sh.any, (Sh.int IntKind.i32), (Sh.int IntKind.i32)],
  [(Sh.int IntKind.u64), (Sh.int IntKind.u64), (Sh.int IntKind.u32), (Sh.int IntKind.u8), (Sh.int IntKind.u8), (Sh.int IntKind.u8), (Sh.int IntKind.u8), Sh.any, Sh.any, (Sh.int IntKind.i32), (Sh.int IntKind.i32)],
  [Sh.any],
  [Sh.any]]
def resTab : List (List Sh) := [
  [],
  [],
  [],
  [Sh.bool],
  [Sh.bool],
  [Sh.bool],
  [(Sh.lst 16), (Sh.int IntKind.i64)],
  [(Sh.agg [(Sh.int IntKind.i64), (Sh.lst 2)]), (Sh.int IntKind.i64), (Sh.int IntKind.i64)],
  [(Sh.lst 1), (Sh.int IntKind.i64)],
  [Sh.bool],
  [Sh.bool],
  [Sh.bool],
  [(Sh.agg [(Sh.int IntKind.i64), (Sh.lst 2)]), (Sh.int IntKind.i64)],
  [(Sh.agg [(Sh.int IntKind.i64), (Sh.lst 2)])],
  [(Sh.agg [(Sh.int IntKind.i64), (Sh.lst 2)]), (Sh.int IntKind.i64)],
  [(Sh.lst 1), Sh.bool],
  [Sh.bool],
  [Sh.bool],
  [Sh.bool],
  [Sh.bool],
  [Sh.bool],
  [Sh.bool],
  [(Sh.int IntKind.i64), (Sh.int IntKind.i64)],
  [(Sh.lst 5)],
  [Sh.bool],
  [(Sh.int IntKind.i64)],
  [(Sh.lst 2)],
  [(Sh.lst 2)],
  [Sh.bool],
  [(Sh.int IntKind.i64)],
  [Sh.bool],
  [(Sh.lst 1), (Sh.int IntKind.i64)],
  [(Sh.lst 16), (Sh.int IntKind.i64)],
  [(Sh.int IntKind.i64)],
  [Sh.bool],
  [(Sh.lst 1)],
  [Sh.bool],
  [(Sh.agg [(Sh.int IntKind.i64), (Sh.int IntKind.i64), (Sh.int IntKind.i64), (Sh.int IntKind.i64), (Sh.int IntKind.i64), (Sh.int IntKind.i64), (Sh.int IntKind.i64), (Sh.int IntKind.i64), (Sh.int IntKind.i64), (Sh.int IntKind.i64), (Sh.int IntKind.i64), (Sh.int IntKind.i64), (Sh.int IntKind.i64), Sh.str, (Sh.lst 1), (Sh.lst 5)])],
  [Sh.bool],
  [(Sh.int IntKind.i64)],
  [Sh.bool],
  [],
  [(Sh.lst 5)],
  [(Sh.agg [(Sh.int IntKind.i64), (Sh.int IntKind.i64), (Sh.int IntKind.i64), (Sh.int IntKind.i64), (Sh.int IntKind.i64)])],
  [(Sh.lst 5)],
  [(Sh.lst 5)],
  [(Sh.lst 5), (Sh.int IntKind.i64), Sh.bool],
  [(Sh.lst 5)],
  [(Sh.int IntKind.i64)],
  [(Sh.lst 1), (Sh.int IntKind.i64)],
  [(Sh.lst 1), (Sh.int IntKind.i64)],
  [Sh.any],
  [],
  [],
  [(Sh.lst 1), (Sh.int IntKind.i64)],
  [(Sh.agg [(Sh.int IntKind.i64), (Sh.int IntKind.i64), (Sh.int IntKind.i64), (Sh.int IntKind.i64), (Sh.int IntKind.i64), (Sh.int IntKind.i64), (Sh.int IntKind.i64), (Sh.int IntKind.i64), (Sh.int IntKind.i64), (Sh.int IntKind.i64), (Sh.int IntKind.i64), (Sh.int IntKind.i64), (Sh.int IntKind.i64), Sh.str, (Sh.lst 1), (Sh.lst 5)]), (Sh.int IntKind.i64)],
  [],
  [Sh.bool],
  [Sh.bool],
  [Sh.bool],
  [Sh.bool],
  [(Sh.int IntKind.i64)],
  [Sh.bool],
  [],
  [Sh.bool],
  [],
  [Sh.bool],
  [(Sh.agg [(Sh.int IntKind.i64), (Sh.int IntKind.i64), (Sh.int IntKind.i64), (Sh.int IntKind.i64), (Sh.int IntKind.i64)]), Sh.bool],
  [(Sh.int IntKind.i64)],
  [(Sh.int IntKind.i64)],
  [],
  [],
  [],
  [],
  [(Sh.lst 1)],
  [(Sh.agg [(Sh.int IntKind.i64), (Sh.int IntKind.i64), (Sh.int IntKind.i64), (Sh.int IntKind.i64), (Sh.int IntKind.i64)]), (Sh.int IntKind.i64)],
  [(Sh.lst 1)],
  [(Sh.agg [(Sh.int IntKind.i64), (Sh.lst 5)]), Sh.bool],
  [(Sh.int IntKind.i64), (Sh.int IntKind.i64)],
  [],
  [],
  [(Sh.int IntKind.i64)],
  [],
  [],
  [],
  [Sh.str],
  [],
  [Sh.str],
  [],
  [Sh.str],
  [],
  [Sh.str],
  [],
  [Sh.str],
  [],
  [Sh.str],
  [],
  [(Sh.int IntKind.i64)],
  [Sh.str],
  [],
  [],
  [Sh.str]]
theorem zqs : (List.range tyTab.length).map (tdOf Try.prog) = tyTab := by kernel_rfl
theorem zqt : (List.range fnTab.length).map (fnOf Try.prog) = fnTab := by kernel_rfl
end Go.Proofs.Ytjkjhgfiaodgmaa.V
namespace Go.Proofs.Ytjkjhgfiaodgmaa.V
open Go Go.RowKit Go.Lib
variable {P : Program}
theorem zcl (w : World) {o : Oper} {a : Act} {K : Act → World → Prop} {Q : Exit → Act → World → Prop} (d s : Operand) (t t' : TypeId) (ho : o.op = .call { callee := .builtin .copy, args := #[d, s], argTypes := #[t, t'] }) (v u : Value) (hd : a.eval d = v) (hs : a.eval s = u) {v' : Value} {w' : World}
    (hr : (Builtin.copy_ #[t, t'] o.type #[v, u]).run P w = .ok v' w') (h : K (a.put o.dst v') w') : o.wp P a w K Q := by
  unfold Oper.wp execOp; simp only [ho, resolve, invoke, builtin, Sem.run_bind, Sem.run_pure, Result.andThen_ok, List.map_toArray, List.map_cons, List.map_nil, hd, hs, hr]; exact h
theorem z8o (w : World) {o : Oper} {a : Act} {K : Act → World → Prop} {Q : Exit → Act → World → Prop} (d s : Operand) (t t' : TypeId) (ho : o.op = .call { callee := .builtin .append, args := #[d, s], argTypes := #[t, t'] }) (v u : Value) (hd : a.eval d = v) (hs : a.eval s = u) {v' : Value} {w' : World}
    (hr : (Builtin.append_ #[t, t'] o.type #[v, u]).run P w = .ok v' w') (h : K (a.put o.dst v') w') : o.wp P a w K Q := by
  unfold Oper.wp execOp; simp only [ho, resolve, invoke, builtin, Sem.run_bind, Sem.run_pure, Result.andThen_ok, List.map_toArray, List.map_cons, List.map_nil, hd, hs, hr]; exact h
theorem zjv (w : World) {o : Oper} {a : Act} {K : Act → World → Prop} {Q : Exit → Act → World → Prop} (d : Operand) (t : TypeId) (ho : o.op = .call { callee := .builtin .clear, args := #[d], argTypes := #[t] }) (v : Value) (hd : a.eval d = v) {v' : Value} {w' : World}
    (hr : (Builtin.clear_ #[t] o.type #[v]).run P w = .ok v' w') (h : K (a.put o.dst v') w') : o.wp P a w K Q := by
  unfold Oper.wp execOp; simp only [ho, resolve, invoke, builtin, Sem.run_bind, Sem.run_pure, Result.andThen_ok, List.map_toArray, List.map_cons, List.map_nil, hd, hr]; exact h
theorem z38 (w : World) {ops : Array Oper} {rest : List Oper} {o : Oper} {a : Act} {Q : Exit → Act → World → Prop} (hgd : o.guard = none) (d s : Operand) (t t' : TypeId) (ho : o.op = .call { callee := .builtin .copy, args := #[d, s], argTypes := #[t, t'] }) (v u : Value) (hd : a.eval d = v) (hs : a.eval s = u) {v' : Value} {w' : World}
    (hr : (Builtin.copy_ #[t, t'] o.type #[v, u]).run P w = .ok v' w') (h : wpList P ops Q rest (a.put o.dst v') w') : wpList P ops Q (o :: rest) a w :=
  wpList_plain hgd fun _ hK => zcl w d s t t' ho v u hd hs hr (hK _ _ h)
theorem z1r (w : World) {ops : Array Oper} {rest : List Oper} {o : Oper} {a : Act} {Q : Exit → Act → World → Prop} (hgd : o.guard = none) (d s : Operand) (t t' : TypeId) (ho : o.op = .call { callee := .builtin .append, args := #[d, s], argTypes := #[t, t'] }) (v u : Value) (hd : a.eval d = v) (hs : a.eval s = u) {v' : Value} {w' : World}
    (hr : (Builtin.append_ #[t, t'] o.type #[v, u]).run P w = .ok v' w') (h : wpList P ops Q rest (a.put o.dst v') w') : wpList P ops Q (o :: rest) a w :=
  wpList_plain hgd fun _ hK => z8o w d s t t' ho v u hd hs hr (hK _ _ h)
theorem z32 (w : World) {ops : Array Oper} {rest : List Oper} {o : Oper} {a : Act} {Q : Exit → Act → World → Prop} (hgd : o.guard = none) (d : Operand) (t : TypeId) (ho : o.op = .call { callee := .builtin .clear, args := #[d], argTypes := #[t] }) (v : Value) (hd : a.eval d = v) {v' : Value} {w' : World}
    (hr : (Builtin.clear_ #[t] o.type #[v]).run P w = .ok v' w') (h : wpList P ops Q rest (a.put o.dst v') w') : wpList P ops Q (o :: rest) a w :=
  wpList_plain hgd fun _ hK => zjv w d t ho v hd hr (hK _ _ h)
theorem z39 {ops : Array Oper} {o : Oper} {a : Act} {w : World} {K : Act → World → Prop} {Q : Exit → Act → World → Prop} {E : Prop} (hg : o.guard = none) (d x : Operand) (dT sT : TypeId) (hop : o.op = Op.call { callee := Callee.builtin Builtin.copy, args := #[d, x], argTypes := #[dT, sT] })
    (v u : Value) (hd : a.eval d = v) (hx : a.eval x = u) {v' : Value} {w' : World} (hr : (Builtin.copy_ #[dT, sT] o.type #[v, u]).run P w = .ok v' w') (hK : K (a.put o.dst v') w') : if Region.wanted o (yielded ops a.tmps) = true then Oper.wp P o a w K Q else E := by
  have hw : Region.wanted o (yielded ops a.tmps) = true := by simp [Region.wanted, hg]
  rw [if_pos hw]; exact zcl w d x dT sT hop v u hd hx hr hK
theorem zer {ops : Array Oper} {o : Oper} {a : Act} {w : World} {K : Act → World → Prop} {Q : Exit → Act → World → Prop} {E : Prop} (hg : o.guard = none) (d x : Operand) (dT sT : TypeId) (hop : o.op = Op.call { callee := Callee.builtin Builtin.append, args := #[d, x], argTypes := #[dT, sT] })
    (v u : Value) (hd : a.eval d = v) (hx : a.eval x = u) {v' : Value} {w' : World} (hr : (Builtin.append_ #[dT, sT] o.type #[v, u]).run P w = .ok v' w') (hK : K (a.put o.dst v') w') : if Region.wanted o (yielded ops a.tmps) = true then Oper.wp P o a w K Q else E := by
  have hw : Region.wanted o (yielded ops a.tmps) = true := by simp [Region.wanted, hg]
  rw [if_pos hw]; exact z8o w d x dT sT hop v u hd hx hr hK
def spl (cur : Array Value) (o : Nat) (news : List Value) : Array Value := (cur.toList.take o ++ news ++ cur.toList.drop (o + news.length)).toArray
theorem zu (cur : Array Value) (o : Nat) (news : List Value) (h : o + news.length ≤ cur.size) : (spl cur o news).size = cur.size := by
  simp [spl]; omega
theorem zr (cur : Array Value) (o : Nat) (news : List Value) : (spl cur o news).toList = cur.toList.take o ++ news ++ cur.toList.drop (o + news.length) := by simp [spl]
theorem zo5 {w : World} {sz n cap g off : Nat} {cur : Array Value} {te : TypeId} {fr : Nat × Nat} (hg : w.heap[g]? = some (.cells cur te fr)) (hfit : off + n * sz ≤ cur.size) (h1 : ∀ u ∈ (cur.toList.drop off).take (n * sz), u.oneCell' = true) (a : Option Addr) (ha : n ≠ 0 → a = some ⟨g, off, none⟩) :
    SrcM P w sz n (.slice a n cap) ((cur.toList.drop off).take (n * sz)) := by
  refine z46 (by rw [List.length_take, List.length_drop, Array.length_toList]; omega) h1 fun hn => ⟨g, off, ha hn, fun j v hj => ?_⟩
  rw [List.getElem?_take] at hj
  split at hj
  · rw [List.getElem?_drop] at hj
    rw [cell_of_row w g (off + j) cur te fr hg]
    simpa using hj
  · cases hj
theorem z13 {w : World} {sz n cap g off cnt : Nat} {cur : Array Value} {te : TypeId} {fr : Nat × Nat} (hg : w.heap[g]? = some (.cells cur te fr)) (hfit : off + cnt * sz ≤ cur.size) :
    (Builtin.firstCells sz cnt (.slice (some ⟨g, off, none⟩) n cap)).run P w = .ok ((cur.toList.drop off).take (cnt * sz)).toArray w := by
  refine run_firstCells_some w sz cnt _ _ _ _ (by rw [List.length_take, List.length_drop, Array.length_toList]; omega) fun j v hj => ?_
  rw [List.getElem?_take] at hj
  split at hj
  · rw [List.getElem?_drop] at hj
    rw [z1y, cell_of_row w g (off + j) cur te fr hg]
    simpa using hj
  · cases hj
theorem zv {w : World} {t t' ty e : TypeId} {i : TypeInfo} (ht : P.underlying t = some (.slice e)) (hi : P.info? e = some i) {g o dn dc k cnt : Nat} {cur : Array Value} {te : TypeId} (hg : w.heap[g]? = some (.cells cur te (0, 0))) {b : Option Addr} {c : Nat} {news : List Value}
    (hcnt : Nat.min k dn = cnt) (hc : (Builtin.firstCells i.size cnt (.slice b k c)).run P w = .ok news.toArray w) (h1 : ∀ u ∈ news, u.oneCell' = true) (hfit : o + news.length ≤ cur.size) :
    (Builtin.copy_ #[t, t'] ty #[.slice (some ⟨g, o, none⟩) dn dc, .slice b k c]).run P w = .ok (goInt cnt) (w.setRow g (spl cur o news)) := by
  have hst := run_storeCells_at P g o te news 0 cur w hg (by omega) h1
  simp only [Nat.add_zero] at hst; simp [Builtin.copy_, run_underlying ht, Builtin.lenOf, hcnt, sizeOf, typeInfo, hi, hc, hst, spl]
theorem z23 {w : World} {t ty e : TypeId} {i : TypeInfo} {z : Value} (ht : P.underlying t = some (.slice e)) (hi : P.info? e = some i) (hz : i.zero = some z) (hzs : z.cells.size = i.size) (hz1 : ∀ u ∈ z.cells, u.oneCell' = true) {g o n c : Nat} {cur : Array Value} {te : TypeId} (hg : w.heap[g]? = some (.cells cur te (0, 0))) (hfit : o + n * i.size ≤ cur.size) (hn : 0 < n) :
    (Builtin.clear_ #[t] ty #[.slice (some ⟨g, o, none⟩) n c]).run P w = .ok (.tuple #[]) (w.setRow g (spl cur o (Builtin.zeroCells z.cells n).toList)) := by
  have hl : (Builtin.zeroCells z.cells n).toList.length = n * i.size := by rw [Array.length_toList, size_zeroCells, hzs]
  have hst := run_storeCells_at P g o te (Builtin.zeroCells z.cells n).toList 0 cur w hg (by omega) (by
    intro u hu
    have hu : u ∈ Builtin.zeroCells z.cells n := by simpa using hu
    unfold Builtin.zeroCells at hu; rw [Array.mem_map] at hu; obtain ⟨k, hk, rfl⟩ := hu
    have hpos : 0 < z.cells.size := by
      have := Array.mem_range.1 hk
      rcases Nat.eq_zero_or_pos z.cells.size with h | h
      · rw [h, Nat.mul_zero] at this; omega
      · exact h
    have hlt := Nat.mod_lt k hpos; rw [getElem!_pos z.cells _ hlt]; exact hz1 _ (Array.getElem_mem hlt))
  simp only [Nat.add_zero] at hst
  obtain ⟨m, rfl⟩ : ∃ m, n = m + 1 := ⟨n - 1, by omega⟩
  simp [Builtin.clear_, run_underlying ht, zeroValue, typeInfo, hi, hz, hst, spl]
end Go.Proofs.Ytjkjhgfiaodgmaa.V
namespace Go.Proofs.Ytjkjhgfiaodgmaa.V
open Go Go.RowKit Go.Lib
def RowTo (w : World) (v : Value) (sz n : Nat) (xs : List Value) (e : Ending) (w' : World) : Prop :=
  ∃ v' te, e = .returned v' ∧ w'.ownsRow 0 te sz v' n xs ∧ w.grownBy w' v.ownBlock ∧ ∀ g, v'.ownBlock = some g → v.ownBlock = some g ∨ w.heap.size ≤ g
theorem z1b {w : World} {v : Value} {sz n : Nat} {xs : List Value} {te : TypeId} (h : w.ownsRow 0 te sz v n xs) : RowTo w v sz n xs (.returned v) w :=
  ⟨v, te, rfl, h, ⟨rfl, rfl, rfl, Nat.le_refl _, fun _ _ _ => rfl⟩, fun g hg => .inl hg⟩
theorem z1s {w W : World} {g n' cap sz : Nat} {xs : List Value} {te : TypeId} {cur cur' : Array Value} (hW : W = w.setRow g cur') (hg : w.heap[g]? = some (.cells cur te (0, 0))) (hs : cur'.size = cap * sz) (hn : n' ≤ cap) (hc : cap ≤ maxLen) (hx : cur'.toList.take (n' * sz) = xs) (w0 : World) (hw0 : w0.heap = w.heap ∧ w0.os = w.os ∧ w0.tape = w.tape ∧ w0.output = w.output) (m : Nat) :
    RowTo w0 (.slice (some ⟨g, 0, none⟩) m cap) sz n' xs (.returned (.slice (some ⟨g, 0, none⟩) n' cap)) W := by
  obtain ⟨e1, e2, e3, e4⟩ := hw0; subst hW; have hl : n' * sz ≤ cap * sz := Nat.mul_le_mul_right _ hn; refine ⟨_, te, rfl, ⟨?_, .inr ⟨g, cap, cur', rfl, Nat.zero_le _, setRow_heap w g cur cur' te (0, 0) hg, hn, hc, hs, hx⟩⟩, ⟨e2.symm, e3.symm, e4.symm, ?_, ?_⟩, fun g' h => .inl h⟩
  · rw [← hx, List.length_take, Array.length_toList]; omega
  · rw [size_setRow, e1]; exact Nat.le_refl _
  · intro k hk hne
    rw [setRow_other' w g k cur' (fun h => hne (by rw [h]; rfl)), e1]
theorem z16 (w : World) (g : Nat) (a b : Array Value) : (w.setRow g a).setRow g b = w.setRow g b := by
  unfold World.setRow
  congr 1
  simp only [Array.ext_iff, Array.size_modify, Array.getElem_modify, true_and]; intro i h1 h2
  by_cases hgi : g = i
  · subst hgi
    simp only [if_true]
    cases w.heap[g] <;> rfl
  · simp [hgi]
set_option maxHeartbeats 4000000 in
set_option maxRecDepth 1000000 in
theorem zo6 (g n cap i j : Nat) (te : TypeId) (cur : Array Value) (w : World) (hg : w.heap[g]? = some (.cells cur te (0, 0))) (hs : cur.size = cap * 5) (hn : n ≤ cap) (hc : cap ≤ maxLen) (h1 : ∀ u ∈ cur.toList.take (n * 5), u.oneCell' = true) (hi : i ≤ j) (hj : j ≤ n) :
    Calls Try.prog 45 #[.slice (some ⟨g, 0, none⟩) n cap, .int .i64 i, .int .i64 j] w (RowTo w (.slice (some ⟨g, 0, none⟩) n cap) 5 (n - (j - i)) (cur.toList.take (i * 5) ++ (cur.toList.drop (j * 5)).take ((n - j) * 5))) := by
  have hown : w.ownsRow 0 te 5 (.slice (some ⟨g, 0, none⟩) n cap) n (cur.toList.take (n * 5)) := ⟨by rw [List.length_take, Array.length_toList]; omega, .inr ⟨g, cap, cur, rfl, Nat.zero_le _, hg, hn, hc, hs, rfl⟩⟩
  unfold maxLen at hc
  by_cases heq : i = j
  · subst heq
    have e : cur.toList.take (i * 5) ++ (cur.toList.drop (i * 5)).take ((n - i) * 5) = cur.toList.take (n * 5) := by
      rw [← List.take_add]; congr 1; omega
    rw [e, Nat.sub_self, Nat.sub_zero]; have H := Lib.hid (z1b hown); clear hown hg hs h1 e
    rcases Nat.lt_or_ge i n with hin | hin
    · go_enter Try.func45, Try.ntmps45
      go_wp2
      all_goals (go_ret; exact H.out)
    · obtain rfl : n = i := by omega
      go_enter Try.func45, Try.ntmps45
      go_wp2
      all_goals (go_ret; exact H.out)
  · have hlt : i < j := by omega
    have hU : Try.prog.underlying 50 = some (.slice 47) := Try.underlying50
    obtain ⟨ti, hti, hz1, hz2, hz3⟩ := info_parts (by kernel_rfl : (Try.prog.info? 47).map (fun i => (i.zero, i.size, i.bytes)) = some (some (.agg #[.int .i64 0, .int .i64 0, .int .i64 0, .int .i64 0, .int .i64 0]), 5, 40))
    rcases (show j < cap ∨ cap = j by omega) with hjl | rfl
    rotate_left
    · obtain rfl : n = cap := by omega
      have hcl : ∀ ty c, (Builtin.clear_ #[50] ty #[.slice (some ⟨g, i * 5, none⟩) (n - i) c]).run Try.prog w.drew = .ok (.tuple #[]) (w.drew.setRow g (spl cur (i * 5) (Builtin.zeroCells #[Value.int .i64 0, .int .i64 0, .int .i64 0, .int .i64 0, .int .i64 0] (n - i)).toList)) := fun ty c =>
        z23 hU hti hz1 (by rw [hz2]; rfl) (by intro u hu; simp [Value.cells] at hu; rcases hu with rfl | rfl | rfl | rfl | rfl <;> rfl) (w := w.drew) (te := te) hg (by rw [hz2, hs]; omega) (by omega)
      have hzl : (Builtin.zeroCells #[Value.int .i64 0, .int .i64 0, .int .i64 0, .int .i64 0, .int .i64 0] (n - i)).toList.length = (n - i) * 5 := by rw [Array.length_toList, size_zeroCells]; rfl
      have Hend : RowTo w (.slice (some ⟨g, 0, none⟩) n n) 5 (n - (n - i)) (cur.toList.take (i * 5) ++ (cur.toList.drop (n * 5)).take ((n - n) * 5)) (.returned (.slice (some ⟨g, 0, none⟩) i n)) (w.drew.setRow g (spl cur (i * 5) (Builtin.zeroCells #[Value.int .i64 0, .int .i64 0, .int .i64 0, .int .i64 0, .int .i64 0] (n - i)).toList)) := by
        rw [show n - (n - i) = i by omega]
        refine z1s (w := w.drew) (n' := i) (cap := n) (sz := 5) (te := te) (cur := cur) rfl hg ?_ hi hc ?_ w ⟨rfl, rfl, rfl, rfl⟩ n
        · rw [zu _ _ _ (by omega), hs]
        · rw [zr]
          simp only [Nat.sub_self, Nat.zero_mul, List.take_zero, List.append_nil]
          rw [List.append_assoc, List.take_append_of_le_length (by rw [List.length_take, Array.length_toList]; omega), List.take_take, Nat.min_self]
      have Hcl := Lib.hid hcl; have HE := Lib.hid Hend
      have mixed : Try.prog.follows .mixedOrders = true := by kernel_rfl
      generalize (cur.toList.take (i * 5) ++ (cur.toList.drop (n * 5)).take ((n - n) * 5)) = xs at *; clear hcl Hend hzl hz1 hz2 hz3 hown hg hs h1 hti
      go_enter Try.func45, Try.ntmps45
      go_wp2_with fail
      go_region_law_o fail
      all_goals
        go_wp2_with (with_reducible refine z32 _ rfl (.tmp 31) 50 rfl (.slice (some ⟨g, i * 5, none⟩) (n - i) (n - i)) rfl (Hcl.out _ _) ?_)
        all_goals
          go_ret
          exact HE.out
    obtain ⟨news, hnews⟩ : ∃ news, news = (cur.toList.drop (j * 5)).take ((n - j) * 5) := ⟨_, rfl⟩
    have hnl : news.length = (n - j) * 5 := by rw [hnews, List.length_take, List.length_drop, Array.length_toList]; omega
    have hn1 : ∀ u ∈ news, u.oneCell' = true := by
      intro u hu; rw [hnews, List.take_drop] at hu; have := List.mem_of_mem_drop hu
      rw [show j * 5 + (n - j) * 5 = n * 5 by omega] at this
      exact h1 u this
    have hap : ∀ A c, (cap ≠ j → A = some (⟨g, j * 5, none⟩ : Addr)) → (Builtin.append_ #[50, 50] 50 #[.slice (some ⟨g, 0, none⟩) i cap, .slice A (n - j) c]).run Try.prog w.drew = .ok (.slice (some ⟨g, 0, none⟩) (i + (n - j)) cap) (w.drew.setRow g (spl cur (i * 5) news)) := fun A c hA => by
      have hcells : ∀ W : World, W.heap = w.drew.heap → (Builtin.firstCells 5 (n - j) (.slice A (n - j) c)).run Try.prog W = .ok news.toArray W := fun W hW => by
        have hgW : W.heap[g]? = some (.cells cur te (0, 0)) := by rw [hW]; exact hg
        have hs1 : SrcM Try.prog W 5 (n - j) (.slice A (n - j) c) news := by
          rw [hnews]
          exact zo5 (te := te) (fr := (0, 0)) hgW (by omega) (by rw [← hnews]; exact hn1) A fun h0 => hA (by omega)
        have hsl := hs1.cells (n - j) (Nat.le_refl _)
        rwa [List.take_of_length_le (by omega)] at hsl
      have := z2g (P := Try.prog) (w := w.drew) (t := 50) (u := 50) (ty := 50) (e := 47) (e' := te) (i := ti) hU hU (.inl ⟨_, rfl⟩) hti (g := g) (sLen := i) (sCap := cap) (n := n - j) (cur := cur) hg (y := .slice A (n - j) c) (news := news)
        ⟨fun W hW => by simp [Builtin.lenOf], fun W hW => by rw [hz2]; exact hcells W hW, by rw [hnl, hz2], hn1⟩ (by omega) (by rw [hz2]; omega)
      rw [hz2] at this; exact this
    obtain ⟨W1, hW1⟩ : ∃ W1, W1 = w.drew.setRow g (spl cur (i * 5) news) := ⟨_, rfl⟩
    have hg1 : W1.heap[g]? = some (.cells (spl cur (i * 5) news) te (0, 0)) := by rw [hW1]; exact setRow_heap _ g cur _ te (0, 0) hg
    have hsz1 : (spl cur (i * 5) news).size = cap * 5 := by rw [zu _ _ _ (by omega), hs]
    have hcl : ∀ ty c, (Builtin.clear_ #[50] ty #[.slice (some ⟨g, (i + (n - j)) * 5, none⟩) (n - (i + (n - j))) c]).run Try.prog W1 = .ok (.tuple #[]) (W1.setRow g (spl (spl cur (i * 5) news) ((i + (n - j)) * 5) (Builtin.zeroCells #[Value.int .i64 0, .int .i64 0, .int .i64 0, .int .i64 0, .int .i64 0] (n - (i + (n - j)))).toList)) := fun ty c =>
      z23 hU hti hz1 (by rw [hz2]; rfl) (by intro u hu; simp [Value.cells] at hu; rcases hu with rfl | rfl | rfl | rfl | rfl <;> rfl) hg1 (by rw [hz2, hsz1]; omega) (by omega)
    have hic : i ≤ cap := by omega
    have hjc : j ≤ cap := by omega
    have Hap := Lib.hid hap; have Hcl := Lib.hid hcl; have HW1 := Lib.hid hW1; have Hend : ∀ cur2, cur2 = spl (spl cur (i * 5) news) ((i + (n - j)) * 5) (Builtin.zeroCells #[Value.int .i64 0, .int .i64 0, .int .i64 0, .int .i64 0, .int .i64 0] (n - (i + (n - j)))).toList →
        RowTo w (.slice (some ⟨g, 0, none⟩) n cap) 5 (n - (j - i)) (cur.toList.take (i * 5) ++ news) (.returned (.slice (some ⟨g, 0, none⟩) (i + (n - j)) cap)) (W1.setRow g cur2) := by
      intro cur2 hc2
      have hzl : (Builtin.zeroCells #[Value.int .i64 0, .int .i64 0, .int .i64 0, .int .i64 0, .int .i64 0] (n - (i + (n - j)))).toList.length = (n - (i + (n - j))) * 5 := by rw [Array.length_toList, size_zeroCells]; rfl
      rw [hW1, z16, show i + (n - j) = n - (j - i) by omega]
      refine z1s (w := w.drew) (n' := n - (j - i)) (cap := cap) (sz := 5) (te := te) (cur := cur) rfl hg ?_ (by omega) hc ?_ w ⟨rfl, rfl, rfl, rfl⟩ n
      · rw [hc2, zu _ _ _ (by omega), hsz1]
      · rw [hc2, zr, zr]
        have hl1 : (cur.toList.take (i * 5) ++ news).length = (n - (j - i)) * 5 := by rw [List.length_append, List.length_take, Array.length_toList]; omega
        rw [show (i + (n - j)) * 5 = (n - (j - i)) * 5 by omega]
        rw [List.append_assoc, List.take_append_of_le_length (by rw [List.length_take, List.length_append]; omega), List.take_take, Nat.min_self, List.take_append_of_le_length (by omega), List.take_of_length_le (by omega)]
    have HE := Lib.hid Hend; rw [← hnews]
    have mixed : Try.prog.follows .mixedOrders = true := by kernel_rfl
    clear hap hcl hW1 Hend hnews hg1 hsz1 hz1 hz2 hz3 hnl hn1 hown hg hs h1
    · have hne : ¬ cap = j := by omega
      go_enter Try.func45, Try.ntmps45
      go_wp2_with fail
      go_region_law_o (refine zer rfl (.tmp 22) (.tmp 25) 50 50 rfl (.slice (some ⟨g, 0, none⟩) i cap) (.slice (some ⟨g, j * 5, none⟩) (n - j) (cap - j)) (by simp [Act.eval, Act.put]) (by simp [Act.eval, Act.put]) (Hap.out (some ⟨g, j * 5, none⟩) (cap - j) (fun h => rfl)) ?_)
      all_goals
        rw [← HW1.out]
        go_wp2_with (with_reducible refine z32 _ rfl (.tmp 31) 50 rfl (.slice (some ⟨g, (i + (n - j)) * 5, none⟩) (n - (i + (n - j))) (cap - (i + (n - j)))) rfl (Hcl.out _ _) ?_)
        all_goals
          go_ret
          exact HE.out _ rfl
end Go.Proofs.Ytjkjhgfiaodgmaa.V
namespace Go.Proofs.Ytjkjhgfiaodgmaa.V
open Go Go.RowKit Go.Lib
theorem z3y {w : World} {g : Nat} {cur : Array Value} {te : TypeId} (h : w.heap[g]? = some (.cells cur te (0, 0))) : w.shape? g = some (te, cur.size) := by simp [World.shape?, h]
theorem z3a {w : World} {g o : Nat} {cur : Array Value} {te : TypeId} (h : w.heap[g]? = some (.cells cur te (0, 0))) : w.frozen? ⟨g, o, none⟩ = false := by simp [World.frozen?, h]
theorem z3f {w w0 W : World} {sz n cap : Nat} {xs : List Value} {te : TypeId} {cur : Array Value} (hW : W = w.alloc (.cells cur te)) (hw0 : w0.heap = w.heap ∧ w0.os = w.os ∧ w0.tape = w.tape ∧ w0.output = w.output) (hs : cur.size = cap * sz) (hn : n ≤ cap) (hc : cap ≤ maxLen) (hx : cur.toList.take (n * sz) = xs) (v : Value) :
    RowTo w0 v sz n xs (.returned (.slice (some ⟨w.heap.size, 0, none⟩) n cap)) W := by
  obtain ⟨e1, e2, e3, e4⟩ := hw0; subst hW; have hl : n * sz ≤ cap * sz := Nat.mul_le_mul_right _ hn; refine ⟨_, te, rfl, ⟨?_, .inr ⟨w.heap.size, cap, cur, rfl, Nat.zero_le _, heap_alloc_new w _, hn, hc, hs, hx⟩⟩, ⟨e2.symm, e3.symm, e4.symm, ?_, ?_⟩, fun g' h => .inr ?_⟩
  · rw [← hx, List.length_take, Array.length_toList]; omega
  · rw [e1]; simp
  · intro k hk hne
    rw [heap_alloc_old w (.cells cur te) (by rw [← e1]; exact hk), e1]
  · simp [Value.ownBlock] at h
    rw [e1]; omega
theorem z8p {P : Program} {w : World} {t u ty e : TypeId} {i : TypeInfo} {z : Value} (ht : P.underlying t = some (.slice e)) (hu : P.underlying u = some (.slice e)) (hi : P.info? e = some i) (hz : i.zero = some z) (hzs : z.cells.size = i.size) (hsz : 0 < i.size) (hby : 0 < i.bytes) (hbm : i.bytes ≤ 1048576)
    {v : Value} {n : Nat} {xs : List Value} {te : TypeId} (hown : w.ownsRow 0 te i.size v n xs) {y : Value} {k : Nat} {news : List Value} (hy : Src P w i.size k y news) (hb : (n + k) * i.bytes ≤ 211106232532992) :
    ∃ v' w', (Builtin.append_ #[t, u] ty #[v, y]).run P w = .ok v' w' ∧ RowTo w v i.size (n + k) (xs ++ news) (.returned v') w' := by
  have h63 : n + k ≤ 211106232532992 := Nat.le_trans (Nat.le_mul_of_pos_right _ hby) hb
  rcases hown.2 with ⟨rfl, rfl⟩ | ⟨g, cap, cur, rfl, _, hg, hnc, hcm, hcs, htake⟩
  · have hx0 : xs = [] := List.eq_nil_of_length_eq_zero (by rw [hown.1]; simp)
    subst hx0
    by_cases hk : k = 0
    · subst hk
      have hn0 : news = [] := List.eq_nil_of_length_eq_zero (by rw [hy.size]; simp)
      subst hn0; exact ⟨_, _, z58 ht hu (.inl ⟨_, rfl⟩) hi (Nat.le_refl _) hy, z1b hown⟩
    · obtain ⟨k1, k2, k3, k4, k5⟩ := z86 (ty := ty) ht hu (.inl ⟨_, rfl⟩) hi hz hzs hby hbm hy (by omega) (by simpa using hb)
      refine ⟨_, _, k1, ?_⟩; rw [Nat.zero_add, List.nil_append]; exact z3f (w := w.drew) (w0 := w) rfl ⟨rfl, rfl, rfl, rfl⟩ k4 k2 k3 k5 _
  · by_cases hroom : n + k ≤ cap
    · have hfit : n * i.size + news.length ≤ cur.size := by rw [hy.size, hcs, ← Nat.add_mul]; exact Nat.mul_le_mul_right _ hroom
      refine ⟨_, _, z2g ht hu (.inl ⟨_, rfl⟩) hi hg hy hroom hfit, ?_⟩
      refine z1s (w := w) (n' := n + k) (cap := cap) (sz := i.size) (te := te) (cur := cur) (cur' := spl cur (n * i.size) news) rfl hg (by rw [zu _ _ _ hfit, hcs]) hroom hcm ?_ w ⟨rfl, rfl, rfl, rfl⟩ n
      rw [zr, htake, Nat.add_mul, ← hy.size, List.append_assoc, ← List.append_assoc, List.take_append_of_le_length (by rw [List.length_append, hown.1]; omega), List.take_of_length_le (by rw [List.length_append, hown.1]; omega)]
    · have holds : ∀ W : World, W.heap = w.heap → (Builtin.firstCells i.size n (.slice (some ⟨g, 0, none⟩) n cap)).run P W = .ok xs.toArray W := fun W hW => by
        refine run_firstCells_some W i.size n _ _ _ _ hown.1 fun j u hj => ?_; have := hown.cells (g := g) rfl j u hj; rw [z1y] at this ⊢
        rw [show W.cell? ⟨g, 0 + j, none⟩ = w.cell? ⟨g, 0 + j, none⟩ by simp [World.cell?, hW]]
        exact this
      have hge := grownCap_ge w (n + k) cap e
      have hcm' : grownCap w (n + k) cap e ≤ maxLen := grownCap_le_maxLen w _ cap e (by simp only [maxLen]; omega)
      refine ⟨_, _, z2y ht hu (.inl ⟨_, rfl⟩) hi hz holds hy (by omega) (by omega) (z4t (by omega) hbm hb), ?_⟩
      refine z3f (w := w.drew) (w0 := w) (cap := grownCap w (n + k) cap e) rfl ⟨rfl, rfl, rfl, rfl⟩ ?_ hge hcm' ?_ _
      · simp only [Array.size_append, List.size_toArray, z26, hzs, hy.size, hown.1, ← Nat.add_mul]
        congr 1
        omega
      · have hl : (n + k) * i.size = (xs ++ news).length := by rw [List.length_append, hown.1, hy.size, Nat.add_mul]
        simp only [Array.toList_append]; rw [hl]; exact List.take_left
set_option maxHeartbeats 4000000 in
set_option maxRecDepth 1000000 in
theorem z50 (base : Option Addr) (n cap i : Nat) (b2 : Option Addr) (c2 : Nat) (w : World) (hi : i ≤ n) (hn : n ≤ cap) (hc : cap ≤ maxLen) (xs : List Value) (hR : RowTo w (.slice base n cap) 5 n xs (.returned (.slice base n cap)) w) :
    Calls Try.prog 44 #[.slice base n cap, .int .i64 i, .slice b2 0 c2] w (RowTo w (.slice base n cap) 5 n xs) := by
  unfold maxLen at hc
  have hic : i ≤ cap := by omega
  have H := Lib.hid hR; clear hR
  cases base with
  | none =>
    go_enter Try.func44, Try.ntmps44
    go_wp2
    all_goals (go_ret; exact H.out)
  | some b =>
    rcases (show i < cap ∨ cap = i by omega) with hlt | rfl
    · have hne : ¬ cap = i := by omega
      go_enter Try.func44, Try.ntmps44
      go_wp2
      all_goals (go_ret; exact H.out)
    · go_enter Try.func44, Try.ntmps44
      go_wp2
      all_goals (go_ret; exact H.out)
set_option maxHeartbeats 4000000 in
set_option maxRecDepth 1000000 in
theorem zmm (v : Value) (n : Nat) (xs : List Value) (te : TypeId) (b2 : Addr) (m c2 : Nat) (news : List Value) (w : World) (hown : w.ownsRow 0 te 5 v n xs) (hm : 0 < m) (hy : Src Try.prog w 5 m (.slice (some b2) m c2) news) (hb : (n + m) * 40 ≤ 211106232532992) :
    Calls Try.prog 44 #[v, .int .i64 n, .slice (some b2) m c2] w (RowTo w v 5 (n + m) (xs ++ news)) := by
  have hU : Try.prog.underlying 50 = some (.slice 47) := Try.underlying50
  obtain ⟨ti, hti, hz1, hz2, hz3⟩ := info_parts (by kernel_rfl : (Try.prog.info? 47).map (fun i => (i.zero, i.size, i.bytes)) = some (some (.agg #[.int .i64 0, .int .i64 0, .int .i64 0, .int .i64 0, .int .i64 0]), 5, 40))
  obtain ⟨v', w', hap, hR⟩ := z8p (P := Try.prog) (w := w) (ty := 50) hU hU hti hz1 (by rw [hz2]; rfl) (by omega) (by omega) (by omega) (by rw [hz2]; exact hown) (by rw [hz2]; exact hy) (by rw [hz3]; exact hb)
  rw [hz2] at hR
  have hz4 : ¬ ((m : Int) = 0) := by omega
  have H := Lib.hid hR; have Hap := Lib.hid hap
  have mixed : Try.prog.follows .mixedOrders = true := by kernel_rfl
  rcases hown.2 with ⟨rfl, rfl⟩ | ⟨g, cap, cur, rfl, _, hg, hnc, hcm, hcs, htake⟩
  · clear hown hy hR hap hz1 hz2 hz3 hti hb
    go_enter Try.func44, Try.ntmps44
    go_wp2_with (at_builtin; refine z1r _ rfl _ _ 50 50 rfl _ _ rfl rfl Hap.out ?_)
    all_goals (go_ret; exact H.out)
  · unfold maxLen at hcm
    clear hown hy hR hap hz1 hz2 hz3 hti hb hg hcs htake
    rcases (show n < cap ∨ cap = n by omega) with hlt | rfl
    · have hne : ¬ cap = n := by omega
      go_enter Try.func44, Try.ntmps44
      go_wp2_with (at_builtin; refine z1r _ rfl _ _ 50 50 rfl _ _ rfl rfl Hap.out ?_)
      all_goals (go_ret; exact H.out)
    · go_enter Try.func44, Try.ntmps44
      go_wp2_with (at_builtin; refine z1r _ rfl _ _ 50 50 rfl _ _ rfl rfl Hap.out ?_)
      all_goals (go_ret; exact H.out)
set_option maxHeartbeats 4000000 in
set_option maxRecDepth 1000000 in
theorem zmn (g n cap i h m c2 : Nat) (te te2 : TypeId) (cur cur2 : Array Value) (w : World) (hg : w.heap[g]? = some (.cells cur te (0, 0))) (hs : cur.size = cap * 5) (hc : cap ≤ maxLen) (h1 : ∀ u ∈ cur.toList.take (n * 5), u.oneCell' = true)
    (hg2 : w.heap[h]? = some (.cells cur2 te2 (0, 0))) (hs2 : cur2.size = c2 * 5) (hmc : m ≤ c2) (h2 : ∀ u ∈ cur2.toList.take (m * 5), u.oneCell' = true) (hgh : h ≠ g) (hin : i < n) (hm : 0 < m) (hroom : n + m ≤ cap) :
    Calls Try.prog 44 #[.slice (some ⟨g, 0, none⟩) n cap, .int .i64 i, .slice (some ⟨h, 0, none⟩) m c2] w (RowTo w (.slice (some ⟨g, 0, none⟩) n cap) 5 (n + m) (cur.toList.take (i * 5) ++ cur2.toList.take (m * 5) ++ (cur.toList.drop (i * 5)).take ((n - i) * 5))) := by
  have hU : Try.prog.underlying 50 = some (.slice 47) := Try.underlying50
  obtain ⟨ti, hti, hz1, hz2, hz3⟩ := info_parts (by kernel_rfl : (Try.prog.info? 47).map (fun i => (i.zero, i.size, i.bytes)) = some (some (.agg #[.int .i64 0, .int .i64 0, .int .i64 0, .int .i64 0, .int .i64 0]), 5, 40))
  unfold maxLen at hc
  have hov : ∀ lb cb, (callFunc 64 #[.slice (some ⟨h, 0, none⟩) m c2, .slice (some ⟨g, (i + m) * 5, none⟩) lb cb]).run Try.prog w = .ok (.value (.bool false)) w := fun lb cb => by
    rw [run_callFunc_extern Try.func64 (by kernel_rfl) (by kernel_rfl) (by kernel_rfl) (e := Extern.SlicesOverlaps.overlaps #[50, 50] #[4]) (by kernel_rfl),
      Lib.run_overlaps_apart w 50 4 47 hU 5 (fun w => by simp [sizeOf, typeInfo, hti, hz2]) ⟨h, 0, none⟩ ⟨g, (i + m) * 5, none⟩ m c2 lb cb hgh te2 te cur2.size cur.size (z3y hg2) (z3y hg) (by omega) (z3a hg2) (z3a hg2)]
    rfl
  obtain ⟨olds, holds⟩ : ∃ olds, olds = (cur.toList.drop (i * 5)).take ((n - i) * 5) := ⟨_, rfl⟩; obtain ⟨news, hnews⟩ : ∃ news, news = cur2.toList.take (m * 5) := ⟨_, rfl⟩
  have hol : olds.length = (n - i) * 5 := by rw [holds, List.length_take, List.length_drop, Array.length_toList]; omega
  have hnl : news.length = m * 5 := by rw [hnews, List.length_take, Array.length_toList]; omega
  have ho1 : ∀ u ∈ olds, u.oneCell' = true := by
    intro u hu; rw [holds, List.take_drop] at hu; have := List.mem_of_mem_drop hu
    rw [show i * 5 + (n - i) * 5 = n * 5 by omega] at this
    exact h1 u this
  have hcp1 : ∀ ty dc sc, (Builtin.copy_ #[50, 50] ty #[.slice (some ⟨g, (i + m) * 5, none⟩) (n + m - (i + m)) dc, .slice (some ⟨g, i * 5, none⟩) (n + m - i) sc]).run Try.prog w.drew = .ok (goInt ((n - i : Nat) : Int)) (w.drew.setRow g (spl cur ((i + m) * 5) olds)) := fun ty dc sc => by
    refine zv hU hti (w := w.drew) (te := te) (o := (i + m) * 5) (cur := cur) (news := olds) hg (by simp only [Nat.min_def]; split <;> omega) ?_ ho1 (by omega)
    rw [hz2, holds]
    exact z13 (w := w.drew) (te := te) (fr := (0, 0)) hg (by omega)
  obtain ⟨W1, hW1⟩ : ∃ W1, W1 = w.drew.setRow g (spl cur ((i + m) * 5) olds) := ⟨_, rfl⟩
  have hg1 : W1.heap[g]? = some (.cells (spl cur ((i + m) * 5) olds) te (0, 0)) := by rw [hW1]; exact setRow_heap _ g cur _ te (0, 0) hg
  have hgh1 : W1.heap[h]? = some (.cells cur2 te2 (0, 0)) := by rw [hW1, setRow_other' _ _ _ _ hgh]; exact hg2
  have hsz1 : (spl cur ((i + m) * 5) olds).size = cap * 5 := by rw [zu _ _ _ (by omega), hs]
  have hcp2 : ∀ ty dc, (Builtin.copy_ #[50, 50] ty #[.slice (some ⟨g, i * 5, none⟩) (n + m - i) dc, .slice (some ⟨h, 0, none⟩) m c2]).run Try.prog W1 = .ok (goInt m) (W1.setRow g (spl (spl cur ((i + m) * 5) olds) (i * 5) news)) := fun ty dc => by
    refine zv hU hti (w := W1) (te := te) (o := i * 5) (cur := spl cur ((i + m) * 5) olds) (news := news) hg1 (by simp only [Nat.min_def]; split <;> omega) ?_ (by rw [hnews]; exact h2) (by omega)
    rw [hz2, hnews]
    exact z13 (w := W1) (te := te2) (fr := (0, 0)) hgh1 (by omega)
  have Hend : RowTo w (.slice (some ⟨g, 0, none⟩) n cap) 5 (n + m) (cur.toList.take (i * 5) ++ news ++ olds) (.returned (.slice (some ⟨g, 0, none⟩) (n + m) cap)) (W1.setRow g (spl (spl cur ((i + m) * 5) olds) (i * 5) news)) := by
    have hl2 : (cur.toList.take (i * 5) ++ news ++ olds).length = (n + m) * 5 := by rw [List.length_append, List.length_append, List.length_take, Array.length_toList]; omega
    rw [hW1, z16]
    refine z1s (w := w.drew) (n' := n + m) (cap := cap) (sz := 5) (te := te) (cur := cur) rfl hg ?_ (by omega) hc ?_ w ⟨rfl, rfl, rfl, rfl⟩ n
    · rw [zu _ _ _ (by omega), hsz1]
    · rw [zr, zr]
      have e1 : (cur.toList.take ((i + m) * 5) ++ olds ++ cur.toList.drop ((i + m) * 5 + olds.length)).take (i * 5) = cur.toList.take (i * 5) := by
        rw [List.append_assoc, List.take_append_of_le_length (by rw [List.length_take, Array.length_toList]; omega), List.take_take, Nat.min_eq_left (by omega)]
      have e2 : (cur.toList.take ((i + m) * 5) ++ olds ++ cur.toList.drop ((i + m) * 5 + olds.length)).drop (i * 5 + news.length) = olds ++ cur.toList.drop ((i + m) * 5 + olds.length) := by
        rw [List.append_assoc, show i * 5 + news.length = (cur.toList.take ((i + m) * 5)).length by rw [List.length_take]; have := Array.length_toList (xs := cur); omega]
        exact List.drop_left
      rw [e1, e2, ← List.append_assoc, List.take_append_of_le_length (by omega), List.take_of_length_le (by omega)]
  have H := Lib.hid Hend; have Hcp1 := Lib.hid hcp1; have Hcp2 := Lib.hid hcp2; have HW1 := Lib.hid hW1
  have mixed : Try.prog.follows .mixedOrders = true := by kernel_rfl
  rw [← hnews, ← holds]
  have hq1 : ¬ ((m : Int) = 0) := by omega
  have hq2 : ¬ ((i : Int) = (n : Int)) := by omega
  have hw1 : IntKind.i64.wrap ((i : Int) + (m : Int)) = (i : Int) + (m : Int) := by rw [IntKind.wrap_i64]; omega
  have hb1 : (0 : Int) ≤ (i : Int) + (m : Int) := by omega
  have hin' : i ≤ n := by omega
  have htn : ((i : Int) + (m : Int)).toNat = i + m := by omega
  have hb2 : ¬ (cap = i + m) := by omega
  have hb3 : (i : Int) ≤ (n : Int) + (m : Int) := by omega
  have hb4 : ¬ (cap = i) := by omega
  clear Hend hcp1 hcp2 hW1 hg1 hgh1 hsz1 hnews holds hol hnl ho1 hz1 hz2 hz3 hti hg hs h1 hg2 hs2 h2
  go_enter Try.func44, Try.ntmps44
  go_wp2_with (simp only [hov])
  go_region_law_o (refine z39 rfl (.tmp 73) (.tmp 76) 50 50 rfl (.slice (some ⟨g, (i + m) * 5, none⟩) (n + m - (i + m)) (cap - (i + m))) (.slice (some ⟨g, i * 5, none⟩) (n + m - i) (cap - i)) (by simp [Act.eval, Act.put]) (by simp [Act.eval, Act.put]) (Hcp1.out _ _ _) ?_)
  all_goals
    rw [← HW1.out]
    go_wp2_with (with_reducible refine z38 _ rfl (.tmp 80) (.tmp 81) 50 50 rfl (.slice (some ⟨g, i * 5, none⟩) (n + m - i) (cap - i)) (.slice (some ⟨h, 0, none⟩) m c2) rfl rfl (Hcp2.out _ _) ?_)
    all_goals
      go_ret
      exact H.out
set_option maxHeartbeats 4000000 in
set_option maxRecDepth 1000000 in
theorem zmo (g n cap i h m c2 : Nat) (te te2 : TypeId) (cur cur2 : Array Value) (w : World) (hg : w.heap[g]? = some (.cells cur te (0, 0))) (hs : cur.size = cap * 5) (hc : cap ≤ maxLen) (h1 : ∀ u ∈ cur.toList.take (n * 5), u.oneCell' = true)
    (hg2 : w.heap[h]? = some (.cells cur2 te2 (0, 0))) (hs2 : cur2.size = c2 * 5) (hmc : m ≤ c2) (h2 : ∀ u ∈ cur2.toList.take (m * 5), u.oneCell' = true) (hgh : h ≠ g) (hin : i < n) (hm : 0 < m) (hn : n ≤ cap) (hroom : cap < n + m) (hb : (n + m) * 40 ≤ 211106232532992) :
    Calls Try.prog 44 #[.slice (some ⟨g, 0, none⟩) n cap, .int .i64 i, .slice (some ⟨h, 0, none⟩) m c2] w (RowTo w (.slice (some ⟨g, 0, none⟩) n cap) 5 (n + m) (cur.toList.take (i * 5) ++ cur2.toList.take (m * 5) ++ (cur.toList.drop (i * 5)).take ((n - i) * 5))) := by
  have hU : Try.prog.underlying 50 = some (.slice 47) := Try.underlying50
  obtain ⟨ti, hti, hz1, hz2, hz3⟩ := info_parts (by kernel_rfl : (Try.prog.info? 47).map (fun i => (i.zero, i.size, i.bytes)) = some (some (.agg #[.int .i64 0, .int .i64 0, .int .i64 0, .int .i64 0, .int .i64 0]), 5, 40))
  unfold maxLen at hc; have hcurl := Array.length_toList (xs := cur); obtain ⟨olds, holds⟩ : ∃ olds, olds = (cur.toList.drop (i * 5)).take ((n - i) * 5) := ⟨_, rfl⟩; obtain ⟨news, hnews⟩ : ∃ news, news = cur2.toList.take (m * 5) := ⟨_, rfl⟩
  have hol : olds.length = (n - i) * 5 := by rw [holds, List.length_take, List.length_drop]; omega
  have hnl : news.length = m * 5 := by rw [hnews, List.length_take]; have := Array.length_toList (xs := cur2); omega
  have ho1 : ∀ u ∈ olds, u.oneCell' = true := by
    intro u hu; rw [holds, List.take_drop] at hu; have := List.mem_of_mem_drop hu
    rw [show i * 5 + (n - i) * 5 = n * 5 by omega] at this
    exact h1 u this
  have hkk : (n : Int) + (m : Int) - (i : Int) = ((n + m - i : Nat) : Int) := by omega
  have hik : i + (n + m - i) = n + m := by omega
  have hold : (Builtin.firstCells ti.size i (.slice (some ⟨g, 0, none⟩) i cap)).run Try.prog w.drew = .ok (cur.toList.take (i * 5)).toArray w.drew := by
    rw [hz2]
    have := z13 (P := Try.prog) (w := w.drew) (sz := 5) (n := i) (cap := cap) (off := 0) (cnt := i) (te := te) (fr := (0, 0)) hg (by omega)
    rwa [List.drop_zero] at this
  obtain ⟨NC, hNC⟩ : ∃ NC, NC = grownCap w (n + m) cap 47 := ⟨_, rfl⟩
  have hge : n + m ≤ NC := by rw [hNC]; exact grownCap_ge w (n + m) cap _
  have hle : NC ≤ maxLen := by rw [hNC]; exact grownCap_le_maxLen w _ cap _ (by simp only [maxLen]; omega)
  obtain ⟨ROW, hROW⟩ : ∃ ROW : Array Value, ROW = (cur.toList.take (i * 5)).toArray ++ Builtin.zeroCells (Value.agg #[.int .i64 0, .int .i64 0, .int .i64 0, .int .i64 0, .int .i64 0]).cells (n + m - i) ++ Builtin.zeroCells (Value.agg #[.int .i64 0, .int .i64 0, .int .i64 0, .int .i64 0, .int .i64 0]).cells (NC - (n + m)) := ⟨_, rfl⟩
  have hrz : ∀ ty, (Builtin.append_ #[50, 3] ty #[.slice (some ⟨g, 0, none⟩) i cap, .int .i64 ((n : Int) + (m : Int) - (i : Int))]).run Try.prog w = .ok (.slice (some ⟨w.heap.size, 0, none⟩) (n + m) NC) (w.drew.alloc (.cells ROW 47)) := fun ty => by
    have h := Lib.run_append_grow_zeros w 50 3 ty 47 ti _ .i64 .i64 hU Try.underlying3 hti hz1 (some ⟨g, 0, none⟩) i cap (cur.toList.take (i * 5)) hold (n + m - i) (by omega) (by omega) (by omega) (by omega) (by rw [hz3]; omega) (by rw [hik]; exact z4t (by omega) (by omega) (by rw [hz3]; exact hb))
    rw [hik, ← hNC, ← hROW] at h; rw [hkk]; exact h
  have hRl : ROW.size = NC * 5 := by
    rw [hROW]; simp only [Array.size_append, List.size_toArray, List.length_take, z26]; have e5 : (Value.agg #[.int .i64 0, .int .i64 0, .int .i64 0, .int .i64 0, .int .i64 0]).cells.size = 5 := rfl; rw [e5]; omega
  have hRt : ROW.toList.take (i * 5) = cur.toList.take (i * 5) := by
    rw [hROW]; simp only [Array.toList_append, List.append_assoc]
    rw [List.take_append_of_le_length (by rw [List.length_take]; omega), List.take_take, Nat.min_self]
  have hRtl := Array.length_toList (xs := ROW); have hgw : g < w.heap.size := (Array.getElem?_eq_some_iff.1 hg).1; have hhw : h < w.heap.size := (Array.getElem?_eq_some_iff.1 hg2).1; obtain ⟨G, hG⟩ : ∃ G, G = w.heap.size := ⟨_, rfl⟩; obtain ⟨W1, hW1⟩ : ∃ W1, W1 = w.drew.alloc (.cells ROW 47) := ⟨_, rfl⟩
  have hN1 : W1.heap[G]? = some (.cells ROW 47 (0, 0)) := by rw [hW1, hG]; exact heap_alloc_new w.drew _
  have hH1 : W1.heap[h]? = some (.cells cur2 te2 (0, 0)) := by rw [hW1, heap_alloc_old w.drew _ (by exact hhw)]; exact hg2
  have hO1 : W1.heap[g]? = some (.cells cur te (0, 0)) := by rw [hW1, heap_alloc_old w.drew _ (by exact hgw)]; exact hg
  have hcp1 : ∀ ty dc, (Builtin.copy_ #[50, 50] ty #[.slice (some ⟨G, i * 5, none⟩) (n + m - i) dc, .slice (some ⟨h, 0, none⟩) m c2]).run Try.prog W1 = .ok (goInt ((m : Nat) : Int)) (W1.setRow G (spl ROW (i * 5) news)) := fun ty dc => by
    refine zv hU hti (w := W1) (te := 47) (o := i * 5) (cur := ROW) (news := news) hN1 (by simp only [Nat.min_def]; split <;> omega) ?_ (by rw [hnews]; exact h2) (by omega)
    rw [hz2, hnews]
    exact z13 (w := W1) (te := te2) (fr := (0, 0)) hH1 (by omega)
  obtain ⟨W2, hW2⟩ : ∃ W2, W2 = W1.setRow G (spl ROW (i * 5) news) := ⟨_, rfl⟩
  have hN2 : W2.heap[G]? = some (.cells (spl ROW (i * 5) news) 47 (0, 0)) := by rw [hW2]; exact setRow_heap _ G ROW _ _ (0, 0) hN1
  have hO2 : W2.heap[g]? = some (.cells cur te (0, 0)) := by rw [hW2, setRow_other' _ _ _ _ (by omega)]; exact hO1
  have hs2' : (spl ROW (i * 5) news).size = NC * 5 := by rw [zu _ _ _ (by omega), hRl]
  have hcp2 : ∀ ty dc sc, (Builtin.copy_ #[50, 50] ty #[.slice (some ⟨G, (i + m) * 5, none⟩) (n + m - (i + m)) dc, .slice (some ⟨g, i * 5, none⟩) (n - i) sc]).run Try.prog W2.drew = .ok (goInt ((n - i : Nat) : Int)) (W2.drew.setRow G (spl (spl ROW (i * 5) news) ((i + m) * 5) olds)) := fun ty dc sc => by
    refine zv hU hti (w := W2.drew) (te := 47) (o := (i + m) * 5) (cur := spl ROW (i * 5) news) (news := olds) hN2 (by simp only [Nat.min_def]; split <;> omega) ?_ ho1 (by omega)
    rw [hz2, holds]
    exact z13 (w := W2.drew) (te := te) (fr := (0, 0)) hO2 (by omega)
  have Hend : RowTo w (.slice (some ⟨g, 0, none⟩) n cap) 5 (n + m) (cur.toList.take (i * 5) ++ news ++ olds) (.returned (.slice (some ⟨G, 0, none⟩) (n + m) NC)) (W2.drew.setRow G (spl (spl ROW (i * 5) news) ((i + m) * 5) olds)) := by
    have eW : W2.drew.setRow G (spl (spl ROW (i * 5) news) ((i + m) * 5) olds) = (w.drew.drew).alloc (.cells (spl (spl ROW (i * 5) news) ((i + m) * 5) olds) 47) := by
      rw [hW2, hW1, hG]; have e1 : (((w.drew.alloc (.cells ROW 47)).setRow w.heap.size (spl ROW (i * 5) news)).drew).setRow w.heap.size (spl (spl ROW (i * 5) news) ((i + m) * 5) olds) = ((w.drew.drew.alloc (.cells ROW 47)).setRow w.heap.size (spl ROW (i * 5) news)).setRow w.heap.size (spl (spl ROW (i * 5) news) ((i + m) * 5) olds) := rfl; rw [e1, z16]; exact World.setRow_alloc_new w.drew.drew _ _ _
    rw [eW, hG]
    have hl2 : (cur.toList.take (i * 5) ++ news ++ olds).length = (n + m) * 5 := by rw [List.length_append, List.length_append, List.length_take]; omega
    refine z3f (w := w.drew.drew) (w0 := w) (cap := NC) rfl ⟨rfl, rfl, rfl, rfl⟩ ?_ hge hle ?_ _
    · rw [zu _ _ _ (by omega), hs2']
    · rw [zr, zr]
      have e1 : (ROW.toList.take (i * 5) ++ news ++ ROW.toList.drop (i * 5 + news.length)).take ((i + m) * 5) = cur.toList.take (i * 5) ++ news := by
        rw [hRt, List.take_append_of_le_length (by rw [List.length_append, List.length_take]; omega), List.take_of_length_le (by rw [List.length_append, List.length_take]; omega)]
      rw [e1, List.take_append_of_le_length (by omega), List.take_of_length_le (by omega)]
  have H := Lib.hid Hend; have Hrz := Lib.hid hrz; have Hcp1 := Lib.hid hcp1; have Hcp2 := Lib.hid hcp2; have HW1 := Lib.hid hW1; have HW2 := Lib.hid hW2; have HG := Lib.hid hG
  have mixed : Try.prog.follows .mixedOrders = true := by kernel_rfl
  rw [← hnews, ← holds]
  have hq1 : ¬ ((m : Int) = 0) := by omega
  have hq2 : ¬ ((i : Int) = (n : Int)) := by omega
  have hq3 : (cap : Int) < (n : Int) + (m : Int) := by omega
  have hw1 : IntKind.i64.wrap ((n : Int) + (m : Int)) = (n : Int) + (m : Int) := by rw [IntKind.wrap_i64]; omega
  have hw2 : IntKind.i64.wrap ((n : Int) + (m : Int) - (i : Int)) = (n : Int) + (m : Int) - (i : Int) := by rw [IntKind.wrap_i64]; omega
  have hw3 : IntKind.i64.wrap ((i : Int) + (m : Int)) = (i : Int) + (m : Int) := by rw [IntKind.wrap_i64]; omega
  have hb1 : (0 : Int) ≤ (i : Int) + (m : Int) := by omega
  have hin' : i ≤ n := by omega
  have hic : i ≤ cap := by omega
  have htn : ((i : Int) + (m : Int)).toNat = i + m := by omega
  have hb2 : ¬ (NC = i + m) := by omega
  have hb3 : (i : Int) ≤ (n : Int) := by omega
  have hb4 : ¬ (cap = i) := by omega
  have hb5 : ¬ (NC = i) := by omega
  have hb6 : i ≤ n + m := by omega
  have hb7 : i + m ≤ n + m := by omega
  have hb8 : (i : Int) + (m : Int) ≤ (n : Int) + (m : Int) := by omega
  unfold maxLen at hle; clear Hend hrz hcp1 hcp2 hW1 hW2 hG hN1 hH1 hO1 hN2 hO2 hs2' hRl hRt hRtl hROW hNC hnews holds hol hnl ho1 hz1 hz2 hz3 hti hg hs h1 hg2 hs2 h2 hcurl hold hkk hik hgw hhw
  go_enter Try.func44, Try.ntmps44
  go_wp2_with (first | (at_builtin; refine z1r _ rfl _ _ 50 3 rfl _ _ rfl rfl (Hrz.out _) ?_; rw [← HW1.out, ← HG.out]) | (with_reducible refine z38 _ rfl (.tmp 43) (.tmp 44) 50 50 rfl (.slice (some ⟨G, i * 5, none⟩) (n + m - i) (NC - i)) (.slice (some ⟨h, 0, none⟩) m c2) rfl rfl (Hcp1.out _ _) ?_; rw [← HW2.out]))
  go_region_law_o (refine z39 rfl (.tmp 50) (.tmp 53) 50 50 rfl (.slice (some ⟨G, (i + m) * 5, none⟩) (n + m - (i + m)) (NC - (i + m))) (.slice (some ⟨g, i * 5, none⟩) (n - i) (cap - i)) (by simp [Act.eval, Act.put]) (by simp [Act.eval, Act.put]) (Hcp2.out _ _ _) ?_)
  all_goals
    go_wp2
    all_goals
      go_ret
      first | exact H.out | exact (List.append_assoc _ _ _ ▸ H.out)
theorem zes (v u : Value) (n m i : Nat) (xs ys : List Value) (te te2 : TypeId) (w : World) (hv : w.ownsRow 0 te 5 v n xs) (hu : w.ownsRow 0 te2 5 u m ys) (hvu : ∀ g, v.ownBlock = some g → u.ownBlock ≠ some g) (h1 : ∀ x ∈ xs, x.oneCell' = true) (h2 : ∀ y ∈ ys, y.oneCell' = true) (hi : i ≤ n) (hb : (n + m) * 40 ≤ 211106232532992) :
    Calls Try.prog 44 #[v, .int .i64 i, u] w (RowTo w v 5 (n + m) (xs.take (i * 5) ++ ys ++ xs.drop (i * 5))) := by
  have hv0 := hv; have hu0 := hu; obtain ⟨hxl, hv⟩ := hv; obtain ⟨hyl, hu⟩ := hu
  rcases hu with ⟨rfl, rfl⟩ | ⟨h, c2, cur2, rfl, _, hg2, hmc, hmc2, hs2, ht2⟩
  · have hy0 : ys = [] := List.eq_nil_of_length_eq_zero (by simp [hyl])
    subst hy0; rw [List.append_nil, List.take_append_drop, Nat.add_zero]
    rcases hv with ⟨rfl, rfl⟩ | ⟨g, cap, cur, rfl, _, hg, hnc, hcm, hcs, ht⟩
    · exact z50 none 0 0 i none 0 w hi (Nat.le_refl _) (Nat.zero_le _) xs (z1b hv0)
    · exact z50 _ n cap i none 0 w hi hnc hcm xs (z1b hv0)
  · by_cases hm : m = 0
    · subst hm
      have hy0 : ys = [] := List.eq_nil_of_length_eq_zero (by simp [hyl])
      subst hy0; rw [List.append_nil, List.take_append_drop, Nat.add_zero]
      rcases hv with ⟨rfl, rfl⟩ | ⟨g, cap, cur, rfl, _, hg, hnc, hcm, hcs, ht⟩
      · exact z50 none 0 0 i _ c2 w hi (Nat.le_refl _) (Nat.zero_le _) xs (z1b hv0)
      · exact z50 _ n cap i _ c2 w hi hnc hcm xs (z1b hv0)
    · by_cases hin : i = n
      · subst hin
        rw [List.take_of_length_le (by omega), List.drop_of_length_le (by omega), List.append_nil]
        refine zmm v i xs te _ m c2 ys w hv0 (by omega) ⟨fun W hW => by simp [Builtin.lenOf], fun W hW => ?_, hyl, h2⟩ hb
        have hgW : W.heap[h]? = some (.cells cur2 te2 (0, 0)) := by rw [hW]; exact hg2
        have := z13 (P := Try.prog) (w := W) (sz := 5) (n := m) (cap := c2) (off := 0) (cnt := m) (te := te2) (fr := (0, 0)) hgW (by omega)
        rw [List.drop_zero, ht2] at this; exact this
      · rcases hv with ⟨rfl, rfl⟩ | ⟨g, cap, cur, rfl, _, hg, hnc, hcm, hcs, ht⟩
        · omega
        · have hgh : h ≠ g := fun e => hvu g rfl (by rw [e]; rfl)
          have e1 : xs.take (i * 5) = cur.toList.take (i * 5) := by rw [← ht, List.take_take, Nat.min_eq_left (by omega)]
          have e2 : xs.drop (i * 5) = (cur.toList.drop (i * 5)).take ((n - i) * 5) := by rw [← ht, List.drop_take]; congr 1; omega
          rw [e1, e2, ← ht2]
          by_cases hroom : n + m ≤ cap
          · exact zmn g n cap i h m c2 te te2 cur cur2 w hg hcs hcm (by rw [ht]; exact h1) hg2 hs2 hmc (by rw [ht2]; exact h2) hgh (by omega) (by omega) hroom
          · exact zmo g n cap i h m c2 te te2 cur cur2 w hg hcs hcm (by rw [ht]; exact h1) hg2 hs2 hmc (by rw [ht2]; exact h2) hgh (by omega) (by omega) hnc (by omega) hb
end Go.Proofs.Ytjkjhgfiaodgmaa.V
namespace Go.Proofs.Ytjkjhgfiaodgmaa.V
open Go Go.RowKit Go.Lib
set_option maxHeartbeats 4000000 in
set_option maxRecDepth 1000000 in
theorem zmp (v u : Value) (n m i : Nat) (xs ys : List Value) (te te2 : TypeId) (w : World) (hv : w.ownsRow 0 te 5 v n xs) (hu : w.ownsRow 0 te2 5 u m ys) (hvu : ∀ g, v.ownBlock = some g → u.ownBlock ≠ some g) (h1 : ∀ x ∈ xs, x.oneCell' = true) (h2 : ∀ y ∈ ys, y.oneCell' = true) (hi : i ≤ n) (hb : (n + m) * 40 ≤ 211106232532992) :
    Calls Try.prog 47 #[v, .int .i64 i, .int .i64 i, u] w (RowTo w v 5 (n + m) (xs.take (i * 5) ++ ys ++ xs.drop (i * 5))) := by
  have hins := zes v u n m i xs ys te te2 w hv hu hvu h1 h2 hi hb; have Hins := Lib.hid hins; generalize xs.take (i * 5) ++ ys ++ xs.drop (i * 5) = zs at *
  rcases hv.2 with ⟨rfl, rfl⟩ | ⟨g, cap, cur, rfl, _, hg, hnc, hcm, hcs, ht⟩
  · clear hv hu hvu h1 h2 hins hb
    obtain rfl : i = 0 := by omega
    go_enter Try.func47, Try.ntmps47
    go_wp2_with (go_at_call 44; refine Hins.out.mono ?_; rintro e w' ⟨v', te', rfl, k1, k2, k3⟩)
    go_ret
    exact ⟨v', te', rfl, k1, k2, k3⟩
  · clear hv hu hvu h1 h2 hins hb hg hcs ht
    unfold maxLen at hcm
    have hic : i ≤ cap := by omega
    rcases (show i < cap ∨ cap = i by omega) with hlt | rfl
    · have hne : ¬ cap = i := by omega
      go_enter Try.func47, Try.ntmps47
      go_wp2_with (go_at_call 44; refine Hins.out.mono ?_; rintro e w' ⟨v', te', rfl, k1, k2, k3⟩)
      all_goals (go_ret; exact ⟨v', te', rfl, k1, k2, k3⟩)
    · go_enter Try.func47, Try.ntmps47
      go_wp2_with (go_at_call 44; refine Hins.out.mono ?_; rintro e w' ⟨v', te', rfl, k1, k2, k3⟩)
      all_goals (go_ret; exact ⟨v', te', rfl, k1, k2, k3⟩)
set_option maxHeartbeats 4000000 in
set_option maxRecDepth 1000000 in
theorem zmq (g n cap i j m c2 : Nat) (b2 : Option Addr) (te : TypeId) (cur : Array Value) (ys : List Value) (w : World) (hg : w.heap[g]? = some (.cells cur te (0, 0))) (hs : cur.size = cap * 5) (hc : cap ≤ maxLen) (hn : n ≤ cap) (h1 : ∀ u ∈ cur.toList.take (n * 5), u.oneCell' = true)
    (hyl : ys.length = m * 5) (h2 : ∀ y ∈ ys, y.oneCell' = true) (hy : ∀ W : World, (∀ k, k ≠ g → k < w.heap.size → W.heap[k]? = w.heap[k]?) → (Builtin.firstCells 5 m (.slice b2 m c2)).run Try.prog W = .ok ys.toArray W) (hi : i < j) (hj : j = n) (hm : i + m < n) :
    Calls Try.prog 47 #[.slice (some ⟨g, 0, none⟩) n cap, .int .i64 i, .int .i64 j, .slice b2 m c2] w (RowTo w (.slice (some ⟨g, 0, none⟩) n cap) 5 (i + m + (n - j)) (cur.toList.take (i * 5) ++ ys ++ (cur.toList.drop (j * 5)).take ((n - j) * 5))) := by
  have hU : Try.prog.underlying 50 = some (.slice 47) := Try.underlying50
  obtain ⟨ti, hti, hz1, hz2, hz3⟩ := info_parts (by kernel_rfl : (Try.prog.info? 47).map (fun i => (i.zero, i.size, i.bytes)) = some (some (.agg #[.int .i64 0, .int .i64 0, .int .i64 0, .int .i64 0, .int .i64 0]), 5, 40))
  unfold maxLen at hc; have hcurl := Array.length_toList (xs := cur); subst hj
  have hap : (Builtin.append_ #[50, 50] 50 #[.slice (some ⟨g, 0, none⟩) i cap, .slice b2 m c2]).run Try.prog w = .ok (.slice (some ⟨g, 0, none⟩) (i + m) cap) (w.setRow g (spl cur (i * 5) ys)) := by
    have := z2g (P := Try.prog) (w := w) (t := 50) (u := 50) (ty := 50) (e := 47) (e' := te) (i := ti) hU hU (.inl ⟨_, rfl⟩) hti (g := g) (sLen := i) (sCap := cap) (n := m) (cur := cur) hg (y := .slice b2 m c2) (news := ys)
      ⟨fun W hW => by simp [Builtin.lenOf], fun W hW => by rw [hz2]; exact hy W (fun k _ _ => by rw [hW]), by rw [hyl, hz2], h2⟩ (by omega) (by rw [hz2]; omega)
    rw [hz2] at this; exact this
  obtain ⟨W1, hW1⟩ : ∃ W1, W1 = w.setRow g (spl cur (i * 5) ys) := ⟨_, rfl⟩
  have hg1 : W1.heap[g]? = some (.cells (spl cur (i * 5) ys) te (0, 0)) := by rw [hW1]; exact setRow_heap _ g cur _ te (0, 0) hg
  have hsz1 : (spl cur (i * 5) ys).size = cap * 5 := by rw [zu _ _ _ (by omega), hs]
  have hcl : ∀ ty c, (Builtin.clear_ #[50] ty #[.slice (some ⟨g, (i + m) * 5, none⟩) (j - (i + m)) c]).run Try.prog W1 = .ok (.tuple #[]) (W1.setRow g (spl (spl cur (i * 5) ys) ((i + m) * 5) (Builtin.zeroCells #[Value.int .i64 0, .int .i64 0, .int .i64 0, .int .i64 0, .int .i64 0] (j - (i + m))).toList)) := fun ty c =>
    z23 hU hti hz1 (by rw [hz2]; rfl) (by intro u hu; simp [Value.cells] at hu; rcases hu with rfl | rfl | rfl | rfl | rfl <;> rfl) hg1 (by rw [hz2, hsz1]; omega) (by omega)
  have hzl : (Builtin.zeroCells #[Value.int .i64 0, .int .i64 0, .int .i64 0, .int .i64 0, .int .i64 0] (j - (i + m))).toList.length = (j - (i + m)) * 5 := by rw [Array.length_toList, size_zeroCells]; rfl
  have Hend : RowTo w (.slice (some ⟨g, 0, none⟩) j cap) 5 (i + m + (j - j)) (cur.toList.take (i * 5) ++ ys ++ (cur.toList.drop (j * 5)).take ((j - j) * 5)) (.returned (.slice (some ⟨g, 0, none⟩) (i + m) cap)) (W1.setRow g (spl (spl cur (i * 5) ys) ((i + m) * 5) (Builtin.zeroCells #[Value.int .i64 0, .int .i64 0, .int .i64 0, .int .i64 0, .int .i64 0] (j - (i + m))).toList)) := by
    rw [hW1, z16, Nat.sub_self, Nat.zero_mul, List.take_zero, List.append_nil, Nat.add_zero]
    refine z1s (w := w) (n' := i + m) (cap := cap) (sz := 5) (te := te) (cur := cur) rfl hg ?_ (by omega) hc ?_ w ⟨rfl, rfl, rfl, rfl⟩ j
    · rw [zu _ _ _ (by omega), hsz1]
    · rw [zr, zr]
      have hl1 : (cur.toList.take (i * 5) ++ ys).length = (i + m) * 5 := by rw [List.length_append, List.length_take]; omega
      rw [List.append_assoc, List.take_append_of_le_length (by rw [List.length_take, List.length_append]; omega), List.take_take, Nat.min_self, List.take_append_of_le_length (by omega), List.take_of_length_le (by omega)]
  have HE := Lib.hid Hend; have Hap := Lib.hid hap; have Hcl := Lib.hid hcl; have HW1 := Lib.hid hW1; generalize cur.toList.take (i * 5) ++ ys ++ (cur.toList.drop (j * 5)).take ((j - j) * 5) = zs at *
  have hic : i ≤ cap := by omega
  have hij : i ≤ j := by omega
  have hne : ¬ ((i : Int) = (j : Int)) := by omega
  have hlt : (i : Int) + (m : Int) < (j : Int) := by omega
  have hne2 : ¬ (cap = i + m) := by omega
  have hle : i + m ≤ cap := by omega
  have hne3 : ¬ (cap = i) := by omega
  clear Hend hap hcl hW1 hg1 hsz1 hzl hz1 hz2 hz3 hti hg hs h1 hyl h2 hy hcurl
  go_enter Try.func47, Try.ntmps47
  go_wp2_with (first | (at_builtin; refine z1r _ rfl _ _ 50 50 rfl _ _ rfl rfl Hap.out ?_; rw [← HW1.out]) | (with_reducible refine z32 _ rfl (.tmp 43) 50 rfl (.slice (some ⟨g, (i + m) * 5, none⟩) (j - (i + m)) (cap - (i + m))) rfl (Hcl.out _ _) ?_))
  all_goals
    go_ret
    exact HE.out
set_option maxHeartbeats 4000000 in
set_option maxRecDepth 1000000 in
theorem zmr (g n cap i j m c2 : Nat) (b2 : Option Addr) (te : TypeId) (cur : Array Value) (ys : List Value) (w : World) (hg : w.heap[g]? = some (.cells cur te (0, 0))) (hs : cur.size = cap * 5) (hc : cap ≤ maxLen) (hn : n ≤ cap) (h1 : ∀ u ∈ cur.toList.take (n * 5), u.oneCell' = true)
    (hyl : ys.length = m * 5) (h2 : ∀ y ∈ ys, y.oneCell' = true) (hy : ∀ W : World, (∀ k, k ≠ g → k < w.heap.size → W.heap[k]? = w.heap[k]?) → (Builtin.firstCells 5 m (.slice b2 m c2)).run Try.prog W = .ok ys.toArray W) (hi : i < j) (hj : j = n) (hm : n ≤ i + m) (hb : (i + m) * 40 ≤ 211106232532992) :
    Calls Try.prog 47 #[.slice (some ⟨g, 0, none⟩) n cap, .int .i64 i, .int .i64 j, .slice b2 m c2] w (RowTo w (.slice (some ⟨g, 0, none⟩) n cap) 5 (i + m + (n - j)) (cur.toList.take (i * 5) ++ ys ++ (cur.toList.drop (j * 5)).take ((n - j) * 5))) := by
  have hU : Try.prog.underlying 50 = some (.slice 47) := Try.underlying50
  obtain ⟨ti, hti, hz1, hz2, hz3⟩ := info_parts (by kernel_rfl : (Try.prog.info? 47).map (fun i => (i.zero, i.size, i.bytes)) = some (some (.agg #[.int .i64 0, .int .i64 0, .int .i64 0, .int .i64 0, .int .i64 0]), 5, 40))
  unfold maxLen at hc; have hcurl := Array.length_toList (xs := cur); subst hj
  have hown : w.ownsRow 0 te 5 (.slice (some ⟨g, 0, none⟩) i cap) i (cur.toList.take (i * 5)) := ⟨by rw [List.length_take]; omega, .inr ⟨g, cap, cur, rfl, Nat.zero_le _, hg, by omega, hc, hs, rfl⟩⟩
  obtain ⟨v', w', hap, hR⟩ := z8p (P := Try.prog) (w := w) (ty := 50) (y := .slice b2 m c2) (k := m) (news := ys) hU hU hti hz1 (by rw [hz2]; rfl) (by omega) (by omega) (by omega) (by rw [hz2]; exact hown) ⟨fun W hW => by simp [Builtin.lenOf], fun W hW => by rw [hz2]; exact hy W (fun k _ _ => by rw [hW]), by rw [hyl, hz2], h2⟩ (by rw [hz3]; exact hb)
  rw [hz2] at hR
  obtain ⟨g', cap', rfl⟩ : ∃ g' cap', v' = .slice (some ⟨g', 0, none⟩) (i + m) cap' := by
    obtain ⟨v2, te2, e1, e2, _⟩ := hR; injection e1 with e1; subst e1
    rcases e2.2 with ⟨_, h0⟩ | ⟨g', cap', _, e3, _⟩
    · omega
    · exact ⟨g', cap', e3⟩
  have hE : RowTo w (.slice (some ⟨g, 0, none⟩) j cap) 5 (i + m + (j - j)) (cur.toList.take (i * 5) ++ ys ++ (cur.toList.drop (j * 5)).take ((j - j) * 5)) (.returned (.slice (some ⟨g', 0, none⟩) (i + m) cap')) w' := by
    rw [Nat.sub_self, Nat.zero_mul, List.take_zero, List.append_nil, Nat.add_zero]; exact hR
  have HE := Lib.hid hE; have Hap := Lib.hid hap; generalize cur.toList.take (i * 5) ++ ys ++ (cur.toList.drop (j * 5)).take ((j - j) * 5) = zs at *
  have hic : i ≤ cap := by omega
  have hij : i ≤ j := by omega
  have hne : ¬ ((i : Int) = (j : Int)) := by omega
  have hlt : ¬ ((i : Int) + (m : Int) < (j : Int)) := by omega
  have hne3 : ¬ (cap = i) := by omega
  clear hE hap hR hz1 hz2 hz3 hti hg hs h1 hyl h2 hy hcurl hown
  go_enter Try.func47, Try.ntmps47
  go_wp2_with (at_builtin; refine z1r _ rfl _ _ 50 50 rfl _ _ rfl rfl Hap.out ?_)
  all_goals
    go_ret
    first | exact HE.out | (have h9 := HE.out; rwa [Nat.sub_self, Nat.add_zero] at h9)
set_option maxHeartbeats 4000000 in
set_option maxRecDepth 1000000 in
theorem zms (g n cap i j m c2 : Nat) (b2 : Option Addr) (te : TypeId) (cur : Array Value) (ys : List Value) (w : World) (hg : w.heap[g]? = some (.cells cur te (0, 0))) (hs : cur.size = cap * 5) (hc : cap ≤ maxLen) (hn : n ≤ cap) (h1 : ∀ u ∈ cur.toList.take (n * 5), u.oneCell' = true)
    (hyl : ys.length = m * 5) (h2 : ∀ y ∈ ys, y.oneCell' = true) (hy : ∀ W : World, (∀ k, k ≠ g → k < w.heap.size → W.heap[k]? = w.heap[k]?) → (Builtin.firstCells 5 m (.slice b2 m c2)).run Try.prog W = .ok ys.toArray W) (hi : i < j) (hj : j < n) (hm : i + m < j) :
    Calls Try.prog 47 #[.slice (some ⟨g, 0, none⟩) n cap, .int .i64 i, .int .i64 j, .slice b2 m c2] w (RowTo w (.slice (some ⟨g, 0, none⟩) n cap) 5 (i + m + (n - j)) (cur.toList.take (i * 5) ++ ys ++ (cur.toList.drop (j * 5)).take ((n - j) * 5))) := by
  have hU : Try.prog.underlying 50 = some (.slice 47) := Try.underlying50
  obtain ⟨ti, hti, hz1, hz2, hz3⟩ := info_parts (by kernel_rfl : (Try.prog.info? 47).map (fun i => (i.zero, i.size, i.bytes)) = some (some (.agg #[.int .i64 0, .int .i64 0, .int .i64 0, .int .i64 0, .int .i64 0]), 5, 40))
  unfold maxLen at hc; have hcurl := Array.length_toList (xs := cur); obtain ⟨olds, holds⟩ : ∃ olds, olds = (cur.toList.drop (j * 5)).take ((n - j) * 5) := ⟨_, rfl⟩
  have hol : olds.length = (n - j) * 5 := by rw [holds, List.length_take, List.length_drop]; omega
  have ho1 : ∀ u ∈ olds, u.oneCell' = true := by
    intro u hu; rw [holds, List.take_drop] at hu; have := List.mem_of_mem_drop hu
    rw [show j * 5 + (n - j) * 5 = n * 5 by omega] at this
    exact h1 u this
  have hcp1 : ∀ ty dc, (Builtin.copy_ #[50, 50] ty #[.slice (some ⟨g, i * 5, none⟩) (i + m + (n - j) - i) dc, .slice b2 m c2]).run Try.prog w.drew = .ok (goInt ((m : Nat) : Int)) (w.drew.setRow g (spl cur (i * 5) ys)) := fun ty dc => by
    refine zv hU hti (w := w.drew) (te := te) (o := i * 5) (cur := cur) (news := ys) hg (by simp only [Nat.min_def]; split <;> omega) ?_ h2 (by omega)
    rw [hz2]; exact hy w.drew (fun k _ _ => rfl)
  obtain ⟨W1, hW1⟩ : ∃ W1, W1 = w.drew.setRow g (spl cur (i * 5) ys) := ⟨_, rfl⟩
  have hg1 : W1.heap[g]? = some (.cells (spl cur (i * 5) ys) te (0, 0)) := by rw [hW1]; exact setRow_heap _ g cur _ te (0, 0) hg
  have hsz1 : (spl cur (i * 5) ys).size = cap * 5 := by rw [zu _ _ _ (by omega), hs]
  have hs1l := Array.length_toList (xs := spl cur (i * 5) ys)
  have hd1 : ((spl cur (i * 5) ys).toList.drop (j * 5)).take ((n - j) * 5) = olds := by
    have hl1 : (cur.toList.take (i * 5) ++ ys).length = (i + m) * 5 := by rw [List.length_append, List.length_take]; omega
    rw [holds, zr, List.drop_append, List.drop_of_length_le (by omega), List.nil_append, List.drop_drop, hl1]
    congr 2
    omega
  have hcp2 : ∀ ty dc sc, (Builtin.copy_ #[50, 50] ty #[.slice (some ⟨g, (i + m) * 5, none⟩) (i + m + (n - j) - (i + m)) dc, .slice (some ⟨g, j * 5, none⟩) (n - j) sc]).run Try.prog W1.drew = .ok (goInt ((n - j : Nat) : Int)) (W1.drew.setRow g (spl (spl cur (i * 5) ys) ((i + m) * 5) olds)) := fun ty dc sc => by
    refine zv hU hti (w := W1.drew) (te := te) (o := (i + m) * 5) (cur := spl cur (i * 5) ys) (news := olds) hg1 (by simp only [Nat.min_def]; split <;> omega) ?_ ho1 (by omega)
    rw [hz2, ← hd1]
    exact z13 (w := W1.drew) (te := te) (fr := (0, 0)) hg1 (by omega)
  obtain ⟨W2, hW2⟩ : ∃ W2, W2 = W1.drew.setRow g (spl (spl cur (i * 5) ys) ((i + m) * 5) olds) := ⟨_, rfl⟩
  have hg2 : W2.heap[g]? = some (.cells (spl (spl cur (i * 5) ys) ((i + m) * 5) olds) te (0, 0)) := by rw [hW2]; exact setRow_heap _ g _ _ te (0, 0) hg1
  have hsz2 : (spl (spl cur (i * 5) ys) ((i + m) * 5) olds).size = cap * 5 := by rw [zu _ _ _ (by omega), hsz1]
  have hcl : ∀ ty c, (Builtin.clear_ #[50] ty #[.slice (some ⟨g, (i + m + (n - j)) * 5, none⟩) (n - (i + m + (n - j))) c]).run Try.prog W2 = .ok (.tuple #[]) (W2.setRow g (spl (spl (spl cur (i * 5) ys) ((i + m) * 5) olds) ((i + m + (n - j)) * 5) (Builtin.zeroCells #[Value.int .i64 0, .int .i64 0, .int .i64 0, .int .i64 0, .int .i64 0] (n - (i + m + (n - j)))).toList)) := fun ty c =>
    z23 hU hti hz1 (by rw [hz2]; rfl) (by intro u hu; simp [Value.cells] at hu; rcases hu with rfl | rfl | rfl | rfl | rfl <;> rfl) hg2 (by rw [hz2, hsz2]; omega) (by omega)
  have hzl : (Builtin.zeroCells #[Value.int .i64 0, .int .i64 0, .int .i64 0, .int .i64 0, .int .i64 0] (n - (i + m + (n - j)))).toList.length = (n - (i + m + (n - j))) * 5 := by rw [Array.length_toList, size_zeroCells]; rfl
  have hE : RowTo w (.slice (some ⟨g, 0, none⟩) n cap) 5 (i + m + (n - j)) (cur.toList.take (i * 5) ++ ys ++ olds) (.returned (.slice (some ⟨g, 0, none⟩) (i + m + (n - j)) cap)) (W2.setRow g (spl (spl (spl cur (i * 5) ys) ((i + m) * 5) olds) ((i + m + (n - j)) * 5) (Builtin.zeroCells #[Value.int .i64 0, .int .i64 0, .int .i64 0, .int .i64 0, .int .i64 0] (n - (i + m + (n - j)))).toList)) := by
    have e1 : ∀ z, W2.setRow g z = w.drew.drew.setRow g z := fun z => by
      rw [hW2, z16, hW1]; exact z16 w.drew.drew g _ z
    rw [e1]
    refine z1s (w := w.drew.drew) (n' := i + m + (n - j)) (cap := cap) (sz := 5) (te := te) (cur := cur) rfl hg ?_ (by omega) hc ?_ w ⟨rfl, rfl, rfl, rfl⟩ n
    · rw [zu _ _ _ (by omega), hsz2]
    · have hl1 : (cur.toList.take (i * 5) ++ ys).length = (i + m) * 5 := by rw [List.length_append, List.length_take]; omega
      have hl2 : (cur.toList.take (i * 5) ++ ys ++ olds).length = (i + m + (n - j)) * 5 := by rw [List.length_append]; omega
      have e2 : (spl cur (i * 5) ys).toList.take ((i + m) * 5) = cur.toList.take (i * 5) ++ ys := by
        rw [zr, List.take_append_of_le_length (by omega), List.take_of_length_le (by omega)]
      have e3 : (spl (spl cur (i * 5) ys) ((i + m) * 5) olds).toList.take ((i + m + (n - j)) * 5) = cur.toList.take (i * 5) ++ ys ++ olds := by
        rw [zr, e2, List.take_append_of_le_length (by omega), List.take_of_length_le (by omega)]
      rw [zr, e3, List.append_assoc, List.take_append_of_le_length (by omega), List.take_of_length_le (by omega)]
  have HE := Lib.hid hE; have Hcp1 := Lib.hid hcp1; have Hcp2 := Lib.hid hcp2; have Hcl := Lib.hid hcl; have HW1 := Lib.hid hW1; have HW2 := Lib.hid hW2; rw [← holds]; generalize cur.toList.take (i * 5) ++ ys ++ olds = zs at *
  have mixed : Try.prog.follows .mixedOrders = true := by kernel_rfl
  have hjn : j ≤ n := by omega
  have hic : i ≤ cap := by omega
  have hij : i ≤ j := by omega
  have hjc : j ≤ cap := by omega
  have hne : ¬ ((i : Int) = (j : Int)) := by omega
  have hne2 : ¬ ((j : Int) = (n : Int)) := by omega
  have hnc1 : ¬ (cap = i) := by omega
  have hnc2 : ¬ (cap = j) := by omega
  have hw1 : IntKind.i64.wrap ((i : Int) + (m : Int)) = (i : Int) + (m : Int) := by rw [IntKind.wrap_i64]; omega
  have hw2 : IntKind.i64.wrap ((i : Int) + (m : Int) + ((n - j : Nat) : Int)) = (i : Int) + (m : Int) + ((n - j : Nat) : Int) := by rw [IntKind.wrap_i64]; omega
  have ht1 : ((i : Int) + (m : Int)).toNat = i + m := by omega
  have ht2 : ((i : Int) + (m : Int) + ((n - j : Nat) : Int)).toNat = i + m + (n - j) := by omega
  have hp1 : (0 : Int) ≤ (i : Int) + (m : Int) := by omega
  have hp2 : (0 : Int) ≤ (i : Int) + (m : Int) + ((n - j : Nat) : Int) := by omega
  have hlt : (i : Int) + (m : Int) ≤ (j : Int) := by omega
  have hg9 : ¬ ((cap : Int) < (i : Int) + (m : Int) + ((n - j : Nat) : Int)) := by omega
  have hle : i + m + (n - j) ≤ cap := by omega
  have hle2 : i + m + (n - j) ≤ n := by omega
  have hne5 : ¬ (cap = i + m + (n - j)) := by omega
  have hne6 : ¬ (cap = i + m) := by omega
  have hle3 : i ≤ i + m + (n - j) := by omega
  have hle4 : i + m ≤ i + m + (n - j) := by omega
  have hle5 : (i : Int) ≤ (i : Int) + (m : Int) + ((n - j : Nat) : Int) := by omega
  have hle6 : (i : Int) + (m : Int) ≤ (i : Int) + (m : Int) + ((n - j : Nat) : Int) := by omega
  clear hE hcp1 hcp2 hcl hW1 hW2 hg1 hg2 hsz1 hsz2 hs1l hd1 hzl hz1 hz2 hz3 hti hg hs h1 hyl h2 hy hcurl holds hol ho1
  go_enter Try.func47, Try.ntmps47
  go_wp2_with fail
  go_region_law_o fail
  all_goals
    go_wp2_with (with_reducible refine z38 _ rfl (.tmp 95) (.tmp 96) 50 50 rfl (.slice (some ⟨g, i * 5, none⟩) (i + m + (n - j) - i) (cap - i)) (.slice b2 m c2) rfl rfl (Hcp1.out _ _) ?_; rw [← HW1.out])
  all_goals
    go_region_law_o (refine z39 rfl (.tmp 103) (.tmp 106) 50 50 rfl (.slice (some ⟨g, (i + m) * 5, none⟩) (i + m + (n - j) - (i + m)) (cap - (i + m))) (.slice (some ⟨g, j * 5, none⟩) (n - j) (cap - j)) (by simp [Act.eval, Act.put]) (by simp [Act.eval, Act.put]) (Hcp2.out _ _ _) ?_)
  all_goals
    rw [← HW2.out]
    go_wp2_with (with_reducible refine z32 _ rfl (.tmp 110) 50 rfl (.slice (some ⟨g, (i + m + (n - j)) * 5, none⟩) (n - (i + m + (n - j))) (cap - (i + m + (n - j)))) rfl (Hcl.out _ _) ?_)
  all_goals
    go_ret
    exact HE.out
end Go.Proofs.Ytjkjhgfiaodgmaa.V
namespace Go.Proofs.Ytjkjhgfiaodgmaa.V
open Go Go.RowKit Go.Lib
set_option maxHeartbeats 4000000 in
set_option maxRecDepth 1000000 in
theorem zmt (g n cap i j m c2 : Nat) (b2 : Option Addr) (te : TypeId) (cur : Array Value) (ys : List Value) (w : World) (hg : w.heap[g]? = some (.cells cur te (0, 0))) (hs : cur.size = cap * 5) (hc : cap ≤ maxLen) (hn : n ≤ cap) (h1 : ∀ u ∈ cur.toList.take (n * 5), u.oneCell' = true)
    (hyl : ys.length = m * 5) (h2 : ∀ y ∈ ys, y.oneCell' = true) (hy : ∀ W : World, (∀ k, k ≠ g → k < w.heap.size → W.heap[k]? = w.heap[k]?) → (Builtin.firstCells 5 m (.slice b2 m c2)).run Try.prog W = .ok ys.toArray W) (hi : i < j) (hj : j < n) (hm : i + m = j) :
    Calls Try.prog 47 #[.slice (some ⟨g, 0, none⟩) n cap, .int .i64 i, .int .i64 j, .slice b2 m c2] w (RowTo w (.slice (some ⟨g, 0, none⟩) n cap) 5 (i + m + (n - j)) (cur.toList.take (i * 5) ++ ys ++ (cur.toList.drop (j * 5)).take ((n - j) * 5))) := by
  have hU : Try.prog.underlying 50 = some (.slice 47) := Try.underlying50
  obtain ⟨ti, hti, hz1, hz2, hz3⟩ := info_parts (by kernel_rfl : (Try.prog.info? 47).map (fun i => (i.zero, i.size, i.bytes)) = some (some (.agg #[.int .i64 0, .int .i64 0, .int .i64 0, .int .i64 0, .int .i64 0]), 5, 40))
  unfold maxLen at hc; have hcurl := Array.length_toList (xs := cur); obtain ⟨olds, holds⟩ : ∃ olds, olds = (cur.toList.drop (j * 5)).take ((n - j) * 5) := ⟨_, rfl⟩
  have hol : olds.length = (n - j) * 5 := by rw [holds, List.length_take, List.length_drop]; omega
  have ho1 : ∀ u ∈ olds, u.oneCell' = true := by
    intro u hu; rw [holds, List.take_drop] at hu; have := List.mem_of_mem_drop hu
    rw [show j * 5 + (n - j) * 5 = n * 5 by omega] at this
    exact h1 u this
  have hcp1 : ∀ ty dc, (Builtin.copy_ #[50, 50] ty #[.slice (some ⟨g, i * 5, none⟩) (i + m + (n - j) - i) dc, .slice b2 m c2]).run Try.prog w.drew = .ok (goInt ((m : Nat) : Int)) (w.drew.setRow g (spl cur (i * 5) ys)) := fun ty dc => by
    refine zv hU hti (w := w.drew) (te := te) (o := i * 5) (cur := cur) (news := ys) hg (by simp only [Nat.min_def]; split <;> omega) ?_ h2 (by omega)
    rw [hz2]; exact hy w.drew (fun k _ _ => rfl)
  obtain ⟨W1, hW1⟩ : ∃ W1, W1 = w.drew.setRow g (spl cur (i * 5) ys) := ⟨_, rfl⟩
  have hg1 : W1.heap[g]? = some (.cells (spl cur (i * 5) ys) te (0, 0)) := by rw [hW1]; exact setRow_heap _ g cur _ te (0, 0) hg
  have hsz1 : (spl cur (i * 5) ys).size = cap * 5 := by rw [zu _ _ _ (by omega), hs]
  have hs1l := Array.length_toList (xs := spl cur (i * 5) ys)
  have hd1 : ((spl cur (i * 5) ys).toList.drop (j * 5)).take ((n - j) * 5) = olds := by
    have hl1 : (cur.toList.take (i * 5) ++ ys).length = (i + m) * 5 := by rw [List.length_append, List.length_take]; omega
    rw [holds, zr, List.drop_append, List.drop_of_length_le (by omega), List.nil_append, List.drop_drop, hl1]
    congr 2
    omega
  have hcp2 : ∀ ty dc sc, (Builtin.copy_ #[50, 50] ty #[.slice (some ⟨g, (i + m) * 5, none⟩) (i + m + (n - j) - (i + m)) dc, .slice (some ⟨g, j * 5, none⟩) (n - j) sc]).run Try.prog W1.drew = .ok (goInt ((n - j : Nat) : Int)) (W1.drew.setRow g (spl (spl cur (i * 5) ys) ((i + m) * 5) olds)) := fun ty dc sc => by
    refine zv hU hti (w := W1.drew) (te := te) (o := (i + m) * 5) (cur := spl cur (i * 5) ys) (news := olds) hg1 (by simp only [Nat.min_def]; split <;> omega) ?_ ho1 (by omega)
    rw [hz2, ← hd1]
    exact z13 (w := W1.drew) (te := te) (fr := (0, 0)) hg1 (by omega)
  obtain ⟨W2, hW2⟩ : ∃ W2, W2 = W1.drew.setRow g (spl (spl cur (i * 5) ys) ((i + m) * 5) olds) := ⟨_, rfl⟩
  have hsz2 : (spl (spl cur (i * 5) ys) ((i + m) * 5) olds).size = cap * 5 := by rw [zu _ _ _ (by omega), hsz1]
  have hE : RowTo w (.slice (some ⟨g, 0, none⟩) n cap) 5 (i + m + (n - j)) (cur.toList.take (i * 5) ++ ys ++ olds) (.returned (.slice (some ⟨g, 0, none⟩) (i + m + (n - j)) cap)) W2 := by
    have e1 : W2 = w.drew.drew.setRow g (spl (spl cur (i * 5) ys) ((i + m) * 5) olds) := by
      rw [hW2, hW1]; exact z16 w.drew.drew g _ _
    rw [e1]
    refine z1s (w := w.drew.drew) (n' := i + m + (n - j)) (cap := cap) (sz := 5) (te := te) (cur := cur) rfl hg ?_ (by omega) hc ?_ w ⟨rfl, rfl, rfl, rfl⟩ n
    · rw [hsz2]
    · have hl1 : (cur.toList.take (i * 5) ++ ys).length = (i + m) * 5 := by rw [List.length_append, List.length_take]; omega
      have hl2 : (cur.toList.take (i * 5) ++ ys ++ olds).length = (i + m + (n - j)) * 5 := by rw [List.length_append]; omega
      have e2 : (spl cur (i * 5) ys).toList.take ((i + m) * 5) = cur.toList.take (i * 5) ++ ys := by
        rw [zr, List.take_append_of_le_length (by omega), List.take_of_length_le (by omega)]
      rw [zr, e2, List.take_append_of_le_length (by omega), List.take_of_length_le (by omega)]
  have hcl0 : ∀ a c ty, (Builtin.clear_ #[50] ty #[.slice a 0 c]).run Try.prog W2 = .ok (.tuple #[]) W2 := fun a c ty => by cases a <;> simp [Builtin.clear_, run_underlying hU]
  have Hcl0 := Lib.hid hcl0; have HE := Lib.hid hE; have Hcp1 := Lib.hid hcp1; have Hcp2 := Lib.hid hcp2; have HW1 := Lib.hid hW1; have HW2 := Lib.hid hW2; rw [← holds]; generalize cur.toList.take (i * 5) ++ ys ++ olds = zs at *
  have mixed : Try.prog.follows .mixedOrders = true := by kernel_rfl
  have hjn : j ≤ n := by omega
  have hic : i ≤ cap := by omega
  have hij : i ≤ j := by omega
  have hjc : j ≤ cap := by omega
  have hne : ¬ ((i : Int) = (j : Int)) := by omega
  have hne2 : ¬ ((j : Int) = (n : Int)) := by omega
  have hnc1 : ¬ (cap = i) := by omega
  have hnc2 : ¬ (cap = j) := by omega
  have hw1 : IntKind.i64.wrap ((i : Int) + (m : Int)) = (i : Int) + (m : Int) := by rw [IntKind.wrap_i64]; omega
  have hw2 : IntKind.i64.wrap ((i : Int) + (m : Int) + ((n - j : Nat) : Int)) = (i : Int) + (m : Int) + ((n - j : Nat) : Int) := by rw [IntKind.wrap_i64]; omega
  have ht1 : ((i : Int) + (m : Int)).toNat = i + m := by omega
  have ht2 : ((i : Int) + (m : Int) + ((n - j : Nat) : Int)).toNat = i + m + (n - j) := by omega
  have hp1 : (0 : Int) ≤ (i : Int) + (m : Int) := by omega
  have hp2 : (0 : Int) ≤ (i : Int) + (m : Int) + ((n - j : Nat) : Int) := by omega
  have hlt : (i : Int) + (m : Int) ≤ (j : Int) := by omega
  have hg9 : ¬ ((cap : Int) < (i : Int) + (m : Int) + ((n - j : Nat) : Int)) := by omega
  have hle : i + m + (n - j) ≤ cap := by omega
  have hle2 : i + m + (n - j) ≤ n := by omega
  have hne6 : ¬ (cap = i + m) := by omega
  have hle3 : i ≤ i + m + (n - j) := by omega
  have hle4 : i + m ≤ i + m + (n - j) := by omega
  have hle5 : (i : Int) ≤ (i : Int) + (m : Int) + ((n - j : Nat) : Int) := by omega
  have hle6 : (i : Int) + (m : Int) ≤ (i : Int) + (m : Int) + ((n - j : Nat) : Int) := by omega
  have hzz : n - (i + m + (n - j)) = 0 := by omega
  clear hcl0 hE hcp1 hcp2 hW1 hW2 hg1 hsz1 hsz2 hs1l hd1 hz1 hz2 hz3 hti hg hs h1 hyl h2 hy hcurl holds hol ho1
  rcases (show n < cap ∨ cap = n by omega) with hlt5 | hlt5
  · have hne5 : ¬ (cap = i + m + (n - j)) := by omega
    clear hlt5 hm
    go_enter Try.func47, Try.ntmps47
    go_wp2_with fail
    go_region_law_o fail
    all_goals
      go_wp2_with (with_reducible refine z38 _ rfl (.tmp 95) (.tmp 96) 50 50 rfl (.slice (some ⟨g, i * 5, none⟩) (i + m + (n - j) - i) (cap - i)) (.slice b2 m c2) rfl rfl (Hcp1.out _ _) ?_; rw [← HW1.out])
    all_goals
      go_region_law_o (refine z39 rfl (.tmp 103) (.tmp 106) 50 50 rfl (.slice (some ⟨g, (i + m) * 5, none⟩) (i + m + (n - j) - (i + m)) (cap - (i + m))) (.slice (some ⟨g, j * 5, none⟩) (n - j) (cap - j)) (by simp [Act.eval, Act.put]) (by simp [Act.eval, Act.put]) (Hcp2.out _ _ _) ?_)
    all_goals
      rw [← HW2.out]
      go_wp2_with (with_reducible refine z32 _ rfl (.tmp 110) 50 rfl (.slice (some ⟨g, (i + m + (n - j)) * 5, none⟩) 0 (cap - (i + m + (n - j)))) rfl (Hcl0.out _ _ _) ?_)
    all_goals
      go_ret
      exact HE.out
  · have heq5 : (cap = i + m + (n - j)) = True := by simp; omega
    clear hlt5 hm
    go_enter Try.func47, Try.ntmps47
    go_wp2_with fail
    go_region_law_o fail
    all_goals
      go_wp2_with (with_reducible refine z38 _ rfl (.tmp 95) (.tmp 96) 50 50 rfl (.slice (some ⟨g, i * 5, none⟩) (i + m + (n - j) - i) (cap - i)) (.slice b2 m c2) rfl rfl (Hcp1.out _ _) ?_; rw [← HW1.out])
    all_goals
      go_region_law_o (refine z39 rfl (.tmp 103) (.tmp 106) 50 50 rfl (.slice (some ⟨g, (i + m) * 5, none⟩) (i + m + (n - j) - (i + m)) (cap - (i + m))) (.slice (some ⟨g, j * 5, none⟩) (n - j) (cap - j)) (by simp [Act.eval, Act.put]) (by simp [Act.eval, Act.put]) (Hcp2.out _ _ _) ?_)
    all_goals
      rw [← HW2.out]
      go_wp2_with (with_reducible refine z32 _ rfl (.tmp 110) 50 rfl (.slice (some ⟨g, 0, none⟩) 0 (cap - (i + m + (n - j)))) rfl (Hcl0.out _ _ _) ?_)
    all_goals
      go_ret
      exact HE.out
end Go.Proofs.Ytjkjhgfiaodgmaa.V
namespace Go.Proofs.Ytjkjhgfiaodgmaa.V
open Go Go.RowKit Go.Lib
set_option maxHeartbeats 4000000 in
set_option maxRecDepth 1000000 in
theorem zmu (g n cap i j m c2 h : Nat) (te te2 : TypeId) (cur cur2 : Array Value) (w : World) (hg : w.heap[g]? = some (.cells cur te (0, 0))) (hs : cur.size = cap * 5) (hc : cap ≤ maxLen) (hn : n ≤ cap) (h1 : ∀ u ∈ cur.toList.take (n * 5), u.oneCell' = true)
    (hg2 : w.heap[h]? = some (.cells cur2 te2 (0, 0))) (hs2 : cur2.size = c2 * 5) (hmc : m ≤ c2) (h2 : ∀ u ∈ cur2.toList.take (m * 5), u.oneCell' = true) (hgh : g ≠ h) (hi : i < j) (hj : j < n) (hm : j < i + m) (hroom : i + m + (n - j) ≤ cap) :
    Calls Try.prog 47 #[.slice (some ⟨g, 0, none⟩) n cap, .int .i64 i, .int .i64 j, .slice (some ⟨h, 0, none⟩) m c2] w (RowTo w (.slice (some ⟨g, 0, none⟩) n cap) 5 (i + m + (n - j)) (cur.toList.take (i * 5) ++ cur2.toList.take (m * 5) ++ (cur.toList.drop (j * 5)).take ((n - j) * 5))) := by
  have hU : Try.prog.underlying 50 = some (.slice 47) := Try.underlying50
  obtain ⟨ti, hti, hz1, hz2, hz3⟩ := info_parts (by kernel_rfl : (Try.prog.info? 47).map (fun i => (i.zero, i.size, i.bytes)) = some (some (.agg #[.int .i64 0, .int .i64 0, .int .i64 0, .int .i64 0, .int .i64 0]), 5, 40))
  unfold maxLen at hc; have hcurl := Array.length_toList (xs := cur); obtain ⟨olds, holds⟩ : ∃ olds, olds = (cur.toList.drop (j * 5)).take ((n - j) * 5) := ⟨_, rfl⟩
  have hol : olds.length = (n - j) * 5 := by rw [holds, List.length_take, List.length_drop]; omega
  have ho1 : ∀ u ∈ olds, u.oneCell' = true := by
    intro u hu; rw [holds, List.take_drop] at hu; have := List.mem_of_mem_drop hu
    rw [show j * 5 + (n - j) * 5 = n * 5 by omega] at this
    exact h1 u this
  obtain ⟨ys, hys⟩ : ∃ ys, ys = cur2.toList.take (m * 5) := ⟨_, rfl⟩
  have hyl : ys.length = m * 5 := by rw [hys, List.length_take]; have := Array.length_toList (xs := cur2); omega
  have hy1 : ∀ u ∈ ys, u.oneCell' = true := by rw [hys]; exact h2
  have hov : ∀ lb cb, (callFunc 64 #[.slice (some ⟨g, (i + m) * 5, none⟩) lb cb, .slice (some ⟨h, 0, none⟩) m c2]).run Try.prog w.drew = .ok (.value (.bool false)) w.drew := fun lb cb => by
    rw [run_callFunc_extern Try.func64 (by kernel_rfl) (by kernel_rfl) (by kernel_rfl) (e := Extern.SlicesOverlaps.overlaps #[50, 50] #[4]) (by kernel_rfl),
      Lib.run_overlaps_apart w.drew 50 4 47 hU 5 (fun w => by simp [sizeOf, typeInfo, hti, hz2]) ⟨g, (i + m) * 5, none⟩ ⟨h, 0, none⟩ lb cb m c2 hgh te te2 cur.size cur2.size (z3y (w := w.drew) hg) (z3y (w := w.drew) hg2) (by omega) (z3a (w := w.drew) hg) (z3a (w := w.drew) hg)]
    rfl
  have hcp1 : ∀ ty dc sc, (Builtin.copy_ #[50, 50] ty #[.slice (some ⟨g, (i + m) * 5, none⟩) (i + m + (n - j) - (i + m)) dc, .slice (some ⟨g, j * 5, none⟩) (n - j) sc]).run Try.prog w.drew.drew = .ok (goInt ((n - j : Nat) : Int)) (w.drew.drew.setRow g (spl cur ((i + m) * 5) olds)) := fun ty dc sc => by
    refine zv hU hti (w := w.drew.drew) (te := te) (o := (i + m) * 5) (cur := cur) (news := olds) hg (by simp only [Nat.min_def]; split <;> omega) ?_ ho1 (by omega)
    rw [hz2, holds]
    exact z13 (w := w.drew.drew) (te := te) (fr := (0, 0)) hg (by omega)
  obtain ⟨W1, hW1⟩ : ∃ W1, W1 = w.drew.drew.setRow g (spl cur ((i + m) * 5) olds) := ⟨_, rfl⟩
  have hg1 : W1.heap[g]? = some (.cells (spl cur ((i + m) * 5) olds) te (0, 0)) := by rw [hW1]; exact setRow_heap _ g cur _ te (0, 0) hg
  have hh1 : W1.heap[h]? = some (.cells cur2 te2 (0, 0)) := by rw [hW1, setRow_other' _ _ _ _ (Ne.symm hgh)]; exact hg2
  have hsz1 : (spl cur ((i + m) * 5) olds).size = cap * 5 := by rw [zu _ _ _ (by omega), hs]
  have hcp2 : ∀ ty dc, (Builtin.copy_ #[50, 50] ty #[.slice (some ⟨g, i * 5, none⟩) (i + m + (n - j) - i) dc, .slice (some ⟨h, 0, none⟩) m c2]).run Try.prog W1 = .ok (goInt ((m : Nat) : Int)) (W1.setRow g (spl (spl cur ((i + m) * 5) olds) (i * 5) ys)) := fun ty dc => by
    refine zv hU hti (w := W1) (te := te) (o := i * 5) (cur := spl cur ((i + m) * 5) olds) (news := ys) hg1 (by simp only [Nat.min_def]; split <;> omega) ?_ hy1 (by omega)
    rw [hz2, hys]
    exact z13 (w := W1) (te := te2) (fr := (0, 0)) hh1 (by omega)
  have hE : RowTo w (.slice (some ⟨g, 0, none⟩) n cap) 5 (i + m + (n - j)) (cur.toList.take (i * 5) ++ ys ++ olds) (.returned (.slice (some ⟨g, 0, none⟩) (i + m + (n - j)) cap)) (W1.setRow g (spl (spl cur ((i + m) * 5) olds) (i * 5) ys)) := by
    have hl2 : (cur.toList.take (i * 5) ++ ys ++ olds).length = (i + m + (n - j)) * 5 := by rw [List.length_append, List.length_append, List.length_take]; omega
    rw [hW1, z16]; refine z1s (w := w.drew.drew) (n' := i + m + (n - j)) (cap := cap) (sz := 5) (te := te) (cur := cur) rfl hg ?_ hroom hc ?_ w ⟨rfl, rfl, rfl, rfl⟩ n
    · rw [zu _ _ _ (by omega), hsz1]
    · rw [zr, zr]
      have e1 : (cur.toList.take ((i + m) * 5) ++ olds ++ cur.toList.drop ((i + m) * 5 + olds.length)).take (i * 5) = cur.toList.take (i * 5) := by
        rw [List.append_assoc, List.take_append_of_le_length (by rw [List.length_take]; omega), List.take_take, Nat.min_eq_left (by omega)]
      have e2 : (cur.toList.take ((i + m) * 5) ++ olds ++ cur.toList.drop ((i + m) * 5 + olds.length)).drop (i * 5 + ys.length) = olds ++ cur.toList.drop ((i + m) * 5 + olds.length) := by
        rw [List.append_assoc, show i * 5 + ys.length = (cur.toList.take ((i + m) * 5)).length by rw [List.length_take]; omega]
        exact List.drop_left
      rw [e1, e2, ← List.append_assoc, List.take_append_of_le_length (by omega), List.take_of_length_le (by omega)]
  have HE := Lib.hid hE; have Hcp1 := Lib.hid hcp1; have Hcp2 := Lib.hid hcp2; have HW1 := Lib.hid hW1
  have mixed : Try.prog.follows .mixedOrders = true := by kernel_rfl
  rw [← holds, ← hys]; generalize cur.toList.take (i * 5) ++ ys ++ olds = zs at *
  have hjn : j ≤ n := by omega
  have hic : i ≤ cap := by omega
  have hij : i ≤ j := by omega
  have hjc : j ≤ cap := by omega
  have hne : ¬ ((i : Int) = (j : Int)) := by omega
  have hne2 : ¬ ((j : Int) = (n : Int)) := by omega
  have hnc1 : ¬ (cap = i) := by omega
  have hnc2 : ¬ (cap = j) := by omega
  have hw1 : IntKind.i64.wrap ((i : Int) + (m : Int)) = (i : Int) + (m : Int) := by rw [IntKind.wrap_i64]; omega
  have hw2 : IntKind.i64.wrap ((i : Int) + (m : Int) + ((n - j : Nat) : Int)) = (i : Int) + (m : Int) + ((n - j : Nat) : Int) := by rw [IntKind.wrap_i64]; omega
  have ht1 : ((i : Int) + (m : Int)).toNat = i + m := by omega
  have ht2 : ((i : Int) + (m : Int) + ((n - j : Nat) : Int)).toNat = i + m + (n - j) := by omega
  have hp1 : (0 : Int) ≤ (i : Int) + (m : Int) := by omega
  have hp2 : (0 : Int) ≤ (i : Int) + (m : Int) + ((n - j : Nat) : Int) := by omega
  have hlt : ¬ ((i : Int) + (m : Int) ≤ (j : Int)) := by omega
  have hg9 : ¬ ((cap : Int) < (i : Int) + (m : Int) + ((n - j : Nat) : Int)) := by omega
  have hne6 : ¬ (cap = i + m) := by omega
  have hle3 : i ≤ i + m + (n - j) := by omega
  have hle4 : i + m ≤ i + m + (n - j) := by omega
  have hle5 : (i : Int) ≤ (i : Int) + (m : Int) + ((n - j : Nat) : Int) := by omega
  have hle6 : (i : Int) + (m : Int) ≤ (i : Int) + (m : Int) + ((n - j : Nat) : Int) := by omega
  clear hE hcp1 hcp2 hW1 hg1 hh1 hsz1 hz1 hz2 hz3 hti hg hs h1 hg2 hs2 h2 hyl hys hy1 hcurl holds hol ho1
  go_enter Try.func47, Try.ntmps47
  go_wp2_with fail
  go_region_law_o fail
  all_goals
    go_wp2_with (simp only [hov])
  all_goals
    go_region_law_o (refine z39 rfl (.tmp 126) (.tmp 129) 50 50 rfl (.slice (some ⟨g, (i + m) * 5, none⟩) (i + m + (n - j) - (i + m)) (cap - (i + m))) (.slice (some ⟨g, j * 5, none⟩) (n - j) (cap - j)) (by simp [Act.eval, Act.put]) (by simp [Act.eval, Act.put]) (Hcp1.out _ _ _) ?_)
  all_goals
    rw [← HW1.out]
    go_wp2_with (with_reducible refine z38 _ rfl (.tmp 133) (.tmp 134) 50 50 rfl (.slice (some ⟨g, i * 5, none⟩) (i + m + (n - j) - i) (cap - i)) (.slice (some ⟨h, 0, none⟩) m c2) rfl rfl (Hcp2.out _ _) ?_)
  all_goals
    go_ret
    exact HE.out
end Go.Proofs.Ytjkjhgfiaodgmaa.V
namespace Go.Proofs.Ytjkjhgfiaodgmaa.V
open Go Go.RowKit Go.Lib
set_option maxHeartbeats 4000000 in
set_option maxRecDepth 1000000 in
theorem zmv (g n cap i j m c2 h : Nat) (te te2 : TypeId) (cur cur2 : Array Value) (w : World) (hg : w.heap[g]? = some (.cells cur te (0, 0))) (hs : cur.size = cap * 5) (hc : cap ≤ maxLen) (hn : n ≤ cap) (h1 : ∀ u ∈ cur.toList.take (n * 5), u.oneCell' = true)
    (hg2 : w.heap[h]? = some (.cells cur2 te2 (0, 0))) (hs2 : cur2.size = c2 * 5) (hmc : m ≤ c2) (h2 : ∀ u ∈ cur2.toList.take (m * 5), u.oneCell' = true) (hgh : g ≠ h) (hi : i < j) (hj : j < n) (hroom : cap < i + m + (n - j)) (hb : (i + m + (n - j)) * 40 ≤ 211106232532992) :
    Calls Try.prog 47 #[.slice (some ⟨g, 0, none⟩) n cap, .int .i64 i, .int .i64 j, .slice (some ⟨h, 0, none⟩) m c2] w (RowTo w (.slice (some ⟨g, 0, none⟩) n cap) 5 (i + m + (n - j)) (cur.toList.take (i * 5) ++ cur2.toList.take (m * 5) ++ (cur.toList.drop (j * 5)).take ((n - j) * 5))) := by
  have hU : Try.prog.underlying 50 = some (.slice 47) := Try.underlying50
  obtain ⟨ti, hti, hz1, hz2, hz3⟩ := info_parts (by kernel_rfl : (Try.prog.info? 47).map (fun i => (i.zero, i.size, i.bytes)) = some (some (.agg #[.int .i64 0, .int .i64 0, .int .i64 0, .int .i64 0, .int .i64 0]), 5, 40))
  unfold maxLen at hc; have hcurl := Array.length_toList (xs := cur); obtain ⟨olds, holds⟩ : ∃ olds, olds = (cur.toList.drop (j * 5)).take ((n - j) * 5) := ⟨_, rfl⟩
  have hol : olds.length = (n - j) * 5 := by rw [holds, List.length_take, List.length_drop]; omega
  have ho1 : ∀ u ∈ olds, u.oneCell' = true := by
    intro u hu; rw [holds, List.take_drop] at hu; have := List.mem_of_mem_drop hu
    rw [show j * 5 + (n - j) * 5 = n * 5 by omega] at this
    exact h1 u this
  obtain ⟨ys, hys⟩ : ∃ ys, ys = cur2.toList.take (m * 5) := ⟨_, rfl⟩
  have hyl : ys.length = m * 5 := by rw [hys, List.length_take]; have := Array.length_toList (xs := cur2); omega
  have hy1 : ∀ u ∈ ys, u.oneCell' = true := by rw [hys]; exact h2
  have hkk : (i : Int) + (m : Int) + ((n - j : Nat) : Int) - (i : Int) = ((m + (n - j) : Nat) : Int) := by omega
  have hik : i + (m + (n - j)) = i + m + (n - j) := by omega
  have hold : (Builtin.firstCells ti.size i (.slice (some ⟨g, 0, none⟩) i cap)).run Try.prog w.drew.drew = .ok (cur.toList.take (i * 5)).toArray w.drew.drew := by
    rw [hz2]
    have := z13 (P := Try.prog) (w := w.drew.drew) (sz := 5) (n := i) (cap := cap) (off := 0) (cnt := i) (te := te) (fr := (0, 0)) hg (by omega)
    rwa [List.drop_zero] at this
  obtain ⟨NC, hNC⟩ : ∃ NC, NC = grownCap w.drew (i + m + (n - j)) cap 47 := ⟨_, rfl⟩
  have hge : i + m + (n - j) ≤ NC := by rw [hNC]; exact grownCap_ge w.drew (i + m + (n - j)) cap _
  have hle : NC ≤ maxLen := by rw [hNC]; exact grownCap_le_maxLen w.drew _ cap _ (by simp only [maxLen]; omega)
  obtain ⟨ROW, hROW⟩ : ∃ ROW : Array Value, ROW = (cur.toList.take (i * 5)).toArray ++ Builtin.zeroCells (Value.agg #[.int .i64 0, .int .i64 0, .int .i64 0, .int .i64 0, .int .i64 0]).cells (m + (n - j)) ++ Builtin.zeroCells (Value.agg #[.int .i64 0, .int .i64 0, .int .i64 0, .int .i64 0, .int .i64 0]).cells (NC - (i + m + (n - j))) := ⟨_, rfl⟩
  have hrz : ∀ ty, (Builtin.append_ #[50, 3] ty #[.slice (some ⟨g, 0, none⟩) i cap, .int .i64 ((i : Int) + (m : Int) + ((n - j : Nat) : Int) - (i : Int))]).run Try.prog w.drew = .ok (.slice (some ⟨w.heap.size, 0, none⟩) (i + m + (n - j)) NC) (w.drew.drew.alloc (.cells ROW 47)) := fun ty => by
    have h := Lib.run_append_grow_zeros w.drew 50 3 ty 47 ti _ .i64 .i64 hU Try.underlying3 hti hz1 (some ⟨g, 0, none⟩) i cap (cur.toList.take (i * 5)) hold (m + (n - j)) (by omega) (by omega) (by omega) (by omega) (by rw [hz3]; omega) (by rw [hik]; exact z4t (by omega) (by omega) (by rw [hz3]; exact hb))
    rw [hik, ← hNC, ← hROW] at h; rw [hkk]; exact h
  have hRl : ROW.size = NC * 5 := by
    rw [hROW]; simp only [Array.size_append, List.size_toArray, List.length_take, z26]; have e5 : (Value.agg #[.int .i64 0, .int .i64 0, .int .i64 0, .int .i64 0, .int .i64 0]).cells.size = 5 := rfl; rw [e5]; omega
  have hRt : ROW.toList.take (i * 5) = cur.toList.take (i * 5) := by
    rw [hROW]; simp only [Array.toList_append, List.append_assoc]
    rw [List.take_append_of_le_length (by rw [List.length_take]; omega), List.take_take, Nat.min_self]
  have hRtl := Array.length_toList (xs := ROW); have hgw : g < w.heap.size := (Array.getElem?_eq_some_iff.1 hg).1; have hhw : h < w.heap.size := (Array.getElem?_eq_some_iff.1 hg2).1; obtain ⟨G, hG⟩ : ∃ G, G = w.heap.size := ⟨_, rfl⟩; obtain ⟨W1, hW1⟩ : ∃ W1, W1 = w.drew.drew.alloc (.cells ROW 47) := ⟨_, rfl⟩
  have hN1 : W1.heap[G]? = some (.cells ROW 47 (0, 0)) := by rw [hW1, hG]; exact heap_alloc_new w.drew.drew _
  have hH1 : W1.heap[h]? = some (.cells cur2 te2 (0, 0)) := by rw [hW1, heap_alloc_old w.drew.drew _ (by exact hhw)]; exact hg2
  have hO1 : W1.heap[g]? = some (.cells cur te (0, 0)) := by rw [hW1, heap_alloc_old w.drew.drew _ (by exact hgw)]; exact hg
  have hcp1 : ∀ ty dc, (Builtin.copy_ #[50, 50] ty #[.slice (some ⟨G, i * 5, none⟩) (i + m + (n - j) - i) dc, .slice (some ⟨h, 0, none⟩) m c2]).run Try.prog W1 = .ok (goInt ((m : Nat) : Int)) (W1.setRow G (spl ROW (i * 5) ys)) := fun ty dc => by
    refine zv hU hti (w := W1) (te := 47) (o := i * 5) (cur := ROW) (news := ys) hN1 (by simp only [Nat.min_def]; split <;> omega) ?_ hy1 (by omega)
    rw [hz2, hys]
    exact z13 (w := W1) (te := te2) (fr := (0, 0)) hH1 (by omega)
  obtain ⟨W2, hW2⟩ : ∃ W2, W2 = W1.setRow G (spl ROW (i * 5) ys) := ⟨_, rfl⟩
  have hN2 : W2.heap[G]? = some (.cells (spl ROW (i * 5) ys) 47 (0, 0)) := by rw [hW2]; exact setRow_heap _ G ROW _ _ (0, 0) hN1
  have hO2 : W2.heap[g]? = some (.cells cur te (0, 0)) := by rw [hW2, setRow_other' _ _ _ _ (by omega)]; exact hO1
  have hs2' : (spl ROW (i * 5) ys).size = NC * 5 := by rw [zu _ _ _ (by omega), hRl]
  have hcp2 : ∀ ty dc sc, (Builtin.copy_ #[50, 50] ty #[.slice (some ⟨G, (i + m) * 5, none⟩) (i + m + (n - j) - (i + m)) dc, .slice (some ⟨g, j * 5, none⟩) (n - j) sc]).run Try.prog W2.drew = .ok (goInt ((n - j : Nat) : Int)) (W2.drew.setRow G (spl (spl ROW (i * 5) ys) ((i + m) * 5) olds)) := fun ty dc sc => by
    refine zv hU hti (w := W2.drew) (te := 47) (o := (i + m) * 5) (cur := spl ROW (i * 5) ys) (news := olds) hN2 (by simp only [Nat.min_def]; split <;> omega) ?_ ho1 (by omega)
    rw [hz2, holds]
    exact z13 (w := W2.drew) (te := te) (fr := (0, 0)) hO2 (by omega)
  have hE : RowTo w (.slice (some ⟨g, 0, none⟩) n cap) 5 (i + m + (n - j)) (cur.toList.take (i * 5) ++ ys ++ olds) (.returned (.slice (some ⟨G, 0, none⟩) (i + m + (n - j)) NC)) (W2.drew.setRow G (spl (spl ROW (i * 5) ys) ((i + m) * 5) olds)) := by
    have eW : W2.drew.setRow G (spl (spl ROW (i * 5) ys) ((i + m) * 5) olds) = (w.drew.drew.drew).alloc (.cells (spl (spl ROW (i * 5) ys) ((i + m) * 5) olds) 47) := by
      rw [hW2, hW1, hG]; have e1 : (((w.drew.drew.alloc (.cells ROW 47)).setRow w.heap.size (spl ROW (i * 5) ys)).drew).setRow w.heap.size (spl (spl ROW (i * 5) ys) ((i + m) * 5) olds) = ((w.drew.drew.drew.alloc (.cells ROW 47)).setRow w.heap.size (spl ROW (i * 5) ys)).setRow w.heap.size (spl (spl ROW (i * 5) ys) ((i + m) * 5) olds) := rfl; rw [e1, z16]; exact World.setRow_alloc_new w.drew.drew.drew _ _ _
    rw [eW, hG]
    have hl2 : (cur.toList.take (i * 5) ++ ys ++ olds).length = (i + m + (n - j)) * 5 := by rw [List.length_append, List.length_append, List.length_take]; omega
    refine z3f (w := w.drew.drew.drew) (w0 := w) (cap := NC) rfl ⟨rfl, rfl, rfl, rfl⟩ ?_ hge hle ?_ _
    · rw [zu _ _ _ (by omega), hs2']
    · rw [zr, zr]
      have e1 : (ROW.toList.take (i * 5) ++ ys ++ ROW.toList.drop (i * 5 + ys.length)).take ((i + m) * 5) = cur.toList.take (i * 5) ++ ys := by
        rw [hRt, List.take_append_of_le_length (by rw [List.length_append, List.length_take]; omega), List.take_of_length_le (by rw [List.length_append, List.length_take]; omega)]
      rw [e1, List.take_append_of_le_length (by omega), List.take_of_length_le (by omega)]
  have HE := Lib.hid hE; have Hrz := Lib.hid hrz; have Hcp1 := Lib.hid hcp1; have Hcp2 := Lib.hid hcp2; have HW1 := Lib.hid hW1; have HW2 := Lib.hid hW2; have HG := Lib.hid hG
  have mixed : Try.prog.follows .mixedOrders = true := by kernel_rfl
  rw [← holds, ← hys]; generalize cur.toList.take (i * 5) ++ ys ++ olds = zs at *
  have hjn : j ≤ n := by omega
  have hic : i ≤ cap := by omega
  have hij : i ≤ j := by omega
  have hjc : j ≤ cap := by omega
  have hne : ¬ ((i : Int) = (j : Int)) := by omega
  have hne2 : ¬ ((j : Int) = (n : Int)) := by omega
  have hnc1 : ¬ (cap = i) := by omega
  have hnc2 : ¬ (cap = j) := by omega
  have hw1 : IntKind.i64.wrap ((i : Int) + (m : Int)) = (i : Int) + (m : Int) := by rw [IntKind.wrap_i64]; omega
  have hw2 : IntKind.i64.wrap ((i : Int) + (m : Int) + ((n - j : Nat) : Int)) = (i : Int) + (m : Int) + ((n - j : Nat) : Int) := by rw [IntKind.wrap_i64]; omega
  have ht1 : ((i : Int) + (m : Int)).toNat = i + m := by omega
  have ht2 : ((i : Int) + (m : Int) + ((n - j : Nat) : Int)).toNat = i + m + (n - j) := by omega
  have hp1 : (0 : Int) ≤ (i : Int) + (m : Int) := by omega
  have hp2 : (0 : Int) ≤ (i : Int) + (m : Int) + ((n - j : Nat) : Int) := by omega
  have hg9 : (cap : Int) < (i : Int) + (m : Int) + ((n - j : Nat) : Int) := by omega
  have hw3 : IntKind.i64.wrap ((i : Int) + (m : Int) + ((n - j : Nat) : Int) - (i : Int)) = (i : Int) + (m : Int) + ((n - j : Nat) : Int) - (i : Int) := by rw [IntKind.wrap_i64]; omega
  have hne6 : ¬ (NC = i + m) := by omega
  have hne7 : ¬ (NC = i) := by omega
  have hle3 : i ≤ i + m + (n - j) := by omega
  have hle4 : i + m ≤ i + m + (n - j) := by omega
  have hle5 : (i : Int) ≤ (i : Int) + (m : Int) + ((n - j : Nat) : Int) := by omega
  have hle6 : (i : Int) + (m : Int) ≤ (i : Int) + (m : Int) + ((n - j : Nat) : Int) := by omega
  unfold maxLen at hle; clear hE hrz hcp1 hcp2 hW1 hW2 hG hN1 hH1 hO1 hN2 hO2 hs2' hRl hRt hRtl hROW hNC hz1 hz2 hz3 hti hg hs h1 hg2 hs2 h2 hyl hys hy1 hcurl holds hol ho1 hold hkk hik hgw hhw
  go_enter Try.func47, Try.ntmps47
  go_wp2_with fail
  go_region_law_o fail
  all_goals
    go_wp2_with (first | (at_builtin; refine z1r _ rfl _ _ 50 3 rfl _ _ rfl rfl (Hrz.out _) ?_; rw [← HW1.out, ← HG.out]) | (with_reducible refine z38 _ rfl (.tmp 70) (.tmp 71) 50 50 rfl (.slice (some ⟨G, i * 5, none⟩) (i + m + (n - j) - i) (NC - i)) (.slice (some ⟨h, 0, none⟩) m c2) rfl rfl (Hcp1.out _ _) ?_; rw [← HW2.out]))
  all_goals
    go_region_law_o (refine z39 rfl (.tmp 78) (.tmp 81) 50 50 rfl (.slice (some ⟨G, (i + m) * 5, none⟩) (i + m + (n - j) - (i + m)) (NC - (i + m))) (.slice (some ⟨g, j * 5, none⟩) (n - j) (cap - j)) (by simp [Act.eval, Act.put]) (by simp [Act.eval, Act.put]) (Hcp2.out _ _ _) ?_)
  all_goals
    go_wp2
  all_goals
    go_ret
    exact HE.out
theorem zo7 (v u : Value) (n m i j : Nat) (xs ys : List Value) (te te2 : TypeId) (w : World) (hv : w.ownsRow 0 te 5 v n xs) (hu : w.ownsRow 0 te2 5 u m ys) (hvu : ∀ g, v.ownBlock = some g → u.ownBlock ≠ some g) (h1 : ∀ x ∈ xs, x.oneCell' = true) (h2 : ∀ y ∈ ys, y.oneCell' = true) (hi : i ≤ j) (hj : j ≤ n) (hb : (n + m) * 40 ≤ 211106232532992) :
    Calls Try.prog 47 #[v, .int .i64 i, .int .i64 j, u] w (RowTo w v 5 (i + m + (n - j)) (xs.take (i * 5) ++ ys ++ xs.drop (j * 5))) := by
  by_cases hij : i = j
  · subst hij
    rw [show i + m + (n - i) = n + m by omega]
    exact zmp v u n m i xs ys te te2 w hv hu hvu h1 h2 hj hb
  · have hv0 := hv
    have hu0 := hu; obtain ⟨hxl, hv⟩ := hv; obtain ⟨hyl, hu⟩ := hu
    rcases hv with ⟨rfl, rfl⟩ | ⟨g, cap, cur, rfl, _, hg, hnc, hcm, hcs, ht⟩
    · omega
    have e1 : xs.take (i * 5) = cur.toList.take (i * 5) := by rw [← ht, List.take_take, Nat.min_eq_left (by omega)]
    have e2 : xs.drop (j * 5) = (cur.toList.drop (j * 5)).take ((n - j) * 5) := by rw [← ht, List.drop_take]; congr 1; omega
    have hh1 : ∀ u ∈ cur.toList.take (n * 5), u.oneCell' = true := by rw [ht]; exact h1
    rw [e1, e2]
    obtain ⟨b2, c2, hu1, hu2⟩ : ∃ b2 c2, u = .slice b2 m c2 ∧ ∀ W : World, (∀ k, k ≠ g → k < w.heap.size → W.heap[k]? = w.heap[k]?) → (Builtin.firstCells 5 m (.slice b2 m c2)).run Try.prog W = .ok ys.toArray W := by
      rcases hu with ⟨rfl, rfl⟩ | ⟨h, c2, cur2, rfl, _, hg2, hmc, hmc2, hs2, ht2⟩
      · refine ⟨none, 0, rfl, fun W hW => ?_⟩
        have hy0 : ys = [] := List.eq_nil_of_length_eq_zero (by simp [hyl])
        subst hy0; simp [Builtin.firstCells]
      · refine ⟨_, c2, rfl, fun W hW => ?_⟩
        have hgW : W.heap[h]? = some (.cells cur2 te2 (0, 0)) := by rw [hW h (fun e => hvu g rfl (by rw [e]; rfl)) (Array.getElem?_eq_some_iff.1 hg2).1]; exact hg2
        have := z13 (P := Try.prog) (w := W) (sz := 5) (n := m) (cap := c2) (off := 0) (cnt := m) (te := te2) (fr := (0, 0)) hgW (by omega)
        rw [List.drop_zero, ht2] at this; exact this
    by_cases hjn : j = n
    · subst hu1
      by_cases hm : i + m < n
      · exact zmq g n cap i j m c2 b2 te cur ys w hg hcs hcm hnc hh1 hyl h2 hu2 (by omega) hjn hm
      · exact zmr g n cap i j m c2 b2 te cur ys w hg hcs hcm hnc hh1 hyl h2 hu2 (by omega) hjn (by omega) (by omega)
    · by_cases hm : i + m < j
      · subst hu1
        exact zms g n cap i j m c2 b2 te cur ys w hg hcs hcm hnc hh1 hyl h2 hu2 (by omega) (by omega) hm
      · by_cases hm2 : i + m = j
        · subst hu1
          exact zmt g n cap i j m c2 b2 te cur ys w hg hcs hcm hnc hh1 hyl h2 hu2 (by omega) (by omega) hm2
        · rcases hu with ⟨rfl, rfl⟩ | ⟨h, c2', cur2, rfl, _, hg2, hmc, hmc2, hs2, ht2⟩
          · omega
          · have hgh : g ≠ h := fun e => hvu g rfl (by rw [e]; rfl)
            rw [← ht2]
            by_cases hroom : i + m + (n - j) ≤ cap
            · exact zmu g n cap i j m c2' h te te2 cur cur2 w hg hcs hcm hnc hh1 hg2 hs2 hmc (by rw [ht2]; exact h2) hgh (by omega) (by omega) (by omega) hroom
            · exact zmv g n cap i j m c2' h te te2 cur cur2 w hg hcs hcm hnc hh1 hg2 hs2 hmc (by rw [ht2]; exact h2) hgh (by omega) (by omega) (by omega) (by omega)
end Go.Proofs.Ytjkjhgfiaodgmaa.V
namespace Go.Proofs.Ytjkjhgfiaodgmaa.V
open Go
variable {P : Program} {F : Fr} {E : E3} {cl : Cl} {w : World}
theorem zdw (h : WI F E (objsOf []) cl w) (hF : F.w0 = w) (hS : F.S0 = E.S) {q : Nm} {l : List AV} {v : Value} {sz : Nat} (hq : cl q = some (.row l)) (hk : E.ka q = some (v, sz)) {n' : Nat} {xs' : List Value} {l' : List AV} {e : Ending} {w' : World} (hR : RowTo w v sz n' xs' e w') (hn : l'.length = n') (hs : SrcE E sz l' xs') (hf : l'.all AV.flat = true) :
    ∃ v res outs E' cl', e = .returned v ∧ (res = [.lst .uq sz l'] ∧ outs = []) ∧ Rep E' (one1 (frR 0 res)) v ∧ WI F E' (objsOf outs) cl' w' ∧ NamedO outs cl' ∧ NamedR res cl' ∧ (outs.map (·.1)).Nodup := by
  obtain ⟨v', te, rfl, g1, g2, g3⟩ := hR; obtain ⟨t0, xs0, k1, k2, k3, k4⟩ := z1q h hq hk
  have hlt : ∀ b i x, E.S b i = some x → b < w.heap.size := fun b i x hx => by
    have := h.agree b i x hx
    rcases Nat.lt_or_ge b w.heap.size with h' | h'
    · exact h'
    · simp [World.cell?, h'] at this
  have hne : ∀ b i x, E.S b i = some x → some b ≠ v.ownBlock := fun b i x hx e => by
    have := (k4 b e.symm).2 i
    rw [hx] at this; cases this
  have hown : ∀ g, v'.ownBlock = some g → F.own g ∧ ∀ i, E.S g i = none := fun g hg => by
    rcases g3 g hg with h1 | h1
    · exact k4 g h1
    · refine ⟨.inl (by rw [hF]; exact h1), fun i => ?_⟩
      cases hx : E.S g i with
      | none => rfl
      | some x => have := hlt g i x hx; omega
  have hone : ∀ q x, updN (fun _ => none) (.R 0) (.row l') q = some x → q = .R 0 ∧ x = .row l' := fun q x hx => by
    by_cases hqq : Nm.R 0 = q
    · subst hqq; rw [zp] at hx; cases hx; exact ⟨rfl, rfl⟩
    · rw [zo _ _ hqq] at hx; cases hx
  have hka : ∀ q x, updK (fun _ => none) (.R 0) (v', sz) q = some x → q = .R 0 ∧ x = (v', sz) := fun q x hx => by
    unfold updK at hx
    split at hx
    · rename_i he; cases hx; exact ⟨he.symm, rfl⟩
    · cases hx
  have hka0 : updK (fun _ => none) (.R 0) (v', sz) (.R 0) = some (v', sz) := by simp [updK]
  refine ⟨v', _, _, ⟨E.S, fun _ => none, updK (fun _ => none) (.R 0) (v', sz)⟩, updN (fun _ => none) (.R 0) (.row l'), rfl, ⟨rfl, rfl⟩, ?_, ?_, ?_, ?_, by simp⟩
  · change Rep _ (.sq (.R 0) sz) v'
    simp only [Rep]; refine ⟨hka0, ?_⟩
    rcases g1.2 with ⟨e1, _⟩ | ⟨g, cap, cur, e1, _⟩
    · exact ⟨_, _, _, e1⟩
    · exact ⟨_, _, _, e1⟩
  · refine ⟨?_, ?_, ?_, ?_, ?_, ?_, ?_, ?_, ?_, ?_, ?_, ?_, ?_, ?_⟩
    · intro b i x hx
      rw [z3r (g2.block b (hlt b i x hx) (hne b i x hx))]; exact h.agree b i x hx
    · intro o cs ho; cases ho
    · intro o cs ho; cases ho
    · intro q' hq'
      have : ∃ x, updN (fun _ => none) (.R 0) (.row l') q' = some x := by
        cases hx : updN (fun _ => none) (.R 0) (.row l') q' with
        | none => rw [hx] at hq'; cases hq'
        | some x => exact ⟨x, rfl⟩
      obtain ⟨x, hx⟩ := this; obtain ⟨rfl, rfl⟩ := hone _ _ hx; exact ⟨v', sz, te, n', xs', hka0, k3, g1, fun g hg => ⟨(hown g hg).1, fun i _ => (hown g hg).2 i⟩⟩
    · intro q' l2 hq'
      obtain ⟨rfl, e2⟩ := hone _ _ hq'
      cases e2
      exact ⟨v', sz, te, n', xs', hka0, g1, (SrcE.mono (E := E) (E' := ⟨E.S, fun _ => none, updK (fun _ => none) (.R 0) (v', sz)⟩) (fun _ _ _ hx => hx) hs).toR, hn, fun g hg i => (hown g hg).2 i⟩
    · intro o o' cs cs' b ho; cases ho
    · intro q1 q2 v1 v2 s1 s2 g hq1 hq2 hk1 hk2 _ _
      rw [(hka _ _ hk1).1, (hka _ _ hk2).1]
    · intro o cs b q' v1 s ho; cases ho
    · intro o b ho; cases ho
    · intro q' x hx
      rw [(hka _ _ hx).1, zp]; simp
    · refine ⟨g2.os.trans (by rw [hF]), g2.tape.trans (by rw [hF]), g2.output.trans (by rw [hF]), by rw [hF]; exact g2.size, fun i hi ho => ?_⟩
      rw [hF] at hi ⊢; refine g2.block i hi fun e1 => ?_
      rcases (k4 i e1.symm).1 with h5 | h5
      · rw [hF] at h5; omega
      · exact ho h5
    · intro b i x hx; rw [hS] at hx; exact hx
    · intro b i x hx; exact .inl (by rw [hS]; exact hx)
    · intro j b cs _ ho; cases ho
  · intro j cs hj; cases hj
  · intro r x hx
    cases r with
    | zero =>
      simp at hx; subst hx; exact ⟨zp _ _ _, hf⟩
    | succ r => simp at hx
theorem z8q (h : WI F E (objsOf []) cl w) {q : Nm} {l : List AV} {sz : Nat} {v : Value} (hq : cl q = some (.row l) ∧ l.all AV.flat = true) (hv : Rep E (.sq q sz) v) :
    ∃ te xs, w.ownsRow 0 te sz v l.length xs ∧ SrcE E sz l xs ∧ 0 < sz ∧ E.ka q = some (v, sz) ∧ ∀ x ∈ xs, x.oneCell' = true := by
  simp only [Rep] at hv; obtain ⟨t, xs, k1, k2, k3, k4⟩ := z1q h hq.1 hv.1; exact ⟨t, xs, k1, k2.toE hq.2, k3, hv.1, (k2.toE hq.2).one k3⟩
theorem SrcE.take' {sz : Nat} {r : List AV} {ns : List Value} (h : SrcE E sz r ns) (m : Nat) (hf : r.all AV.flat = true) : SrcE E sz (r.take m) (ns.take (m * sz)) :=
  (h.toR.take m).toE (List.all_eq_true.2 fun x hx => List.all_eq_true.1 hf x (List.mem_of_mem_take hx))
theorem SrcE.drop' {sz : Nat} {r : List AV} {ns : List Value} (h : SrcE E sz r ns) (m : Nat) (hf : r.all AV.flat = true) : SrcE E sz (r.drop m) (ns.drop (m * sz)) :=
  (h.toR.drop m).toE (List.all_eq_true.2 fun x hx => List.all_eq_true.1 hf x (List.mem_of_mem_drop hx))
theorem z8r {l : List AV} (m : Nat) (hf : l.all AV.flat = true) : (l.take m).all AV.flat = true := List.all_eq_true.2 fun x hx => List.all_eq_true.1 hf x (List.mem_of_mem_take hx)
theorem z8s {l : List AV} (m : Nat) (hf : l.all AV.flat = true) : (l.drop m).all AV.flat = true := List.all_eq_true.2 fun x hx => List.all_eq_true.1 hf x (List.mem_of_mem_drop hx)
def insX (sz bytes : Nat) (args : List AV) (ins : List (Nat × List AV)) : Option CR :=
  match args, ins with
  | [.lst .uq a l, .int .i64 i, .lst .uq b r], [] => bif Nat.beq a sz && (Nat.beq b sz && (decide (0 ≤ i) && (decide (i ≤ (l.length : Int)) && decide ((l.length + r.length) * bytes ≤ 211106232532992)))) then some ([.lst .uq sz (l.take i.toNat ++ r ++ l.drop i.toNat)], []) else none
  | _, _ => none
def delX (sz : Nat) (args : List AV) (ins : List (Nat × List AV)) : Option CR :=
  match args, ins with
  | [.lst .uq a l, .int .i64 i, .int .i64 j], [] => bif Nat.beq a sz && (decide (0 ≤ i) && (decide (i ≤ j) && decide (j ≤ (l.length : Int)))) then some ([.lst .uq sz (l.take i.toNat ++ l.drop j.toNat)], []) else none
  | _, _ => none
def repX (sz bytes : Nat) (args : List AV) (ins : List (Nat × List AV)) : Option CR :=
  match args, ins with
  | [.lst .uq a l, .int .i64 i, .int .i64 j, .lst .uq b r], [] => bif Nat.beq a sz && (Nat.beq b sz && (decide (0 ≤ i) && (decide (i ≤ j) && (decide (j ≤ (l.length : Int)) && decide ((l.length + r.length) * bytes ≤ 211106232532992))))) then some ([.lst .uq sz (l.take i.toNat ++ r ++ l.drop j.toNat)], []) else none
  | _, _ => none
theorem zkr {f sz bytes : Nat} (hc : ∀ (v u : Value) (n m i : Nat) (xs ys : List Value) (te te2 : TypeId) (w : World), w.ownsRow 0 te sz v n xs → w.ownsRow 0 te2 sz u m ys → (∀ g, v.ownBlock = some g → u.ownBlock ≠ some g) → (∀ x ∈ xs, x.oneCell' = true) → (∀ y ∈ ys, y.oneCell' = true) → i ≤ n → (n + m) * bytes ≤ 211106232532992 →
      Calls P f #[v, .int .i64 i, u] w (RowTo w v sz (n + m) (xs.take (i * sz) ++ ys ++ xs.drop (i * sz))))
    {args : List AV} {ins : List (Nat × List AV)} {r : List AV} {o : List (Nat × List AV)} (h : insX sz bytes args ins = some (r, o)) : Sem P f args ins (fun r' o' => r' = r ∧ o' = o) := by
  unfold insX at h
  split at h
  · rename_i a l i b r'
    cases hb : Nat.beq a sz && (Nat.beq b sz && (decide (0 ≤ i) && (decide (i ≤ (l.length : Int)) && decide ((l.length + r'.length) * bytes ≤ 211106232532992)))) with
    | false => rw [hb] at h; cases h
    | true =>
      rw [hb] at h; simp only [Bool.and_eq_true, Nat.beq_eq, decide_eq_true_eq] at hb; obtain ⟨rfl, rfl, h0, h1, h2⟩ := hb
      cases h
      intro F E cl w vals hF hS hM hA hI hO hN
      change RepT E [.sq (.Y 3 0 0 0) _, .int .i64 i, .sq (.Y 3 2 0 0) _] vals.toList at hA
      simp only [RepT] at hA; obtain ⟨v, r1, e1, hv, i', r2, e2, hi, u, r3, e3, hu, e4⟩ := hA; simp only [Rep] at hi; subst hi
      have hvals : vals = #[v, .int .i64 i, u] := by apply Array.ext'; rw [e1, e2, e3, e4]
      have n1 := hN 0 _ rfl; have n2 := hN 2 _ rfl; obtain ⟨te, xs, a1, a2, a3, a4, a5⟩ := z8q hI n1 hv; obtain ⟨te2, ys, b1, b2, b3, b4, b5⟩ := z8q hI n2 hu
      obtain ⟨k, rfl⟩ : ∃ k : Nat, i = k := ⟨i.toNat, by omega⟩
      have hk : k ≤ l.length := by omega
      rw [hvals]; refine (hc v u l.length r'.length k xs ys te te2 w a1 b1 (fun g hg hg2 => ?_) a5 b5 hk h2).mono fun e w' hR => ?_
      · have := hI.cc _ _ _ _ _ _ g (z18 n1.1) (z18 n2.1) a4 b4 hg hg2
        cases this
      · rw [Int.toNat_natCast]
        refine zdw hI hF hS n1.1 a4 hR (by simp; omega) (((a2.take' k n1.2).append b2).append (a2.drop' k n1.2)) (by simp only [List.all_append, z8r k n1.2, z8s k n1.2, n2.2, Bool.and_true])
  · cases h
theorem zks {f sz : Nat} (hc : ∀ (g n cap i j : Nat) (te : TypeId) (cur : Array Value) (w : World), w.heap[g]? = some (.cells cur te (0, 0)) → cur.size = cap * sz → n ≤ cap → cap ≤ maxLen → (∀ u ∈ cur.toList.take (n * sz), u.oneCell' = true) → i ≤ j → j ≤ n →
      Calls P f #[.slice (some ⟨g, 0, none⟩) n cap, .int .i64 i, .int .i64 j] w (RowTo w (.slice (some ⟨g, 0, none⟩) n cap) sz (n - (j - i)) (cur.toList.take (i * sz) ++ (cur.toList.drop (j * sz)).take ((n - j) * sz))))
    (hc0 : ∀ w, Calls P f #[.slice none 0 0, .int .i64 0, .int .i64 0] w (RowTo w (.slice none 0 0) sz 0 []))
    {args : List AV} {ins : List (Nat × List AV)} {r : List AV} {o : List (Nat × List AV)} (h : delX sz args ins = some (r, o)) : Sem P f args ins (fun r' o' => r' = r ∧ o' = o) := by
  unfold delX at h
  split at h
  · rename_i a l i j
    cases hb : Nat.beq a sz && (decide (0 ≤ i) && (decide (i ≤ j) && decide (j ≤ (l.length : Int)))) with
    | false => rw [hb] at h; cases h
    | true =>
      rw [hb] at h; simp only [Bool.and_eq_true, Nat.beq_eq, decide_eq_true_eq] at hb; obtain ⟨ha, h0, h1, h2⟩ := hb; obtain rfl : sz = a := ha.symm
      cases h
      intro F E cl w vals hF hS hM hA hI hO hN
      change RepT E [.sq (.Y 3 0 0 0) _, .int .i64 i, .int .i64 j] vals.toList at hA
      simp only [RepT] at hA; obtain ⟨v, r1, e1, hv, i', r2, e2, hi, j', r3, e3, hj, e4⟩ := hA; simp only [Rep] at hi hj
      subst hi; subst hj
      have hvals : vals = #[v, .int .i64 i, .int .i64 j] := by apply Array.ext'; rw [e1, e2, e3, e4]
      have n1 := hN 0 _ rfl; obtain ⟨te, xs, a1, a2, a3, a4, a5⟩ := z8q hI n1 hv
      obtain ⟨k, rfl⟩ : ∃ k : Nat, i = k := ⟨i.toNat, by omega⟩
      obtain ⟨m, rfl⟩ : ∃ m : Nat, j = m := ⟨j.toNat, by omega⟩
      rw [hvals]
      have fin : ∀ e w', RowTo w v sz (l.length - (m - k)) (xs.take (k * sz) ++ xs.drop (m * sz)) e w' → _ := fun e w' hR =>
        zdw hI hF hS n1.1 a4 hR (l' := l.take k ++ l.drop m) (by simp; omega) ((a2.take' k n1.2).append (a2.drop' m n1.2)) (by simp only [List.all_append, z8r k n1.2, z8s m n1.2, Bool.and_true])
      rw [Int.toNat_natCast, Int.toNat_natCast]
      rcases a1.2 with ⟨rfl, hl0⟩ | ⟨g, cap, cur, rfl, _, hg, hnc, hcm, hcs, ht⟩
      · obtain rfl : k = 0 := by omega
        obtain rfl : m = 0 := by omega
        have hx0 : xs = [] := List.eq_nil_of_length_eq_zero (by rw [a1.1, hl0]; simp)
        have := hc0 w; refine this.mono fun e w' hR => fin e w' ?_; rw [hl0, hx0]
        simpa using hR
      · have e5 : xs.take (k * sz) = cur.toList.take (k * sz) := by rw [← ht, List.take_take, Nat.min_eq_left (Nat.mul_le_mul_right _ (by omega))]
        have e6 : xs.drop (m * sz) = (cur.toList.drop (m * sz)).take ((l.length - m) * sz) := by rw [← ht, List.drop_take, Nat.mul_sub_right_distrib]
        refine (hc g l.length cap k m te cur w hg hcs hnc hcm (by rw [ht]; exact a5) (by omega) (by omega)).mono fun e w' hR => fin e w' ?_
        rw [e5, e6]; exact hR
  · cases h
theorem ztf {f sz bytes : Nat} (hc : ∀ (v u : Value) (n m i j : Nat) (xs ys : List Value) (te te2 : TypeId) (w : World), w.ownsRow 0 te sz v n xs → w.ownsRow 0 te2 sz u m ys → (∀ g, v.ownBlock = some g → u.ownBlock ≠ some g) → (∀ x ∈ xs, x.oneCell' = true) → (∀ y ∈ ys, y.oneCell' = true) → i ≤ j → j ≤ n → (n + m) * bytes ≤ 211106232532992 →
      Calls P f #[v, .int .i64 i, .int .i64 j, u] w (RowTo w v sz (i + m + (n - j)) (xs.take (i * sz) ++ ys ++ xs.drop (j * sz))))
    {args : List AV} {ins : List (Nat × List AV)} {r : List AV} {o : List (Nat × List AV)} (h : repX sz bytes args ins = some (r, o)) : Sem P f args ins (fun r' o' => r' = r ∧ o' = o) := by
  unfold repX at h
  split at h
  · rename_i a l i j b r'
    cases hb : Nat.beq a sz && (Nat.beq b sz && (decide (0 ≤ i) && (decide (i ≤ j) && (decide (j ≤ (l.length : Int)) && decide ((l.length + r'.length) * bytes ≤ 211106232532992))))) with
    | false => rw [hb] at h; cases h
    | true =>
      rw [hb] at h; simp only [Bool.and_eq_true, Nat.beq_eq, decide_eq_true_eq] at hb; obtain ⟨rfl, rfl, h0, h1, h2, h3⟩ := hb
      cases h
      intro F E cl w vals hF hS hM hA hI hO hN
      change RepT E [.sq (.Y 3 0 0 0) _, .int .i64 i, .int .i64 j, .sq (.Y 3 3 0 0) _] vals.toList at hA
      simp only [RepT] at hA; obtain ⟨v, r1, e1, hv, i', r2, e2, hi, j', r3, e3, hj, u, r4, e4, hu, e5⟩ := hA; simp only [Rep] at hi hj
      subst hi; subst hj
      have hvals : vals = #[v, .int .i64 i, .int .i64 j, u] := by apply Array.ext'; rw [e1, e2, e3, e4, e5]
      have n1 := hN 0 _ rfl; have n2 := hN 3 _ rfl; obtain ⟨te, xs, a1, a2, a3, a4, a5⟩ := z8q hI n1 hv; obtain ⟨te2, ys, b1, b2, b3, b4, b5⟩ := z8q hI n2 hu
      obtain ⟨k, rfl⟩ : ∃ k : Nat, i = k := ⟨i.toNat, by omega⟩
      obtain ⟨m, rfl⟩ : ∃ m : Nat, j = m := ⟨j.toNat, by omega⟩
      rw [hvals]
      refine (hc v u l.length r'.length k m xs ys te te2 w a1 b1 (fun g hg hg2 => ?_) a5 b5 (by omega) (by omega) h3).mono fun e w' hR => ?_
      · have := hI.cc _ _ _ _ _ _ g (z18 n1.1) (z18 n2.1) a4 b4 hg hg2
        cases this
      · rw [Int.toNat_natCast, Int.toNat_natCast]
        refine zdw hI hF hS n1.1 a4 hR (by simp; omega) (((a2.take' k n1.2).append b2).append (a2.drop' m n1.2)) (by simp only [List.all_append, z8r k n1.2, z8s m n1.2, n2.2, Bool.and_true])
  · cases h
end Go.Proofs.Ytjkjhgfiaodgmaa.V
namespace Go.Proofs.Ytjkjhgfiaodgmaa.V
open Go Go.RowKit Go.Lib
set_option maxHeartbeats 4000000 in
set_option maxRecDepth 1000000 in
theorem zqu (g n cap i j : Nat) (te : TypeId) (cur : Array Value) (w : World) (hg : w.heap[g]? = some (.cells cur te (0, 0))) (hs : cur.size = cap * 2) (hn : n ≤ cap) (hc : cap ≤ maxLen) (h1 : ∀ u ∈ cur.toList.take (n * 2), u.oneCell' = true) (hi : i ≤ j) (hj : j ≤ n) :
    Calls Try.prog 27 #[.slice (some ⟨g, 0, none⟩) n cap, .int .i64 i, .int .i64 j] w (RowTo w (.slice (some ⟨g, 0, none⟩) n cap) 2 (n - (j - i)) (cur.toList.take (i * 2) ++ (cur.toList.drop (j * 2)).take ((n - j) * 2))) := by
  have hown : w.ownsRow 0 te 2 (.slice (some ⟨g, 0, none⟩) n cap) n (cur.toList.take (n * 2)) := ⟨by rw [List.length_take, Array.length_toList]; omega, .inr ⟨g, cap, cur, rfl, Nat.zero_le _, hg, hn, hc, hs, rfl⟩⟩
  unfold maxLen at hc
  by_cases heq : i = j
  · subst heq
    have e : cur.toList.take (i * 2) ++ (cur.toList.drop (i * 2)).take ((n - i) * 2) = cur.toList.take (n * 2) := by
      rw [← List.take_add]; congr 1; omega
    rw [e, Nat.sub_self, Nat.sub_zero]; have H := Lib.hid (z1b hown); clear hown hg hs h1 e
    rcases Nat.lt_or_ge i n with hin | hin
    · go_enter Try.func27, Try.ntmps27
      go_wp2
      all_goals (go_ret; exact H.out)
    · obtain rfl : n = i := by omega
      go_enter Try.func27, Try.ntmps27
      go_wp2
      all_goals (go_ret; exact H.out)
  · have hlt : i < j := by omega
    have hU : Try.prog.underlying 22 = some (.slice 60) := Try.underlying22
    obtain ⟨ti, hti, hz1, hz2, hz3⟩ := info_parts (by kernel_rfl : (Try.prog.info? 60).map (fun i => (i.zero, i.size, i.bytes)) = some (some (.agg #[.int .i64 0, .slice none 0 0]), 2, 32))
    rcases (show j < cap ∨ cap = j by omega) with hjl | rfl
    rotate_left
    · obtain rfl : n = cap := by omega
      have hcl : ∀ ty c, (Builtin.clear_ #[22] ty #[.slice (some ⟨g, i * 2, none⟩) (n - i) c]).run Try.prog w.drew = .ok (.tuple #[]) (w.drew.setRow g (spl cur (i * 2) (Builtin.zeroCells #[Value.int .i64 0, .slice none 0 0] (n - i)).toList)) := fun ty c =>
        z23 hU hti hz1 (by rw [hz2]; rfl) (by intro u hu; simp [Value.cells] at hu; rcases hu with rfl | rfl <;> rfl) (w := w.drew) (te := te) hg (by rw [hz2, hs]; omega) (by omega)
      have hzl : (Builtin.zeroCells #[Value.int .i64 0, .slice none 0 0] (n - i)).toList.length = (n - i) * 2 := by rw [Array.length_toList, size_zeroCells]; rfl
      have Hend : RowTo w (.slice (some ⟨g, 0, none⟩) n n) 2 (n - (n - i)) (cur.toList.take (i * 2) ++ (cur.toList.drop (n * 2)).take ((n - n) * 2)) (.returned (.slice (some ⟨g, 0, none⟩) i n)) (w.drew.setRow g (spl cur (i * 2) (Builtin.zeroCells #[Value.int .i64 0, .slice none 0 0] (n - i)).toList)) := by
        rw [show n - (n - i) = i by omega]
        refine z1s (w := w.drew) (n' := i) (cap := n) (sz := 2) (te := te) (cur := cur) rfl hg ?_ hi hc ?_ w ⟨rfl, rfl, rfl, rfl⟩ n
        · rw [zu _ _ _ (by omega), hs]
        · rw [zr]
          simp only [Nat.sub_self, Nat.zero_mul, List.take_zero, List.append_nil]
          rw [List.append_assoc, List.take_append_of_le_length (by rw [List.length_take, Array.length_toList]; omega), List.take_take, Nat.min_self]
      have Hcl := Lib.hid hcl; have HE := Lib.hid Hend
      have mixed : Try.prog.follows .mixedOrders = true := by kernel_rfl
      generalize (cur.toList.take (i * 2) ++ (cur.toList.drop (n * 2)).take ((n - n) * 2)) = xs at *; clear hcl Hend hzl hz1 hz2 hz3 hown hg hs h1 hti
      go_enter Try.func27, Try.ntmps27
      go_wp2_with fail
      go_region_law_o fail
      all_goals
        go_wp2_with (with_reducible refine z32 _ rfl (.tmp 31) 22 rfl (.slice (some ⟨g, i * 2, none⟩) (n - i) (n - i)) rfl (Hcl.out _ _) ?_)
        all_goals
          go_ret
          exact HE.out
    obtain ⟨news, hnews⟩ : ∃ news, news = (cur.toList.drop (j * 2)).take ((n - j) * 2) := ⟨_, rfl⟩
    have hnl : news.length = (n - j) * 2 := by rw [hnews, List.length_take, List.length_drop, Array.length_toList]; omega
    have hn1 : ∀ u ∈ news, u.oneCell' = true := by
      intro u hu; rw [hnews, List.take_drop] at hu; have := List.mem_of_mem_drop hu
      rw [show j * 2 + (n - j) * 2 = n * 2 by omega] at this
      exact h1 u this
    have hap : ∀ A c, (cap ≠ j → A = some (⟨g, j * 2, none⟩ : Addr)) → (Builtin.append_ #[22, 22] 22 #[.slice (some ⟨g, 0, none⟩) i cap, .slice A (n - j) c]).run Try.prog w.drew = .ok (.slice (some ⟨g, 0, none⟩) (i + (n - j)) cap) (w.drew.setRow g (spl cur (i * 2) news)) := fun A c hA => by
      have hcells : ∀ W : World, W.heap = w.drew.heap → (Builtin.firstCells 2 (n - j) (.slice A (n - j) c)).run Try.prog W = .ok news.toArray W := fun W hW => by
        have hgW : W.heap[g]? = some (.cells cur te (0, 0)) := by rw [hW]; exact hg
        have hs1 : SrcM Try.prog W 2 (n - j) (.slice A (n - j) c) news := by
          rw [hnews]
          exact zo5 (te := te) (fr := (0, 0)) hgW (by omega) (by rw [← hnews]; exact hn1) A fun h0 => hA (by omega)
        have hsl := hs1.cells (n - j) (Nat.le_refl _)
        rwa [List.take_of_length_le (by omega)] at hsl
      have := z2g (P := Try.prog) (w := w.drew) (t := 22) (u := 22) (ty := 22) (e := 60) (e' := te) (i := ti) hU hU (.inl ⟨_, rfl⟩) hti (g := g) (sLen := i) (sCap := cap) (n := n - j) (cur := cur) hg (y := .slice A (n - j) c) (news := news)
        ⟨fun W hW => by simp [Builtin.lenOf], fun W hW => by rw [hz2]; exact hcells W hW, by rw [hnl, hz2], hn1⟩ (by omega) (by rw [hz2]; omega)
      rw [hz2] at this; exact this
    obtain ⟨W1, hW1⟩ : ∃ W1, W1 = w.drew.setRow g (spl cur (i * 2) news) := ⟨_, rfl⟩
    have hg1 : W1.heap[g]? = some (.cells (spl cur (i * 2) news) te (0, 0)) := by rw [hW1]; exact setRow_heap _ g cur _ te (0, 0) hg
    have hsz1 : (spl cur (i * 2) news).size = cap * 2 := by rw [zu _ _ _ (by omega), hs]
    have hcl : ∀ ty c, (Builtin.clear_ #[22] ty #[.slice (some ⟨g, (i + (n - j)) * 2, none⟩) (n - (i + (n - j))) c]).run Try.prog W1 = .ok (.tuple #[]) (W1.setRow g (spl (spl cur (i * 2) news) ((i + (n - j)) * 2) (Builtin.zeroCells #[Value.int .i64 0, .slice none 0 0] (n - (i + (n - j)))).toList)) := fun ty c =>
      z23 hU hti hz1 (by rw [hz2]; rfl) (by intro u hu; simp [Value.cells] at hu; rcases hu with rfl | rfl <;> rfl) hg1 (by rw [hz2, hsz1]; omega) (by omega)
    have hic : i ≤ cap := by omega
    have hjc : j ≤ cap := by omega
    have Hap := Lib.hid hap; have Hcl := Lib.hid hcl; have HW1 := Lib.hid hW1; have Hend : ∀ cur2, cur2 = spl (spl cur (i * 2) news) ((i + (n - j)) * 2) (Builtin.zeroCells #[Value.int .i64 0, .slice none 0 0] (n - (i + (n - j)))).toList →
        RowTo w (.slice (some ⟨g, 0, none⟩) n cap) 2 (n - (j - i)) (cur.toList.take (i * 2) ++ news) (.returned (.slice (some ⟨g, 0, none⟩) (i + (n - j)) cap)) (W1.setRow g cur2) := by
      intro cur2 hc2
      have hzl : (Builtin.zeroCells #[Value.int .i64 0, .slice none 0 0] (n - (i + (n - j)))).toList.length = (n - (i + (n - j))) * 2 := by rw [Array.length_toList, size_zeroCells]; rfl
      rw [hW1, z16, show i + (n - j) = n - (j - i) by omega]
      refine z1s (w := w.drew) (n' := n - (j - i)) (cap := cap) (sz := 2) (te := te) (cur := cur) rfl hg ?_ (by omega) hc ?_ w ⟨rfl, rfl, rfl, rfl⟩ n
      · rw [hc2, zu _ _ _ (by omega), hsz1]
      · rw [hc2, zr, zr]
        have hl1 : (cur.toList.take (i * 2) ++ news).length = (n - (j - i)) * 2 := by rw [List.length_append, List.length_take, Array.length_toList]; omega
        rw [show (i + (n - j)) * 2 = (n - (j - i)) * 2 by omega]
        rw [List.append_assoc, List.take_append_of_le_length (by rw [List.length_take, List.length_append]; omega), List.take_take, Nat.min_self, List.take_append_of_le_length (by omega), List.take_of_length_le (by omega)]
    have HE := Lib.hid Hend; rw [← hnews]
    have mixed : Try.prog.follows .mixedOrders = true := by kernel_rfl
    clear hap hcl hW1 Hend hnews hg1 hsz1 hz1 hz2 hz3 hnl hn1 hown hg hs h1
    · have hne : ¬ cap = j := by omega
      go_enter Try.func27, Try.ntmps27
      go_wp2_with fail
      go_region_law_o (refine zer rfl (.tmp 22) (.tmp 25) 22 22 rfl (.slice (some ⟨g, 0, none⟩) i cap) (.slice (some ⟨g, j * 2, none⟩) (n - j) (cap - j)) (by simp [Act.eval, Act.put]) (by simp [Act.eval, Act.put]) (Hap.out (some ⟨g, j * 2, none⟩) (cap - j) (fun h => rfl)) ?_)
      all_goals
        rw [← HW1.out]
        go_wp2_with (with_reducible refine z32 _ rfl (.tmp 31) 22 rfl (.slice (some ⟨g, (i + (n - j)) * 2, none⟩) (n - (i + (n - j))) (cap - (i + (n - j)))) rfl (Hcl.out _ _) ?_)
        all_goals
          go_ret
          exact HE.out _ rfl
set_option maxHeartbeats 4000000 in
set_option maxRecDepth 1000000 in
theorem z65 (base : Option Addr) (n cap i : Nat) (b2 : Option Addr) (c2 : Nat) (w : World) (hi : i ≤ n) (hn : n ≤ cap) (hc : cap ≤ maxLen) (xs : List Value) (hR : RowTo w (.slice base n cap) 2 n xs (.returned (.slice base n cap)) w) :
    Calls Try.prog 26 #[.slice base n cap, .int .i64 i, .slice b2 0 c2] w (RowTo w (.slice base n cap) 2 n xs) := by
  unfold maxLen at hc
  have hic : i ≤ cap := by omega
  have H := Lib.hid hR; clear hR
  cases base with
  | none =>
    go_enter Try.func26, Try.ntmps26
    go_wp2
    all_goals (go_ret; exact H.out)
  | some b =>
    rcases (show i < cap ∨ cap = i by omega) with hlt | rfl
    · have hne : ¬ cap = i := by omega
      go_enter Try.func26, Try.ntmps26
      go_wp2
      all_goals (go_ret; exact H.out)
    · go_enter Try.func26, Try.ntmps26
      go_wp2
      all_goals (go_ret; exact H.out)
set_option maxHeartbeats 4000000 in
set_option maxRecDepth 1000000 in
theorem zo8 (v : Value) (n : Nat) (xs : List Value) (te : TypeId) (b2 : Addr) (m c2 : Nat) (news : List Value) (w : World) (hown : w.ownsRow 0 te 2 v n xs) (hm : 0 < m) (hy : Src Try.prog w 2 m (.slice (some b2) m c2) news) (hb : (n + m) * 32 ≤ 211106232532992) :
    Calls Try.prog 26 #[v, .int .i64 n, .slice (some b2) m c2] w (RowTo w v 2 (n + m) (xs ++ news)) := by
  have hU : Try.prog.underlying 22 = some (.slice 60) := Try.underlying22
  obtain ⟨ti, hti, hz1, hz2, hz3⟩ := info_parts (by kernel_rfl : (Try.prog.info? 60).map (fun i => (i.zero, i.size, i.bytes)) = some (some (.agg #[.int .i64 0, .slice none 0 0]), 2, 32))
  obtain ⟨v', w', hap, hR⟩ := z8p (P := Try.prog) (w := w) (ty := 22) hU hU hti hz1 (by rw [hz2]; rfl) (by omega) (by omega) (by omega) (by rw [hz2]; exact hown) (by rw [hz2]; exact hy) (by rw [hz3]; exact hb)
  rw [hz2] at hR
  have hz4 : ¬ ((m : Int) = 0) := by omega
  have H := Lib.hid hR; have Hap := Lib.hid hap
  have mixed : Try.prog.follows .mixedOrders = true := by kernel_rfl
  rcases hown.2 with ⟨rfl, rfl⟩ | ⟨g, cap, cur, rfl, _, hg, hnc, hcm, hcs, htake⟩
  · clear hown hy hR hap hz1 hz2 hz3 hti hb
    go_enter Try.func26, Try.ntmps26
    go_wp2_with (at_builtin; refine z1r _ rfl _ _ 22 22 rfl _ _ rfl rfl Hap.out ?_)
    all_goals (go_ret; exact H.out)
  · unfold maxLen at hcm
    clear hown hy hR hap hz1 hz2 hz3 hti hb hg hcs htake
    rcases (show n < cap ∨ cap = n by omega) with hlt | rfl
    · have hne : ¬ cap = n := by omega
      go_enter Try.func26, Try.ntmps26
      go_wp2_with (at_builtin; refine z1r _ rfl _ _ 22 22 rfl _ _ rfl rfl Hap.out ?_)
      all_goals (go_ret; exact H.out)
    · go_enter Try.func26, Try.ntmps26
      go_wp2_with (at_builtin; refine z1r _ rfl _ _ 22 22 rfl _ _ rfl rfl Hap.out ?_)
      all_goals (go_ret; exact H.out)
set_option maxHeartbeats 4000000 in
set_option maxRecDepth 1000000 in
theorem zo9 (g n cap i h m c2 : Nat) (te te2 : TypeId) (cur cur2 : Array Value) (w : World) (hg : w.heap[g]? = some (.cells cur te (0, 0))) (hs : cur.size = cap * 2) (hc : cap ≤ maxLen) (h1 : ∀ u ∈ cur.toList.take (n * 2), u.oneCell' = true)
    (hg2 : w.heap[h]? = some (.cells cur2 te2 (0, 0))) (hs2 : cur2.size = c2 * 2) (hmc : m ≤ c2) (h2 : ∀ u ∈ cur2.toList.take (m * 2), u.oneCell' = true) (hgh : h ≠ g) (hin : i < n) (hm : 0 < m) (hroom : n + m ≤ cap) :
    Calls Try.prog 26 #[.slice (some ⟨g, 0, none⟩) n cap, .int .i64 i, .slice (some ⟨h, 0, none⟩) m c2] w (RowTo w (.slice (some ⟨g, 0, none⟩) n cap) 2 (n + m) (cur.toList.take (i * 2) ++ cur2.toList.take (m * 2) ++ (cur.toList.drop (i * 2)).take ((n - i) * 2))) := by
  have hU : Try.prog.underlying 22 = some (.slice 60) := Try.underlying22
  obtain ⟨ti, hti, hz1, hz2, hz3⟩ := info_parts (by kernel_rfl : (Try.prog.info? 60).map (fun i => (i.zero, i.size, i.bytes)) = some (some (.agg #[.int .i64 0, .slice none 0 0]), 2, 32))
  unfold maxLen at hc
  have hov : ∀ lb cb, (callFunc 40 #[.slice (some ⟨h, 0, none⟩) m c2, .slice (some ⟨g, (i + m) * 2, none⟩) lb cb]).run Try.prog w = .ok (.value (.bool false)) w := fun lb cb => by
    rw [run_callFunc_extern Try.func40 (by kernel_rfl) (by kernel_rfl) (by kernel_rfl) (e := Extern.SlicesOverlaps.overlaps #[22, 22] #[4]) (by kernel_rfl),
      Lib.run_overlaps_apart w 22 4 60 hU 2 (fun w => by simp [sizeOf, typeInfo, hti, hz2]) ⟨h, 0, none⟩ ⟨g, (i + m) * 2, none⟩ m c2 lb cb hgh te2 te cur2.size cur.size (z3y hg2) (z3y hg) (by omega) (z3a hg2) (z3a hg2)]
    rfl
  obtain ⟨olds, holds⟩ : ∃ olds, olds = (cur.toList.drop (i * 2)).take ((n - i) * 2) := ⟨_, rfl⟩; obtain ⟨news, hnews⟩ : ∃ news, news = cur2.toList.take (m * 2) := ⟨_, rfl⟩
  have hol : olds.length = (n - i) * 2 := by rw [holds, List.length_take, List.length_drop, Array.length_toList]; omega
  have hnl : news.length = m * 2 := by rw [hnews, List.length_take, Array.length_toList]; omega
  have ho1 : ∀ u ∈ olds, u.oneCell' = true := by
    intro u hu; rw [holds, List.take_drop] at hu; have := List.mem_of_mem_drop hu
    rw [show i * 2 + (n - i) * 2 = n * 2 by omega] at this
    exact h1 u this
  have hcp1 : ∀ ty dc sc, (Builtin.copy_ #[22, 22] ty #[.slice (some ⟨g, (i + m) * 2, none⟩) (n + m - (i + m)) dc, .slice (some ⟨g, i * 2, none⟩) (n + m - i) sc]).run Try.prog w.drew = .ok (goInt ((n - i : Nat) : Int)) (w.drew.setRow g (spl cur ((i + m) * 2) olds)) := fun ty dc sc => by
    refine zv hU hti (w := w.drew) (te := te) (o := (i + m) * 2) (cur := cur) (news := olds) hg (by simp only [Nat.min_def]; split <;> omega) ?_ ho1 (by omega)
    rw [hz2, holds]
    exact z13 (w := w.drew) (te := te) (fr := (0, 0)) hg (by omega)
  obtain ⟨W1, hW1⟩ : ∃ W1, W1 = w.drew.setRow g (spl cur ((i + m) * 2) olds) := ⟨_, rfl⟩
  have hg1 : W1.heap[g]? = some (.cells (spl cur ((i + m) * 2) olds) te (0, 0)) := by rw [hW1]; exact setRow_heap _ g cur _ te (0, 0) hg
  have hgh1 : W1.heap[h]? = some (.cells cur2 te2 (0, 0)) := by rw [hW1, setRow_other' _ _ _ _ hgh]; exact hg2
  have hsz1 : (spl cur ((i + m) * 2) olds).size = cap * 2 := by rw [zu _ _ _ (by omega), hs]
  have hcp2 : ∀ ty dc, (Builtin.copy_ #[22, 22] ty #[.slice (some ⟨g, i * 2, none⟩) (n + m - i) dc, .slice (some ⟨h, 0, none⟩) m c2]).run Try.prog W1 = .ok (goInt m) (W1.setRow g (spl (spl cur ((i + m) * 2) olds) (i * 2) news)) := fun ty dc => by
    refine zv hU hti (w := W1) (te := te) (o := i * 2) (cur := spl cur ((i + m) * 2) olds) (news := news) hg1 (by simp only [Nat.min_def]; split <;> omega) ?_ (by rw [hnews]; exact h2) (by omega)
    rw [hz2, hnews]
    exact z13 (w := W1) (te := te2) (fr := (0, 0)) hgh1 (by omega)
  have Hend : RowTo w (.slice (some ⟨g, 0, none⟩) n cap) 2 (n + m) (cur.toList.take (i * 2) ++ news ++ olds) (.returned (.slice (some ⟨g, 0, none⟩) (n + m) cap)) (W1.setRow g (spl (spl cur ((i + m) * 2) olds) (i * 2) news)) := by
    have hl2 : (cur.toList.take (i * 2) ++ news ++ olds).length = (n + m) * 2 := by rw [List.length_append, List.length_append, List.length_take, Array.length_toList]; omega
    rw [hW1, z16]
    refine z1s (w := w.drew) (n' := n + m) (cap := cap) (sz := 2) (te := te) (cur := cur) rfl hg ?_ (by omega) hc ?_ w ⟨rfl, rfl, rfl, rfl⟩ n
    · rw [zu _ _ _ (by omega), hsz1]
    · rw [zr, zr]
      have e1 : (cur.toList.take ((i + m) * 2) ++ olds ++ cur.toList.drop ((i + m) * 2 + olds.length)).take (i * 2) = cur.toList.take (i * 2) := by
        rw [List.append_assoc, List.take_append_of_le_length (by rw [List.length_take, Array.length_toList]; omega), List.take_take, Nat.min_eq_left (by omega)]
      have e2 : (cur.toList.take ((i + m) * 2) ++ olds ++ cur.toList.drop ((i + m) * 2 + olds.length)).drop (i * 2 + news.length) = olds ++ cur.toList.drop ((i + m) * 2 + olds.length) := by
        rw [List.append_assoc, show i * 2 + news.length = (cur.toList.take ((i + m) * 2)).length by rw [List.length_take]; have := Array.length_toList (xs := cur); omega]
        exact List.drop_left
      rw [e1, e2, ← List.append_assoc, List.take_append_of_le_length (by omega), List.take_of_length_le (by omega)]
  have H := Lib.hid Hend; have Hcp1 := Lib.hid hcp1; have Hcp2 := Lib.hid hcp2; have HW1 := Lib.hid hW1
  have mixed : Try.prog.follows .mixedOrders = true := by kernel_rfl
  rw [← hnews, ← holds]
  have hq1 : ¬ ((m : Int) = 0) := by omega
  have hq2 : ¬ ((i : Int) = (n : Int)) := by omega
  have hw1 : IntKind.i64.wrap ((i : Int) + (m : Int)) = (i : Int) + (m : Int) := by rw [IntKind.wrap_i64]; omega
  have hb1 : (0 : Int) ≤ (i : Int) + (m : Int) := by omega
  have hin' : i ≤ n := by omega
  have htn : ((i : Int) + (m : Int)).toNat = i + m := by omega
  have hb2 : ¬ (cap = i + m) := by omega
  have hb3 : (i : Int) ≤ (n : Int) + (m : Int) := by omega
  have hb4 : ¬ (cap = i) := by omega
  clear Hend hcp1 hcp2 hW1 hg1 hgh1 hsz1 hnews holds hol hnl ho1 hz1 hz2 hz3 hti hg hs h1 hg2 hs2 h2
  go_enter Try.func26, Try.ntmps26
  go_wp2_with (simp only [hov])
  go_region_law_o (refine z39 rfl (.tmp 73) (.tmp 76) 22 22 rfl (.slice (some ⟨g, (i + m) * 2, none⟩) (n + m - (i + m)) (cap - (i + m))) (.slice (some ⟨g, i * 2, none⟩) (n + m - i) (cap - i)) (by simp [Act.eval, Act.put]) (by simp [Act.eval, Act.put]) (Hcp1.out _ _ _) ?_)
  all_goals
    rw [← HW1.out]
    go_wp2_with (with_reducible refine z38 _ rfl (.tmp 80) (.tmp 81) 22 22 rfl (.slice (some ⟨g, i * 2, none⟩) (n + m - i) (cap - i)) (.slice (some ⟨h, 0, none⟩) m c2) rfl rfl (Hcp2.out _ _) ?_)
    all_goals
      go_ret
      exact H.out
set_option maxHeartbeats 4000000 in
set_option maxRecDepth 1000000 in
theorem zoa (g n cap i h m c2 : Nat) (te te2 : TypeId) (cur cur2 : Array Value) (w : World) (hg : w.heap[g]? = some (.cells cur te (0, 0))) (hs : cur.size = cap * 2) (hc : cap ≤ maxLen) (h1 : ∀ u ∈ cur.toList.take (n * 2), u.oneCell' = true)
    (hg2 : w.heap[h]? = some (.cells cur2 te2 (0, 0))) (hs2 : cur2.size = c2 * 2) (hmc : m ≤ c2) (h2 : ∀ u ∈ cur2.toList.take (m * 2), u.oneCell' = true) (hgh : h ≠ g) (hin : i < n) (hm : 0 < m) (hn : n ≤ cap) (hroom : cap < n + m) (hb : (n + m) * 32 ≤ 211106232532992) :
    Calls Try.prog 26 #[.slice (some ⟨g, 0, none⟩) n cap, .int .i64 i, .slice (some ⟨h, 0, none⟩) m c2] w (RowTo w (.slice (some ⟨g, 0, none⟩) n cap) 2 (n + m) (cur.toList.take (i * 2) ++ cur2.toList.take (m * 2) ++ (cur.toList.drop (i * 2)).take ((n - i) * 2))) := by
  have hU : Try.prog.underlying 22 = some (.slice 60) := Try.underlying22
  obtain ⟨ti, hti, hz1, hz2, hz3⟩ := info_parts (by kernel_rfl : (Try.prog.info? 60).map (fun i => (i.zero, i.size, i.bytes)) = some (some (.agg #[.int .i64 0, .slice none 0 0]), 2, 32))
  unfold maxLen at hc; have hcurl := Array.length_toList (xs := cur); obtain ⟨olds, holds⟩ : ∃ olds, olds = (cur.toList.drop (i * 2)).take ((n - i) * 2) := ⟨_, rfl⟩; obtain ⟨news, hnews⟩ : ∃ news, news = cur2.toList.take (m * 2) := ⟨_, rfl⟩
  have hol : olds.length = (n - i) * 2 := by rw [holds, List.length_take, List.length_drop]; omega
  have hnl : news.length = m * 2 := by rw [hnews, List.length_take]; have := Array.length_toList (xs := cur2); omega
  have ho1 : ∀ u ∈ olds, u.oneCell' = true := by
    intro u hu; rw [holds, List.take_drop] at hu; have := List.mem_of_mem_drop hu
    rw [show i * 2 + (n - i) * 2 = n * 2 by omega] at this
    exact h1 u this
  have hkk : (n : Int) + (m : Int) - (i : Int) = ((n + m - i : Nat) : Int) := by omega
  have hik : i + (n + m - i) = n + m := by omega
  have hold : (Builtin.firstCells ti.size i (.slice (some ⟨g, 0, none⟩) i cap)).run Try.prog w.drew = .ok (cur.toList.take (i * 2)).toArray w.drew := by
    rw [hz2]
    have := z13 (P := Try.prog) (w := w.drew) (sz := 2) (n := i) (cap := cap) (off := 0) (cnt := i) (te := te) (fr := (0, 0)) hg (by omega)
    rwa [List.drop_zero] at this
  obtain ⟨NC, hNC⟩ : ∃ NC, NC = grownCap w (n + m) cap 60 := ⟨_, rfl⟩
  have hge : n + m ≤ NC := by rw [hNC]; exact grownCap_ge w (n + m) cap _
  have hle : NC ≤ maxLen := by rw [hNC]; exact grownCap_le_maxLen w _ cap _ (by simp only [maxLen]; omega)
  obtain ⟨ROW, hROW⟩ : ∃ ROW : Array Value, ROW = (cur.toList.take (i * 2)).toArray ++ Builtin.zeroCells (Value.agg #[.int .i64 0, .slice none 0 0]).cells (n + m - i) ++ Builtin.zeroCells (Value.agg #[.int .i64 0, .slice none 0 0]).cells (NC - (n + m)) := ⟨_, rfl⟩
  have hrz : ∀ ty, (Builtin.append_ #[22, 3] ty #[.slice (some ⟨g, 0, none⟩) i cap, .int .i64 ((n : Int) + (m : Int) - (i : Int))]).run Try.prog w = .ok (.slice (some ⟨w.heap.size, 0, none⟩) (n + m) NC) (w.drew.alloc (.cells ROW 60)) := fun ty => by
    have h := Lib.run_append_grow_zeros w 22 3 ty 60 ti _ .i64 .i64 hU Try.underlying3 hti hz1 (some ⟨g, 0, none⟩) i cap (cur.toList.take (i * 2)) hold (n + m - i) (by omega) (by omega) (by omega) (by omega) (by rw [hz3]; omega) (by rw [hik]; exact z4t (by omega) (by omega) (by rw [hz3]; exact hb))
    rw [hik, ← hNC, ← hROW] at h; rw [hkk]; exact h
  have hRl : ROW.size = NC * 2 := by
    rw [hROW]; simp only [Array.size_append, List.size_toArray, List.length_take, z26]; have e5 : (Value.agg #[.int .i64 0, .slice none 0 0]).cells.size = 2 := rfl; rw [e5]; omega
  have hRt : ROW.toList.take (i * 2) = cur.toList.take (i * 2) := by
    rw [hROW]; simp only [Array.toList_append, List.append_assoc]
    rw [List.take_append_of_le_length (by rw [List.length_take]; omega), List.take_take, Nat.min_self]
  have hRtl := Array.length_toList (xs := ROW); have hgw : g < w.heap.size := (Array.getElem?_eq_some_iff.1 hg).1; have hhw : h < w.heap.size := (Array.getElem?_eq_some_iff.1 hg2).1; obtain ⟨G, hG⟩ : ∃ G, G = w.heap.size := ⟨_, rfl⟩; obtain ⟨W1, hW1⟩ : ∃ W1, W1 = w.drew.alloc (.cells ROW 60) := ⟨_, rfl⟩
  have hN1 : W1.heap[G]? = some (.cells ROW 60 (0, 0)) := by rw [hW1, hG]; exact heap_alloc_new w.drew _
  have hH1 : W1.heap[h]? = some (.cells cur2 te2 (0, 0)) := by rw [hW1, heap_alloc_old w.drew _ (by exact hhw)]; exact hg2
  have hO1 : W1.heap[g]? = some (.cells cur te (0, 0)) := by rw [hW1, heap_alloc_old w.drew _ (by exact hgw)]; exact hg
  have hcp1 : ∀ ty dc, (Builtin.copy_ #[22, 22] ty #[.slice (some ⟨G, i * 2, none⟩) (n + m - i) dc, .slice (some ⟨h, 0, none⟩) m c2]).run Try.prog W1 = .ok (goInt ((m : Nat) : Int)) (W1.setRow G (spl ROW (i * 2) news)) := fun ty dc => by
    refine zv hU hti (w := W1) (te := 60) (o := i * 2) (cur := ROW) (news := news) hN1 (by simp only [Nat.min_def]; split <;> omega) ?_ (by rw [hnews]; exact h2) (by omega)
    rw [hz2, hnews]
    exact z13 (w := W1) (te := te2) (fr := (0, 0)) hH1 (by omega)
  obtain ⟨W2, hW2⟩ : ∃ W2, W2 = W1.setRow G (spl ROW (i * 2) news) := ⟨_, rfl⟩
  have hN2 : W2.heap[G]? = some (.cells (spl ROW (i * 2) news) 60 (0, 0)) := by rw [hW2]; exact setRow_heap _ G ROW _ _ (0, 0) hN1
  have hO2 : W2.heap[g]? = some (.cells cur te (0, 0)) := by rw [hW2, setRow_other' _ _ _ _ (by omega)]; exact hO1
  have hs2' : (spl ROW (i * 2) news).size = NC * 2 := by rw [zu _ _ _ (by omega), hRl]
  have hcp2 : ∀ ty dc sc, (Builtin.copy_ #[22, 22] ty #[.slice (some ⟨G, (i + m) * 2, none⟩) (n + m - (i + m)) dc, .slice (some ⟨g, i * 2, none⟩) (n - i) sc]).run Try.prog W2.drew = .ok (goInt ((n - i : Nat) : Int)) (W2.drew.setRow G (spl (spl ROW (i * 2) news) ((i + m) * 2) olds)) := fun ty dc sc => by
    refine zv hU hti (w := W2.drew) (te := 60) (o := (i + m) * 2) (cur := spl ROW (i * 2) news) (news := olds) hN2 (by simp only [Nat.min_def]; split <;> omega) ?_ ho1 (by omega)
    rw [hz2, holds]
    exact z13 (w := W2.drew) (te := te) (fr := (0, 0)) hO2 (by omega)
  have Hend : RowTo w (.slice (some ⟨g, 0, none⟩) n cap) 2 (n + m) (cur.toList.take (i * 2) ++ news ++ olds) (.returned (.slice (some ⟨G, 0, none⟩) (n + m) NC)) (W2.drew.setRow G (spl (spl ROW (i * 2) news) ((i + m) * 2) olds)) := by
    have eW : W2.drew.setRow G (spl (spl ROW (i * 2) news) ((i + m) * 2) olds) = (w.drew.drew).alloc (.cells (spl (spl ROW (i * 2) news) ((i + m) * 2) olds) 60) := by
      rw [hW2, hW1, hG]; have e1 : (((w.drew.alloc (.cells ROW 60)).setRow w.heap.size (spl ROW (i * 2) news)).drew).setRow w.heap.size (spl (spl ROW (i * 2) news) ((i + m) * 2) olds) = ((w.drew.drew.alloc (.cells ROW 60)).setRow w.heap.size (spl ROW (i * 2) news)).setRow w.heap.size (spl (spl ROW (i * 2) news) ((i + m) * 2) olds) := rfl; rw [e1, z16]; exact World.setRow_alloc_new w.drew.drew _ _ _
    rw [eW, hG]
    have hl2 : (cur.toList.take (i * 2) ++ news ++ olds).length = (n + m) * 2 := by rw [List.length_append, List.length_append, List.length_take]; omega
    refine z3f (w := w.drew.drew) (w0 := w) (cap := NC) rfl ⟨rfl, rfl, rfl, rfl⟩ ?_ hge hle ?_ _
    · rw [zu _ _ _ (by omega), hs2']
    · rw [zr, zr]
      have e1 : (ROW.toList.take (i * 2) ++ news ++ ROW.toList.drop (i * 2 + news.length)).take ((i + m) * 2) = cur.toList.take (i * 2) ++ news := by
        rw [hRt, List.take_append_of_le_length (by rw [List.length_append, List.length_take]; omega), List.take_of_length_le (by rw [List.length_append, List.length_take]; omega)]
      rw [e1, List.take_append_of_le_length (by omega), List.take_of_length_le (by omega)]
  have H := Lib.hid Hend; have Hrz := Lib.hid hrz; have Hcp1 := Lib.hid hcp1; have Hcp2 := Lib.hid hcp2; have HW1 := Lib.hid hW1; have HW2 := Lib.hid hW2; have HG := Lib.hid hG
  have mixed : Try.prog.follows .mixedOrders = true := by kernel_rfl
  rw [← hnews, ← holds]
  have hq1 : ¬ ((m : Int) = 0) := by omega
  have hq2 : ¬ ((i : Int) = (n : Int)) := by omega
  have hq3 : (cap : Int) < (n : Int) + (m : Int) := by omega
  have hw1 : IntKind.i64.wrap ((n : Int) + (m : Int)) = (n : Int) + (m : Int) := by rw [IntKind.wrap_i64]; omega
  have hw2 : IntKind.i64.wrap ((n : Int) + (m : Int) - (i : Int)) = (n : Int) + (m : Int) - (i : Int) := by rw [IntKind.wrap_i64]; omega
  have hw3 : IntKind.i64.wrap ((i : Int) + (m : Int)) = (i : Int) + (m : Int) := by rw [IntKind.wrap_i64]; omega
  have hb1 : (0 : Int) ≤ (i : Int) + (m : Int) := by omega
  have hin' : i ≤ n := by omega
  have hic : i ≤ cap := by omega
  have htn : ((i : Int) + (m : Int)).toNat = i + m := by omega
  have hb2 : ¬ (NC = i + m) := by omega
  have hb3 : (i : Int) ≤ (n : Int) := by omega
  have hb4 : ¬ (cap = i) := by omega
  have hb5 : ¬ (NC = i) := by omega
  have hb6 : i ≤ n + m := by omega
  have hb7 : i + m ≤ n + m := by omega
  have hb8 : (i : Int) + (m : Int) ≤ (n : Int) + (m : Int) := by omega
  unfold maxLen at hle; clear Hend hrz hcp1 hcp2 hW1 hW2 hG hN1 hH1 hO1 hN2 hO2 hs2' hRl hRt hRtl hROW hNC hnews holds hol hnl ho1 hz1 hz2 hz3 hti hg hs h1 hg2 hs2 h2 hcurl hold hkk hik hgw hhw
  go_enter Try.func26, Try.ntmps26
  go_wp2_with (first | (at_builtin; refine z1r _ rfl _ _ 22 3 rfl _ _ rfl rfl (Hrz.out _) ?_; rw [← HW1.out, ← HG.out]) | (with_reducible refine z38 _ rfl (.tmp 43) (.tmp 44) 22 22 rfl (.slice (some ⟨G, i * 2, none⟩) (n + m - i) (NC - i)) (.slice (some ⟨h, 0, none⟩) m c2) rfl rfl (Hcp1.out _ _) ?_; rw [← HW2.out]))
  go_region_law_o (refine z39 rfl (.tmp 50) (.tmp 53) 22 22 rfl (.slice (some ⟨G, (i + m) * 2, none⟩) (n + m - (i + m)) (NC - (i + m))) (.slice (some ⟨g, i * 2, none⟩) (n - i) (cap - i)) (by simp [Act.eval, Act.put]) (by simp [Act.eval, Act.put]) (Hcp2.out _ _ _) ?_)
  all_goals
    go_wp2
    all_goals
      go_ret
      first | exact H.out | exact (List.append_assoc _ _ _ ▸ H.out)
theorem zqv (v u : Value) (n m i : Nat) (xs ys : List Value) (te te2 : TypeId) (w : World) (hv : w.ownsRow 0 te 2 v n xs) (hu : w.ownsRow 0 te2 2 u m ys) (hvu : ∀ g, v.ownBlock = some g → u.ownBlock ≠ some g) (h1 : ∀ x ∈ xs, x.oneCell' = true) (h2 : ∀ y ∈ ys, y.oneCell' = true) (hi : i ≤ n) (hb : (n + m) * 32 ≤ 211106232532992) :
    Calls Try.prog 26 #[v, .int .i64 i, u] w (RowTo w v 2 (n + m) (xs.take (i * 2) ++ ys ++ xs.drop (i * 2))) := by
  have hv0 := hv; have hu0 := hu; obtain ⟨hxl, hv⟩ := hv; obtain ⟨hyl, hu⟩ := hu
  rcases hu with ⟨rfl, rfl⟩ | ⟨h, c2, cur2, rfl, _, hg2, hmc, hmc2, hs2, ht2⟩
  · have hy0 : ys = [] := List.eq_nil_of_length_eq_zero (by simp [hyl])
    subst hy0; rw [List.append_nil, List.take_append_drop, Nat.add_zero]
    rcases hv with ⟨rfl, rfl⟩ | ⟨g, cap, cur, rfl, _, hg, hnc, hcm, hcs, ht⟩
    · exact z65 none 0 0 i none 0 w hi (Nat.le_refl _) (Nat.zero_le _) xs (z1b hv0)
    · exact z65 _ n cap i none 0 w hi hnc hcm xs (z1b hv0)
  · by_cases hm : m = 0
    · subst hm
      have hy0 : ys = [] := List.eq_nil_of_length_eq_zero (by simp [hyl])
      subst hy0; rw [List.append_nil, List.take_append_drop, Nat.add_zero]
      rcases hv with ⟨rfl, rfl⟩ | ⟨g, cap, cur, rfl, _, hg, hnc, hcm, hcs, ht⟩
      · exact z65 none 0 0 i _ c2 w hi (Nat.le_refl _) (Nat.zero_le _) xs (z1b hv0)
      · exact z65 _ n cap i _ c2 w hi hnc hcm xs (z1b hv0)
    · by_cases hin : i = n
      · subst hin
        rw [List.take_of_length_le (by omega), List.drop_of_length_le (by omega), List.append_nil]
        refine zo8 v i xs te _ m c2 ys w hv0 (by omega) ⟨fun W hW => by simp [Builtin.lenOf], fun W hW => ?_, hyl, h2⟩ hb
        have hgW : W.heap[h]? = some (.cells cur2 te2 (0, 0)) := by rw [hW]; exact hg2
        have := z13 (P := Try.prog) (w := W) (sz := 2) (n := m) (cap := c2) (off := 0) (cnt := m) (te := te2) (fr := (0, 0)) hgW (by omega)
        rw [List.drop_zero, ht2] at this; exact this
      · rcases hv with ⟨rfl, rfl⟩ | ⟨g, cap, cur, rfl, _, hg, hnc, hcm, hcs, ht⟩
        · omega
        · have hgh : h ≠ g := fun e => hvu g rfl (by rw [e]; rfl)
          have e1 : xs.take (i * 2) = cur.toList.take (i * 2) := by rw [← ht, List.take_take, Nat.min_eq_left (by omega)]
          have e2 : xs.drop (i * 2) = (cur.toList.drop (i * 2)).take ((n - i) * 2) := by rw [← ht, List.drop_take]; congr 1; omega
          rw [e1, e2, ← ht2]
          by_cases hroom : n + m ≤ cap
          · exact zo9 g n cap i h m c2 te te2 cur cur2 w hg hcs hcm (by rw [ht]; exact h1) hg2 hs2 hmc (by rw [ht2]; exact h2) hgh (by omega) (by omega) hroom
          · exact zoa g n cap i h m c2 te te2 cur cur2 w hg hcs hcm (by rw [ht]; exact h1) hg2 hs2 hmc (by rw [ht2]; exact h2) hgh (by omega) (by omega) hnc (by omega) hb
end Go.Proofs.Ytjkjhgfiaodgmaa.V
namespace Go.Proofs.Ytjkjhgfiaodgmaa.V
open Go Go.RowKit Go.Lib
set_option maxHeartbeats 4000000 in
set_option maxRecDepth 1000000 in
theorem zmw (w : World) : Calls Try.prog 45 #[.slice none 0 0, .int .i64 0, .int .i64 0] w (RowTo w (.slice none 0 0) 5 0 []) := by
  have H := Lib.hid (z1b (w := w) (World.ownsRow_nil w 0 0 5))
  go_enter Try.func45, Try.ntmps45
  go_wp2
  all_goals (go_ret; exact H.out)
set_option maxHeartbeats 4000000 in
set_option maxRecDepth 1000000 in
theorem zob (w : World) : Calls Try.prog 27 #[.slice none 0 0, .int .i64 0, .int .i64 0] w (RowTo w (.slice none 0 0) 2 0 []) := by
  have H := Lib.hid (z1b (w := w) (World.ownsRow_nil w 0 0 2))
  go_enter Try.func27, Try.ntmps27
  go_wp2
  all_goals (go_ret; exact H.out)
def X0 : CT := fun f args ins =>
  bif Nat.beq f 44 then insX 5 40 args ins else bif Nat.beq f 45 then delX 5 args ins else bif Nat.beq f 47 then repX 5 40 args ins
  else bif Nat.beq f 26 then insX 2 32 args ins else bif Nat.beq f 27 then delX 2 args ins else none
theorem X0_ok (f : Nat) (args : List AV) (ins : List (Nat × List AV)) (r : List AV) (o : List (Nat × List AV)) (h : X0 f args ins = some (r, o)) : Sem Try.prog f args ins (fun r' o' => r' = r ∧ o' = o) := by
  unfold X0 at h
  cases h1 : Nat.beq f 44 with
  | true => rw [h1] at h; rw [Nat.beq_eq] at h1; subst h1; exact zkr zes h
  | false =>
    rw [h1] at h; simp only [cond_false] at h
    cases h2 : Nat.beq f 45 with
    | true => rw [h2] at h; rw [Nat.beq_eq] at h2; subst h2; exact zks zo6 zmw h
    | false =>
      rw [h2] at h; simp only [cond_false] at h
      cases h3 : Nat.beq f 47 with
      | true => rw [h3] at h; rw [Nat.beq_eq] at h3; subst h3; exact ztf zo7 h
      | false =>
        rw [h3] at h; simp only [cond_false] at h
        cases h4 : Nat.beq f 26 with
        | true => rw [h4] at h; rw [Nat.beq_eq] at h4; subst h4; exact zkr zqv h
        | false =>
          rw [h4] at h; simp only [cond_false] at h
          cases h5 : Nat.beq f 27 with
          | true => rw [h5] at h; rw [Nat.beq_eq] at h5; subst h5; exact zks zqu zob h
          | false => rw [h5] at h; cases h
end Go.Proofs.Ytjkjhgfiaodgmaa.V
namespace Go.Proofs.Ytjkjhgfiaodgmaa.V
open Go Go.Shelf Go.Lib Go.Sort
def renS : Ren := ⟨fun f => bif Nat.beq f 35 then 56 else f, fun t => bif Nat.beq t 22 then 28 else bif Nat.beq t 23 then 52 else t, fun g => g⟩
theorem laysS : SlLaysE0.n35 Try.prog renS where
  mixed := by kernel_rfl
  f35 := ⟨"slices.Reverse[[]instar/api.Step,instar/api.Step]", by decide, by kernel_rfl⟩
  t0 := Try.underlying0
  a0 := Try.isAgg0
  z0 := Try.sizeOf0
  v0 := Try.zeroValue0
  t3 := Try.underlying3
  a3 := Try.isAgg3
  z3 := Try.sizeOf3
  v3 := Try.zeroValue3
  t4 := Try.underlying4
  a4 := Try.isAgg4
  z4 := Try.sizeOf4
  v4 := Try.zeroValue4
  t22 := Try.underlying28
  a22 := Try.isAgg28
  z22 := Try.sizeOf28
  v22 := Try.zeroValue28
abbrev Blk16 := {l : List Value // l.length = 16 ∧ ∀ v ∈ l, v.oneCell' = true}
def blk16 : Blk16 := ⟨List.replicate 16 (.bool false), by simp, by intro v hv; rw [List.eq_of_mem_replicate hv]; rfl⟩
instance : Inhabited Blk16 := ⟨blk16⟩
theorem zhi : ∀ (n : Nat) (xs : List Value) (t : Nat), xs.length = n * 16 → t < n * 16 → (revC 16 n xs)[t]? = xs[(n - 1 - t / 16) * 16 + t % 16]?
  | 0, xs, t, h, ht => by omega
  | n + 1, xs, t, h, ht => by
    rw [revC]
    have hd : (xs.drop 16).length = n * 16 := by rw [List.length_drop]; omega
    have hl := z4o 16 n (xs.drop 16) hd
    by_cases h1 : t < n * 16
    · rw [List.getElem?_append_left (by omega), zhi n _ t hd h1, List.getElem?_drop]
      congr 1
      omega
    · rw [List.getElem?_append_right (by omega), hl, List.getElem?_take_of_lt (by omega)]
      congr 1
      omega
theorem zqw : RevAt Try.prog 56 16 := by
  refine ⟨fun w => AnyQ.slices_Reverse_empty laysS none 0 w, ?_⟩; intro w g n cap cur te hg hcs hnc hcm h1
  have hle : n * 16 ≤ cur.size := by omega
  have hcl : cur.toList.length = cur.size := Array.length_toList
  obtain ⟨d, hds, hdg⟩ : ∃ d : Array Blk16, d.size = n ∧ ∀ i, i < n → d[i]!.1 = (cur.toList.drop (i * 16)).take 16 := by
    refine ⟨Array.ofFn (n := n) fun i => ⟨(cur.toList.drop (i.1 * 16)).take 16, ?_, ?_⟩, by simp, ?_⟩
    · have := i.2
      rw [List.length_take, List.length_drop, hcl]; omega
    · intro v hv
      have hi := i.2; rw [List.take_drop] at hv; refine h1 v ?_; have := List.mem_of_mem_drop hv
      have e : cur.toList.take (i.1 * 16 + 16) = (cur.toList.take (n * 16)).take (i.1 * 16 + 16) := by rw [List.take_take]; congr 1; omega
      rw [e] at this; exact List.mem_of_mem_take this
    · intro i hi
      rw [getElem!_pos _ i (by simpa using hi)]
      simp
  have hget : ∀ t, t < n * 16 → (d[t / 16]!.1)[t % 16]! = cur[t]! := by
    intro t ht
    rw [hdg (t / 16) (by omega)]
    rw [getElem!_pos cur t (by omega)]
    have h2 : ((cur.toList.drop (t / 16 * 16)).take 16)[t % 16]? = some cur[t] := by
      rw [List.getElem?_take_of_lt (by omega), List.getElem?_drop, show t / 16 * 16 + t % 16 = t by omega]
      simp [show t < cur.size by omega]
    rw [List.getElem!_eq_getElem?_getD, h2]; rfl
  have hH : HoldsK (fun x : Blk16 => x.1) 16 w g 0 d := by
    intro t ht; rw [size_flatK, hds] at ht
    rw [get_flatK _ _ _ t (by rw [hds]; exact ht), hget t ht]
    refine ⟨?_, ?_⟩
    · simp [World.cell?, hg, getElem!_pos cur t (by omega), show t < cur.size by omega]
    · simp [World.frozen?, hg]
  have H := AnyQ.slices_Reverse laysS 16 Try.isAgg52 Try.sizeOf52 (fun x : Blk16 => x.1) (fun x => x.2.1) (fun x => x.2.2) g 0 cap d w hH (by rw [hds]; unfold maxLen at hcm; omega)
  rw [hds] at H; refine Calls.mono H ?_; rintro e w' ⟨rfl, m, rfl⟩; refine ⟨rfl, m, ?_⟩; show mapBlock (Go.Sort.ahead w m) g (putCells id 0 (flatK (fun x : Blk16 => x.1) 16 d.reverse)) = _; rw [mapBlock_congr (Go.Sort.ahead w m) g _ (fun _ => (revC 16 n (cur.toList.take (n * 16)) ++ cur.toList.drop (n * 16)).toArray)]
  · unfold mapBlock World.setRow
    congr 1
  · intro c e fr hc
    have hc' : w.heap[g]? = some (.cells c e fr) := hc; rw [hg] at hc'
    cases hc'
    have hrl : (revC 16 n (cur.toList.take (n * 16))).length = n * 16 := z4o 16 n _ (by rw [List.length_take, hcl]; omega)
    have hfs : (flatK (fun x : Blk16 => x.1) 16 d.reverse).size = n * 16 := by rw [size_flatK, Array.size_reverse, hds]
    refine Array.ext ?_ ?_
    · simp only [putCells, Array.size_mapIdx, List.size_toArray, List.length_append, hrl, List.length_drop, hcl]; omega
    · intro t ht ht2
      have ht' : t < cur.size := by simpa [putCells] using ht
      simp only [putCells, Array.getElem_mapIdx, hfs, Nat.zero_add, Nat.zero_le, true_and, Nat.sub_zero, id, List.getElem_toArray]
      by_cases h2 : t < n * 16
      · rw [if_pos h2, get_flatK _ _ _ t (by rw [Array.size_reverse, hds]; exact h2)]
        have hr : d.reverse[t / 16]! = d[n - 1 - t / 16]! := by
          rw [getElem!_pos _ (t / 16) (by rw [Array.size_reverse, hds]; omega), Array.getElem_reverse, getElem!_pos _ (n - 1 - t / 16) (by rw [hds]; omega)]
          congr 1
          rw [hds]
        rw [hr]
        have hq := hget ((n - 1 - t / 16) * 16 + t % 16) (by omega)
        rw [show ((n - 1 - t / 16) * 16 + t % 16) / 16 = n - 1 - t / 16 by omega, show ((n - 1 - t / 16) * 16 + t % 16) % 16 = t % 16 by omega] at hq
        rw [hq, getElem!_pos cur _ (by omega)]
        have h3 := zhi n (cur.toList.take (n * 16)) t (by rw [List.length_take, hcl]; omega) h2
        rw [List.getElem?_take_of_lt (by omega)] at h3
        have h4 : (revC 16 n (cur.toList.take (n * 16)) ++ cur.toList.drop (n * 16))[t]? = some cur[(n - 1 - t / 16) * 16 + t % 16] := by
          rw [List.getElem?_append_left (by omega), h3]
          simp [show (n - 1 - t / 16) * 16 + t % 16 < cur.size by omega]
        obtain ⟨_, h5⟩ := List.getElem?_eq_some_iff.1 h4; exact h5.symm
      · rw [if_neg h2]
        have h4 : (revC 16 n (cur.toList.take (n * 16)) ++ cur.toList.drop (n * 16))[t]? = some cur[t] := by
          rw [List.getElem?_append_right (by omega), hrl, List.getElem?_drop, show n * 16 + (t - n * 16) = t by omega]
          simp [ht']
        obtain ⟨_, h5⟩ := List.getElem?_eq_some_iff.1 h4; exact h5.symm
end Go.Proofs.Ytjkjhgfiaodgmaa.V
namespace Go.Proofs.Ytjkjhgfiaodgmaa.V
open Go
def oshT : List (Nat × List Sh) := [(52, [.int .i64, .int .i64, .int .i64, .int .i64, .int .i64, .int .i64, .int .i64, .int .i64, .int .i64, .int .i64, .int .i64, .int .i64, .int .i64, .str, .own 1, .own 5]), (71, [.int .i64, .int .i64, .int .i64, .int .i64, .int .i64, .int .i64, .int .i64, .int .i64, .int .i64, .int .i64, .int .i64, .int .i64, .int .i64, .str, .lst 1, .lst 5, .int .i64, .uq 2, .int .i64, .int .i64]), (125, [.own 1, .int .i64])]
def resT : List (Nat × List Sh) := [(13, [.agg [.int .i64, .uq 2]]), (23, [.uq 5]), (26, [.uq 2]), (27, [.uq 2]), (44, [.uq 5]), (45, [.uq 5]), (46, [.uq 5, .int .i64, .bool]), (47, [.uq 5]), (51, [.obj [.own 1, .int .i64]])]
def ashT : List (Nat × List Sh) := [(26, [.uq 2, .int .i64, .uq 2]), (27, [.uq 2, .int .i64, .int .i64]), (44, [.uq 5, .int .i64, .uq 5]), (45, [.uq 5, .int .i64, .int .i64]), (47, [.uq 5, .int .i64, .int .i64, .uq 5])]
def frzL : List (Nat × Nat) → Nat → List Nat
  | [], _ => []
  | (o, r) :: l, i => bif Nat.beq r i then frzL l i else o :: frzL l i
def isIn : List Nat → Nat → Bool
  | [], _ => false
  | k :: l, j => bif Nat.beq k j then true else isIn l j
def T1 : Tab := tabOf tyTab (fun e => (ofL oshT e).getD ((shTab[e]?).getD [])) (fun f => (ofL resT f).getD ((resTab[f]?).getD [])) fnTab (fun f => (ofL ashT f).getD [])
def revT (f : Nat) : Nat := bif Nat.beq f 56 then 16 else 0
def T0 : Tab := { T1 with rev := revT }
def an3 : Ann := ⟨fun i => (ofL [(13, ([(1, (Sh.lst 5)), (3, .at 1003 0), (5, .at 1005 0), (12, (Sh.lst 1)), (14, (Sh.int IntKind.i64)), (15, (Sh.int IntKind.i64))], [(1003, [.at 0 0, (Sh.int IntKind.i64), (Sh.lst 2)]), (1005, [.at 0 0, (Sh.int IntKind.i64), (Sh.lst 2)])]))] i).getD ([], []), fun i => (ofL [(13, [(none, ([(6, Sh.bool)], [])), (some 0, ([(5, .at 1005 0), (14, (Sh.int IntKind.i64))], [(1005, [.at 0 0, (Sh.int IntKind.i64), (Sh.lst 2)])]))])] i).getD [], ofL [(5, 6), (9, 71), (15, 105), (18, 136), (20, 6)], fun i => isIn [] i, fun i => frzL [(1003, 0), (1005, 0)] i, fun _ => 0, fun _ => [], fun _ => false, fun _ => false⟩
def an4 : Ann := ⟨fun i => (ofL [(2, ([(2, (Sh.lst 5)), (3, .at 1003 0), (4, .at 1004 0), (7, (Sh.int IntKind.i64))], [(1003, [.at 0 0, (Sh.int IntKind.i64), (Sh.lst 2)]), (1004, [.at 0 0, (Sh.int IntKind.i64), (Sh.lst 2)])]))] i).getD ([], []), fun i => (ofL [(2, [(none, ([(6, Sh.bool)], [])), (some 0, ([(2, (Sh.lst 5)), (3, .at 1003 0), (4, .at 1004 0)], [(1003, [.at 0 0, (Sh.int IntKind.i64), (Sh.lst 2)]), (1004, [.at 0 0, (Sh.int IntKind.i64), (Sh.lst 2)])]))])] i).getD [], ofL [(2, 15), (6, 6)], fun i => isIn [] i, fun i => frzL [(1003, 0), (1004, 0)] i, fun _ => 0, fun _ => [], fun _ => false, fun _ => false⟩
def an5 : Ann := ⟨fun i => (ofL [] i).getD ([], []), fun i => (ofL [] i).getD [], ofL [(5, 0)], fun i => isIn [] i, fun i => frzL [] i, fun _ => 0, fun _ => [], fun _ => false, fun _ => false⟩
def an6 : Ann := ⟨fun i => (ofL [(8, ([(1, (Sh.lst 5)), (3, .at 1003 0), (5, .at 1005 0), (10, (Sh.own 16)), (35, (Sh.lst 1)), (36, (Sh.int IntKind.i64)), (37, (Sh.int IntKind.i64))], [(1003, [(Sh.int IntKind.i64), (Sh.lst 2)]), (1005, [.at 0 0, (Sh.int IntKind.i64), (Sh.lst 2)])]))] i).getD ([], []), fun i => (ofL [(8, [(none, ([(6, (Sh.lst 16)), (7, (Sh.int IntKind.i64))], [])), (some 0, ([(3, .at 1003 0), (5, .at 1005 0), (10, (Sh.own 16))], [(1003, [(Sh.int IntKind.i64), (Sh.lst 2)]), (1005, [.at 0 0, (Sh.int IntKind.i64), (Sh.lst 2)])]))])] i).getD [], ofL [(1, 22)], fun i => isIn [] i, fun i => frzL [(1005, 0), (1013, 10)] i, fun _ => 0, fun _ => [], fun _ => false, fun _ => false⟩
def an7 : Ann := ⟨fun i => (ofL [(3, ([(4, .at 1004 0), (7, .at 1007 0), (14, (Sh.lst 16)), (15, (Sh.int IntKind.i64)), (16, (Sh.int IntKind.i64))], [(1004, [(Sh.int IntKind.i64), (Sh.lst 2)]), (1007, [.int .i64, .lst 2])]))] i).getD ([], []), fun i => (ofL [(3, [(none, ([(4, .at 1004 0), (5, (Sh.int IntKind.i64)), (6, (Sh.int IntKind.i64))], [(1004, [(Sh.int IntKind.i64), (Sh.lst 2)])])), (some 0, ([(4, .at 1004 0), (7, .at 1007 0)], [(1004, [(Sh.int IntKind.i64), (Sh.lst 2)]), (1007, [.int .i64, .lst 2])]))])] i).getD [], ofL [], fun i => isIn [] i, fun i => frzL [(1002, 0), (1009, 4), (1010, 5)] i, fun _ => 0, fun _ => [], fun _ => false, fun i => isIn [13] i⟩
def an8 : Ann := ⟨fun i => (ofL [(4, ([(0, (Sh.lst 5)), (1, (Sh.int IntKind.i64)), (2, (Sh.int IntKind.i64)), (16, (Sh.int IntKind.i64)), (17, (Sh.int IntKind.i64))], []))] i).getD ([], []), fun i => (ofL [(4, [(none, ([(6, (Sh.lst 1)), (7, (Sh.int IntKind.i64))], [])), (some 0, ([], []))])] i).getD [], ofL [], fun i => isIn [] i, fun i => frzL [] i, fun _ => 0, fun _ => [], fun _ => false, fun _ => false⟩
def an9 : Ann := ⟨fun i => (ofL [] i).getD ([], []), fun i => (ofL [] i).getD [], ofL [(1, 4)], fun i => isIn [] i, fun i => frzL [(1002, 0), (1003, 0)] i, fun _ => 0, fun _ => [], fun _ => false, fun _ => false⟩
def an10 : Ann := ⟨fun i => (ofL [(2, ([(1, .at 1001 0), (3, (Sh.int IntKind.i64))], [(1001, [.at 0 0, (Sh.int IntKind.i64), (Sh.int IntKind.i64), (Sh.lst 2), (Sh.lst 16), (Sh.lst 16)])]))] i).getD ([], []), fun i => (ofL [(2, [(none, ([(2, Sh.bool)], [])), (some 0, ([(1, .at 1001 0)], [(1001, [.at 0 0, (Sh.int IntKind.i64), (Sh.int IntKind.i64), (Sh.lst 2), (Sh.lst 16), (Sh.lst 16)])]))])] i).getD [], ofL [(2, 13), (6, 2)], fun i => isIn [] i, fun i => frzL [(1001, 0)] i, fun _ => 0, fun _ => [], fun _ => false, fun _ => false⟩
def an11 : Ann := ⟨fun i => (ofL [(5, ([(3, (Sh.int IntKind.i64)), (21, (Sh.lst 2)), (22, (Sh.int IntKind.i64)), (23, (Sh.int IntKind.i64))], []))] i).getD ([], []), fun i => (ofL [(5, [(none, ([(2, Sh.bool)], [])), (some 0, ([], []))])] i).getD [], ofL [(1, 19), (7, 35)], fun i => isIn [] i, fun i => frzL [(1001, 0), (1005, 6)] i, fun _ => 0, fun _ => [], fun _ => false, fun _ => false⟩
def an12 : Ann := ⟨fun i => (ofL [] i).getD ([], []), fun i => (ofL [] i).getD [], ofL [(8, 48)], fun i => isIn [] i, fun i => frzL [(1002, 0), (1003, 0)] i, fun _ => 0, fun _ => [], fun _ => false, fun _ => false⟩
def an13 : Ann := ⟨fun i => (ofL [(3, ([(2, .at 1002 0), (3, .at 1003 0), (10, (Sh.lst 2)), (11, (Sh.int IntKind.i64)), (12, (Sh.int IntKind.i64))], [(1002, [(Sh.int IntKind.i64), (Sh.lst 2)]), (1003, [.int .i64, .uq 2])]))] i).getD ([], []), fun i => (ofL [(3, [(some 0, ([(2, .at 1002 0), (3, .at 1003 0)], [(1002, [(Sh.int IntKind.i64), (Sh.lst 2)]), (1003, [.int .i64, .uq 2])]))])] i).getD [], ofL [], fun i => isIn [] i, fun i => frzL [(1001, 0), (1005, 4)] i, fun _ => 0, fun _ => [], fun i => isIn [25] i, fun i => isIn [22] i⟩
def an14 : Ann := ⟨fun i => (ofL [] i).getD ([], []), fun i => (ofL [] i).getD [], ofL [(1, 25)], fun i => isIn [] i, fun i => frzL [(1002, 0), (1003, 0)] i, fun _ => 0, fun i => (ofL [(14, [6])] i).getD [], fun i => isIn [62] i, fun i => isIn [60] i⟩
def an15 : Ann := ⟨fun i => (ofL [(4, ([(1, (Sh.int IntKind.i64)), (2, (Sh.int IntKind.i64)), (3, .at 1003 0), (19, (Sh.lst 5)), (20, (Sh.int IntKind.i64)), (21, (Sh.int IntKind.i64))], [(1003, [.at 0 0, (Sh.lst 5), (Sh.int IntKind.i64)])]))] i).getD ([], []), fun i => (ofL [(4, [(none, ([(6, (Sh.lst 1)), (7, Sh.bool)], [])), (some 0, ([], []))])] i).getD [], ofL [], fun i => isIn [] i, fun i => frzL [(1003, 0), (1009, 5)] i, fun _ => 0, fun _ => [], fun _ => false, fun _ => false⟩
def an16 : Ann := ⟨fun i => (ofL [(4, ([(1, (Sh.lst 2)), (2, Sh.any), (15, (Sh.lst 2)), (16, (Sh.int IntKind.i64)), (17, (Sh.int IntKind.i64))], []))] i).getD ([], []), fun i => (ofL [(4, [(none, ([(6, Sh.bool)], [])), (some 0, ([], []))])] i).getD [], ofL [], fun i => isIn [] i, fun i => frzL [(1008, 5), (1009, 6)] i, fun _ => 0, fun _ => [], fun _ => false, fun _ => false⟩
def an17 : Ann := ⟨fun i => (ofL [] i).getD ([], []), fun i => (ofL [] i).getD [], ofL [(1, 4)], fun i => isIn [] i, fun i => frzL [(1002, 0), (1003, 0)] i, fun _ => 0, fun _ => [], fun _ => false, fun _ => false⟩
def an18 : Ann := ⟨fun i => (ofL [(4, ([(0, (Sh.lst 5)), (1, (Sh.lst 5)), (12, (Sh.int IntKind.i64)), (13, (Sh.int IntKind.i64))], []))] i).getD ([], []), fun i => (ofL [(4, [(none, ([(4, Sh.bool)], [])), (some 0, ([], []))])] i).getD [], ofL [], fun i => isIn [] i, fun i => frzL [] i, fun _ => 0, fun _ => [], fun _ => false, fun _ => false⟩
def an19 : Ann := ⟨fun i => (ofL [(2, ([(0, (Sh.lst 16)), (3, (Sh.int IntKind.i64))], []))] i).getD ([], []), fun i => (ofL [(2, [(none, ([(2, Sh.bool)], [])), (some 0, ([(0, (Sh.lst 16))], []))])] i).getD [], ofL [(2, 11), (4, 29)], fun i => isIn [] i, fun i => frzL [] i, fun _ => 0, fun _ => [], fun _ => false, fun _ => false⟩
def an20 : Ann := ⟨fun i => (ofL [(5, ([(3, .at 1003 0), (32, (Sh.lst 5)), (33, (Sh.int IntKind.i64)), (34, (Sh.int IntKind.i64))], [(1003, [Sh.arr])]))] i).getD ([], []), fun i => (ofL [(5, [(none, ([(2, Sh.bool)], [])), (some 0, ([], []))])] i).getD [], ofL [(1, 30), (7, 46)], fun i => isIn [] i, fun i => frzL [(1001, 0), (1005, 6)] i, fun _ => 0, fun _ => [], fun _ => false, fun _ => false⟩
def an21 : Ann := ⟨fun i => (ofL [] i).getD ([], []), fun i => (ofL [] i).getD [], ofL [(1, 20)], fun i => isIn [] i, fun i => frzL [(1001, 0)] i, fun _ => 0, fun _ => [], fun _ => false, fun _ => false⟩
def an22 : Ann := ⟨fun i => (ofL [] i).getD ([], []), fun i => (ofL [] i).getD [], ofL [], fun i => isIn [] i, fun i => frzL [(1003, 0), (1008, 1)] i, fun _ => 0, fun _ => [], fun _ => false, fun _ => false⟩
def an23 : Ann := ⟨fun i => (ofL [] i).getD ([], []), fun i => (ofL [] i).getD [], ofL [], fun i => isIn [] i, fun i => frzL [] i, fun _ => 0, fun _ => [], fun i => isIn [5, 7] i, fun _ => false⟩
def an24 : Ann := ⟨fun i => (ofL [(3, ([(1, .at 1001 0), (3, (Sh.lst 1)), (9, (Sh.lst 1)), (10, (Sh.int IntKind.i64)), (11, (Sh.int IntKind.i64))], [(1001, [.at 0 0, (Sh.int IntKind.i64), (Sh.int IntKind.i64), (Sh.int IntKind.i64), (Sh.int IntKind.i64), (Sh.int IntKind.i64), (Sh.int IntKind.i64), (Sh.int IntKind.i64), (Sh.int IntKind.i64), (Sh.int IntKind.i64), (Sh.int IntKind.i64), (Sh.int IntKind.i64), (Sh.int IntKind.i64), (Sh.int IntKind.i64), Sh.str, (Sh.lst 1), (Sh.lst 5)])]))] i).getD ([], []), fun i => (ofL [(3, [(none, ([(2, Sh.bool)], [])), (some 0, ([(1, .at 1001 0), (3, (Sh.lst 1))], [(1001, [.at 0 0, (Sh.int IntKind.i64), (Sh.int IntKind.i64), (Sh.int IntKind.i64), (Sh.int IntKind.i64), (Sh.int IntKind.i64), (Sh.int IntKind.i64), (Sh.int IntKind.i64), (Sh.int IntKind.i64), (Sh.int IntKind.i64), (Sh.int IntKind.i64), (Sh.int IntKind.i64), (Sh.int IntKind.i64), (Sh.int IntKind.i64), Sh.str, (Sh.lst 1), (Sh.lst 5)])]))])] i).getD [], ofL [], fun i => isIn [] i, fun i => frzL [(1001, 0)] i, fun _ => 0, fun _ => [], fun _ => false, fun _ => false⟩
def an25 : Ann := ⟨fun i => (ofL [(1000020, ([(0, .at 0 0), (4, .at 1004 0), (5, (Sh.int IntKind.i64))], [(0, [.int .i64, .int .i64, .int .i64, .int .i64, .int .i64, .int .i64, .int .i64, .int .i64, .int .i64, .int .i64, .int .i64, .int .i64, .int .i64, .str, .lst 1, .lst 5, .int .i64, .uq 2, .int .i64, .int .i64]), (1004, [.at 0 0, (Sh.int IntKind.i64), (Sh.lst 5)])]))] i).getD ([], []), fun i => (ofL [(1000020, [(none, ([(2, (Sh.int IntKind.i64))], [(0, [.int .i64, .int .i64, .int .i64, .int .i64, .int .i64, .int .i64, .int .i64, .int .i64, .int .i64, .int .i64, .int .i64, .int .i64, .int .i64, .str, .lst 1, .lst 5, .int .i64, .uq 2, .int .i64, .int .i64])]))])] i).getD [], ofL [(22, 78), (24, 87), (25, 87)], fun i => isIn [20] i, fun i => frzL [(1004, 8)] i, fun _ => 0, fun _ => [], fun _ => false, fun _ => false⟩
def an25n : Ann := ⟨fun i => (ofL [(1000020, ([(0, .nilp), (4, .at 1004 0), (5, (Sh.int IntKind.i64))], [(1004, [.at 0 0, (Sh.int IntKind.i64), (Sh.lst 5)])]))] i).getD ([], []), fun i => (ofL [(1000020, [(none, ([(2, (Sh.int IntKind.i64))], []))])] i).getD [], ofL [(22, 78), (24, 87), (25, 87)], fun i => isIn [20] i, fun i => frzL [(1004, 8)] i, fun _ => 0, fun _ => [], fun _ => false, fun _ => false⟩
def an28 : Ann := ⟨fun i => (ofL [] i).getD ([], []), fun i => (ofL [] i).getD [], ofL [], fun i => isIn [] i, fun i => frzL [(1004, 3)] i, fun _ => 0, fun i => (ofL [(9, [3])] i).getD [], fun i => isIn [36] i, fun _ => false⟩
def an28n : Ann := ⟨fun i => (ofL [] i).getD ([], []), fun i => (ofL [] i).getD [], ofL [], fun i => isIn [] i, fun i => frzL [(1004, 3)] i, fun _ => 0, fun i => (ofL [(9, [3])] i).getD [], fun i => isIn [36] i, fun _ => false⟩
def an29 : Ann := ⟨fun i => (ofL [(3, ([(3, (Sh.int IntKind.i64)), (7, (Sh.lst 5)), (8, (Sh.int IntKind.i64)), (9, (Sh.int IntKind.i64))], []))] i).getD ([], []), fun i => (ofL [(3, [(some 0, ([(3, (Sh.int IntKind.i64))], []))])] i).getD [], ofL [], fun i => isIn [] i, fun i => frzL [(1001, 0), (1005, 4)] i, fun _ => 0, fun _ => [], fun _ => false, fun _ => false⟩
def an30 : Ann := ⟨fun i => (ofL [] i).getD ([], []), fun i => (ofL [] i).getD [], ofL [(1, 11), (3, 3), (6, 2), (8, 2), (10, 2), (12, 2)], fun i => isIn [] i, fun i => frzL [(1001, 0)] i, fun _ => 0, fun _ => [], fun _ => false, fun _ => false⟩
def an31 : Ann := ⟨fun i => (ofL [(10, ([(11, .at 1061 0), (69, (Sh.lst 1)), (70, (Sh.int IntKind.i64)), (71, (Sh.int IntKind.i64))], [(1061, [.own 1, .int .i64])]))] i).getD ([], []), fun i => (ofL [(10, [(some 0, ([(11, .at 1061 0)], [(1061, [.own 1, .int .i64])]))])] i).getD [], ofL [(5, 60)], fun i => isIn [] i, fun i => frzL [(1001, 0)] i, fun _ => 0, fun _ => [], fun _ => false, fun _ => false⟩
def an32 : Ann := ⟨fun i => (ofL [(3, ([(2, .at 1002 0), (6, .uq 16), (11, (Sh.lst 16)), (12, (Sh.int IntKind.i64)), (13, (Sh.int IntKind.i64))], [(1002, [(Sh.int IntKind.i64), (Sh.lst 2)])]))] i).getD ([], []), fun i => (ofL [(3, [(none, ([(4, (Sh.lst 16)), (5, (Sh.int IntKind.i64))], [])), (some 0, ([(6, .uq 16)], []))])] i).getD [], ofL [], fun i => isIn [] i, fun i => frzL [(1008, 4), (1009, 5)] i, fun _ => 0, fun _ => [], fun i => isIn [29] i, fun i => isIn [39] i⟩
def an33 : Ann := ⟨fun i => (ofL [(2, ([(0, (Sh.lst 16)), (1, (Sh.lst 16)), (2, Sh.any), (7, (Sh.int IntKind.i64))], []))] i).getD ([], []), fun i => (ofL [(2, [(some 0, ([(7, (Sh.int IntKind.i64))], []))])] i).getD [], ofL [], fun i => isIn [] i, fun i => frzL [] i, fun _ => 0, fun _ => [], fun _ => false, fun _ => false⟩
def an34 : Ann := ⟨fun i => (ofL [] i).getD ([], []), fun i => (ofL [] i).getD [], ofL [(1, 5), (3, 4)], fun i => isIn [] i, fun i => frzL [(1002, 0), (1003, 0), (1006, 2)] i, fun _ => 0, fun _ => [], fun _ => false, fun _ => false⟩
def an35 : Ann := ⟨fun i => (ofL [(1000004, ([(3, (Sh.int IntKind.i64)), (4, Sh.bool)], [])), (1000009, ([(3, (Sh.int IntKind.i64)), (11, Sh.bool)], []))] i).getD ([], []), fun i => (ofL [(1000004, [(some 50000, ([], [])), (none, ([(2, (Sh.lst 1))], []))]), (1000009, [(some 50000, ([], [])), (none, ([(2, (Sh.lst 1))], []))])] i).getD [], ofL [], fun i => isIn [4, 9] i, fun i => frzL [] i, fun _ => 0, fun _ => [], fun _ => false, fun _ => false⟩
def an36 : Ann := ⟨fun i => (ofL [] i).getD ([], []), fun i => (ofL [] i).getD [], ofL [(9, 4), (11, 4), (13, 4), (15, 5), (16, 4), (19, 4)], fun i => isIn [] i, fun i => frzL [(1002, 0)] i, fun _ => 0, fun _ => [], fun _ => false, fun _ => false⟩
def an37 : Ann := ⟨fun i => (ofL [(3, ([(1, .at 1001 0), (2, .at 1002 0), (3, .at 1003 0), (11, (Sh.lst 1)), (12, (Sh.int IntKind.i64)), (13, (Sh.int IntKind.i64))], [(1001, [.at 0 0, (Sh.int IntKind.i64), (Sh.int IntKind.i64), (Sh.int IntKind.i64), (Sh.int IntKind.i64), (Sh.int IntKind.i64), (Sh.int IntKind.i64), (Sh.int IntKind.i64), (Sh.int IntKind.i64), (Sh.int IntKind.i64), (Sh.int IntKind.i64), (Sh.int IntKind.i64), (Sh.int IntKind.i64), (Sh.int IntKind.i64), Sh.str, (Sh.lst 1), (Sh.lst 5)]), (1002, [(Sh.int IntKind.i64), (Sh.int IntKind.i64), (Sh.int IntKind.i64), (Sh.int IntKind.i64), (Sh.int IntKind.i64), (Sh.int IntKind.i64), (Sh.int IntKind.i64), (Sh.int IntKind.i64), (Sh.int IntKind.i64), (Sh.int IntKind.i64), (Sh.int IntKind.i64), (Sh.int IntKind.i64), (Sh.int IntKind.i64), Sh.str, (Sh.lst 1), (Sh.lst 5)]), (1003, [(Sh.int IntKind.i64), (Sh.int IntKind.i64), (Sh.int IntKind.i64), (Sh.int IntKind.i64), (Sh.int IntKind.i64), (Sh.int IntKind.i64), (Sh.int IntKind.i64), (Sh.int IntKind.i64), (Sh.int IntKind.i64), (Sh.int IntKind.i64), (Sh.int IntKind.i64), (Sh.int IntKind.i64), (Sh.int IntKind.i64), Sh.str, (Sh.lst 1), (Sh.lst 5)])]))] i).getD ([], []), fun i => (ofL [(3, [(some 0, ([(2, .at 1002 0), (3, .at 1003 0)], [(1002, [(Sh.int IntKind.i64), (Sh.int IntKind.i64), (Sh.int IntKind.i64), (Sh.int IntKind.i64), (Sh.int IntKind.i64), (Sh.int IntKind.i64), (Sh.int IntKind.i64), (Sh.int IntKind.i64), (Sh.int IntKind.i64), (Sh.int IntKind.i64), (Sh.int IntKind.i64), (Sh.int IntKind.i64), (Sh.int IntKind.i64), Sh.str, (Sh.lst 1), (Sh.lst 5)]), (1003, [(Sh.int IntKind.i64), (Sh.int IntKind.i64), (Sh.int IntKind.i64), (Sh.int IntKind.i64), (Sh.int IntKind.i64), (Sh.int IntKind.i64), (Sh.int IntKind.i64), (Sh.int IntKind.i64), (Sh.int IntKind.i64), (Sh.int IntKind.i64), (Sh.int IntKind.i64), (Sh.int IntKind.i64), (Sh.int IntKind.i64), Sh.str, (Sh.lst 1), (Sh.lst 5)])]))])] i).getD [], ofL [], fun i => isIn [] i, fun i => frzL [(1001, 0)] i, fun _ => 0, fun _ => [], fun _ => false, fun _ => false⟩
def an38 : Ann := ⟨fun i => (ofL [(2, ([(0, .at 0 0)], [(0, [.int .i64, .int .i64, .int .i64, .int .i64, .int .i64, .int .i64, .int .i64, .int .i64, .int .i64, .int .i64, .int .i64, .int .i64, .int .i64, .str, .lst 1, .lst 5, .int .i64, .uq 2, .int .i64, .int .i64])]))] i).getD ([], []), fun i => (ofL [(2, [(some 0, ([(0, .at 0 0)], [(0, [.int .i64, .int .i64, .int .i64, .int .i64, .int .i64, .int .i64, .int .i64, .int .i64, .int .i64, .int .i64, .int .i64, .int .i64, .int .i64, .str, .lst 1, .lst 5, .int .i64, .uq 2, .int .i64, .int .i64])]))])] i).getD [], ofL [(2, 36), (4, 2)], fun i => isIn [] i, fun i => frzL [] i, fun _ => 0, fun _ => [], fun _ => false, fun _ => false⟩
def an38n : Ann := ⟨fun i => (ofL [(2, ([(0, .nilp)], []))] i).getD ([], []), fun i => (ofL [(2, [(some 0, ([(0, .nilp)], []))])] i).getD [], ofL [(2, 36), (4, 2)], fun i => isIn [] i, fun i => frzL [] i, fun _ => 0, fun _ => [], fun _ => false, fun _ => false⟩
def an39 : Ann := ⟨fun i => (ofL [] i).getD ([], []), fun i => (ofL [] i).getD [], ofL [], fun i => isIn [] i, fun i => frzL [(1002, 0), (1003, 0)] i, fun _ => 0, fun _ => [], fun _ => false, fun _ => false⟩
def an46 : Ann := ⟨fun i => (ofL [] i).getD ([], []), fun i => (ofL [] i).getD [], ofL [(16, 9), (21, 11)], fun i => isIn [] i, fun i => frzL [(1005, 1), (1010, 20)] i, fun _ => 0, fun _ => [], fun i => isIn [21, 36, 57, 76, 105, 111] i, fun _ => false⟩
def an46n : Ann := ⟨fun i => (ofL [] i).getD ([], []), fun i => (ofL [] i).getD [], ofL [(16, 9), (21, 11)], fun i => isIn [] i, fun i => frzL [(1005, 1), (1010, 20)] i, fun _ => 0, fun _ => [], fun i => isIn [21, 36, 57, 76, 105, 111] i, fun _ => false⟩
def an48 : Ann := ⟨fun i => (ofL [] i).getD ([], []), fun i => (ofL [] i).getD [], ofL [], fun i => isIn [] i, fun i => frzL [(1001, 0)] i, fun _ => 0, fun _ => [], fun _ => false, fun _ => false⟩
def an49 : Ann := ⟨fun i => (ofL [(12, ([(4, .at 1012 0), (23, (Sh.lst 2)), (24, (Sh.int IntKind.i64)), (25, (Sh.int IntKind.i64)), (39, (Sh.lst 5)), (40, (Sh.int IntKind.i64)), (41, (Sh.int IntKind.i64))], [(1012, [.own 1, .int .i64])])), (7, ([(4, .at 1012 0), (23, (Sh.lst 2)), (24, (Sh.int IntKind.i64)), (25, (Sh.int IntKind.i64))], [(1012, [.own 1, .int .i64])]))] i).getD ([], []), fun i => (ofL [(12, [(some 2, ([(4, .at 1012 0), (23, (Sh.lst 2)), (24, (Sh.int IntKind.i64)), (25, (Sh.int IntKind.i64))], [(1012, [.own 1, .int .i64])]))]), (7, [(some 0, ([(4, .at 1012 0)], [(1012, [.own 1, .int .i64])]))])] i).getD [], ofL [], fun i => isIn [] i, fun i => frzL [(1001, 0), (1006, 8), (1008, 13)] i, fun _ => 0, fun _ => [], fun _ => false, fun _ => false⟩
def an50 : Ann := ⟨fun i => (ofL [(12, ([(4, .at 1012 0), (6, .at 1006 0), (17, (Sh.lst 16)), (18, (Sh.int IntKind.i64)), (19, (Sh.int IntKind.i64)), (32, (Sh.lst 1)), (33, (Sh.int IntKind.i64)), (34, (Sh.int IntKind.i64))], [(1006, [.at 0 0, (Sh.int IntKind.i64), (Sh.int IntKind.i64), (Sh.int IntKind.i64), (Sh.int IntKind.i64), (Sh.int IntKind.i64), (Sh.int IntKind.i64), (Sh.int IntKind.i64), (Sh.int IntKind.i64), (Sh.int IntKind.i64), (Sh.int IntKind.i64), (Sh.int IntKind.i64), (Sh.int IntKind.i64), (Sh.int IntKind.i64), Sh.str, (Sh.lst 1), (Sh.lst 5)]), (1012, [.own 1, .int .i64])])), (6, ([(4, .at 1012 0), (17, (Sh.lst 16)), (18, (Sh.int IntKind.i64)), (19, (Sh.int IntKind.i64))], [(1012, [.own 1, .int .i64])]))] i).getD ([], []), fun i => (ofL [(12, [(some 2, ([(4, .at 1012 0), (17, (Sh.lst 16)), (18, (Sh.int IntKind.i64)), (19, (Sh.int IntKind.i64))], [(1012, [.own 1, .int .i64])]))]), (6, [(none, ([(2, (Sh.lst 1)), (3, (Sh.int IntKind.i64))], [])), (some 0, ([(4, .at 1012 0)], [(1012, [.own 1, .int .i64])]))])] i).getD [], ofL [], fun i => isIn [] i, fun i => frzL [(1006, 7)] i, fun _ => 0, fun _ => [], fun _ => false, fun _ => false⟩
def an55 : Ann := ⟨fun i => (ofL [] i).getD ([], []), fun i => (ofL [] i).getD [], ofL [], fun i => isIn [] i, fun i => frzL [(1002, 0), (1003, 0), (1006, 1), (1008, 4), (1011, 26)] i, fun _ => 0, fun _ => [], fun _ => false, fun i => isIn [108] i⟩
def an56 : Ann := ⟨fun i => (ofL [(1, ([(0, (Sh.lst 16)), (2, (Sh.int IntKind.i64)), (3, (Sh.int IntKind.i64))], []))] i).getD ([], []), fun i => (ofL [(1, [(some 0, ([], []))])] i).getD [], ofL [], fun i => isIn [] i, fun i => frzL [] i, fun _ => 0, fun _ => [], fun _ => false, fun _ => false⟩
def an57 : Ann := ⟨fun i => (ofL [(4, ([(0, (Sh.lst 1)), (1, (Sh.lst 1)), (12, (Sh.int IntKind.i64)), (13, (Sh.int IntKind.i64))], []))] i).getD ([], []), fun i => (ofL [(4, [(none, ([(4, Sh.bool)], [])), (some 0, ([], []))])] i).getD [], ofL [], fun i => isIn [] i, fun i => frzL [] i, fun _ => 0, fun _ => [], fun _ => false, fun _ => false⟩
def an58 : Ann := ⟨fun i => (ofL [] i).getD ([], []), fun i => (ofL [] i).getD [], ofL [(1, 6)], fun i => isIn [] i, fun i => frzL [] i, fun _ => 0, fun _ => [], fun _ => false, fun _ => false⟩
def an59 : Ann := ⟨fun i => (ofL [] i).getD ([], []), fun i => (ofL [] i).getD [], ofL [(5, 4)], fun i => isIn [] i, fun i => frzL [(1002, 0), (1003, 0)] i, fun _ => 0, fun _ => [], fun _ => false, fun _ => false⟩
def an60 : Ann := ⟨fun i => (ofL [(3, ([(0, (Sh.lst 1)), (1, (Sh.int IntKind.i64)), (5, .at 1005 0), (8, (Sh.lst 1)), (9, (Sh.int IntKind.i64)), (10, (Sh.int IntKind.i64))], [(1005, [Sh.arr])]))] i).getD ([], []), fun i => (ofL [(3, [(none, ([(4, Sh.bool)], [])), (some 0, ([(0, (Sh.lst 1))], []))])] i).getD [], ofL [(5, 23)], fun i => isIn [] i, fun i => frzL [] i, fun _ => 0, fun _ => [], fun _ => false, fun _ => false⟩
def an61 : Ann := ⟨fun i => (ofL [(2, ([(0, (Sh.lst 5)), (1, Sh.any), (7, (Sh.int IntKind.i64)), (8, (Sh.int IntKind.i64))], []))] i).getD ([], []), fun i => (ofL [(2, [(none, ([(4, (Sh.int IntKind.i64))], [])), (some 0, ([], []))])] i).getD [], ofL [], fun i => isIn [] i, fun i => frzL [] i, fun _ => 0, fun _ => [], fun _ => false, fun _ => false⟩
def an62 : Ann := ⟨fun i => (ofL [] i).getD ([], []), fun i => (ofL [] i).getD [], ofL [], fun i => isIn [] i, fun i => frzL [(1002, 0)] i, fun _ => 0, fun _ => [], fun _ => false, fun _ => false⟩
def an66 : Ann := ⟨fun i => (ofL [] i).getD ([], []), fun i => (ofL [] i).getD [], ofL [(1, 23), (5, 4)], fun i => isIn [] i, fun i => frzL [(1002, 0), (1003, 0)] i, fun _ => 0, fun _ => [], fun _ => false, fun _ => false⟩
def an68 : Ann := ⟨fun i => (ofL [(3, ([(0, (Sh.lst 5)), (10, (Sh.int IntKind.i64)), (11, (Sh.int IntKind.i64))], []))] i).getD ([], []), fun i => (ofL [(3, [(none, ([(4, (Sh.int IntKind.i64))], [])), (some 0, ([], []))])] i).getD [], ofL [], fun i => isIn [] i, fun i => frzL [] i, fun _ => 0, fun _ => [], fun _ => false, fun _ => false⟩
def an69 : Ann := ⟨fun i => (ofL [] i).getD ([], []), fun i => (ofL [] i).getD [], ofL [], fun i => isIn [] i, fun i => frzL [(1001, 0)] i, fun _ => 0, fun _ => [], fun _ => false, fun _ => false⟩
def an70 : Ann := ⟨fun i => (ofL [] i).getD ([], []), fun i => (ofL [] i).getD [], ofL [], fun i => isIn [] i, fun i => frzL [(1003, 0)] i, fun _ => 0, fun _ => [], fun _ => false, fun _ => false⟩
def an70n : Ann := ⟨fun i => (ofL [] i).getD ([], []), fun i => (ofL [] i).getD [], ofL [], fun i => isIn [] i, fun i => frzL [(1003, 0)] i, fun _ => 0, fun _ => [], fun _ => false, fun _ => false⟩
def an71 : Ann := ⟨fun i => (ofL [(23, ([(0, .at 0 0), (77, (Sh.lst 1)), (78, (Sh.int IntKind.i64)), (79, (Sh.int IntKind.i64))], [(0, [.own 1, .int .i64])])), (30, ([(0, .at 0 0), (95, (Sh.lst 5)), (96, (Sh.int IntKind.i64)), (97, (Sh.int IntKind.i64))], [(0, [.own 1, .int .i64])]))] i).getD ([], []), fun i => (ofL [(23, [(some 1, ([], [(0, [.own 1, .int .i64])]))]), (30, [(some 3, ([], [(0, [.own 1, .int .i64])]))])] i).getD [], ofL [], fun i => isIn [] i, fun i => frzL [(1004, 0), (1009, 31)] i, fun _ => 0, fun _ => [], fun _ => false, fun _ => false⟩
def an71n : Ann := ⟨fun i => (ofL [(23, ([(0, .nilp), (77, (Sh.lst 1)), (78, (Sh.int IntKind.i64)), (79, (Sh.int IntKind.i64))], [])), (30, ([(0, .nilp), (95, (Sh.lst 5)), (96, (Sh.int IntKind.i64)), (97, (Sh.int IntKind.i64))], []))] i).getD ([], []), fun i => (ofL [(23, [(some 1, ([], []))]), (30, [(some 3, ([], []))])] i).getD [], ofL [], fun i => isIn [] i, fun i => frzL [(1004, 0), (1009, 31)] i, fun _ => 0, fun _ => [], fun _ => false, fun _ => false⟩
def an72 : Ann := ⟨fun i => (ofL [(0, ([(0, .at 0 0), (1, (Sh.int IntKind.u64))], [(0, [.own 1, .int .i64])]))] i).getD ([], []), fun i => (ofL [(0, [(some 0, ([(0, .at 0 0), (1, (Sh.int IntKind.u64))], [(0, [.own 1, .int .i64])]))])] i).getD [], ofL [], fun i => isIn [] i, fun i => frzL [] i, fun _ => 0, fun _ => [], fun _ => false, fun _ => false⟩
def an72n : Ann := ⟨fun i => (ofL [(0, ([(0, .nilp), (1, (Sh.int IntKind.u64))], []))] i).getD ([], []), fun i => (ofL [(0, [(some 0, ([(0, .nilp), (1, (Sh.int IntKind.u64))], []))])] i).getD [], ofL [], fun i => isIn [] i, fun i => frzL [] i, fun _ => 0, fun _ => [], fun _ => false, fun _ => false⟩
def an75 : Ann := ⟨fun i => (ofL [] i).getD ([], []), fun i => (ofL [] i).getD [], ofL [], fun i => isIn [] i, fun i => frzL [(1002, 0), (1003, 0), (1006, 1)] i, fun _ => 0, fun _ => [], fun _ => false, fun _ => false⟩
def an77 : Ann := ⟨fun i => (ofL [(2, ([(1, (Sh.int IntKind.i64)), (4, .at 1004 0), (9, (Sh.lst 2)), (10, (Sh.int IntKind.i64)), (11, (Sh.int IntKind.i64))], [(1004, [(Sh.int IntKind.i64), (Sh.lst 5)])]))] i).getD ([], []), fun i => (ofL [(2, [(none, ([(4, .at 1004 0), (5, Sh.bool)], [(1004, [(Sh.int IntKind.i64), (Sh.lst 5)])])), (some 0, ([(4, .at 1004 0)], [(1004, [(Sh.int IntKind.i64), (Sh.lst 5)])]))])] i).getD [], ofL [], fun i => isIn [] i, fun i => frzL [(1002, 0), (1007, 3)] i, fun _ => 0, fun _ => [], fun _ => false, fun _ => false⟩
def an78 : Ann := ⟨fun i => (ofL [] i).getD ([], []), fun i => (ofL [] i).getD [], ofL [], fun i => isIn [] i, fun i => frzL [(1001, 0)] i, fun _ => 0, fun _ => [], fun _ => false, fun _ => false⟩
def an79 : Ann := ⟨fun i => (ofL [(1, ([(0, (Sh.lst 2)), (2, (Sh.int IntKind.i64)), (3, (Sh.int IntKind.i64))], []))] i).getD ([], []), fun i => (ofL [(1, [(some 0, ([], []))])] i).getD [], ofL [], fun i => isIn [] i, fun i => frzL [] i, fun _ => 0, fun _ => [], fun _ => false, fun _ => false⟩
def an81 : Ann := ⟨fun i => (ofL [(2, ([(0, (Sh.int IntKind.i64)), (3, (Sh.int IntKind.i64))], []))] i).getD ([], []), fun i => (ofL [(2, [(some 0, ([(3, (Sh.int IntKind.i64))], []))])] i).getD [], ofL [], fun i => isIn [] i, fun i => frzL [] i, fun _ => 0, fun _ => [], fun _ => false, fun _ => false⟩
def an83 : Ann := ⟨fun i => (ofL [] i).getD ([], []), fun i => (ofL [] i).getD [], ofL [], fun i => isIn [] i, fun i => frzL [(1003, 0)] i, fun _ => 0, fun _ => [], fun _ => false, fun _ => false⟩
def an83n : Ann := ⟨fun i => (ofL [] i).getD ([], []), fun i => (ofL [] i).getD [], ofL [], fun i => isIn [] i, fun i => frzL [(1003, 0)] i, fun _ => 0, fun _ => [], fun _ => false, fun _ => false⟩
def an84 : Ann := ⟨fun i => (ofL [(1, ([(0, (Sh.lst 5)), (2, (Sh.int IntKind.i64)), (3, (Sh.int IntKind.i64))], []))] i).getD ([], []), fun i => (ofL [(1, [(some 0, ([], []))])] i).getD [], ofL [], fun i => isIn [] i, fun i => frzL [] i, fun _ => 0, fun _ => [], fun _ => false, fun _ => false⟩
def anN : Ann := ⟨fun _ => ([], []), fun _ => [], fun _ => none, fun _ => false, fun _ => [], fun _ => 0, fun _ => [], fun _ => false, fun _ => false⟩
def annT : List (Nat × Ann) := [(6, an3), (8, an4), (10, an5), (12, an6), (14, an7), (16, an8), (18, an9), (20, an10), (22, an11), (24, an12), (26, an13), (28, an14), (30, an15), (32, an16), (34, an17), (36, an18), (38, an19), (40, an20), (42, an21), (44, an22), (46, an23), (48, an24), (50, an25), (51, an25n), (56, an28), (57, an28n), (58, an29), (60, an30), (62, an31), (64, an32), (66, an33), (68, an34), (70, an35), (72, an36), (74, an37), (76, an38), (77, an38n), (78, an39), (92, an46), (93, an46n), (96, an48), (98, an49), (100, an50), (110, an55), (112, an56), (114, an57), (116, an58), (118, an59), (120, an60), (122, an61), (124, an62), (132, an66), (136, an68), (138, an69), (140, an70), (141, an70n), (142, an71), (143, an71n), (144, an72), (145, an72n), (150, an75), (154, an77), (156, an78), (158, an79), (162, an81), (166, an83), (167, an83n), (168, an84)]
def isNilA (v : AV) : Bool := match v with | .nilp => true | _ => false
noncomputable def E0 : Env := ⟨Try.prog, T0, fun f k => (ofL annT (2 * f + k)).getD anN, fun _ args => bif args.any isNilA then 1 else 0, X0⟩
theorem ztg (f : Nat) (h : 0 < revT f) : RevAt Try.prog f (revT f) := by
  unfold revT at h ⊢
  cases hb : Nat.beq f 56 with
  | true => have := Nat.eq_of_beq_eq_true hb; subst this; exact zqw
  | false => rw [hb] at h; cases h
theorem E0_ok : EnvOK' E0 := ⟨zte (T := T1) (zvk zqs) revT, zve (T := T1) (fn_ok zqt) revT ztg, by kernel_rfl, X0_ok⟩
end Go.Proofs.Ytjkjhgfiaodgmaa.V
