/- A function's loops by their names. -/
import Derived.Test.YthehhlaomiifnaaVu
namespace Go.Proofs.Ythehhlaomiifnaa.V
open Go
def findLoop (id : Nat) : Code → Option Code
  | .seq a b => match findLoop id a with | some c => some c | none => findLoop id b
  | .cond _ a b => match findLoop id a with | some c => some c | none => findLoop id b
  | .block _ a => findLoop id a
  | .loop a => bif Nat.beq (firstR a) id then some a else findLoop id a
  | _ => none
def loopB (c : Code) (id : Nat) : Code := match findLoop id c with | some b => b | none => .skip
def loopIds : Code → List Nat
  | .seq a b => loopIds a ++ loopIds b
  | .cond _ a b => loopIds a ++ loopIds b
  | .block _ a => loopIds a
  | .loop a => firstR a :: loopIds a
  | _ => []
def resOf (P : Program) (f : Nat) : List Sh := match P.funcs[f]? with | some fn => fn.resultTypes.toList.map (shOf P) | none => []
def bodyOf (fn : Func) : Code := match fn.body with | some c => c | none => .skip

theorem findLoop_mem {id : Nat} : ∀ {c b : Code}, findLoop id c = some b → id ∈ loopIds c
  | .seq a c, b, h => by
    simp only [findLoop] at h
    simp only [loopIds, List.mem_append]
    split at h
    · rename_i e; exact .inl (findLoop_mem e)
    · exact .inr (findLoop_mem h)
  | .cond _ a c, b, h => by
    simp only [findLoop] at h
    simp only [loopIds, List.mem_append]
    split at h
    · rename_i e; exact .inl (findLoop_mem e)
    · exact .inr (findLoop_mem h)
  | .block _ a, b, h => by simp only [findLoop] at h; exact findLoop_mem (c := a) h
  | .loop a, b, h => by
    simp only [findLoop] at h
    simp only [loopIds, List.mem_cons]
    cases hb : Nat.beq (firstR a) id with
    | true => exact .inl (Nat.eq_of_beq_eq_true hb).symm
    | false => rw [hb] at h; exact .inr (findLoop_mem (c := a) h)
  | .skip, b, h => by cases h
  | .region _ _ _, b, h => by cases h
  | .exit _, b, h => by cases h
  | .ret, b, h => by cases h
  | .label _, b, h => by cases h
  | .goto _, b, h => by cases h
  | .scope _, b, h => by cases h
  | .rangeFunc _ _ _ _, b, h => by cases h
  | .refuse _, b, h => by cases h

theorem loopsIn_of {B : Nat → Code} : ∀ (c : Code), nodupN (loopIds c) = true → (∀ id b, findLoop id c = some b → B id = b) → loopsIn B c
  | .seq a c, hn, h => by
    have hd := nodupN_spec hn
    simp only [loopIds, List.nodup_append] at hd
    refine ⟨loopsIn_of a (nodupN_of hd.1) fun id b hb => h id b (by simp only [findLoop, hb]), loopsIn_of c (nodupN_of hd.2.1) fun id b hb => h id b ?_⟩
    simp only [findLoop]
    split
    · rename_i e; exact absurd rfl (hd.2.2 id (findLoop_mem e) id (findLoop_mem hb))
    · exact hb
  | .cond _ a c, hn, h => by
    have hd := nodupN_spec hn
    simp only [loopIds, List.nodup_append] at hd
    refine ⟨loopsIn_of a (nodupN_of hd.1) fun id b hb => h id b (by simp only [findLoop, hb]), loopsIn_of c (nodupN_of hd.2.1) fun id b hb => h id b ?_⟩
    simp only [findLoop]
    split
    · rename_i e; exact absurd rfl (hd.2.2 id (findLoop_mem e) id (findLoop_mem hb))
    · exact hb
  | .block _ a, hn, h => loopsIn_of a hn h
  | .loop a, hn, h => by
    have hd := nodupN_spec hn
    simp only [loopIds, List.nodup_cons] at hd
    refine ⟨h _ _ (by simp [findLoop]), loopsIn_of a (nodupN_of hd.2) fun id b hb => h id b ?_⟩
    simp only [findLoop]
    cases hb2 : Nat.beq (firstR a) id with
    | true =>
      have := Nat.eq_of_beq_eq_true hb2
      subst this
      exact absurd (findLoop_mem hb) hd.1
    | false => exact hb
  | .skip, _, _ => trivial
  | .region _ _ _, _, _ => trivial
  | .exit _, _, _ => trivial
  | .ret, _, _ => trivial
  | .label _, _, _ => trivial
  | .goto _, _, _ => trivial
  | .scope _, _, _ => trivial
  | .rangeFunc _ _ _ _, _, _ => trivial
  | .refuse _, _, _ => trivial
where
  nodupN_of : ∀ {l : List Nat}, l.Nodup → nodupN l = true
    | [], _ => rfl
    | x :: l, h => by
      rw [List.nodup_cons] at h
      simp only [nodupN, Bool.and_eq_true, Bool.not_eq_true', List.any_eq_false]
      exact ⟨fun y hy e => h.1 (by rw [Nat.eq_of_beq_eq_true e]; exact hy), nodupN_of h.2⟩
theorem loopB_in {c : Code} (h : nodupN (loopIds c) = true) : loopsIn (loopB c) c := loopsIn_of c h fun id b hb => by simp [loopB, hb]
end Go.Proofs.Ythehhlaomiifnaa.V
