/- A function's loops by their names. -/
import Derived.Test.YthmocicjocjdoaaAu
set_option linter.unusedVariables false
set_option linter.unusedSimpArgs false
namespace Go.Proofs.Ythmocicjocjdoaa.V
open Go
def findLoop (id : Nat) : Code → Option Code
  | .seq a b => match findLoop id a with | some c => some c | none => findLoop id b
  | .cond _ a b => match findLoop id a with | some c => some c | none => findLoop id b
  | .block _ a => findLoop id a
  | .loop a => bif Nat.beq (firstR a) id then some a else findLoop id a
  | _ => none
/-- What follows a meet. -/
def findBlk (an : Ann) (r : Nat) : Code → Option Code
  | .seq a b => bif an.meet (firstR b) && Nat.beq (firstR b) r then some b else match findBlk an r a with | some c => some c | none => findBlk an r b
  | .cond _ a b => match findBlk an r a with | some c => some c | none => findBlk an r b
  | .block _ a => findBlk an r a
  | .loop a => findBlk an r a
  | _ => none
def loopB (an : Ann) (c : Code) (id : Nat) : Code := bif isL id then (match findLoop id c with | some b => b | none => .skip) else match findBlk an (id - 1000000) c with | some b => b | none => .skip
def loopIds : Code → List Nat
  | .seq a b => loopIds a ++ loopIds b
  | .cond _ a b => loopIds a ++ loopIds b
  | .block _ a => loopIds a
  | .loop a => firstR a :: loopIds a
  | _ => []
def blkIds (an : Ann) : Code → List Nat
  | .seq a b => (bif an.meet (firstR b) then [firstR b] else []) ++ (blkIds an a ++ blkIds an b)
  | .cond _ a b => blkIds an a ++ blkIds an b
  | .block _ a => blkIds an a
  | .loop a => blkIds an a
  | _ => []
/-- Names are told apart. -/
def ckOK (an : Ann) (c : Code) : Bool := nodupN (loopIds c) && nodupN (blkIds an c) && (loopIds c).all isL
def resOf (P : Program) (f : Nat) : List Sh := match P.funcs[f]? with | some fn => fn.resultTypes.toList.map (shOf P) | none => []
def bodyOf (fn : Func) : Code := match fn.body with | some c => c | none => .skip

theorem findLoop_mem {id : Nat} : ∀ {c b : Code}, findLoop id c = some b → id ∈ loopIds c
  | .seq a c, b, h => by
    simp only [findLoop] at h
    simp only [loopIds, List.mem_append]
    split at h
    · rename_i e; exact .inl (findLoop_mem e)
    · exact .inr (findLoop_mem h)
  | .cond _ a c, b, h => by
    simp only [findLoop] at h
    simp only [loopIds, List.mem_append]
    split at h
    · rename_i e; exact .inl (findLoop_mem e)
    · exact .inr (findLoop_mem h)
  | .block _ a, b, h => by simp only [findLoop] at h; exact findLoop_mem (c := a) h
  | .loop a, b, h => by
    simp only [findLoop] at h
    simp only [loopIds, List.mem_cons]
    cases hb : Nat.beq (firstR a) id with
    | true => exact .inl (Nat.eq_of_beq_eq_true hb).symm
    | false => rw [hb] at h; exact .inr (findLoop_mem (c := a) h)
  | .skip, b, h => by cases h
  | .region _ _ _, b, h => by cases h
  | .exit _, b, h => by cases h
  | .ret, b, h => by cases h
  | .label _, b, h => by cases h
  | .goto _, b, h => by cases h
  | .scope _, b, h => by cases h
  | .rangeFunc _ _ _ _, b, h => by cases h
  | .refuse _, b, h => by cases h

theorem findBlk_mem {an : Ann} {r : Nat} : ∀ {c b : Code}, findBlk an r c = some b → r ∈ blkIds an c
  | .seq a c, b, h => by
    simp only [findBlk] at h
    simp only [blkIds, List.mem_append]
    cases hm : an.meet (firstR c) && Nat.beq (firstR c) r with
    | true =>
      simp only [Bool.and_eq_true, Nat.beq_eq] at hm
      left; rw [hm.1]; simp [hm.2]
    | false =>
      rw [hm] at h
      simp only [cond_false] at h
      right
      split at h
      · rename_i e; exact .inl (findBlk_mem e)
      · exact .inr (findBlk_mem h)
  | .cond _ a c, b, h => by
    simp only [findBlk] at h
    simp only [blkIds, List.mem_append]
    split at h
    · rename_i e; exact .inl (findBlk_mem e)
    · exact .inr (findBlk_mem h)
  | .block _ a, b, h => findBlk_mem (c := a) h
  | .loop a, b, h => findBlk_mem (c := a) h
  | .skip, b, h => by cases h
  | .region _ _ _, b, h => by cases h
  | .exit _, b, h => by cases h
  | .ret, b, h => by cases h
  | .label _, b, h => by cases h
  | .goto _, b, h => by cases h
  | .scope _, b, h => by cases h
  | .rangeFunc _ _ _ _, b, h => by cases h
  | .refuse _, b, h => by cases h
theorem nodupN_of : ∀ {l : List Nat}, l.Nodup → nodupN l = true
  | [], _ => rfl
  | x :: l, h => by
    rw [List.nodup_cons] at h
    simp only [nodupN, Bool.and_eq_true, Bool.not_eq_true', List.any_eq_false]
    exact ⟨fun y hy e => h.1 (by rw [Nat.eq_of_beq_eq_true e]; exact hy), nodupN_of h.2⟩
theorem loopsIn_of {an : Ann} {B : Nat → Code} : ∀ (c : Code), nodupN (loopIds c) = true → nodupN (blkIds an c) = true → (∀ id b, findLoop id c = some b → B id = b) → (∀ r b, findBlk an r c = some b → B (bid r) = b) → loopsIn an B c
  | .seq a c, hn, hm, h, g => by
    have hd := nodupN_spec hn
    simp only [loopIds, List.nodup_append] at hd
    have hd2 := nodupN_spec hm
    simp only [blkIds, List.nodup_append] at hd2
    obtain ⟨_, ⟨hda, hdc, hdd⟩, hde⟩ := hd2
    have hne : ∀ r, r ∈ blkIds an a ++ blkIds an c → (an.meet (firstR c) && Nat.beq (firstR c) r) = false := by
      intro r hr
      rw [Bool.eq_false_iff]
      intro hh
      simp only [Bool.and_eq_true, Nat.beq_eq] at hh
      exact hde (firstR c) (by rw [hh.1]; simp) r hr hh.2
    refine ⟨loopsIn_of a (nodupN_of hd.1) (nodupN_of hda) (fun id b hb => h id b (by simp only [findLoop, hb])) (fun r b hb => g r b ?_), loopsIn_of c (nodupN_of hd.2.1) (nodupN_of hdc) (fun id b hb => h id b ?_) (fun r b hb => g r b ?_), fun hmt => g _ _ ?_⟩
    · simp only [findBlk, hne r (List.mem_append_left _ (findBlk_mem hb)), cond_false, hb]
    · simp only [findLoop]
      split
      · rename_i e; exact absurd rfl (hd.2.2 id (findLoop_mem e) id (findLoop_mem hb))
      · exact hb
    · simp only [findBlk, hne r (List.mem_append_right _ (findBlk_mem hb)), cond_false]
      split
      · rename_i e; exact absurd rfl (hdd r (findBlk_mem e) r (findBlk_mem hb))
      · exact hb
    · simp [findBlk, hmt]
  | .cond _ a c, hn, hm, h, g => by
    have hd := nodupN_spec hn
    simp only [loopIds, List.nodup_append] at hd
    have hd2 := nodupN_spec hm
    simp only [blkIds, List.nodup_append] at hd2
    obtain ⟨hda, hdc, hdd⟩ := hd2
    refine ⟨loopsIn_of a (nodupN_of hd.1) (nodupN_of hda) (fun id b hb => h id b (by simp only [findLoop, hb])) (fun r b hb => g r b (by simp only [findBlk, hb])), loopsIn_of c (nodupN_of hd.2.1) (nodupN_of hdc) (fun id b hb => h id b ?_) (fun r b hb => g r b ?_)⟩
    · simp only [findLoop]
      split
      · rename_i e; exact absurd rfl (hd.2.2 id (findLoop_mem e) id (findLoop_mem hb))
      · exact hb
    · simp only [findBlk]
      split
      · rename_i e; exact absurd rfl (hdd r (findBlk_mem e) r (findBlk_mem hb))
      · exact hb
  | .block _ a, hn, hm, h, g => loopsIn_of a hn hm h g
  | .loop a, hn, hm, h, g => by
    have hd := nodupN_spec hn
    simp only [loopIds, List.nodup_cons] at hd
    refine ⟨h _ _ (by simp [findLoop]), loopsIn_of a (nodupN_of hd.2) hm (fun id b hb => h id b ?_) g⟩
    simp only [findLoop]
    cases hb2 : Nat.beq (firstR a) id with
    | true =>
      have := Nat.eq_of_beq_eq_true hb2
      subst this
      exact absurd (findLoop_mem hb) hd.1
    | false => exact hb
  | .skip, _, _, _, _ => trivial
  | .region _ _ _, _, _, _, _ => trivial
  | .exit _, _, _, _, _ => trivial
  | .ret, _, _, _, _ => trivial
  | .label _, _, _, _, _ => trivial
  | .goto _, _, _, _, _ => trivial
  | .scope _, _, _, _, _ => trivial
  | .rangeFunc _ _ _ _, _, _, _, _ => trivial
  | .refuse _, _, _, _, _ => trivial
theorem loopB_in {an : Ann} {c : Code} (h : ckOK an c = true) : loopsIn an (loopB an c) c := by
  unfold ckOK at h
  simp only [Bool.and_eq_true] at h
  refine loopsIn_of c h.1.1 h.1.2 (fun id b hb => ?_) (fun r b hb => ?_)
  · have := List.all_eq_true.1 h.2 id (findLoop_mem hb)
    simp [loopB, hb, this]
  · have h2 : bid r - 1000000 = r := Nat.add_sub_cancel r 1000000
    unfold loopB
    rw [isL_bid, h2, hb]
    rfl
end Go.Proofs.Ythmocicjocjdoaa.V
