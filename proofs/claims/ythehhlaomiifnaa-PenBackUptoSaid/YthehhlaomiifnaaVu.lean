/- The tables, read off the program. -/
import Derived.Test.YthehhlaomiifnaaVt
namespace Go.Proofs.Ythehhlaomiifnaa.V
open Go

def tkOf : TypeDesc → TK
  | .int k => .int k
  | .bool => .bool
  | .string => .str
  | .pointer e => .ptr e
  | .slice e => .slice e
  | .array n e => .array n e
  | .struct fs => .struct (fs.toList.map fun f => (f.offset, f.type))
  | .func _ _ _ => .fn
  | _ => .other
def aggK : TK → Bool
  | .struct _ => true
  | .array _ _ => true
  | _ => false
def zeroOK (agg : Bool) (size : Nat) (z : Value) : Bool :=
  Nat.beq z.cells.size size && (match z with | .agg _ => agg | z => !agg && Nat.beq size 1 && z.oneCell')
def zeroV (agg : Bool) (size : Nat) : Option Value → List AV
  | some z => bif zeroOK agg size z then (cvL z.cells.toList).getD [] else []
  | none => []
/-- The shapes of a type's cells (d: how deep structs are followed). -/
def shL (P : Program) : Nat → Nat → List Sh
  | 0, _ => [.any]
  | d + 1, t => match P.underlying t with
    | some (.int k) => [.int k]
    | some .bool => [.bool]
    | some .string => [.str]
    | some (.slice e) => match P.info? e with | some i => [.lst i.size] | none => [.any]
    | some (.struct fs) => fs.toList.flatMap fun f => shL P d f.type
    | some (.array n e) => bif Nat.ble n 64 then (List.replicate n (shL P d e)).flatten else [.arr]
    | _ => [.any]
def shOf (P : Program) (t : Nat) : Sh := match P.underlying t with
  | some (.struct _) => .agg (shL P 8 t)
  | some (.array _ _) => .agg (shL P 8 t)
  | _ => match shL P 1 t with | [s] => s | _ => .any
def otherTD : TD := ⟨.other, 0, 0, [], .any, false⟩
def tdOf (P : Program) (t : Nat) : TD :=
  match P.info? t, P.underlying t with
  | some i, some d => ⟨tkOf d, i.size, i.bytes, zeroV (aggK (tkOf d)) i.size i.zero, shOf P t, false⟩
  | _, _ => otherTD

theorem tdOf_ok {P : Program} {T : Tab} {t : Nat} (h : T.ty t = otherTD ∨ T.ty t = tdOf P t) : TyOK P T t := by
  have other : T.ty t = otherTD → TyOK P T t := by
    intro h
    refine ⟨by rw [h]; trivial, ?_, ?_⟩
    · intro hk; rw [h] at hk; cases hk
    · intro hk; rw [h] at hk; cases hk
  rcases h with h | h
  · exact other h
  · unfold tdOf at h
    split at h
    · rename_i i d hi hd
      have hkd : (T.ty t).k = tkOf d := by rw [h]
      refine ⟨?_, ?_, ?_⟩
      · rw [hkd]
        cases d <;> simp only [tkOf] <;> first
          | exact hd
          | trivial
          | exact ⟨_, hd, rfl⟩
          | exact ⟨_, _, _, hd⟩
      · intro _
        refine ⟨i, hi, by rw [h], by rw [h], ?_⟩
        intro hz
        have hz' : (T.ty t).zero = zeroV (aggK (tkOf d)) i.size i.zero := by rw [h]
        have hag : (T.ty t).isAgg = aggK (tkOf d) := by
          unfold TD.isAgg
          rw [hkd]
          cases d <;> rfl
        have hsz : (T.ty t).size = i.size := by rw [h]
        rw [hz'] at hz ⊢
        rw [hag, hsz]
        unfold zeroV at hz ⊢
        cases hiz : i.zero with
        | none => rw [hiz] at hz; cases hz
        | some z =>
          rw [hiz] at hz
          dsimp only at hz ⊢
          cases hok : zeroOK (aggK (tkOf d)) i.size z with
          | false => rw [hok] at hz; cases hz
          | true =>
            rw [hok] at hz
            simp only [cond_true] at hz ⊢
            cases hcv : cvL z.cells.toList with
            | none => rw [hcv] at hz; cases hz
            | some l =>
              simp only [zeroOK, Bool.and_eq_true, Nat.beq_eq] at hok
              obtain ⟨h1, h2⟩ := hok
              refine ⟨z, rfl, h1, ?_, ?_, fun E => by simpa using cvL_rep hcv⟩
              · intro ha
                split at h2
                · exact ⟨_, rfl⟩
                · rw [ha] at h2; simp at h2
              · intro ha
                split at h2
                · rw [ha] at h2; cases h2
                · simp only [Bool.and_eq_true, Nat.beq_eq] at h2
                  exact ⟨h2.1.2, h2.2⟩
      · intro he
        rw [h] at he
        cases he
    · exact other h

/-- A table kept as a list, which a look at the program bears out. -/
def tabOf (l : List TD) (osh : Nat → List Sh) (res : Nat → List Sh) (fns : List Bool) : Tab := ⟨fun t => (l[t]?).getD otherTD, osh, res, fun f => (fns[f]?).getD false⟩
theorem tab_ok {P : Program} {l : List TD} {osh : Nat → List Sh} {res : Nat → List Sh} {fns : List Bool} (h : (List.range l.length).map (tdOf P) = l) : TabOK P (tabOf l osh res fns) := by
  intro t
  refine tdOf_ok ?_
  show (l[t]?).getD otherTD = otherTD ∨ (l[t]?).getD otherTD = tdOf P t
  cases hl : l[t]? with
  | none => exact .inl rfl
  | some d =>
    right
    rw [← h, List.getElem?_map] at hl
    have hlt : t < l.length := by
      rcases Nat.lt_or_ge t l.length with h' | h'
      · exact h'
      · rw [List.getElem?_eq_none (by simpa using h')] at hl; cases hl
    rw [List.getElem?_range hlt] at hl
    simpa using hl.symm
def fnOf (P : Program) (f : Nat) : Bool := match P.funcs[f]? with | some fn => fn.body.isSome && !(fn.name == "runtime.NumGoroutine") | none => false
theorem fn_ok {P : Program} {l : List TD} {osh : Nat → List Sh} {res : Nat → List Sh} {fns : List Bool} (h : (List.range fns.length).map (fnOf P) = fns) : FnOK P (tabOf l osh res fns) := by
  intro f hf
  change (fns[f]?).getD false = true at hf
  have hf' : fnOf P f = true := by
    cases hl : fns[f]? with
    | none => rw [hl] at hf; cases hf
    | some b =>
      rw [hl] at hf
      simp only [Option.getD_some] at hf
      subst hf
      rw [← h, List.getElem?_map] at hl
      have hlt : f < fns.length := by
        rcases Nat.lt_or_ge f fns.length with h' | h'
        · exact h'
        · rw [List.getElem?_eq_none (by simpa using h')] at hl; cases hl
      rw [List.getElem?_range hlt] at hl
      simpa using hl
  unfold fnOf at hf'
  split at hf'
  · rename_i fn hfn
    simp only [Bool.and_eq_true, Bool.not_eq_true'] at hf'
    cases hb : fn.body with
    | none => rw [hb] at hf'; simp at hf'
    | some body => exact ⟨fn, body, hfn, hb, hf'.2⟩
  · cases hf'
end Go.Proofs.Ythehhlaomiifnaa.V
