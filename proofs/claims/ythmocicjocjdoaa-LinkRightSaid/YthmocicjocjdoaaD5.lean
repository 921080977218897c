/- Which steps may be: by what they use, and as the document has it; the same (plain). -/
import Derived.Test.YthmocicjocjdoaaD4
import Derived.Test.YthmocicjocjdoaaD2
import Derived.Test.YthmocicjocjdoaaC11
set_option linter.unusedVariables false
set_option linter.unusedSimpArgs false
namespace Go.Proofs.Ythmocicjocjdoaa.V
open Go
/-- A step's numbers are a machine's. -/
def Stp.ok (x : Stp) : Prop := i64 x.op ∧ i64 x.form ∧ i64 x.field ∧ i64 x.place ∧ i64 x.to ∧ i64 x.a ∧ i64 x.b ∧ x.f.ok ∧ i64 x.n ∧ (∀ n ∈ x.t, i64 n) ∧ ∀ f ∈ x.fields, f.ok
/-- Its lists are short. -/
def Stp.sml (x : Stp) : Prop := x.t.length ≤ 140737488355328 ∧ x.fields.length ≤ 140737488355328
def opsL : List Int := [1, 2, 3, 4, 5, 6, 7, 8, 9, 10, 21, 22, 23, 24, 25, 26, 27, 28, 29, 30]
/-- What an operation uses: 0 the form, 1 the field, 2 the place, 3 to, 4 one, 5 both, 6 types, 7 the value, 8 the table, 9 fields. -/
def usesS (op : Int) : List Int :=
  if op = 1 then [0, 2, 6, 7] else if op = 22 then [0, 2, 6, 7] else if op = 2 then [0, 1, 7] else if op = 3 then [0, 1, 6] else if op = 23 then [0, 1, 6]
  else if op = 4 then [0, 1, 5] else if op = 24 then [0, 1, 5, 6] else if op = 5 then [0, 1, 4, 8] else if op = 25 then [0, 1, 8] else if op = 6 then [0, 1, 4, 3]
  else if op = 26 then [0, 1, 4, 3, 6] else if op = 7 then [0, 1, 2] else if op = 27 then [0, 1, 2] else if op = 8 then [0, 1, 3] else if op = 28 then [0, 1, 3]
  else if op = 9 then [0, 9] else if op = 30 then [0, 9] else if op = 10 then [0] else if op = 29 then [0] else if op = 21 then [0, 1] else []
def hasS (op p : Int) : Bool := (usesS op).contains p
def inS (n lo hi : Int) : Bool := decide (lo ≤ n) && decide (n ≤ hi)
def longestS (f : Fld) : Int := if f.kind = 4 then f.most else 0
def hasV (f : Fld) (n : Int) (s : List UInt8) : Bool := rgtS f && (inS n (loS f) (hiS f) && decide ((s.length : Int) ≤ longestS f))
def apartS (l : List Int) (below : Int) : Bool := (l.all fun n => inS n 0 (below - 1)) && nodupI l && decide (1 ≤ l.length ∧ l.length ≤ 64)
def fitsS (x : Stp) (p : Int) : Bool :=
  if p = 0 then inS x.form 0 200 else if p = 1 then inS x.field 0 255 else if p = 2 then inS x.place 0 8 else if p = 3 then inS x.to 0 255 && x.to != x.field
  else if p = 4 then (if x.op = 5 then inS x.a 1 1000 else inS x.a 2 1048576)
  else if p = 5 then inS x.a (-1048576) 1048576 && (x.a != 0 && inS x.b (-1099511627776) 1099511627776)
  else if p = 6 then rgtS x.f && (x.op == 1 || (x.op == 22 || x.f.id == x.field))
  else if p = 7 then (if x.op = 2 then inS x.n (-1099511627776) 1099511627776 && decide ((x.s.length : Int) ≤ 32) else hasV x.f x.n x.s)
  else if p = 8 then apartS x.t (if x.op = 5 then x.a else 1000)
  else fineS ⟨x.form, x.fields⟩
def fld0 : Fld := ⟨0, 0, 0, 0, 0⟩
def onlyS (x : Stp) : Stp :=
  ⟨x.op, if hasS x.op 0 then x.form else 0, if hasS x.op 1 then x.field else 0, if hasS x.op 2 then x.place else 0, if hasS x.op 3 then x.to else 0,
    if hasS x.op 4 || hasS x.op 5 then x.a else 0, if hasS x.op 5 then x.b else 0, if hasS x.op 6 then x.f else fld0, if hasS x.op 7 then x.n else 0, if hasS x.op 7 then x.s else [],
    if hasS x.op 8 then x.t else [], if hasS x.op 9 then x.fields else []⟩
def tRightS (x : Stp) : Bool := (usesS x.op).all (fitsS x) && (!(usesS x.op).isEmpty && decide (x = onlyS x))
def zeroS (x : Stp) : Bool :=
  (hasS x.op 1 || x.field == 0) && ((hasS x.op 2 || x.place == 0) && ((hasS x.op 3 || x.to == 0) && ((hasS x.op 4 || (hasS x.op 5 || x.a == 0)) && ((hasS x.op 5 || x.b == 0) &&
    ((hasS x.op 6 || decide (x.f = fld0)) && ((hasS x.op 7 || (x.n == 0 && x.s == [])) && ((hasS x.op 8 || x.t.isEmpty) && (hasS x.op 9 || x.fields.isEmpty))))))))
def numbersS (x : Stp) : Bool :=
  if x.op = 4 ∨ x.op = 24 then inS x.a (-1048576) 1048576 && (x.a != 0 && inS x.b (-1099511627776) 1099511627776)
  else if x.op = 6 ∨ x.op = 26 then inS x.a 2 1048576
  else if x.op = 5 then inS x.a 1 1000 && apartS x.t x.a
  else if x.op = 25 then apartS x.t 1000 else true
def ytRightS (x : Stp) : Bool :=
  !(usesS x.op).isEmpty && (zeroS x && (inS x.form 0 200 && (inS x.field 0 255 && (inS x.place 0 8 && (inS x.to 0 255 && (numbersS x &&
    (!(hasS x.op 3 && x.to == x.field) && (!(hasS x.op 6 && !rgtS x.f) && (!(hasS x.op 6 && (hasS x.op 1 && x.f.id != x.field)) &&
      (!(x.op == 2 && !(inS x.n (-1099511627776) 1099511627776 && decide ((x.s.length : Int) ≤ 32))) && (!(hasS x.op 2 && (hasS x.op 7 && !hasV x.f x.n x.s)) && (!hasS x.op 9 || fineS ⟨x.form, x.fields⟩))))))))))))
theorem op_in (op : Int) : op ∈ opsL ∨ (op ∉ opsL ∧ usesS op = []) := by
  by_cases h : op ∈ opsL
  · exact .inl h
  · refine .inr ⟨h, ?_⟩
    simp only [opsL, List.mem_cons, List.not_mem_nil, or_false, not_or] at h
    obtain ⟨h1, h2, h3, h4, h5, h6, h7, h8, h9, h10, h11, h12, h13, h14, h15, h16, h17, h18, h19, h20⟩ := h
    simp only [usesS, h1, h2, h3, h4, h5, h6, h7, h8, h9, h10, h11, h12, h13, h14, h15, h16, h17, h18, h19, h20, if_false]
/-- What holds of each operation holds of all. -/
theorem op_all {p : Int → Prop} (op : Int) (h : ∀ o ∈ opsL, p o) (h0 : op ∉ opsL → usesS op = [] → p op) : p op := by
  rcases op_in op with h1 | ⟨h1, h2⟩
  · exact h op h1
  · exact h0 h1 h2
theorem tRight_eq (x : Stp) : tRightS x = ytRightS x := by
  obtain ⟨op, form, field, place, to, a, b, f, n, s, t, fields⟩ := x
  refine op_all (p := fun op => tRightS ⟨op, form, field, place, to, a, b, f, n, s, t, fields⟩ = ytRightS ⟨op, form, field, place, to, a, b, f, n, s, t, fields⟩) op ?_ ?_
  · intro o ho
    simp only [opsL, List.mem_cons, List.not_mem_nil, or_false] at ho
    rcases ho with rfl | rfl | rfl | rfl | rfl | rfl | rfl | rfl | rfl | rfl | rfl | rfl | rfl | rfl | rfl | rfl | rfl | rfl | rfl | rfl <;>
    · simp [tRightS, ytRightS, usesS, fitsS, onlyS, zeroS, numbersS, hasS, inS, List.isEmpty_iff]
      rw [Bool.eq_iff_iff]
      simp only [Bool.and_eq_true, Bool.or_eq_true, decide_eq_true_eq, Bool.not_eq_true', beq_iff_eq, bne_iff_ne, ne_eq]
      constructor <;> (intro h; simp_all) <;> (try omega) <;> grind
  · intro _ h
    simp [tRightS, ytRightS, h]
theorem uses_bound (x : Stp) : ∀ (i : Nat) (p : Int), (usesS x.op)[i]? = some p → p = 8 → ((usesS x.op).take i).all (fitsS x) = true → 1 ≤ (if x.op = 5 then x.a else 1000) ∧ (if x.op = 5 then x.a else 1000) ≤ 1000 := by
  intro i p h1 h2 h3
  by_cases ho : x.op = 5
  · subst h2
    have hu : usesS x.op = [0, 1, 4, 8] := by rw [ho]; rfl
    rw [hu] at h1 h3
    match i, h1, h3 with
    | 3, _, h3 =>
      simp [fitsS, ho, inS] at h3
      simp only [ho, if_true]
      omega
    | 0, h1, _ => simp at h1
    | 1, h1, _ => simp at h1
    | 2, h1, _ => simp at h1
    | n + 4, h1, _ => simp at h1
  · simp [ho]
theorem uses_len (op : Int) : (usesS op).length ≤ 5 := by
  refine op_all (p := fun op => (usesS op).length ≤ 5) op ?_ ?_
  · decide
  · intro _ h; simp [h]
end Go.Proofs.Ythmocicjocjdoaa.V
namespace Go.Proofs.Ythmocicjocjdoaa.V
open Go
def fldW (f : Fld) : List UInt8 := cnt f.id.toNat ++ (cnt f.kind.toNat ++ (cnt (zz f.lo) ++ (cnt (zz f.hi) ++ cnt f.most.toNat)))
def fldsW (l : List Fld) : List UInt8 := (l.map fldW).flatten
def intsB (l : List Int) : List UInt8 := (l.map fun n => cnt n.toNat).flatten
/-- The bytes of a part. -/
def prtB (x : Stp) (p : Int) : List UInt8 :=
  if p = 0 then cnt x.form.toNat else if p = 1 then cnt x.field.toNat else if p = 2 then cnt x.place.toNat else if p = 3 then cnt x.to.toNat
  else if p = 4 then cnt x.a.toNat else if p = 5 then cnt (zz x.a) ++ cnt (zz x.b) else if p = 6 then fldW x.f
  else if p = 7 then cnt (zz x.n) ++ (cnt x.s.length ++ x.s) else if p = 8 then cnt x.t.length ++ intsB x.t
  else cnt x.fields.length ++ fldsW x.fields
def prtsB (x : Stp) (l : List Int) : List UInt8 := (l.map (prtB x)).flatten
def stpB (x : Stp) : List UInt8 := cnt x.op.toNat ++ prtsB x (usesS x.op)
def stpsB (l : List Stp) : List UInt8 := (l.map stpB).flatten
def lstB (l : List Stp) : List UInt8 := cnt l.length ++ stpsB l
def cS (q : St) (m : Int) : Int × St := countS q.1 q.2 m
def nS (q : St) : Int × St := numS q.1 q.2
def xS (q : St) (m : Int) : List UInt8 × St := textS q.1 q.2 m
def tkFldW (q : St) : Fld × St :=
  (⟨(cS q 255).1, (cS (cS q 255).2 4).1, (nS (cS (cS q 255).2 4).2).1, (nS (nS (cS (cS q 255).2 4).2).2).1, (cS (nS (nS (cS (cS q 255).2 4).2).2).2 1000).1⟩, (cS (nS (nS (cS (cS q 255).2 4).2).2).2 1000).2)
def tkFldsW : Nat → St → List Fld × St
  | 0, q => ([], q)
  | n + 1, q => ((tkFldW q).1 :: (tkFldsW n (tkFldW q).2).1, (tkFldsW n (tkFldW q).2).2)
def tkInts : Nat → St → List Int × St
  | 0, q => ([], q)
  | n + 1, q => ((cS q 1000).1 :: (tkInts n (cS q 1000).2).1, (tkInts n (cS q 1000).2).2)
/-- A part is read. -/
def setP (x : Stp) (p : Int) (q : St) : Stp × St :=
  if p = 0 then ({ x with form := (cS q 200).1 }, (cS q 200).2) else if p = 1 then ({ x with field := (cS q 255).1 }, (cS q 255).2)
  else if p = 2 then ({ x with place := (cS q 8).1 }, (cS q 8).2) else if p = 3 then ({ x with to := (cS q 255).1 }, (cS q 255).2)
  else if p = 4 then ({ x with a := (cS q 1048576).1 }, (cS q 1048576).2) else if p = 5 then ({ x with a := (nS q).1, b := (nS (nS q).2).1 }, (nS (nS q).2).2)
  else if p = 6 then ({ x with f := (tkFldW q).1 }, (tkFldW q).2) else if p = 7 then ({ x with n := (nS q).1, s := (xS (nS q).2 32).1 }, (xS (nS q).2 32).2)
  else if p = 8 then ({ x with t := x.t ++ (tkInts (cS q 64).1.toNat (cS q 64).2).1 }, (tkInts (cS q 64).1.toNat (cS q 64).2).2)
  else ({ x with fields := x.fields ++ (tkFldsW (cS q 8).1.toNat (cS q 8).2).1 }, (tkFldsW (cS q 8).1.toNat (cS q 8).2).2)
def rdPs : List Int → Stp → St → Stp × St
  | [], x, q => (x, q)
  | p :: l, x, q => rdPs l (setP x p q).1 (setP x p q).2
def stp0 (op : Int) : Stp := ⟨op, 0, 0, 0, 0, 0, 0, fld0, 0, [], [], []⟩
def tkStp (q : St) : Stp × St := rdPs (usesS (cS q 30).1) (stp0 (cS q 30).1) (cS q 30).2
def tkStps : Nat → St → List Stp × St
  | 0, q => ([], q)
  | n + 1, q => ((tkStp q).1 :: (tkStps n (tkStp q).2).1, (tkStps n (tkStp q).2).2)
def tkLst (b : List UInt8) : List Stp × St := tkStps (cS (b, 0) 40).1.toNat (cS (b, 0) 40).2
/-- The steps of some bytes, or why there are none. -/
def parT (b : List UInt8) : List Stp × Int :=
  if endS (tkLst b).2.1 (tkLst b).2.2 ≠ 0 then ([], endS (tkLst b).2.1 (tkLst b).2.2)
  else if (tkLst b).1.all tRightS then ((tkLst b).1, 0) else ([], 2)
/-! Lengths. -/
theorem cS_len (q : St) (m : Int) : (cS q m).2.1.length ≤ q.1.length := countS_len _ _ _
theorem nS_len (q : St) : (nS q).2.1.length ≤ q.1.length := grpS_len _ _
theorem xS_len (q : St) (m : Int) : (xS q m).2.1.length ≤ q.1.length := textS_len _ _ _
theorem tkFldW_len (q : St) : (tkFldW q).2.1.length ≤ q.1.length :=
  Nat.le_trans (cS_len _ _) (Nat.le_trans (nS_len _) (Nat.le_trans (nS_len _) (Nat.le_trans (cS_len _ _) (cS_len _ _))))
theorem tkFldsW_len : ∀ (n : Nat) (q : St), (tkFldsW n q).2.1.length ≤ q.1.length
  | 0, q => Nat.le_refl _
  | n + 1, q => Nat.le_trans (tkFldsW_len n _) (tkFldW_len q)
theorem tkInts_len : ∀ (n : Nat) (q : St), (tkInts n q).2.1.length ≤ q.1.length
  | 0, q => Nat.le_refl _
  | n + 1, q => Nat.le_trans (tkInts_len n _) (cS_len q _)
theorem setP_len (x : Stp) (p : Int) (q : St) : (setP x p q).2.1.length ≤ q.1.length := by
  unfold setP
  repeat' split
  all_goals first | exact cS_len _ _ | exact Nat.le_trans (nS_len _) (nS_len _) | exact tkFldW_len _ | exact Nat.le_trans (xS_len _ _) (nS_len _) | exact Nat.le_trans (tkInts_len _ _) (cS_len _ _) | exact Nat.le_trans (tkFldsW_len _ _) (cS_len _ _)
theorem rdPs_len : ∀ (l : List Int) (x : Stp) (q : St), (rdPs l x q).2.1.length ≤ q.1.length
  | [], x, q => Nat.le_refl _
  | p :: l, x, q => Nat.le_trans (rdPs_len l _ _) (setP_len x p q)
theorem tkStp_len (q : St) : (tkStp q).2.1.length ≤ q.1.length := Nat.le_trans (rdPs_len _ _ _) (cS_len _ _)
theorem tkStps_len : ∀ (n : Nat) (q : St), (tkStps n q).2.1.length ≤ q.1.length
  | 0, q => Nat.le_refl _
  | n + 1, q => Nat.le_trans (tkStps_len n _) (tkStp_len q)
theorem tkInts_n : ∀ (n : Nat) (q : St), (tkInts n q).1.length = n
  | 0, q => rfl
  | n + 1, q => by simp [tkInts, tkInts_n n]
theorem tkFldsW_n : ∀ (n : Nat) (q : St), (tkFldsW n q).1.length = n
  | 0, q => rfl
  | n + 1, q => by simp [tkFldsW, tkFldsW_n n]
theorem tkStps_n : ∀ (n : Nat) (q : St), (tkStps n q).1.length = n
  | 0, q => rfl
  | n + 1, q => by simp [tkStps, tkStps_n n]
/-! What was printed is read. -/
theorem cS_cnt {n m : Int} (h0 : 0 ≤ n) (h1 : n ≤ m) (hm : m ≤ 1048576) (t : List UInt8) : cS (cnt n.toNat ++ t, 0) m = (n, (t, 0)) := by
  unfold cS
  rw [countS_cnt (by omega) (by omega), Int.toNat_of_nonneg h0]
theorem nS_cnt {n : Int} (h : i64 n) (t : List UInt8) : nS (cnt (zz n) ++ t, 0) = (n, (t, 0)) := numS_cnt h.1 h.2 t
theorem xS_cnt {s : List UInt8} {m : Int} (h : (s.length : Int) ≤ m) (hm : m ≤ 1048576) (t : List UInt8) : xS (cnt s.length ++ (s ++ t), 0) m = (s, (t, 0)) := by
  unfold xS textS
  rw [countS_cnt (by omega) h]
  have h2 : ¬ s.length + t.length < s.length := by omega
  unfold takeS
  simp [h2]
theorem tkFldW_fldW (f : Fld) (hf : f.ok) (hr : rgtS f = true) (rest : List UInt8) : tkFldW (fldW f ++ rest, 0) = (f, (rest, 0)) := by
  have r := rgt_rng hr
  obtain ⟨_, ⟨_, _⟩, g1, g2, ⟨_, _⟩⟩ := hf
  unfold tkFldW fldW
  simp only [List.append_assoc]
  rw [cS_cnt (by omega) (by omega) (by omega)]
  simp only
  rw [cS_cnt (by omega) (by omega) (by omega)]
  simp only
  rw [nS_cnt g1]
  simp only
  rw [nS_cnt g2]
  simp only
  rw [cS_cnt (by omega) (by omega) (by omega)]
theorem tkFldsW_fldsW : ∀ (l : List Fld), (∀ f ∈ l, f.ok ∧ rgtS f = true) → ∀ rest, tkFldsW l.length (fldsW l ++ rest, 0) = (l, (rest, 0))
  | [], _, rest => rfl
  | f :: l, h, rest => by
    have h1 := tkFldW_fldW f (h f (by simp)).1 (h f (by simp)).2 (fldsW l ++ rest)
    have h2 := tkFldsW_fldsW l (fun g hg => h g (by simp [hg])) rest
    have e : fldsW (f :: l) ++ rest = fldW f ++ (fldsW l ++ rest) := by simp [fldsW]
    rw [e, List.length_cons, tkFldsW, h1, h2]
theorem tkInts_intsB : ∀ (l : List Int), (∀ n ∈ l, 0 ≤ n ∧ n ≤ 1000) → ∀ rest, tkInts l.length (intsB l ++ rest, 0) = (l, (rest, 0))
  | [], _, rest => rfl
  | n :: l, h, rest => by
    have h1 := cS_cnt (h n (by simp)).1 (h n (by simp)).2 (by omega) (intsB l ++ rest)
    have h2 := tkInts_intsB l (fun g hg => h g (by simp [hg])) rest
    have e : intsB (n :: l) ++ rest = cnt n.toNat ++ (intsB l ++ rest) := by simp [intsB]
    rw [e, List.length_cons, tkInts, h1, h2]
/-- A part of one step, taken over by another one. -/
def cpP (x y : Stp) (p : Int) : Stp :=
  if p = 0 then { y with form := x.form } else if p = 1 then { y with field := x.field } else if p = 2 then { y with place := x.place } else if p = 3 then { y with to := x.to }
  else if p = 4 then { y with a := x.a } else if p = 5 then { y with a := x.a, b := x.b } else if p = 6 then { y with f := x.f } else if p = 7 then { y with n := x.n, s := x.s }
  else if p = 8 then { y with t := y.t ++ x.t } else { y with fields := y.fields ++ x.fields }
theorem pr_cases {p : Int} (hp : 0 ≤ p ∧ p ≤ 9) : p = 0 ∨ p = 1 ∨ p = 2 ∨ p = 3 ∨ p = 4 ∨ p = 5 ∨ p = 6 ∨ p = 7 ∨ p = 8 ∨ p = 9 := by omega
theorem fineS_fld {x : Stp} (h : fineS ⟨x.form, x.fields⟩ = true) : x.fields.length ≤ 8 ∧ ∀ f ∈ x.fields, rgtS f = true := by
  obtain ⟨_, h2, _, h4, _⟩ := (fineS_iff _).1 h
  exact ⟨h2.2, h4⟩
theorem hasV_s {f : Fld} {n : Int} {s : List UInt8} (h : hasV f n s = true) : s.length ≤ 32 := by
  simp only [hasV, Bool.and_eq_true, decide_eq_true_eq] at h
  obtain ⟨g1, _, g2⟩ := h
  unfold longestS at g2
  by_cases k : f.kind = 4
  · rw [if_pos k] at g2
    rw [rgtS_4 k] at g1
    simp only [Bool.and_eq_true, decide_eq_true_eq] at g1
    omega
  · rw [if_neg k] at g2
    omega
/-- A part that fits, with what bounds a table's numbers. -/
def Fits (x : Stp) (p : Int) : Prop := (0 ≤ p ∧ p ≤ 9) ∧ fitsS x p = true ∧ (p = 8 → (if x.op = 5 then x.a else 1000) ≤ 1000)
theorem fits_s {x : Stp} (h : fitsS x 7 = true) : x.s.length ≤ 32 := by
  simp [fitsS, inS] at h
  split at h
  · omega
  · exact hasV_s h
theorem fits_t {x : Stp} (h : Fits x 8) : (∀ n ∈ x.t, 0 ≤ n ∧ n ≤ 1000) ∧ x.t.length ≤ 64 := by
  obtain ⟨_, h2, h3⟩ := h
  simp [fitsS, apartS, inS] at h2
  have := h3 rfl
  exact ⟨fun n hn => by have := h2.1.1 n hn; omega, h2.2.2⟩
theorem fits_l {x : Stp} (h : fitsS x 9 = true) : x.fields.length ≤ 8 ∧ ∀ f ∈ x.fields, rgtS f = true := by
  simp [fitsS] at h
  exact fineS_fld h
theorem setP_prtB (x y : Stp) (hx : x.ok) (p : Int) (hp : Fits x p) (rest : List UInt8) : setP y p (prtB x p ++ rest, 0) = (cpP x y p, (rest, 0)) := by
  obtain ⟨h1, h2, h3, h4, h5, h6, h7, h8, h9, h10, h11⟩ := hx
  have hp0 := hp
  obtain ⟨hr, hf, hb⟩ := hp
  rcases pr_cases hr with rfl | rfl | rfl | rfl | rfl | rfl | rfl | rfl | rfl | rfl <;> simp only [setP, prtB, cpP, if_true, Int.reduceEq, if_false, List.append_assoc]
  · simp [fitsS, inS] at hf
    rw [cS_cnt (by omega) (by omega) (by omega)]
  · simp [fitsS, inS] at hf
    rw [cS_cnt (by omega) (by omega) (by omega)]
  · simp [fitsS, inS] at hf
    rw [cS_cnt (by omega) (by omega) (by omega)]
  · simp [fitsS, inS] at hf
    rw [cS_cnt (by omega) (by omega) (by omega)]
  · simp [fitsS, inS] at hf
    have : 0 ≤ x.a ∧ x.a ≤ 1048576 := by split at hf <;> omega
    rw [cS_cnt (by omega) (by omega) (by omega)]
  · rw [nS_cnt h6]
    simp only
    rw [nS_cnt h7]
  · simp [fitsS, inS] at hf
    rw [tkFldW_fldW _ h8 hf.1]
  · have := fits_s hf
    rw [nS_cnt h9]
    simp only
    rw [xS_cnt (by omega) (by omega)]
  · obtain ⟨g1, g2⟩ := fits_t hp0
    have e := cS_cnt (n := (x.t.length : Int)) (m := 64) (by omega) (by omega) (by omega) (intsB x.t ++ rest)
    simp only [Int.toNat_natCast] at e
    rw [e]
    simp only [Int.toNat_natCast]
    rw [tkInts_intsB x.t g1]
  · obtain ⟨g1, g2⟩ := fits_l hf
    have e := cS_cnt (n := (x.fields.length : Int)) (m := 8) (by omega) (by omega) (by omega) (fldsW x.fields ++ rest)
    simp only [Int.toNat_natCast] at e
    rw [e]
    simp only [Int.toNat_natCast]
    rw [tkFldsW_fldsW x.fields (fun f hf => ⟨h11 f hf, g2 f hf⟩)]
theorem rdPs_prtsB (x : Stp) (hx : x.ok) : ∀ (l : List Int) (y : Stp), (∀ p ∈ l, Fits x p) → ∀ rest, rdPs l y (prtsB x l ++ rest, 0) = (l.foldl (cpP x) y, (rest, 0))
  | [], y, _, rest => rfl
  | p :: l, y, h, rest => by
    have e : prtsB x (p :: l) ++ rest = prtB x p ++ (prtsB x l ++ rest) := by simp [prtsB]
    rw [e, rdPs, setP_prtB x y hx p (h p (by simp)), List.foldl_cons]
    exact rdPs_prtsB x hx l _ (fun p hp => h p (by simp [hp])) rest
theorem uses_rng (op : Int) : ∀ p ∈ usesS op, 0 ≤ p ∧ p ≤ 9 := by
  refine op_all (p := fun op => ∀ p ∈ usesS op, 0 ≤ p ∧ p ≤ 9) op ?_ ?_
  · decide
  · intro _ h; simp [h]
theorem cp_only (x : Stp) : (usesS x.op).foldl (cpP x) (stp0 x.op) = onlyS x := by
  obtain ⟨op, form, field, place, to, a, b, f, n, s, t, fields⟩ := x
  refine op_all (p := fun op => (usesS (Stp.mk op form field place to a b f n s t fields).op).foldl (cpP ⟨op, form, field, place, to, a, b, f, n, s, t, fields⟩) (stp0 op) = onlyS ⟨op, form, field, place, to, a, b, f, n, s, t, fields⟩) op ?_ ?_
  · intro o ho
    simp only [opsL, List.mem_cons, List.not_mem_nil, or_false] at ho
    rcases ho with rfl | rfl | rfl | rfl | rfl | rfl | rfl | rfl | rfl | rfl | rfl | rfl | rfl | rfl | rfl | rfl | rfl | rfl | rfl | rfl <;> simp [usesS, cpP, stp0, onlyS, hasS]
  · intro _ h
    simp [h, stp0, onlyS, hasS]
theorem right_fits {x : Stp} (h : tRightS x = true) : (∀ p ∈ usesS x.op, Fits x p) ∧ x.op ∈ opsL ∧ x = onlyS x := by
  simp only [tRightS, Bool.and_eq_true, List.all_eq_true, decide_eq_true_eq, Bool.not_eq_true', List.isEmpty_eq_false_iff] at h
  obtain ⟨h1, h2, h3⟩ := h
  refine ⟨fun p hp => ⟨uses_rng _ p hp, h1 p hp, fun h8 => ?_⟩, ?_, h3⟩
  · obtain ⟨i, hi, e⟩ := List.mem_iff_getElem.1 hp
    exact (uses_bound x i p (by rw [← e]; exact List.getElem?_eq_getElem hi) h8 (List.all_eq_true.2 fun q hq => h1 q (List.mem_of_mem_take hq))).2
  · rcases op_in x.op with h | ⟨_, h⟩
    · exact h
    · exact absurd h h2
theorem ops_rng {op : Int} (h : op ∈ opsL) : 1 ≤ op ∧ op ≤ 30 := by
  revert op; decide
theorem tkStp_stpB (x : Stp) (hx : x.ok) (hr : tRightS x = true) (rest : List UInt8) : tkStp (stpB x ++ rest, 0) = (x, (rest, 0)) := by
  obtain ⟨h1, h2, h3⟩ := right_fits hr
  have h4 := ops_rng h2
  unfold tkStp stpB
  rw [List.append_assoc, cS_cnt (by omega) (by omega) (by omega)]
  simp only
  rw [rdPs_prtsB x hx _ _ h1, cp_only, ← h3]
theorem tkStps_stpsB : ∀ (l : List Stp), (∀ x ∈ l, x.ok ∧ tRightS x = true) → ∀ rest, tkStps l.length (stpsB l ++ rest, 0) = (l, (rest, 0))
  | [], _, rest => rfl
  | x :: l, h, rest => by
    have h1 := tkStp_stpB x (h x (by simp)).1 (h x (by simp)).2 (stpsB l ++ rest)
    have h2 := tkStps_stpsB l (fun g hg => h g (by simp [hg])) rest
    have e : stpsB (x :: l) ++ rest = stpB x ++ (stpsB l ++ rest) := by simp [stpsB]
    rw [e, List.length_cons, tkStps, h1, h2]
theorem parT_lstB (l : List Stp) (hl : l.length ≤ 40) (h : ∀ x ∈ l, x.ok ∧ tRightS x = true) : parT (lstB l) = (l, 0) := by
  have e : tkLst (lstB l) = (l, ([], 0)) := by
    have e := cS_cnt (n := (l.length : Int)) (m := 40) (by omega) (by omega) (by omega) (stpsB l)
    simp only [Int.toNat_natCast] at e
    have e2 := tkStps_stpsB l h []
    rw [List.append_nil] at e2
    unfold tkLst lstB
    rw [e]
    simp only [Int.toNat_natCast]
    exact e2
  have e2 : l.all tRightS = true := List.all_eq_true.2 fun x hx => (h x hx).2
  unfold parT
  rw [e]
  simp [endS, e2]
/-! What is read was printed so. -/
theorem cS_inv {q : St} {m : Int} (h : (cS q m).2.2 = 0) : q.2 = 0 ∧ q.1 = cnt (cS q m).1.toNat ++ (cS q m).2.1 := countS_inv h
theorem nS_inv {q : St} (h : (nS q).2.2 = 0) : q.2 = 0 ∧ q.1 = cnt (zz (nS q).1) ++ (nS q).2.1 := by
  obtain ⟨h1, _, h3⟩ := numS_inv h
  exact ⟨h1, h3⟩
theorem xS_inv {q : St} {m : Int} (h : (xS q m).2.2 = 0) : q.2 = 0 ∧ q.1 = cnt (xS q m).1.length ++ ((xS q m).1 ++ (xS q m).2.1) := by
  unfold xS textS at h ⊢
  simp only at h ⊢
  rw [if_neg (by omega)]
  unfold takeS at h ⊢
  by_cases he : (countS q.1 q.2 m).2.2 = 0
  · obtain ⟨h1, h2⟩ := countS_inv he
    simp only [he, ne_eq, not_true_eq_false, if_false] at h ⊢
    split at h
    · simp at h
    · rename_i hl
      rw [if_neg hl]
      simp only [List.take_append_drop]
      refine ⟨h1, ?_⟩
      rw [List.length_take, Nat.min_eq_left (by omega)]
      exact h2
  · simp only [he, ne_eq, not_false_eq_true, if_true] at h
theorem tkFldW_inv {q : St} (h : (tkFldW q).2.2 = 0) : q.2 = 0 ∧ q.1 = fldW (tkFldW q).1 ++ (tkFldW q).2.1 := by
  obtain ⟨a1, a2⟩ := cS_inv h
  obtain ⟨b1, b2⟩ := nS_inv a1
  obtain ⟨c1, c2⟩ := nS_inv b1
  obtain ⟨d1, d2⟩ := cS_inv c1
  obtain ⟨e1, e2⟩ := cS_inv d1
  refine ⟨e1, ?_⟩
  simp only [tkFldW, fldW, List.append_assoc]
  rw [← a2, ← b2, ← c2, ← d2]
  exact e2
theorem tkFldsW_inv : ∀ (n : Nat) (q : St), (tkFldsW n q).2.2 = 0 → q.2 = 0 ∧ q.1 = fldsW (tkFldsW n q).1 ++ (tkFldsW n q).2.1
  | 0, q, h => ⟨h, rfl⟩
  | n + 1, q, h => by
    obtain ⟨h1, h2⟩ := tkFldsW_inv n _ h
    obtain ⟨h3, h4⟩ := tkFldW_inv h1
    refine ⟨h3, ?_⟩
    simp only [tkFldsW, fldsW, List.map_cons, List.flatten_cons, List.append_assoc] at h2 ⊢
    rw [← h2]
    exact h4
theorem tkInts_inv : ∀ (n : Nat) (q : St), (tkInts n q).2.2 = 0 → q.2 = 0 ∧ q.1 = intsB (tkInts n q).1 ++ (tkInts n q).2.1
  | 0, q, h => ⟨h, rfl⟩
  | n + 1, q, h => by
    obtain ⟨h1, h2⟩ := tkInts_inv n _ h
    obtain ⟨h3, h4⟩ := cS_inv h1
    refine ⟨h3, ?_⟩
    simp only [tkInts, intsB, List.map_cons, List.flatten_cons, List.append_assoc] at h2 ⊢
    rw [← h2]
    exact h4
theorem setP_inv {x : Stp} {p : Int} {q : St} (hp : 0 ≤ p ∧ p ≤ 9) (h8 : p = 8 → x.t = []) (h9 : p = 9 → x.fields = []) (h : (setP x p q).2.2 = 0) : q.2 = 0 ∧ q.1 = prtB (setP x p q).1 p ++ (setP x p q).2.1 := by
  rcases pr_cases hp with rfl | rfl | rfl | rfl | rfl | rfl | rfl | rfl | rfl | rfl <;> simp only [setP, prtB, if_true, Int.reduceEq, if_false, List.append_assoc] at h ⊢
  · exact cS_inv h
  · exact cS_inv h
  · exact cS_inv h
  · exact cS_inv h
  · exact cS_inv h
  · obtain ⟨a1, a2⟩ := nS_inv h
    obtain ⟨b1, b2⟩ := nS_inv a1
    exact ⟨b1, by rw [← a2]; exact b2⟩
  · exact tkFldW_inv h
  · obtain ⟨a1, a2⟩ := xS_inv h
    obtain ⟨b1, b2⟩ := nS_inv a1
    exact ⟨b1, by rw [← a2]; exact b2⟩
  · obtain ⟨a1, a2⟩ := tkInts_inv _ _ h
    obtain ⟨b1, b2⟩ := cS_inv a1
    refine ⟨b1, ?_⟩
    rw [h8 rfl, List.nil_append, tkInts_n, ← a2]
    exact b2
  · obtain ⟨a1, a2⟩ := tkFldsW_inv _ _ h
    obtain ⟨b1, b2⟩ := cS_inv a1
    refine ⟨b1, ?_⟩
    rw [h9 rfl, List.nil_append, tkFldsW_n, ← a2]
    exact b2
/-- May one part be read without the other one's being touched? -/
def farP (p r : Int) : Bool := p != r && !(p == 4 && r == 5) && !(p == 5 && r == 4)
def okL : List Int → Bool
  | [] => true
  | p :: l => decide (0 ≤ p ∧ p ≤ 9) && (l.all fun r => farP p r) && okL l
theorem okL_uses (op : Int) : okL (usesS op) = true := by
  refine op_all (p := fun op => okL (usesS op) = true) op ?_ ?_
  · decide
  · intro _ h; simp [h, okL]
theorem setP_far (x : Stp) {p r : Int} (q : St) (hp : 0 ≤ p ∧ p ≤ 9) (hr : 0 ≤ r ∧ r ≤ 9) (h : farP p r = true) : prtB (setP x r q).1 p = prtB x p ∧ (p = 8 → (setP x r q).1.t = x.t) ∧ (p = 9 → (setP x r q).1.fields = x.fields) := by
  rcases pr_cases hp with rfl | rfl | rfl | rfl | rfl | rfl | rfl | rfl | rfl | rfl <;> rcases pr_cases hr with rfl | rfl | rfl | rfl | rfl | rfl | rfl | rfl | rfl | rfl <;> first | (exfalso; revert h; decide) | simp [setP, prtB]
theorem rdPs_far {p : Int} (hp : 0 ≤ p ∧ p ≤ 9) : ∀ (l : List Int) (x : Stp) (q : St), okL l = true → (∀ r ∈ l, farP p r = true) → prtB (rdPs l x q).1 p = prtB x p
  | [], x, q, _, _ => rfl
  | r :: l, x, q, ho, h => by
    simp only [okL, Bool.and_eq_true, decide_eq_true_eq] at ho
    rw [rdPs, rdPs_far hp l _ _ ho.2 (fun s hs => h s (by simp [hs]))]
    exact (setP_far x q hp ho.1.1 (h r (by simp))).1
theorem rdPs_inv : ∀ (l : List Int) (x : Stp) (q : St), okL l = true → (8 ∈ l → x.t = []) → (9 ∈ l → x.fields = []) → (rdPs l x q).2.2 = 0 → q.2 = 0 ∧ q.1 = prtsB (rdPs l x q).1 l ++ (rdPs l x q).2.1
  | [], x, q, _, _, _, h => ⟨h, rfl⟩
  | p :: l, x, q, ho, h8, h9, h => by
    simp only [okL, Bool.and_eq_true, decide_eq_true_eq, List.all_eq_true] at ho
    obtain ⟨⟨hp, hfar⟩, ho⟩ := ho
    have ho' := ho
    have sym : ∀ r, farP p r = true → farP r p = true := fun r => by unfold farP; simp only [Bool.and_eq_true, bne_iff_ne, Bool.not_eq_true', Bool.and_eq_false_iff, beq_eq_false_iff_ne]; grind
    have g8 : 8 ∈ l → (setP x p q).1.t = [] := fun hm => by
      rw [(setP_far x q (by omega) hp (sym _ (hfar 8 hm))).2.1 rfl]
      exact h8 (by simp [hm])
    have g9 : 9 ∈ l → (setP x p q).1.fields = [] := fun hm => by
      rw [(setP_far x q (by omega) hp (sym _ (hfar 9 hm))).2.2 rfl]
      exact h9 (by simp [hm])
    obtain ⟨a1, a2⟩ := rdPs_inv l _ _ ho' g8 g9 h
    obtain ⟨b1, b2⟩ := setP_inv hp (fun e => h8 (by simp [e])) (fun e => h9 (by simp [e])) a1
    refine ⟨b1, ?_⟩
    have e : prtsB (rdPs (p :: l) x q).1 (p :: l) = prtB (rdPs l (setP x p q).1 (setP x p q).2).1 p ++ prtsB (rdPs l (setP x p q).1 (setP x p q).2).1 l := by simp [prtsB, rdPs]
    rw [e, rdPs_far hp l _ _ ho' hfar, List.append_assoc]
    rw [rdPs, ← a2]
    exact b2
theorem setP_op (x : Stp) (p : Int) (q : St) : (setP x p q).1.op = x.op := by
  unfold setP
  repeat' split
  all_goals rfl
theorem rdPs_op : ∀ (l : List Int) (x : Stp) (q : St), (rdPs l x q).1.op = x.op
  | [], x, q => rfl
  | p :: l, x, q => by rw [rdPs, rdPs_op l, setP_op]
theorem tkStp_op (q : St) : (tkStp q).1.op = (cS q 30).1 := rdPs_op _ _ _
theorem tkStp_inv {q : St} (h : (tkStp q).2.2 = 0) : q.2 = 0 ∧ q.1 = stpB (tkStp q).1 ++ (tkStp q).2.1 := by
  obtain ⟨a1, a2⟩ := rdPs_inv _ _ _ (okL_uses _) (fun _ => rfl) (fun _ => rfl) h
  obtain ⟨b1, b2⟩ := cS_inv a1
  refine ⟨b1, ?_⟩
  unfold stpB
  rw [tkStp_op, List.append_assoc]
  simp only [tkStp]
  rw [← a2]
  exact b2
theorem tkStps_inv : ∀ (n : Nat) (q : St), (tkStps n q).2.2 = 0 → q.2 = 0 ∧ q.1 = stpsB (tkStps n q).1 ++ (tkStps n q).2.1
  | 0, q, h => ⟨h, rfl⟩
  | n + 1, q, h => by
    obtain ⟨h1, h2⟩ := tkStps_inv n _ h
    obtain ⟨h3, h4⟩ := tkStp_inv h1
    refine ⟨h3, ?_⟩
    simp only [tkStps, stpsB, List.map_cons, List.flatten_cons, List.append_assoc] at h2 ⊢
    rw [← h2]
    exact h4
theorem cS_rng (q : St) {m : Int} (hm : 0 ≤ m) : 0 ≤ (cS q m).1 ∧ (cS q m).1 ≤ m := by
  unfold cS countS
  repeat' split
  all_goals (try simp) <;> omega
theorem parT_inv {b : List UInt8} (h : (parT b).2 = 0) : (parT b).1.all tRightS = true ∧ (parT b).1.length ≤ 40 ∧ lstB (parT b).1 = b := by
  unfold parT at h ⊢
  by_cases he : endS (tkLst b).2.1 (tkLst b).2.2 = 0
  · rw [if_neg (by simpa using he)] at h ⊢
    by_cases hs : (tkLst b).1.all tRightS = true
    · rw [if_pos hs]
      have h0 : (tkLst b).2.2 = 0 := by
        unfold endS at he
        split at he
        · exact he
        · rename_i h; simpa using h
      have h1 : (tkLst b).2.1 = [] := by
        unfold endS at he
        rw [if_neg (by simpa using h0)] at he
        split at he
        · assumption
        · cases he
      obtain ⟨a1, a2⟩ := tkStps_inv _ _ h0
      obtain ⟨b1, b2⟩ := cS_inv a1
      have e : (tkStps (cS (b, 0) 40).1.toNat (cS (b, 0) 40).2).2.1 = [] := h1
      rw [e, List.append_nil] at a2
      have hr := cS_rng (b, 0) (m := 40) (by omega)
      refine ⟨hs, ?_, ?_⟩
      · unfold tkLst
        rw [tkStps_n]
        omega
      · simp only [tkLst, lstB, tkStps_n]
        rw [← a2]
        exact b2.symm
    · rw [if_neg hs] at h
      cases h
  · rw [if_pos he] at h
    exact absurd h he
end Go.Proofs.Ythmocicjocjdoaa.V
