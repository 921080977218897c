/- What goes on is of its form in what comes of the schema, and goes back, with what was lost, as it was; what is gone is regained. -/
import Derived.Test.YtgkiakemfcbgiaaGreatRows
import Derived.JoinedCond
import Derived.SizedLaws
import Derived.Test.YtgkiakemfcbgiaaGreatVe
set_option linter.unusedVariables false
set_option linter.unusedSimpArgs false
namespace Go.Proofs.YtgkiakemfcbgiaaGreat
open Go
namespace V
theorem zrh (f : Fld) (a b : Int) : tbl E0 108 [fldV f, iV a, iV b] [] = some ([fldV (scaledS f a b), .bool (rgtS (scaledS f a b))], []) := zr8 f a b (by
  have c3 := z34 (scaledS f a b)
  have m1 : (if IntKind.i64.wrap (IntKind.i64.wrap (a * f.hi) + b) < IntKind.i64.wrap (IntKind.i64.wrap (a * f.lo) + b) then IntKind.i64.wrap (IntKind.i64.wrap (a * f.hi) + b) else IntKind.i64.wrap (IntKind.i64.wrap (a * f.lo) + b)) = minS (affS a b f.lo) (affS a b f.hi) := rfl
  have m2 : (if IntKind.i64.wrap (IntKind.i64.wrap (a * f.lo) + b) < IntKind.i64.wrap (IntKind.i64.wrap (a * f.hi) + b) then IntKind.i64.wrap (IntKind.i64.wrap (a * f.hi) + b) else IntKind.i64.wrap (IntKind.i64.wrap (a * f.lo) + b)) = maxS (affS a b f.lo) (affS a b f.hi) := rfl
  simp only [fldV, fldC, scaledS] at c3; simp only [zhb, z6l, z6k, z9, cond_true, za, m1, m2, c3, Option.bind_some, u_asC, u_asB, u_asN, z17, z13]
  rfl)
theorem oshE4 : (nodupN (List.map (fun x => x.fst) (oshOf T0 0 [AV.ref 0 0] Tryz.f86.params.toList)) && (oshOf T0 0 [AV.ref 0 0] Tryz.f86.params.toList).all fun p => p.fst.blt 64) = true := by kernel_rfl
theorem oshE5 : (nodupN (List.map (fun x => x.fst) (oshOf T0 0 [AV.ref 0 0] Tryz.f43.params.toList)) && (oshOf T0 0 [AV.ref 0 0] Tryz.f43.params.toList).all fun p => p.fst.blt 64) = true := by kernel_rfl
theorem oshE6 : (nodupN (List.map (fun x => x.fst) (oshOf T0 0 [AV.ref 0 0] Tryz.f47.params.toList)) && (oshOf T0 0 [AV.ref 0 0] Tryz.f47.params.toList).all fun p => p.fst.blt 64) = true := by kernel_rfl
set_option maxHeartbeats 2000000 in
theorem zol (x : Stp) (v : Int) (l : List Frm) (p e : Int) (o1 : x.op = 1) : tbl E0 86 [.ref 0 0] [(0, madO x v l p e)] = some ([fldsU [x.f], iV 0, .bool true], [(0, madO x v l p e)]) := zhc x v l p e (by
  have q := z11 l; have o := oshE4; rw [Bool.and_eq_true] at o
  have o1' : (x.op == 1) = true := by simpa using o1
  simp only [zay, z3c, o.1, o.2, List.all_cons, List.all_nil, fitA, Bool.and_self, cond_true, z9, q, o1', fldsU, List.map_cons, List.map_nil])
set_option maxHeartbeats 2000000 in
theorem zri (x : Stp) (v : Int) (l : List Frm) (p e : Nat) (g : Frm) (f : Fld) (hg : l[p]? = some g) (hf : g.fields[e]? = some f) (hr : f.kind = 3 → rgtS f = true) (o1 : x.op ≠ 1) (ha : x.op = 6 → x.a ≠ 0) :
    tbl E0 86 [.ref 0 0] [(0, madO x v l p e)] = some ([fldsU (turnedS f x).1, iV 1, .bool (turnedS f x).2], [(0, madO x v l p e)]) := zhc x v l p e (by
  have q := z11 l; have o := oshE4; rw [Bool.and_eq_true] at o
  have o1' : (x.op == 1) = false := by simpa using o1
  have c := zrb x v l p e g f hg hf; have c1 := zas f x.n x.s; have c2 := zud f x.f; have c3 := zrh f x.a x.b; simp only [fldV, fldC] at c c1 c2 c3; simp only [zay, z6m, z6n, z3c, o.1, o.2, List.all_cons, List.all_nil, fitA, Bool.and_self, cond_true, cond_false, z9, q, o1', zr, c, Option.bind_some, nbeq, decide_true, u_asN, u_asC, u_asI, u_asS, u_asL, zd, u_asA, u_asB]
  by_cases h2 : x.op = 2
  · have t2 : (x.op == 2) = true := by simpa using h2
    have e2 : turnedS f x = ([], hasV f x.n x.s) := by simp [turnedS, h2]
    rw [e2]; simp only [t2, cond_true, za, c1, Option.bind_some, u_asC, u_asB, u_asN, q]; rfl
  have g2 := beq_f h2
  by_cases h3 : x.op = 3
  · have t3 : (x.op == 3) = true := by simpa using h3
    have e3 : turnedS f x = ([x.f], widerS f x.f) := by simp [turnedS, h3]
    rw [e3]; simp only [g2, t3, cond_true, cond_false, za, c2, Option.bind_some, u_asC, u_asB, u_asN, q, z17, z9]; rfl
  have g3 := beq_f h3
  by_cases h4 : x.op = 4
  · have t4 : (x.op == 4) = true := by simpa using h4
    simp only [t4, g2, g3, cond_true, cond_false, z9]
    have e4 : turnedS f x = (if f.kind = 1 then ([scaledS f x.a x.b], rgtS (scaledS f x.a x.b)) else ([f], false)) := by simp [turnedS, h4]
    by_cases k : f.kind = 1
    · have k' : (f.kind == 1) = true := by simpa using k
      rw [e4, if_pos k]; simp only [k', cond_true, za, c3, Option.bind_some, u_asC, u_asA, u_asI, u_asB, u_asN, q]; rfl
    · have k' : (f.kind == 1) = false := by simpa using k
      rw [e4, if_neg k]; simp only [k', cond_false, q, cond_true]; rfl
  have g4 := beq_f h4
  by_cases h5 : x.op = 5
  · have t5 : (x.op == 5) = true := by simpa using h5
    have e5 : turnedS f x = ([⟨f.id, f.kind, f.lo, f.hi, x.a⟩], f.kind == 3 && f.most == (x.t.length : Int)) := by simp [turnedS, h5]
    rw [e5]; simp only [t5, g2, g3, g4, cond_true, cond_false, z9, zo, zh, List.length_map, q]
    rcases bor (f.kind == 3) with k | k <;> simp only [k, cond_true, cond_false, Option.bind_some, Tok.untok_tok, Bool.true_and, Bool.false_and] <;> rfl
  have g5 := beq_f h5
  by_cases h6 : x.op = 6
  · have t6 : (x.op == 6) = true := by simpa using h6
    have e6 : turnedS f x = ([⟨f.id, f.kind, f.lo, IntKind.i64.wrap (f.hi.tdiv x.a), f.most⟩, ⟨x.to, 1, 0, minS (IntKind.i64.wrap (x.a - 1)) f.hi, 0⟩], f.kind == 1 && f.lo == 0) := by simp [turnedS, h6]
    have ha' : (!(x.a == (0 : Int))) = true := by simpa using ha h6
    have m1 : (if f.hi < IntKind.i64.wrap (x.a - 1) then f.hi else IntKind.i64.wrap (x.a - 1)) = minS (IntKind.i64.wrap (x.a - 1)) f.hi := rfl
    rw [e6]; simp only [t6, g2, g3, g4, g5, cond_true, cond_false, z9, zo, zh, ha', m1, q]
    rcases bor (f.kind == 1) with k | k <;> simp only [k, cond_true, cond_false, Option.bind_some, Tok.untok_tok, Bool.true_and, Bool.false_and] <;> rfl
  have g6 := beq_f h6
  have e7 : turnedS f x = ([⟨x.to, f.kind, f.lo, f.hi, f.most⟩], true) := by simp [turnedS, h2, h3, h4, h5, h6]
  rw [e7]; simp only [g2, g3, g4, g5, g6, cond_false, cond_true, z9, q]
  rfl)
def thereS (x : Stp) (g : Frm) (e n : Int) : Int :=
  if e < 0 then 8 else if decide (0 ≤ n) && decide (0 ≤ atS g.fields n) then 9
  else if x.op == 1 && decide ((g.fields.length : Int) < x.place) then 3 else if x.op == 7 && decide ((g.fields.length : Int) ≤ x.place) then 3 else 0
def atG (x : Stp) (g : Frm) : Int := if x.op = 1 then x.place else if x.op = 10 then 0 else atS g.fields x.field
def freshG (x : Stp) : Int := if x.op = 1 then x.f.id else if x.op = 6 ∨ x.op = 8 then x.to else -1
theorem zrj (x : Stp) (v : Int) (l : List Frm) (p e : Int) (g : Frm) (n : Int) (hg : g.fields.length ≤ 1000) :
    ltbl E0 43 0 1000020 [iV n] [madO x v l p e, [iV g.id, fldsV g.fields]] = some (0, [iV (thereS x g e n)], [madO x v l p e]) := zr6 x v l p e g n (by
  have q := z11 l
  have c := c_sAt g n (by omega)
  simp only [frmV, fldsV] at c; simp only [zh9, q, cond_true, zh, z9, za, c, Option.bind_some, u_asC, u_asI, u_asN, zo, List.length_map, ge_iff_le, gt_iff_lt]; unfold thereS
  by_cases e0 : e < 0
  · simp only [e0, decide_true, cond_true, if_true]
  · simp only [e0, decide_false, cond_false, if_false]
    rw [z30]; simp only [Option.bind_some, Tok.untok_tok, z30, zbe]
    rcases bor (decide (0 ≤ n) && decide (0 ≤ atS g.fields n)) with a | a
    · simp only [a, cond_true, if_true]
    · simp only [a, cond_false, Bool.false_eq_true, if_false, Option.bind_some, Tok.untok_tok]
      rcases bor (x.op == 1 && decide ((g.fields.length : Int) < x.place)) with b | b
      · simp only [b, cond_true, if_true]
      · simp only [b, cond_false, Bool.false_eq_true, if_false, Option.bind_some, Tok.untok_tok]
        rcases bor (x.op == 7 && decide ((g.fields.length : Int) ≤ x.place)) with c | c <;> simp only [c, cond_true, cond_false, Bool.false_eq_true, if_true, if_false])
theorem b22 : Nat.ble 2 2 = true := rfl
theorem zrk {id : Int} {l : List Frm} {g : Frm} (h : l[posS id l]? = some g) (e : g.id = id) : hereS id l = true := by
  simp [hereS, h, e]
set_option maxHeartbeats 4000000 in
theorem zrl (x : Stp) (v : Int) (l : List Frm) (p e : Int) (hl : l.length ≤ 1000) (o : x.op = 9) :
    tbl E0 43 [.ref 0 0] [(0, madO x v l p e)] = some ([iV (if hereS x.form l then 9 else 0)], [(0, madO x v l (posS x.form l) e)]) := zd1 x v l p e (by
  have q := z11 l; have o5 := oshE5; rw [Bool.and_eq_true] at o5; have c := zfu x v l p e hl
  have t : (x.op == 9) = true := by simpa using o
  simp only [z8u, z3c, o5.1, o5.2, List.all_cons, List.all_nil, fitA, Bool.and_self, cond_true, z9, q, zr, c, Option.bind_some, nbeq, decide_true, u_asN, u_asC, u_asI, u_asS, u_asL, zd, u_asB, t]
  rcases bor (hereS x.form l) with h | h <;> simp only [h, cond_true, cond_false, if_true, Bool.false_eq_true, if_false])
set_option maxHeartbeats 4000000 in
theorem zrm (x : Stp) (v : Int) (l : List Frm) (p e : Int) (hl : l.length ≤ 1000) (o : x.op ≠ 9) (h : hereS x.form l = false) :
    tbl E0 43 [.ref 0 0] [(0, madO x v l p e)] = some ([iV 8], [(0, madO x v l (posS x.form l) e)]) := zd1 x v l p e (by
  have q := z11 l; have o5 := oshE5; rw [Bool.and_eq_true] at o5; have c := zfu x v l p e hl; have t := beq_f o; simp only [z8u, z3c, o5.1, o5.2, List.all_cons, List.all_nil, fitA, Bool.and_self, cond_true, z9, q, zr, c, Option.bind_some, nbeq, decide_true, u_asN, u_asC, u_asI, u_asS, u_asL, zd, u_asB, t, h, cond_false, Bool.not_false])
set_option maxHeartbeats 4000000 in
theorem zuj (x : Stp) (v : Int) (l : List Frm) (p e : Int) (hl : l.length ≤ 1000) (hf : ∀ f ∈ l, f.fields.length ≤ 1000) (o : x.op ≠ 9) (g : Frm) (hg : l[posS x.form l]? = some g) (he : g.id = x.form) :
    tbl E0 43 [.ref 0 0] [(0, madO x v l p e)] = some ([iV (thereS x g (atG x g) (freshG x))], [(0, madO x v l (posS x.form l) (atG x g))]) := zd1 x v l p e (by
  have q := z11 l; have o5 := oshE5; rw [Bool.and_eq_true] at o5; have c := zfu x v l p e hl; have t := beq_f o; have h := zrk hg he; have hlt : posS x.form l < l.length := (List.getElem?_eq_some_iff.1 hg).1
  have hlt2 : ((posS x.form l : Nat) : Int) < l.length := by omega
  have hgl := hf g (List.mem_of_getElem? hg)
  have cA := c_sAt g x.field (by omega)
  have M := fun (e n : Int) => zrj x v l (posS x.form l) e g n hgl; simp only [frmV, fldsV] at cA; simp only [fldsV] at M
  have K1 : z3b (OA (tbl E0) (ltbl E0 43 0)) x v l p e (fun r o => some (r, o)) (List.map frmV l) (posS x.form l) x.field x.op x.f.id x.form x.place x.to x.a x.b x.f.kind x.f.lo x.f.hi x.f.most x.n x.s (List.map (fun n => iV n) x.t) (List.map fldV x.fields) v = some ([iV (thereS x g (atG x g) (freshG x))], [(0, madO x v l (posS x.form l) (atG x g))]) := by
    simp only [z3b, z7n, nthE, Int.toNat_natCast, List.getElem?_map, hg, Option.map_some, z9, AV.cells, List.length_cons, List.length_nil, Nat.zero_add, Nat.reduceAdd, b22, cond_true, List.drop_zero, List.take_succ_cons, List.take_zero, u_asC, u_asI, u_asL, u_asN, za, cA, Option.bind_some, q]
    by_cases o1 : x.op = 1
    · have t1 : (x.op == 1) = true := by simpa using o1
      have e1 : atG x g = x.place := by simp [atG, o1]
      have e2 : freshG x = x.f.id := by simp [freshG, o1]
      rw [e1, e2]; simp only [t1, cond_true, ze, M, Option.bind_some, z1s, nbeq, decide_true, u_asN, u_asC, u_asI, u_asS, u_asL, zd, q]
    have t1 := beq_f o1
    by_cases o6 : x.op = 6 ∨ x.op = 8
    · have e1 : atG x g = atS g.fields x.field := by
        have : ¬ x.op = 10 := by omega
        simp [atG, o1, this]
      have e2 : freshG x = x.to := by simp [freshG, o1, o6]
      rw [e1, e2]
      rcases o6 with o6 | o6
      · have t6 : (x.op == 6) = true := by simpa using o6
        simp only [t1, t6, cond_true, cond_false, ze, M, Option.bind_some, z1s, nbeq, decide_true, u_asN, u_asC, u_asI, u_asS, u_asL, zd, q]
      · have t8 : (x.op == 8) = true := by simpa using o6
        have t6 : (x.op == 6) = false := by simp [o6]
        simp only [t1, t6, t8, cond_true, cond_false, ze, M, Option.bind_some, z1s, nbeq, decide_true, u_asN, u_asC, u_asI, u_asS, u_asL, zd, q]
    have t6 : (x.op == 6) = false := beq_f (by omega)
    have t8 : (x.op == 8) = false := beq_f (by omega)
    have e2 : freshG x = -1 := by simp [freshG, o1, o6]
    by_cases o10 : x.op = 10
    · have t10 : (x.op == 10) = true := by simpa using o10
      have e1 : atG x g = 0 := by simp [atG, o10]
      rw [e1, e2]; simp only [t1, t6, t8, t10, cond_true, cond_false, ze, M, Option.bind_some, z1s, nbeq, decide_true, u_asN, u_asC, u_asI, u_asS, u_asL, zd, q]
    · have t10 := beq_f o10
      have e1 : atG x g = atS g.fields x.field := by simp [atG, o1, o10]
      rw [e1, e2]; simp only [t1, t6, t8, t10, cond_true, cond_false, ze, M, Option.bind_some, z1s, nbeq, decide_true, u_asN, u_asC, u_asI, u_asS, u_asL, zd, q]
  simp only [z8u, z3c, o5.1, o5.2, List.all_cons, List.all_nil, fitA, Bool.and_self, cond_true, z9, q, zr, c, Option.bind_some, nbeq, decide_true, u_asN, u_asC, u_asI, u_asS, u_asL, zd, u_asB, t, h, cond_false, Bool.not_true, z7o, List.length_map, hlt2, Int.natCast_nonneg, z13, K1, z1v])
theorem zz7 (l : List Fld) (k : Nat) (hk : k < l.length) : tbl E0 85 [fldsU l, iV k, iV ((k + 1 : Nat) : Int)] [] = some ([fldsU (cutS l k)], []) := tbl_X (by
  have h1 : (0 : Int) ≤ k := by omega
  have h2 : (k : Int) ≤ ((k + 1 : Nat) : Int) := by omega
  have h3 : ((k + 1 : Nat) : Int) ≤ l.length := by omega
  have e : E0.X 85 [fldsU l, iV k, iV ((k + 1 : Nat) : Int)] [] = delX 5 [fldsU l, iV k, iV ((k + 1 : Nat) : Int)] [] := rfl; rw [e]; simp only [delX, fldsU, List.length_map, h1, h2, h3, nbeq, decide_true, Bool.and_self, cond_true, Int.toNat_natCast, cutS, List.map_append, List.map_take, List.map_drop])
theorem zz8 (l : List Fld) (n : Nat) (m : List Fld) (hn : n ≤ l.length) (hl : l.length + m.length ≤ 1000) : tbl E0 84 [fldsU l, iV n, fldsU m] [] = some ([fldsU (putS l n m)], []) := tbl_X (by
  have h1 : (0 : Int) ≤ n := by omega
  have h2 : (n : Int) ≤ l.length := by omega
  have h3 : (l.length + m.length) * 40 ≤ 211106232532992 := by omega
  have e : E0.X 84 [fldsU l, iV n, fldsU m] [] = insX 5 40 [fldsU l, iV n, fldsU m] [] := rfl; rw [e]; simp only [insX, fldsU, List.length_map, h1, h2, h3, nbeq, decide_true, Bool.and_self, cond_true, Int.toNat_natCast, putS, List.map_append, List.map_take, List.map_drop])
theorem zz9 (l : List Fld) (n k : Nat) (m : List Fld) (hn : n ≤ k) (hk : k ≤ l.length) (hl : l.length + m.length ≤ 1000) : tbl E0 87 [fldsU l, iV n, iV k, fldsU m] [] = some ([fldsU (l.take n ++ m ++ l.drop k)], []) := tbl_X (by
  have h1 : (0 : Int) ≤ n := by omega
  have h2 : (n : Int) ≤ k := by omega
  have h4 : (k : Int) ≤ l.length := by omega
  have h3 : (l.length + m.length) * 40 ≤ 211106232532992 := by omega
  have e : E0.X 87 [fldsU l, iV n, iV k, fldsU m] [] = repX 5 40 [fldsU l, iV n, iV k, fldsU m] [] := rfl; rw [e]; simp only [repX, fldsU, List.length_map, h1, h2, h3, h4, nbeq, decide_true, Bool.and_self, cond_true, Int.toNat_natCast, List.map_append, List.map_take, List.map_drop])
theorem zza (l : List Frm) (n : Nat) (m : List Frm) (hn : n ≤ l.length) (hl : l.length + m.length ≤ 3000) : tbl E0 44 [frmsU l, iV n, frmsU m] [] = some ([frmsU (l.take n ++ m ++ l.drop n)], []) := tbl_X (by
  have h1 : (0 : Int) ≤ n := by omega
  have h2 : (n : Int) ≤ l.length := by omega
  have h3 : (l.length + m.length) * 32 ≤ 211106232532992 := by omega
  have e : E0.X 44 [frmsU l, iV n, frmsU m] [] = insX 2 32 [frmsU l, iV n, frmsU m] [] := rfl; rw [e]; simp only [insX, frmsU, List.length_map, h1, h2, h3, nbeq, decide_true, Bool.and_self, cond_true, Int.toNat_natCast, List.map_append, List.map_take, List.map_drop])
theorem zzb (l : List Frm) (k : Nat) (hk : k < l.length) : tbl E0 46 [frmsU l, iV k, iV ((k + 1 : Nat) : Int)] [] = some ([frmsU (l.take k ++ l.drop (k + 1))], []) := tbl_X (by
  have h1 : (0 : Int) ≤ k := by omega
  have h2 : (k : Int) ≤ ((k + 1 : Nat) : Int) := by omega
  have h3 : ((k + 1 : Nat) : Int) ≤ l.length := by omega
  have e : E0.X 46 [frmsU l, iV k, iV ((k + 1 : Nat) : Int)] [] = delX 2 [frmsU l, iV k, iV ((k + 1 : Nat) : Int)] [] := rfl; rw [e]; simp only [delX, frmsU, List.length_map, h1, h2, h3, nbeq, decide_true, Bool.and_self, cond_true, Int.toNat_natCast, List.map_append, List.map_take, List.map_drop])
theorem zko {α : Type} {A : Alg α} (g : Frm) (m : List Fld) (k : AV → α) : putC A (frmV g) (setAt (frmV g).cells 1 [fldsV m]) k = k (frmV ⟨g.id, m⟩) := Eq.trans rfl rfl
set_option maxHeartbeats 4000000 in
theorem zom (x : Stp) (v : Int) (l : List Frm) (p e n : Nat) (g : Frm) (f : Fld) (hg : l[p]? = some g) (hf : g.fields[e]? = some f) (o7 : x.op = 7) (hn : x.place = n) (hn2 : n < g.fields.length) (hgl : g.fields.length ≤ 900) :
    tbl E0 47 [.ref 0 0] [(0, madO x v l p e)] = some ([.bool true], [(0, madO x v (l.set p ⟨g.id, putS (cutS g.fields e) n [f]⟩) p e)]) := zhd x v l p e (by
  have q := z11 l; have q2 := z3n; have o6 := oshE6; rw [Bool.and_eq_true] at o6; have hp : p < l.length := (List.getElem?_eq_some_iff.1 hg).1
  have hp2 : (p : Int) < l.length := by omega
  have he : e < g.fields.length := (List.getElem?_eq_some_iff.1 hf).1; have cf := zb0 x v l p e g hg
  have cc := z6q g.fields (by omega)
  have co := zrb x v l p e g f hg hf; have cd := zz7 g.fields e he; have hC := zfx he
  have ci := zz8 (cutS g.fields e) n [f] (by omega) (by simp; omega)
  have e1 := zj (i := e) (by omega)
  have t7 : (x.op == 7) = true := by simpa using o7
  simp only [fldsV, fldsU, fldV, fldC, List.map_cons, List.map_nil] at cf cc co cd ci; rw [← hn] at ci; have qf : ([AV.agg [iV f.id, iV f.kind, iV f.lo, iV f.hi, iV f.most]] : List AV).all AV.flat = true := rfl
  have k5 : z2t (OA (tbl E0) (ltbl E0 47 0)) x v l p e (fun r o => (some (r, o) : Option CR)) [AV.lst .uq 5 (List.map fldV (putS (cutS g.fields e) n [f]))] [] p (List.map frmV l) x.op x.form x.field x.place x.to x.a x.b x.f.id x.f.kind x.f.lo x.f.hi x.f.most x.n x.s (List.map (fun n => iV n) x.t) (List.map fldV x.fields) v e = some ([.bool true], [(0, madO x v (l.set p ⟨g.id, putS (cutS g.fields e) n [f]⟩) p e)]) := by
    have z := zko (α := Option CR) (A := OA (tbl E0) (ltbl E0 47 0)) g (putS (cutS g.fields e) n [f]); simp only [fldsV] at z; have z2 : Nat.ble (1 + [AV.lst Md.ro 5 (List.map fldV (putS (cutS g.fields e) n [f]))].length) (frmV g).cells.length = true := rfl; have z3 : (frmV ⟨g.id, putS (cutS g.fields e) n [f]⟩).flat = true := rfl; have z4 := z11 (l.set p ⟨g.id, putS (cutS g.fields e) n [f]⟩)
    have z5 : (List.map frmV l).set p (frmV ⟨g.id, putS (cutS g.fields e) n [f]⟩) = List.map frmV (l.set p ⟨g.id, putS (cutS g.fields e) n [f]⟩) := by rw [List.map_set]
    simp only [z2t, u_asC, zd, u_asN, q2, cond_true, z13, z9, Int.natCast_nonneg, List.length_map, hp2, decide_true, Bool.and_self, nthE, Int.toNat_natCast, List.getElem?_map, hg, Option.map_some, z, z2, z3, z4, z5]
  have k1 : z3m (OA (tbl E0) (ltbl E0 47 0)) x v l p e (fun r o => (some (r, o) : Option CR)) (List.map fldV (cutS g.fields e)) x.place f.id f.kind f.lo f.hi f.most p (List.map frmV l) x.op x.form x.field x.to x.a x.b x.f.id x.f.kind x.f.lo x.f.hi x.f.most x.n x.s (List.map (fun n => iV n) x.t) (List.map fldV x.fields) v e = some ([.bool true], [(0, madO x v (l.set p ⟨g.id, putS (cutS g.fields e) n [f]⟩) p e)]) := by
    simp only [z3m, q2, cond_true, zr, ci, Option.bind_some, k5]
  have k2 : z1l (OA (tbl E0) (ltbl E0 47 0)) x v l p e (fun r o => (some (r, o) : Option CR)) (List.map fldV g.fields) e x.place f.id f.kind f.lo f.hi f.most p (List.map frmV l) x.op x.form x.field x.to x.a x.b x.f.id x.f.kind x.f.lo x.f.hi x.f.most x.n x.s (List.map (fun n => iV n) x.t) (List.map fldV x.fields) v = some ([.bool true], [(0, madO x v (l.set p ⟨g.id, putS (cutS g.fields e) n [f]⟩) p e)]) := by
    simp only [z1l, q2, cond_true, zr, e1, cd, Option.bind_some, u_asC, zd, u_asN, k1]
  simp only [zaz, z3c, o6.1, o6.2, List.all_cons, List.all_nil, fitA, Bool.and_self, cond_true, z9, q, zr, cf, cc, co, Option.bind_some, nbeq, decide_true, u_asN, u_asC, u_asI, u_asS, u_asL, zd, u_asA, t7, z6o, z6p, z4w, z4x, q2, e1, cd, k1, k2, z17, z13])
set_option maxHeartbeats 4000000 in
theorem zes (x : Stp) (v : Int) (l : List Frm) (p e n : Nat) (g : Frm) (m : List Fld) (b : Bool) (hg : l[p]? = some g) (o7 : x.op ≠ 7) (hn : n ≤ 1) (hen : e + n ≤ g.fields.length) (hgl : g.fields.length ≤ 900) (hm : m.length ≤ 8)
    (ht : tbl E0 86 [.ref 0 0] [(0, madO x v l p e)] = some ([fldsU m, iV n, .bool b], [(0, madO x v l p e)])) :
    tbl E0 47 [.ref 0 0] [(0, madO x v l p e)] = some ([.bool b], [(0, madO x v (if b then l.set p ⟨g.id, g.fields.take e ++ m ++ g.fields.drop (e + n)⟩ else l) p e)]) := zhd x v l p e (by
  have q := z11 l; have q2 := z3n; have o6 := oshE6; rw [Bool.and_eq_true] at o6; have hp : p < l.length := (List.getElem?_eq_some_iff.1 hg).1
  have hp2 : (p : Int) < l.length := by omega
  have cf := zb0 x v l p e g hg
  have cc := z6q g.fields (by omega)
  have cr := zz9 g.fields e (e + n) m (by omega) hen (by omega)
  have e1 : IntKind.i64.wrap ((e : Int) + n) = ((e + n : Nat) : Int) := by rw [wrap_i64 _ (by omega) (by omega)]; omega
  have t7 := beq_f o7; simp only [fldsV, fldsU] at cf cc cr ht; generalize hN : g.fields.take e ++ m ++ g.fields.drop (e + n) = nw at cr ⊢
  have k5 : z2t (OA (tbl E0) (ltbl E0 47 0)) x v l p e (fun r o => (some (r, o) : Option CR)) [AV.lst .uq 5 (List.map fldV nw)] [] p (List.map frmV l) x.op x.form x.field x.place x.to x.a x.b x.f.id x.f.kind x.f.lo x.f.hi x.f.most x.n x.s (List.map (fun n => iV n) x.t) (List.map fldV x.fields) v e = some ([.bool true], [(0, madO x v (l.set p ⟨g.id, nw⟩) p e)]) := by
    have z := zko (α := Option CR) (A := OA (tbl E0) (ltbl E0 47 0)) g nw; simp only [fldsV] at z; have z2 : Nat.ble (1 + [AV.lst Md.ro 5 (List.map fldV nw)].length) (frmV g).cells.length = true := rfl; have z3 : (frmV ⟨g.id, nw⟩).flat = true := rfl; have z4 := z11 (l.set p ⟨g.id, nw⟩)
    have z5 : (List.map frmV l).set p (frmV ⟨g.id, nw⟩) = List.map frmV (l.set p ⟨g.id, nw⟩) := by rw [List.map_set]
    simp only [z2t, u_asC, zd, u_asN, q2, cond_true, z13, z9, Int.natCast_nonneg, List.length_map, hp2, decide_true, Bool.and_self, nthE, Int.toNat_natCast, List.getElem?_map, hg, Option.map_some, z, z2, z3, z4, z5]
  simp only [zaz, z3c, o6.1, o6.2, List.all_cons, List.all_nil, fitA, Bool.and_self, cond_true, cond_false, z9, q, zr, cf, cc, ht, Option.bind_some, nbeq, decide_true, u_asN, u_asC, u_asI, u_asS, u_asL, zd, u_asA, u_asB, t7, z13]
  rcases bor b with hb | hb
  · simp only [hb, Bool.not_true, cond_false, q2, cond_true, zr, e1, cr, Option.bind_some, k5, if_true]
  · simp only [hb, Bool.not_false, cond_true, q, Bool.false_eq_true, if_false])
end V
namespace V
theorem z76 (f : Frm) : ∀ (l : List Frm) (n : Int), risingS n l = true → f.id ≤ n → bodyS f true l = l
  | [], _, _, _ => rfl
  | g :: l, n, h, hn => by
    simp only [risingS, Bool.and_eq_true, decide_eq_true_eq] at h
    have : g.id ≠ f.id := by omega
    simp only [bodyS, Bool.not_true, Bool.false_and, Bool.false_eq_true, if_false, List.nil_append, ne_eq, this, not_false_eq_true, if_true, Bool.true_or, z76 f l g.id h.2 (by omega)]
    rfl
theorem z5r (f : Frm) : ∀ l : List Frm, doneS f true l = true
  | [] => rfl
  | g :: l => by simp only [doneS, Bool.true_or, z5r f l]
theorem zb2 (f : Frm) : ∀ (l : List Frm) (n : Int), risingS n l = true → hereS f.id l = true → formsS f false l = l.set (posS f.id l) f
  | [], _, _, h => by simp [hereS, posS] at h
  | g :: l, n, hr, h => by
    simp only [risingS, Bool.and_eq_true, decide_eq_true_eq] at hr
    by_cases c : g.id < f.id
    · have h2 : hereS f.id l = true := by simpa [hereS, posS, c] using h
      have ih := zb2 f l g.id hr.2 h2
      have n1 : ¬ (f.id ≤ g.id) := by omega
      have n2 : g.id ≠ f.id := by omega
      simp only [formsS, bodyS, doneS, n1, n2, decide_false, Bool.and_false, Bool.or_false, Bool.false_eq_true, if_false, ne_eq, not_false_eq_true, if_true, List.nil_append, List.cons_append, posS, c, List.set_cons_succ]; rw [← ih]; rfl
    · have e : g.id = f.id := by simpa [hereS, posS, c] using h
      have n1 : f.id ≤ g.id := by omega
      simp [formsS, bodyS, doneS, n1, e, posS, c, z5r, z76 f l g.id hr.2 n1]
theorem zhe (f : Frm) : ∀ (l : List Frm) (n : Int), risingS n l = true → hereS f.id l = false → formsS f false l = l.take (posS f.id l) ++ [f] ++ l.drop (posS f.id l)
  | [], _, _, h => by simp [formsS, bodyS, doneS, posS]
  | g :: l, n, hr, h => by
    simp only [risingS, Bool.and_eq_true, decide_eq_true_eq] at hr
    by_cases c : g.id < f.id
    · have h2 : hereS f.id l = false := by simpa [hereS, posS, c] using h
      have ih := zhe f l g.id hr.2 h2
      have n1 : ¬ (f.id ≤ g.id) := by omega
      have n2 : g.id ≠ f.id := by omega
      simp only [formsS, bodyS, doneS, n1, n2, decide_false, Bool.and_false, Bool.or_false, Bool.false_eq_true, if_false, ne_eq, not_false_eq_true, if_true, List.nil_append, List.cons_append, posS, c, List.take_succ_cons, List.drop_succ_cons]; simp only [formsS] at ih; rw [ih]
    · have e : g.id ≠ f.id := by simpa [hereS, posS, c] using h
      have n1 : f.id ≤ g.id := by omega
      simp [formsS, bodyS, doneS, n1, e, posS, c, z5r, z76 f l g.id hr.2 n1]
theorem zhf (f : Frm) : ∀ (l : List Frm) (n : Int), risingS n l = true → hereS f.id l = true → formsS f true l = l.take (posS f.id l) ++ l.drop (posS f.id l + 1)
  | [], _, _, h => by simp [hereS, posS] at h
  | g :: l, n, hr, h => by
    simp only [risingS, Bool.and_eq_true, decide_eq_true_eq] at hr
    by_cases c : g.id < f.id
    · have h2 : hereS f.id l = true := by simpa [hereS, posS, c] using h
      have ih := zhf f l g.id hr.2 h2
      have n2 : g.id ≠ f.id := by omega
      simp only [formsS, z5r, if_true, List.append_nil] at ih ⊢; simp only [bodyS, n2, Bool.not_true, Bool.false_and, Bool.true_or, Bool.false_eq_true, if_false, ne_eq, not_false_eq_true, if_true, List.nil_append, List.cons_append, posS, c, List.take_succ_cons, List.drop_succ_cons, ih]
    · have e : g.id = f.id := by simpa [hereS, posS, c] using h
      have n1 : f.id ≤ g.id := by omega
      simp [formsS, bodyS, z5r, e, posS, c, z76 f l g.id hr.2 n1]
theorem z77 (g : Frm) (l : List Frm) (id : Int) : findS (g :: l) id = if g.id = id then 0 else if findS l id = -1 then -1 else findS l id + 1 := by
  unfold findS firstS; rw [List.findIdx?_cons]
  by_cases e : g.id = id
  · simp [e]
  · have e' : (g.id == id) = false := by simpa using e
    rw [e']; simp only [Bool.false_eq_true, if_false, e]
    cases List.findIdx? (fun f : Frm => f.id == id) l with
    | none => simp
    | some i => simp
theorem zn3 {id : Int} : ∀ (l : List Frm) (n : Int), risingS n l = true → id ≤ n → findS l id = -1
  | [], _, _, _ => rfl
  | g :: l, n, h, hn => by
    simp only [risingS, Bool.and_eq_true, decide_eq_true_eq] at h
    have e : g.id ≠ id := by omega
    rw [z77, if_neg e, zn3 l g.id h.2 (by omega)]
    rfl
theorem zd3 (id : Int) : ∀ (l : List Frm) (n : Int), risingS n l = true → findS l id = if hereS id l then (posS id l : Int) else -1
  | [], _, _ => by simp [hereS, posS]; rfl
  | g :: l, n, hr => by
    simp only [risingS, Bool.and_eq_true, decide_eq_true_eq] at hr; rw [z77]
    by_cases c : g.id < id
    · have e : g.id ≠ id := by omega
      have h2 : hereS id (g :: l) = hereS id l := by simp [hereS, posS, c]
      rw [if_neg e, h2, zd3 id l g.id hr.2]
      cases hereS id l
      · simp
      · simp [posS, c]
    · by_cases e : g.id = id
      · simp [e, hereS, posS]
      · have h1 : hereS id (g :: l) = false := by simp [hereS, posS, c, e]
        rw [if_neg e, h1, zn3 l g.id hr.2 (by omega)]
        rfl
end V
namespace V
theorem zzc {f : Fld} (h : rgtS f = true) : 0 ≤ f.id := by
  simp only [rgtS, Bool.and_eq_true, decide_eq_true_eq] at h; exact h.1.1
theorem zlh {s : Sch} {x : Stp} (hx : tRightS x = true) (h10 : x.op ≤ 10) (h9 : x.op ≠ 9) {j : Nat} {g : Frm} (e1 : findS s.forms x.form = (j : Int)) (e2 : s.forms[j]? = some g) :
    thereS x g (atG x g) (freshG x) = namesS s x := by
  have n1 : ¬ ((j : Int) < 0) := by omega
  have en : namesS s x = (if fieldS x.op && decide (atS g.fields x.field < 0) then 8
        else if (x.op == 1 && decide (0 ≤ atS g.fields x.f.id)) || ((x.op == 6 || x.op == 8) && decide (0 ≤ atS g.fields x.to)) then 9
        else if (x.op == 1 && decide ((g.fields.length : Int) < x.place)) || (x.op == 7 && decide ((g.fields.length : Int) ≤ x.place)) then 3 else 0) := by
    simp only [namesS, h9, if_false, e1, n1, Int.toNat_natCast, e2]
  rw [en]
  rcases z59 hx h10 with o | o | o | o | o | o | o | o | o | o
  · obtain ⟨p1, p2⟩ := zbf hx o
    have p3 := zzc p2
    have p4 : ¬ (x.place < 0) := by omega
    simp [thereS, atG, freshG, fieldS, o, p3, p4]
  · simp [thereS, atG, freshG, fieldS, o]
  · simp [thereS, atG, freshG, fieldS, o]
  · simp [thereS, atG, freshG, fieldS, o]
  · simp [thereS, atG, freshG, fieldS, o]
  · have := (zfv hx o).2
    simp [thereS, atG, freshG, fieldS, o, this]
  · simp [thereS, atG, freshG, fieldS, o]
  · have := zwx hx o
    simp [thereS, atG, freshG, fieldS, o, this]
  · exact absurd o h9
  · simp [thereS, atG, freshG, fieldS, o]
theorem zd4 (s : Sch) (x : Stp) (v : Int) (l : List Frm) (hl : Sml ⟨v, l⟩) : z8v (OA (tbl E0) (ltbl E0 17 0)) s x (fun r o => (some (r, o) : Option CR)) (l.map frmV) v =
    some ([schV (if schS ⟨v, l⟩ then (⟨v, l⟩, (0 : Int)) else (sch0, 7)).1, iV (if schS ⟨v, l⟩ then ((⟨v, l⟩ : Sch), (0 : Int)) else (sch0, 7)).2], []) := by
  have c := zjz ⟨v, l⟩ hl; simp only [schV, frmsV] at c; simp only [z8v, z11 l, cond_true, z9, za, c, Option.bind_some, u_asC, u_asB, u_asN]
  rcases bor (schS ⟨v, l⟩) with h | h
  · simp [h]
  · simp [h, sch0]
set_option maxHeartbeats 4000000 in
theorem c_gOn (s : Sch) (x : Stp) (hs : Few s) (hx : x.sml) (hxo : x.ok) : tbl E0 17 [schV s, stpV x] [] = some ([schV (onS s x).1, iV (onS s x).2], []) := t_gOn s x (by
  have c1 := zjz s hs.sml; have c2 := ztx x hxo hx; simp only [schV, stpV, stpC, intsV, frmsV, fldsV] at c1 c2
  have gate : onS s x = if !(schS s) || (!(tRightS x) || decide (10 < x.op)) then (sch0, 2) else onS s x := by
    by_cases h : (!(schS s) || (!(tRightS x) || decide (10 < x.op))) = true
    · rw [if_pos h]; unfold onS; rw [if_pos h]
    · rw [if_neg h]
  simp only [s_gOn, z9, cond_true, zh, za, c1, Option.bind_some, u_asC, u_asB, u_asN]
  rcases bor' (schS s) with h1 | h1
  · simp [h1, gate, sch0]
  simp only [h1, Bool.not_true, cond_false, c2, Option.bind_some, u_asC, u_asB, u_asN]
  rcases bor' (tRightS x) with h2 | h2
  · simp [h1, h2, gate, sch0]
  have hop := (z3t h2).2.1
  have hop1 : ¬ (x.op < 1) := by
    simp only [opsL, List.mem_cons, List.not_mem_nil, or_false] at hop; omega
  simp only [h2, Bool.not_true, hop1, decide_false, cond_false, Option.bind_some, Tok.untok_tok, gt_iff_lt]
  by_cases h3 : 10 < x.op
  · simp [h1, h2, h3, gate, sch0]
  have g0 : ¬ ((!(schS s) || (!(tRightS x) || decide (10 < x.op))) = true) := by simp [h1, h2, h3]
  have sf := z5a h1
  have cc := zra s (by omega) (fun f hf => by have := (sf.2 f hf).1; omega)
  simp only [schV, frmsV, frmsU] at cc; have q := z11 s.forms; simp only [h3, decide_false, cond_false, zr, cc, Option.bind_some, u_asC, u_asA, u_asI, zd, u_asN, q, cond_true]
  have sml8 : ∀ (l : List Frm), l.length ≤ 9 → (∀ f ∈ l, f.fields.length ≤ 900) → Sml ⟨s.ver, l⟩ := fun l a b => ⟨Nat.le_trans a (by decide), fun f hf => Nat.le_trans (b f hf) (by decide)⟩
  have rise : risingS (-1) s.forms = true := by
    simp only [schS, Bool.and_eq_true] at h1; exact h1.2
  have hfind := zd3 x.form s.forms (-1) rise; have hpos := zkm x.form s.forms
  by_cases h9 : x.op = 9
  · have ct := zrl x s.ver s.forms 0 0 (by omega) h9
    have t9 : (x.op == 9) = true := by simpa using h9
    simp only [madO, intsV, fldsV, frmsU] at ct; simp only [ct, Option.bind_some, nbeq, decide_true, cond_true, u_asC, u_asA, u_asI, u_asS, u_asL, zd, u_asN]
    rcases bor (hereS x.form s.forms) with hh | hh
    · have en : namesS s x = 9 := by simp [namesS, h9, hfind, hh]
      have eo : onS s x = (sch0, 9) := by unfold onS; rw [if_neg g0, if_pos (by simp [en]), en]
      rw [eo]; simp [hh, sch0]
    · have en : namesS s x = 0 := by simp [namesS, h9, hfind, hh]
      have eo : onS s x = outS s ⟨x.form, x.fields⟩ := by unfold onS; rw [if_neg g0, if_neg (by simp [en]), if_pos h9]
      have f9 := zfw h2 h9; have l9 : x.fields.length ≤ 8 := (zap f9).1
      have cl := z6q x.fields (by omega)
      have ci := zza s.forms (posS x.form s.forms) [⟨x.form, x.fields⟩] hpos (by simp; omega)
      have fn := zhe ⟨x.form, x.fields⟩ s.forms (-1) rise hh; simp only [fldsV, fldsU, frmsU, List.map_cons, List.map_nil] at cl ci
      have k3 := zd4 s x s.ver (s.forms.take (posS x.form s.forms) ++ [⟨x.form, x.fields⟩] ++ s.forms.drop (posS x.form s.forms)) (sml8 _ (by simp; omega) (fun f hf => by
        simp only [List.mem_append, List.mem_singleton] at hf
        rcases hf with (hf | hf) | hf
        · have := (sf.2 f (List.mem_of_mem_take hf)).1; omega
        · subst hf; simp; omega
        · have := (sf.2 f (List.mem_of_mem_drop hf)).1; omega))
      simp only [hh, Bool.false_eq_true, if_false, t9, cond_true, zd0, z36, zr, cl, ci, Option.bind_some, u_asC, zd, u_asN, z3n, z9, q, k3, z17, z13, (by decide : ((0 : Int) != 0) = false), cond_false]
      have hne : (⟨x.form, x.fields⟩ : Frm).fields.isEmpty = false := by
        rw [z3k] at f9; have := f9.2.1.1
        cases hxf : x.fields with
        | nil => simp [hxf] at this
        | cons a l => rfl
      rw [eo, outS, hne, fn]
  have t9 := beq_f h9
  rcases bor' (hereS x.form s.forms) with hh | hh
  · have ct := zrm x s.ver s.forms 0 0 (by omega) h9 hh
    have en : namesS s x = 8 := by simp [namesS, h9, hfind, hh]
    have eo : onS s x = (sch0, 8) := by unfold onS; rw [if_neg g0, if_pos (by simp [en]), en]
    simp only [madO, intsV, fldsV, frmsU] at ct; simp only [ct, Option.bind_some, nbeq, decide_true, cond_true, u_asC, u_asA, u_asI, u_asS, u_asL, zd, u_asN]; rw [eo]; simp [sch0]
  · rw [hh] at hfind
    simp only [if_true] at hfind
    obtain ⟨g, hg, he⟩ : ∃ g, s.forms[posS x.form s.forms]? = some g ∧ g.id = x.form := by
      unfold hereS at hh
      split at hh
      · rename_i g hg; exact ⟨g, hg, by simpa using hh⟩
      · cases hh
    have hp : posS x.form s.forms < s.forms.length := (List.getElem?_eq_some_iff.1 hg).1; have hgl := (sf.2 g (List.mem_of_getElem? hg)).1
    have ct := zuj x s.ver s.forms 0 0 (by omega) (fun f hf => by have := (sf.2 f hf).1; omega) h9 g hg he
    rw [zlh h2 (by omega) h9 hfind hg] at ct
    simp only [madO, intsV, fldsV, frmsU] at ct; simp only [ct, Option.bind_some, nbeq, decide_true, cond_true, u_asC, u_asA, u_asI, u_asS, u_asL, zd, u_asN]
    by_cases h4 : ¬ (namesS s x = 0)
    · have h4' := bne_t h4
      have eo : onS s x = (sch0, namesS s x) := by unfold onS; rw [if_neg g0, if_pos h4]
      rw [eo]; simp only [h4', cond_true, sch0, schV, frmsV, List.map_nil]
    have h4 : namesS s x = 0 := Classical.not_not.1 h4
    have h4' : (namesS s x != 0) = false := by simp [h4]
    simp only [h4', cond_false, t9]
    by_cases o10 : x.op = 10
    · have t10 : (x.op == 10) = true := by simpa using o10
      have o1 : x.op ≠ 1 := by omega
      have eo : onS s x = outS s ⟨x.form, []⟩ := by unfold onS; rw [if_neg g0, if_neg (by simp [h4]), if_neg h9, if_neg o1, if_pos o10]
      have cd := zzb s.forms (posS x.form s.forms) hp; have fn := zhf ⟨x.form, []⟩ s.forms (-1) rise hh
      have e1 := zj (i := posS x.form s.forms) (by omega)
      have k3 := zd4 s x s.ver (s.forms.take (posS x.form s.forms) ++ s.forms.drop (posS x.form s.forms + 1)) (sml8 _ (by simp; omega) (fun f hf => by
        simp only [List.mem_append] at hf
        rcases hf with hf | hf
        · have := (sf.2 f (List.mem_of_mem_take hf)).1; omega
        · have := (sf.2 f (List.mem_of_mem_drop hf)).1; omega))
      simp only [frmsU] at cd; simp only [t10, cond_true, z13, q, zr, e1, cd, Option.bind_some, z36, u_asC, zd, u_asN, z9, k3, z17]; have hne : (⟨x.form, []⟩ : Frm).fields.isEmpty = true := rfl; rw [eo, outS, hne, fn]
    have t10 := beq_f o10; simp only [t10, cond_false, q, cond_true, zr]
    have tail : ∀ nw : List Fld, (if schS ⟨s.ver, s.forms.set (posS x.form s.forms) ⟨g.id, nw⟩⟩ then ((⟨s.ver, s.forms.set (posS x.form s.forms) ⟨g.id, nw⟩⟩ : Sch), (0 : Int)) else (sch0, 7)) = if nw.isEmpty then (sch0, 7) else outS s ⟨x.form, nw⟩ := by
      intro nw; have fn := zb2 ⟨x.form, nw⟩ s.forms (-1) rise hh; rw [he]
      rcases bor nw.isEmpty with z | z
      · have : schS ⟨s.ver, s.forms.set (posS x.form s.forms) ⟨x.form, nw⟩⟩ = false := by
          cases hb : schS ⟨s.ver, s.forms.set (posS x.form s.forms) ⟨x.form, nw⟩⟩ with
          | false => rfl
          | true =>
            simp only [schS, Bool.and_eq_true] at hb; have hm := z3a _ _ hb.2 ⟨x.form, nw⟩ (List.mem_set hp _); rw [z3k] at hm; have := hm.2.1.1
            cases nw with
            | nil => simp at this
            | cons a l => cases z
        rw [this, z]; rfl
      · have hne : (⟨x.form, nw⟩ : Frm).fields.isEmpty = false := z
        rw [z, outS, hne, fn]; rfl
    obtain ⟨j, g', e1, e2, e3, e4, e5, e6, e7, e8⟩ := names0 h4 h9
    have hj : j = posS x.form s.forms := by rw [hfind] at e1; omega
    subst hj
    have hgg : g' = g := by rw [hg] at e2; injection e2 with e2; exact e2.symm
    subst hgg
    have main : ∃ (e : Nat) (nw : List Fld) (b : Bool), atG x g' = (e : Int) ∧ nw.length ≤ 900 ∧ onS s x = (if b then (if nw.isEmpty then (sch0, 7) else outS s ⟨x.form, nw⟩) else (sch0, 17)) ∧
        tbl E0 47 [.ref 0 0] [(0, madO x s.ver s.forms (posS x.form s.forms) e)] = some ([.bool b], [(0, madO x s.ver (if b then s.forms.set (posS x.form s.forms) ⟨g'.id, nw⟩ else s.forms) (posS x.form s.forms) e)]) := by
      by_cases o1 : x.op = 1
      · obtain ⟨p1, p2⟩ := zbf h2 o1
        have p3 := (e6 o1).1
        obtain ⟨k, hk⟩ : ∃ k : Nat, x.place = (k : Int) := ⟨x.place.toNat, by omega⟩
        have eo : onS s x = outS s ⟨x.form, putS g'.fields k [x.f]⟩ := by unfold onS; rw [if_neg g0, if_neg (by simp [h4]), if_neg h9, if_pos o1, e4, hk, Int.toNat_natCast]
        refine ⟨k, putS g'.fields k [x.f], true, by simp [atG, o1, hk], by rw [z67]; simp; omega, ?_, ?_⟩
        · have : (putS g'.fields k [x.f]).isEmpty = false := by simp [putS]
          rw [eo, this]; rfl
        · exact zes x s.ver s.forms (posS x.form s.forms) k 0 g' [x.f] true hg (by omega) (by omega) (by omega) (by omega) (by simp) (zol x s.ver s.forms _ _ o1)
      have hfield : fieldS x.op = true := by simp [fieldS, o1, h9, o10]
      obtain ⟨k, f, q1, q2⟩ := e5 hfield; have hk : k < g'.fields.length := (List.getElem?_eq_some_iff.1 q2).1; have hf : rgtS f = true := (sf.2 g' (List.mem_of_getElem? hg)).2 f (List.mem_of_getElem? q2)
      have ha : atG x g' = (k : Int) := by simp [atG, o1, o10, q1]
      have hC := zfx hk
      have eo : onS s x = if (typesS f x).2 then (if (newS g'.fields x (typesS f x).1).isEmpty then (sch0, 7) else outS s ⟨x.form, newS g'.fields x (typesS f x).1⟩) else (sch0, 17) := by
        unfold onS
        rw [if_neg g0, if_neg (by simp [h4]), if_neg h9, if_neg o1, if_neg o10, e4, q1, Int.toNat_natCast, q2]
      by_cases o7 : x.op = 7
      · have p := zn2 h2 o7
        have p2 := e7 o7
        obtain ⟨n, hn⟩ : ∃ n : Nat, x.place = (n : Int) := ⟨x.place.toNat, by omega⟩
        have et : typesS f x = ([f], true) := by simp [typesS, o7]
        have enw : newS g'.fields x [f] = putS (cutS g'.fields k) n [f] := by simp only [newS, o7, if_true, hn, Int.toNat_natCast, q1]
        refine ⟨k, putS (cutS g'.fields k) n [f], true, ha, by rw [z67]; simp; omega, ?_, ?_⟩
        · rw [eo, et, enw]
        · exact zom x s.ver s.forms (posS x.form s.forms) k n g' f hg q2 o7 hn (by omega) (by omega)
      · have ops : x.op = 2 ∨ x.op = 3 ∨ x.op = 4 ∨ x.op = 5 ∨ x.op = 6 ∨ x.op = 8 := by
          have := z59 h2 (by omega)
          omega
        obtain ⟨tt1, tt2⟩ := zkn hf o7 ops
        have ct := zri x s.ver s.forms (posS x.form s.forms) k g' f hg q2 (fun _ => hf) o1 (fun o6 => by have := zfv h2 o6; omega)
        have tl : (turnedS f x).1.length ≤ 8 := by
          unfold turnedS
          repeat' split
          all_goals simp
        have enw : newS g'.fields x (turnedS f x).1 = g'.fields.take k ++ (turnedS f x).1 ++ g'.fields.drop (k + 1) := by
          simp only [newS, o7, if_false, Int.toNat_natCast, q1, putS, cutS]
          have e1 : (g'.fields.take k).length = k := by simp; omega
          rw [List.take_append_of_le_length (by omega), List.drop_append_of_le_length (by omega)]
          have e2 : (g'.fields.take k).drop k = [] := List.drop_eq_nil_of_le (by omega)
          rw [e2, List.take_take, Nat.min_self, List.nil_append]
        refine ⟨k, g'.fields.take k ++ (turnedS f x).1 ++ g'.fields.drop (k + 1), (turnedS f x).2, ha, by simp; omega, ?_, ?_⟩
        · rw [eo, tt1]
          rcases bor (typesS f x).2 with t | t
          · rw [t, ← tt2 t, enw]
          · rw [t]
            rfl
        · exact zes x s.ver s.forms (posS x.form s.forms) k 1 g' (turnedS f x).1 (turnedS f x).2 hg o7 (by omega) (by omega) (by omega) tl ct
    obtain ⟨e, nw, b, ha, hl, hon, hc⟩ := main; rw [ha, hon]; simp only [madO, intsV, fldsV, frmsU] at hc; simp only [hc, Option.bind_some, nbeq, decide_true, cond_true, u_asC, u_asA, u_asI, u_asS, u_asL, zd, u_asN, u_asB]
    have k3 := zd4 s x s.ver (s.forms.set (posS x.form s.forms) ⟨g'.id, nw⟩) (sml8 _ (by simp; omega) (fun f hf => by
      rcases List.mem_or_eq_of_mem_set hf with hf | hf
      · have := (sf.2 f hf).1; omega
      · subst hf; exact hl))
    rcases bor b with hb | hb
    · simp only [hb, Bool.not_true, cond_false, if_true, k3, tail nw]
    · simp [hb, sch0])
end V
namespace V
end V
namespace V
def stpN : Stp := ⟨0, 0, 0, 0, 0, 0, 0, fld0, 0, [], [], []⟩
def ownAt (s : Sch) (x : Stp) : Fld := match (oldS s x)[(atS (oldS s x) x.field).toNat]? with | some f => f | none => fld0
def backOf (s : Sch) (x : Stp) : Stp :=
  if x.op = 9 then ⟨29, x.form, 0, 0, 0, 0, 0, fld0, 0, [], [], []⟩
  else if x.op = 10 then ⟨30, x.form, 0, 0, 0, 0, 0, fld0, 0, [], [], oldS s x⟩
  else if x.op = 1 then ⟨21, x.form, x.f.id, 0, 0, 0, 0, fld0, 0, [], [], []⟩
  else if x.op = 2 then ⟨22, x.form, 0, atS (oldS s x) x.field, 0, 0, 0, ownAt s x, x.n, x.s, [], []⟩
  else if x.op = 3 then ⟨23, x.form, x.field, 0, 0, 0, 0, ownAt s x, 0, [], [], []⟩
  else if x.op = 4 then ⟨24, x.form, x.field, 0, 0, x.a, x.b, ownAt s x, 0, [], [], []⟩
  else if x.op = 5 then ⟨25, x.form, x.field, 0, 0, 0, 0, fld0, 0, [], x.t, []⟩
  else if x.op = 6 then ⟨26, x.form, x.field, 0, x.to, x.a, 0, ownAt s x, 0, [], [], []⟩
  else if x.op = 7 then ⟨27, x.form, x.field, atS (oldS s x) x.field, 0, 0, 0, fld0, 0, [], [], []⟩
  else ⟨28, x.form, x.to, 0, x.field, 0, 0, fld0, 0, [], [], []⟩
def invS (s : Sch) (x : Stp) : Stp × Int := if (onS s x).2 = 0 then (backOf s x, 0) else (stpN, (onS s x).2)
theorem at_id {l : List Fld} {id : Int} {k : Nat} {f : Fld} (h : atS l id = (k : Int)) (hk : l[k]? = some f) : f.id = id := by
  rcases z4g (p := fun f : Fld => f.id == id) (l := l) with ⟨j, g, q1, q2, q3⟩ | q1
  · have q1 : atS l id = (j : Int) := q1
    have : j = k := by omega
    subst this; rw [q2] at hk; injection hk with hk; subst hk
    simpa using q3
  · have q1 : atS l id = -1 := q1
    omega
theorem z2l {s : Sch} {x : Stp} (h : (onS s x).2 = 0) (h1 : x.op ≠ 1) (h9 : x.op ≠ 9) (h10 : x.op ≠ 10) : ∃ (k : Nat) (f : Fld), atS (oldS s x) x.field = (k : Int) ∧ (oldS s x)[k]? = some f ∧ f.id = x.field ∧ rgtS f = true ∧ ownAt s x = f ∧ k ≤ 7 ∧ (typesS f x).2 = true := by
  obtain ⟨_, _, _, _, hs, h4, hr, hle⟩ := z2a h; obtain ⟨j, g, e1, e2, e3, e4, e5, _⟩ := names0 h4 h9
  obtain ⟨k, f, q1, q2⟩ := e5 (by simp [fieldS, h1, h9, h10])
  have sf := z5a hs; have hg := sf.2 g (List.mem_of_getElem? e2); have hk := (List.getElem?_eq_some_iff.1 q2).1
  refine ⟨k, f, by rw [e4]; exact q1, by rw [e4]; exact q2, at_id q1 q2, hg.2 f (List.mem_of_getElem? q2), ?_, by omega, ?_⟩
  · unfold ownAt
    rw [e4, q1, Int.toNat_natCast, q2]
  · have g0 : ¬ (!(schS s) || (!(tRightS x) || decide (10 < x.op))) = true := by simp [hs, hr]; omega
    cases ht : (typesS f x).2 with
    | true => rfl
    | false =>
      exfalso; unfold onS at h
      rw [if_neg g0, if_neg (by simp [h4]), if_neg h9, if_neg h1, if_neg h10, e4, q1, Int.toNat_natCast, q2] at h
      simp [ht] at h
end V
namespace V
theorem zun (l : List Int) (h : l.length ≤ 1000) : tbl E0 70 [intsV l] [] = some ([intsV l], []) := zt1 l (by
  have h2 : (0 + (l.map fun n => iV n).length) * 8 ≤ 211106232532992 := by rw [List.length_map]; omega
  cases l with
  | nil =>
    simp only [zco, List.map_nil]
    exact z7h (fun b => by cases b <;> rfl)
  | cons a l =>
    simp only [zco, List.map_cons] at h2 ⊢; have h3 := decide_eq_true h2; simp only [nilEq, List.map_cons, z9, h3, cond_false, cond_true]
    rfl)
def pownS (s : Sch) (x : Stp) : Fld × Int :=
  match formS s.forms x.form with
  | none => (fld0, 0)
  | some g => match g.fields[(atS g.fields x.field).toNat]? with
    | some f => if 0 ≤ atS g.fields x.field then (f, atS g.fields x.field) else (fld0, 0)
    | none => (fld0, 0)
theorem zze {l : List Fld} {id : Int} : (∃ (k : Nat) (f : Fld), atS l id = (k : Int) ∧ l[k]? = some f) ∨ atS l id = -1 := by
  rcases z4g (p := fun f : Fld => f.id == id) (l := l) with ⟨j, g, q1, q2, q3⟩ | q1
  · exact .inl ⟨j, g, q1, q2⟩
  · exact .inr q1
theorem zx1 (s : Sch) (x : Stp) (hs : Few s) : tbl E0 69 [schV s, stpV x] [] = some ([fldV (pownS s x).1, iV (pownS s x).2], []) := zw1 s x (by
  have c1 := zbd s x.form hs.sml; simp only [schV, frmsV] at c1
  rcases z25 s.forms x.form with ⟨j, g, h1, h2, h3⟩ | ⟨h1, h2⟩
  · rw [h1] at c1
    have c2 := c_sAt g x.field (by have := hs.2 g (List.mem_of_getElem? h3); omega)
    simp only [frmV, fldsV] at c1 c2; simp only [zfj, z9, cond_true, za, c1, c2, Option.bind_some, u_asC, u_asA, u_asI, u_asB, u_asL, u_asN, pownS, h1]
    rcases zze (l := g.fields) (id := x.field) with ⟨k, f, q1, q2⟩ | q1
    · have q3 : (k : Int) ≥ 0 := by omega
      have q4 : (0 : Int) ≤ k := q3; simp only [q1, Int.toNat_natCast, q2, q3, q4, decide_true, cond_true, if_true, z9, nthE, List.getElem?_map, Option.map_some, u_asC, u_asA, u_asI, u_asN]
    · have q3 : ¬ ((-1 : Int) ≥ 0) := by omega
      have q4 : ¬ ((0 : Int) ≤ -1) := by omega
      simp only [q1, q3, q4, decide_false, cond_false, if_false]
      cases g.fields[(-1 : Int).toNat]? <;> rfl
  · rw [h1] at c1
    have c2 := c_sAt ⟨0, []⟩ x.field (by simp)
    have q : atS [] x.field = -1 := rfl
    have q3 : ¬ ((-1 : Int) ≥ 0) := by omega
    simp only [frmV, fldsV, List.map_nil, q] at c1 c2; simp only [zfj, z9, cond_true, za, c1, c2, Option.bind_some, u_asC, u_asA, u_asI, u_asB, u_asL, u_asN, pownS, h1, q3, decide_false, cond_false]
    rfl)
theorem zfy {s : Sch} {x : Stp} (h : (onS s x).2 = 0) (h9 : x.op ≠ 9) : ∃ (j : Nat) (g : Frm), findS s.forms x.form = (j : Int) ∧ s.forms[j]? = some g ∧ oldS s x = g.fields ∧ formS s.forms x.form = some g ∧ g.fields.length ≤ 8 := by
  obtain ⟨_, _, _, _, hs, h4, hr, hle⟩ := z2a h; obtain ⟨j, g, e1, e2, e3, e4, _⟩ := names0 h4 h9; refine ⟨j, g, e1, e2, e4, ?_, ((z5a hs).2 g (List.mem_of_getElem? e2)).1⟩
  rcases z25 s.forms x.form with ⟨j', g', h1, h2, h3⟩ | ⟨h1, h2⟩
  · have : j' = j := by omega
    subst this; rw [e2] at h3; injection h3 with h3; rw [h1, h3]
  · omega
theorem z80 {s : Sch} {x : Stp} (h : (onS s x).2 = 0) (h9 : x.op ≠ 9) {k : Nat} {f : Fld} (q1 : atS (oldS s x) x.field = (k : Int)) (q2 : (oldS s x)[k]? = some f) : pownS s x = (f, (k : Int)) := by
  obtain ⟨j, g, e1, e2, e3, e4, _⟩ := zfy h h9; rw [e3] at q1 q2
  have q4 : (0 : Int) ≤ k := by omega
  simp only [pownS, e4, q1, Int.toNat_natCast, q2, q4, if_true]
theorem zet {x : Stp} (h : tRightS x = true) (o : x.op = 9 ∨ x.op = 10) : x.field = 0 := by
  have h3 := congrArg Stp.field (z3t h).2.2
  rcases o with o | o <;> simpa [onlyS, hasS, usesS, o] using h3
theorem zn4 {x : Stp} (h : tRightS x = true) (o : x.op = 5) : x.t.length ≤ 64 := by
  have h8 := zy h 8 (by rw [o]; decide)
  simp [fitsS, o] at h8; simp only [apartS, Bool.and_eq_true, decide_eq_true_eq] at h8; exact h8.2.2
theorem zrp (s : Sch) (x : Stp) (hs : Few s) (hm : x.sml) (ho : x.ok) : tbl E0 38 [schV s, stpV x] [] = some ([stpV (invS s x).1, iV (invS s x).2], []) := zpz s x (by
  have c1 := c_gOn s x hs hm ho; simp only [schV, frmsV, stpV, stpC, intsV, fldsV] at c1
  by_cases h : (onS s x).2 = 0
  · have h' : ((onS s x).2 != 0) = false := by simp [h]
    have ei : invS s x = (backOf s x, 0) := by unfold invS; rw [if_pos h]
    obtain ⟨_, _, _, _, hsr, h4, hr, hle⟩ := z2a h; have c2 := zx1 s x hs; simp only [schV, frmsV, stpV, stpC, intsV, fldsV] at c2; rw [ei]; simp only [zac, z9, cond_true, za, c1, h', cond_false, Option.bind_some, u_asC, u_asA, u_asI, u_asL, u_asN]
    rcases z59 hr hle with o | o | o | o | o | o | o | o | o | o
    · have eb : backOf s x = ⟨21, x.form, x.f.id, 0, 0, 0, 0, fld0, 0, [], [], []⟩ := by simp [backOf, o]
      have b1 : (x.op == 1) = true := by rw [o]; rfl
      have w : IntKind.i64.wrap (x.op + 20) = 21 := by rw [o]; rfl
      rw [eb]; simp only [fldV, fldC] at c2; simp only [c2, b1, w, z9, cond_true, cond_false, za, zr, Option.bind_some, u_asC, u_asA, u_asI, u_asB, u_asL, zd, u_asS, u_asN, fld0, List.map_nil]; rfl
    · obtain ⟨k, f, q1, q2, q3, q4, q5, q6, q7⟩ := z2l h (by omega) (by omega) (by omega)
      have ep := z80 h (by omega) q1 q2
      have eb : backOf s x = ⟨22, x.form, 0, (k : Int), 0, 0, 0, f, x.n, x.s, [], []⟩ := by simp [backOf, o, q1, q5]
      have b1 : (x.op == 1) = false := by rw [o]; rfl
      have b2 : (x.op == 2) = true := by rw [o]; rfl
      have w : IntKind.i64.wrap (x.op + 20) = 22 := by rw [o]; rfl
      rw [ep] at c2; rw [eb]; simp only [fldV, fldC] at c2; simp only [c2, b1, b2, w, z9, cond_true, cond_false, za, zr, Option.bind_some, u_asC, u_asA, u_asI, u_asB, u_asL, zd, u_asS, u_asN, fld0, List.map_nil]; rfl
    · obtain ⟨k, f, q1, q2, q3, q4, q5, q6, q7⟩ := z2l h (by omega) (by omega) (by omega)
      have ep := z80 h (by omega) q1 q2
      have eb : backOf s x = ⟨23, x.form, x.field, 0, 0, 0, 0, f, 0, [], [], []⟩ := by simp [backOf, o, q1, q5]
      have b1 : (x.op == 1) = false := by rw [o]; rfl
      have b2 : (x.op == 2) = false := by rw [o]; rfl
      have b4 : (x.op == 4) = false := by rw [o]; rfl
      have b6 : (x.op == 6) = false := by rw [o]; rfl
      have b3 : (x.op == 3) = true := by rw [o]; rfl
      have w : IntKind.i64.wrap (x.op + 20) = 23 := by rw [o]; rfl
      rw [ep] at c2; rw [eb]; simp only [fldV, fldC] at c2; simp only [c2, b1, b2, b4, b6, b3, w, z9, cond_true, cond_false, za, zr, Option.bind_some, u_asC, u_asA, u_asI, u_asB, u_asL, zd, u_asS, u_asN, fld0, List.map_nil]; rfl
    · obtain ⟨k, f, q1, q2, q3, q4, q5, q6, q7⟩ := z2l h (by omega) (by omega) (by omega)
      have ep := z80 h (by omega) q1 q2
      have eb : backOf s x = ⟨24, x.form, x.field, 0, 0, x.a, x.b, f, 0, [], [], []⟩ := by simp [backOf, o, q1, q5]
      have b1 : (x.op == 1) = false := by rw [o]; rfl
      have b2 : (x.op == 2) = false := by rw [o]; rfl
      have b4 : (x.op == 4) = true := by rw [o]; rfl
      have w : IntKind.i64.wrap (x.op + 20) = 24 := by rw [o]; rfl
      rw [ep] at c2; rw [eb]; simp only [fldV, fldC] at c2; simp only [c2, b1, b2, b4, w, z9, cond_true, cond_false, za, zr, Option.bind_some, u_asC, u_asA, u_asI, u_asB, u_asL, zd, u_asS, u_asN, fld0, List.map_nil]; rfl
    · have eb : backOf s x = ⟨25, x.form, x.field, 0, 0, 0, 0, fld0, 0, [], x.t, []⟩ := by simp [backOf, o]
      have b1 : (x.op == 1) = false := by rw [o]; rfl
      have b2 : (x.op == 2) = false := by rw [o]; rfl
      have b4 : (x.op == 4) = false := by rw [o]; rfl
      have b6 : (x.op == 6) = false := by rw [o]; rfl
      have b3 : (x.op == 3) = false := by rw [o]; rfl
      have b5 : (x.op == 5) = true := by rw [o]; rfl
      have w : IntKind.i64.wrap (x.op + 20) = 25 := by rw [o]; rfl
      rw [eb]
      have c3 := zun x.t (by have := zn4 hr o; omega)
      simp only [intsV] at c3; simp only [fldV, fldC] at c2; simp only [c2, b1, b2, b4, b6, b3, b5, w, z9, cond_true, cond_false, za, zr, Option.bind_some, u_asC, u_asA, u_asI, u_asB, u_asL, zd, u_asS, u_asN, fld0, List.map_nil, c3]; rfl
    · obtain ⟨k, f, q1, q2, q3, q4, q5, q6, q7⟩ := z2l h (by omega) (by omega) (by omega)
      have ep := z80 h (by omega) q1 q2
      have eb : backOf s x = ⟨26, x.form, x.field, 0, x.to, x.a, 0, f, 0, [], [], []⟩ := by simp [backOf, o, q1, q5]
      have b1 : (x.op == 1) = false := by rw [o]; rfl
      have b2 : (x.op == 2) = false := by rw [o]; rfl
      have b4 : (x.op == 4) = false := by rw [o]; rfl
      have b6 : (x.op == 6) = true := by rw [o]; rfl
      have w : IntKind.i64.wrap (x.op + 20) = 26 := by rw [o]; rfl
      rw [ep] at c2; rw [eb]; simp only [fldV, fldC] at c2; simp only [c2, b1, b2, b4, b6, w, z9, cond_true, cond_false, za, zr, Option.bind_some, u_asC, u_asA, u_asI, u_asB, u_asL, zd, u_asS, u_asN, fld0, List.map_nil]; rfl
    · obtain ⟨k, f, q1, q2, q3, q4, q5, q6, q7⟩ := z2l h (by omega) (by omega) (by omega)
      have ep := z80 h (by omega) q1 q2
      have eb : backOf s x = ⟨27, x.form, x.field, (k : Int), 0, 0, 0, fld0, 0, [], [], []⟩ := by simp [backOf, o, q1]
      have b1 : (x.op == 1) = false := by rw [o]; rfl
      have b2 : (x.op == 2) = false := by rw [o]; rfl
      have b4 : (x.op == 4) = false := by rw [o]; rfl
      have b6 : (x.op == 6) = false := by rw [o]; rfl
      have b3 : (x.op == 3) = false := by rw [o]; rfl
      have b5 : (x.op == 5) = false := by rw [o]; rfl
      have b7 : (x.op == 7) = true := by rw [o]; rfl
      have w : IntKind.i64.wrap (x.op + 20) = 27 := by rw [o]; rfl
      rw [ep] at c2; rw [eb]; simp only [fldV, fldC] at c2; simp only [c2, b1, b2, b4, b6, b3, b5, b7, w, z9, cond_true, cond_false, za, zr, Option.bind_some, u_asC, u_asA, u_asI, u_asB, u_asL, zd, u_asS, u_asN, fld0, List.map_nil]; rfl
    · have eb : backOf s x = ⟨28, x.form, x.to, 0, x.field, 0, 0, fld0, 0, [], [], []⟩ := by simp [backOf, o]
      have b1 : (x.op == 1) = false := by rw [o]; rfl
      have b2 : (x.op == 2) = false := by rw [o]; rfl
      have b4 : (x.op == 4) = false := by rw [o]; rfl
      have b6 : (x.op == 6) = false := by rw [o]; rfl
      have b3 : (x.op == 3) = false := by rw [o]; rfl
      have b5 : (x.op == 5) = false := by rw [o]; rfl
      have b7 : (x.op == 7) = false := by rw [o]; rfl
      have b8 : (x.op == 8) = true := by rw [o]; rfl
      have w : IntKind.i64.wrap (x.op + 20) = 28 := by rw [o]; rfl
      rw [eb]; simp only [fldV, fldC] at c2; simp only [c2, b1, b2, b4, b6, b3, b5, b7, b8, w, z9, cond_true, cond_false, za, zr, Option.bind_some, u_asC, u_asA, u_asI, u_asB, u_asL, zd, u_asS, u_asN, fld0, List.map_nil]; rfl
    · have eb : backOf s x = ⟨29, x.form, 0, 0, 0, 0, 0, fld0, 0, [], [], []⟩ := by simp [backOf, o]
      have b1 : (x.op == 1) = false := by rw [o]; rfl
      have b2 : (x.op == 2) = false := by rw [o]; rfl
      have b4 : (x.op == 4) = false := by rw [o]; rfl
      have b6 : (x.op == 6) = false := by rw [o]; rfl
      have b3 : (x.op == 3) = false := by rw [o]; rfl
      have b5 : (x.op == 5) = false := by rw [o]; rfl
      have b7 : (x.op == 7) = false := by rw [o]; rfl
      have b8 : (x.op == 8) = false := by rw [o]; rfl
      have b10 : (x.op == 10) = false := by rw [o]; rfl
      have w : IntKind.i64.wrap (x.op + 20) = 29 := by rw [o]; rfl
      rw [eb]
      have z0 := zet hr (by omega)
      simp only [fldV, fldC] at c2; simp only [c2, b1, b2, b4, b6, b3, b5, b7, b8, b10, w, z9, cond_true, cond_false, za, zr, Option.bind_some, u_asC, u_asA, u_asI, u_asB, u_asL, zd, u_asS, u_asN, fld0, List.map_nil]; rw [z0]; rfl
    · obtain ⟨j, g, e1, e2, e3, e4, e5⟩ := zfy h (by omega)
      have eb : backOf s x = ⟨30, x.form, 0, 0, 0, 0, 0, fld0, 0, [], [], g.fields⟩ := by simp [backOf, o, e3]
      have b1 : (x.op == 1) = false := by rw [o]; rfl
      have b2 : (x.op == 2) = false := by rw [o]; rfl
      have b4 : (x.op == 4) = false := by rw [o]; rfl
      have b6 : (x.op == 6) = false := by rw [o]; rfl
      have b3 : (x.op == 3) = false := by rw [o]; rfl
      have b5 : (x.op == 5) = false := by rw [o]; rfl
      have b7 : (x.op == 7) = false := by rw [o]; rfl
      have b8 : (x.op == 8) = false := by rw [o]; rfl
      have b10 : (x.op == 10) = true := by rw [o]; rfl
      have w : IntKind.i64.wrap (x.op + 20) = 30 := by rw [o]; rfl
      rw [eb]
      have z0 := zet hr (by omega)
      have c3 := zbd s x.form hs.sml; rw [e4] at c3
      have c4 := z6q g.fields (by omega)
      have ff := z3n g.fields; simp only [schV, frmsV, frmV, fldsV, fldsU] at c3 c4; simp only [fldV, fldC] at c2; simp only [c2, b1, b2, b4, b6, b3, b5, b7, b8, b10, w, z9, cond_true, cond_false, za, zr, Option.bind_some, u_asC, u_asA, u_asI, u_asB, u_asL, zd, u_asS, u_asN, fld0, List.map_nil, c3, c4, ff]; rw [z0]; rfl
  · have h' := bne_t h
    have ei : invS s x = (stpN, (onS s x).2) := by unfold invS; rw [if_neg h]
    rw [ei]; simp only [zac, z9, cond_true, za, c1, h', Option.bind_some, u_asC, u_asA, u_asI, u_asL, u_asN, stpN, fld0, stpV, stpC, intsV, fldsV, List.map_nil])
end V
namespace V
def val0 : Val := ⟨0, []⟩
def valAt (l : List Val) (p : Nat) : Val := (l[p]?).getD val0
def putV (l : List Val) (k : Nat) (v : Val) : List Val := l.take k ++ [v] ++ l.drop k
def cutV (l : List Val) (k : Nat) : List Val := l.take k ++ l.drop (k + 1)
def onV (x : Stp) (l : List Val) (p : Nat) : List Val :=
  if x.op = 1 then putV l x.place.toNat ⟨x.n, x.s⟩
  else if x.op = 2 then cutV l p
  else if x.op = 7 then putV (cutV l p) x.place.toNat (valAt l p)
  else if x.op = 4 then l.set p ⟨affS x.a x.b (valAt l p).n, []⟩
  else if x.op = 5 then l.set p ⟨(x.t[(valAt l p).n.toNat]?).getD 0, []⟩
  else if x.op = 6 then putV (l.set p ⟨IntKind.i64.wrap ((valAt l p).n.tdiv x.a), []⟩) (p + 1) ⟨(valAt l p).n.tmod x.a, []⟩
  else l
def lostV (x : Stp) (fs : List Fld) (l : List Val) (p : Nat) : List UInt8 × Bool := if x.op = 2 then (layV ((fs[p]?).getD fld0) (valAt l p), true) else ([], false)
structure OnP (x : Stp) (fs : List Fld) (l : List Val) (p : Nat) : Prop where
  has : allsV fs l = true
  lt : x.op ≠ 1 → p < l.length
  one : x.op = 1 → ∃ k : Nat, x.place = k ∧ k ≤ l.length
  sev : x.op = 7 → ∃ k : Nat, x.place = k ∧ k < l.length
  num : x.op = 4 ∨ x.op = 5 ∨ x.op = 6 → (valAt l p).s = []
  five : x.op = 5 → 0 ≤ (valAt l p).n ∧ (valAt l p).n < x.t.length
  six : x.op = 6 → 2 ≤ x.a ∧ 0 ≤ (valAt l p).n
def rec0 : Rec := ⟨0, []⟩
def don0 : Don := ⟨rec0, false, false, []⟩
def plcS (g : Frm) (id : Int) : Nat := (if atS g.fields id < 0 then 0 else atS g.fields id).toNat
def turnS (s : Sch) (x : Stp) (y : Rec) : Don × Int :=
  if (onS s x).2 ≠ 0 then (don0, (onS s x).2)
  else match formS s.forms y.form with
    | none => (don0, 16)
    | some g =>
      if hasR g y = false then (don0, 16)
      else if y.form ≠ x.form then (⟨y, false, false, []⟩, 0)
      else if x.op = 10 then (⟨rec0, true, true, layR g.fields y.vals⟩, 0)
      else (⟨⟨y.form, onV x y.vals (plcS g x.field)⟩, false, (lostV x g.fields y.vals (plcS g x.field)).2, (lostV x g.fields y.vals (plcS g x.field)).1⟩, 0)
theorem z5b {s : Sch} {x : Stp} (h : (onS s x).2 = 0) (h1 : x.op ≠ 1) (h9 : x.op ≠ 9) (h10 : x.op ≠ 10) : ∃ (k : Nat) (f : Fld), atS (oldS s x) x.field = (k : Int) ∧ (oldS s x)[k]? = some f ∧ (typesS f x).2 = true := by
  obtain ⟨_, _, _, _, hs, h4, hr, hle⟩ := z2a h; obtain ⟨j, g, e1, e2, e3, e4, e5, _⟩ := names0 h4 h9
  have hf : fieldS x.op = true := by simp [fieldS, h1, h9, h10]
  obtain ⟨k, f, q1, q2⟩ := e5 hf; rw [← e4] at q1 q2; refine ⟨k, f, q1, q2, ?_⟩; unfold onS at h
  have g0 : ¬ ((!(schS s) || (!(tRightS x) || decide (10 < x.op))) = true) := by simp [hs, hr]; omega
  rw [if_neg g0, if_neg (by simp [h4]), if_neg h9, if_neg h1, if_neg h10] at h
  simp only [q1, Int.toNat_natCast, q2] at h
  by_cases ht : (typesS f x).2 = true
  · exact ht
  · rw [if_neg ht] at h
    simp at h
theorem zb3 {l : List Val} {p : Nat} {v : Val} (h : l[p]? = some v) : valAt l p = v := by simp [valAt, h]
theorem z1h {l : List Val} {p : Nat} (h : p < l.length) : l[p]? = some (valAt l p) := by simp [valAt, h]
theorem zkq {f : Fld} {v : Val} (h : hasV f v.n v.s = true) (k : f.kind ≠ 4) : v.s = [] := by
  have h2 := (z4e h).2.2; simp only [longestS, k, if_false] at h2
  exact List.eq_nil_of_length_eq_zero (by omega)
theorem on_p {s : Sch} {x : Stp} {y : Rec} {g : Frm} (h : (onS s x).2 = 0) (hg : formS s.forms y.form = some g) (hr : hasR g y = true) (he : y.form = x.form) (h10 : x.op ≠ 10) : x.op ≠ 9 ∧ 1 ≤ x.op ∧ g.fields = oldS s x ∧ OnP x g.fields y.vals (plcS g x.field) := by
  obtain ⟨_, _, _, _, hs, h4, hrt, hle⟩ := z2a h
  have ha : allsV g.fields y.vals = true := by simp only [hasR, Bool.and_eq_true] at hr; exact hr.2.2
  have hlen := z14 ha
  have h9 : x.op ≠ 9 := by
    intro h9; rw [he] at hg
    rcases z25 s.forms x.form with ⟨j, g', e1, e2, e3⟩ | ⟨e1, e2⟩
    · simp only [namesS, h9, if_true, e2] at h4
      have : (0 : Int) ≤ (j : Int) := by omega
      simp [this] at h4
    · rw [hg] at e1; cases e1
  obtain ⟨j, g', e1, e2, e3, e4, e5⟩ := zfy h h9
  have hgg : g' = g := by rw [he] at hg; rw [hg] at e4; injection e4 with e4; exact e4.symm
  subst hgg; obtain ⟨j2, g2, n1, n2, n3, n4, n5, n6, n7, _⟩ := names0 h4 h9
  have hj : j2 = j := by omega
  subst hj; rw [e2] at n2; injection n2 with n2; subst n2
  have hop : 1 ≤ x.op := by
    have h2 := (z3t hrt).2.1; simp [opsL] at h2; omega
  refine ⟨h9, hop, e3.symm, ha, ?_, ?_, ?_, ?_, ?_, ?_⟩
  · intro h1
    obtain ⟨k, f, q1, q2, _⟩ := z5b h h1 h9 h10; rw [e3] at q1 q2; have := (List.getElem?_eq_some_iff.1 q2).1
    have q3 : ¬ ((k : Int) < 0) := by omega
    simp only [plcS, q1, q3, if_false, Int.toNat_natCast]; omega
  · intro h1
    have h8 := zy hrt 2 (by rw [h1]; decide)
    simp only [fitsS, inS, Bool.and_eq_true, decide_eq_true_eq] at h8; refine ⟨x.place.toNat, ?_, ?_⟩
    · simp at h8; omega
    · have := (n6 h1).1; simp at h8; omega
  · intro h1
    have h8 := zy hrt 2 (by rw [h1]; decide)
    simp only [fitsS, inS, Bool.and_eq_true, decide_eq_true_eq] at h8; refine ⟨x.place.toNat, ?_, ?_⟩
    · simp at h8; omega
    · have := n7 h1; simp at h8; omega
  all_goals
    intro hx
    have h1 : x.op ≠ 1 := by omega
    obtain ⟨k, f, q1, q2, q3⟩ := z5b h h1 h9 h10; rw [e3] at q1 q2
    have q4 : plcS g' x.field = k := by
      have q3 : ¬ ((k : Int) < 0) := by omega
      simp only [plcS, q1, q3, if_false, Int.toNat_natCast]
    have hk : k < y.vals.length := by have := (List.getElem?_eq_some_iff.1 q2).1; omega
    have hv := z2h ha k f _ q2 (z1h hk); have hi := z4e hv; rw [q4]
  · refine zkq hv ?_
    intro h4
    rcases hx with hx | hx | hx <;> simp [typesS, hx, h4] at q3
  · simp only [typesS, hx] at q3
    simp at q3
    have e1 : loS f = 0 := by simp [loS, q3.1]
    have e2 : hiS f = f.most - 1 := by simp [hiS, q3.1]
    omega
  · simp only [typesS, hx] at q3
    simp at q3
    have e1 : loS f = f.lo := by simp [loS, q3.1]
    have h8 := zy hrt 4 (by rw [hx]; decide)
    simp [fitsS, inS, hx] at h8; omega
end V
namespace V
theorem zzf (l : List Val) (n : Nat) (m : List Val) (hn : n ≤ l.length) (hl : l.length + m.length ≤ 1000000) : tbl E0 96 [valsU l, iV n, valsU m] [] = some ([valsU (l.take n ++ m ++ l.drop n)], []) := tbl_X (by
  have h1 : (0 : Int) ≤ n := by omega
  have h2 : (n : Int) ≤ l.length := by omega
  have h3 : (l.length + m.length) * 24 ≤ 211106232532992 := by omega
  have e : E0.X 96 [valsU l, iV n, valsU m] [] = insX 2 24 [valsU l, iV n, valsU m] [] := rfl; rw [e]; simp only [insX, valsU, List.length_map, h1, h2, h3, nbeq, decide_true, Bool.and_self, cond_true, Int.toNat_natCast, List.map_append, List.map_take, List.map_drop])
theorem zkr (l : List Val) (p : Int) : fitI (atO l p) = true := by
  have h1 := zt l; simp only [fitI, fitC, AV.flat, AV.flat1, h1, List.all_cons, List.all_nil, Bool.and_self, Bool.and_true]; rfl
theorem oshV1 (q : Int) (a : List AV) : nodupN (List.map (fun x => x.fst) (oshOf T0 0 [AV.ref 0 0, iV q, AV.agg a] Tryz.f54.params.toList)) = true := by kernel_rfl
theorem oshV2 (q : Int) (a : List AV) : ((oshOf T0 0 [AV.ref 0 0, iV q, AV.agg a] Tryz.f54.params.toList).all fun p => p.fst.blt 64) = true := by kernel_rfl
theorem oshW1 (a b : List AV) : nodupN (List.map (fun x => x.fst) (oshOf T0 0 [AV.ref 0 0, AV.agg a, AV.agg b] Tryz.f20.params.toList)) = true := by kernel_rfl
theorem oshW2 (a b : List AV) : ((oshOf T0 0 [AV.ref 0 0, AV.agg a, AV.agg b] Tryz.f20.params.toList).all fun p => p.fst.blt 64) = true := by kernel_rfl
theorem c_vin (l : List Val) (p : Int) (k : Nat) (v : Val) (hk : k ≤ l.length) (hl : l.length ≤ 900000) : tbl E0 54 [.ref 0 0, iV k, valV v] (atO l p) = some ([], atO (putV l k v) p) := t_vin l p k v (by
  have c := zzf l k [v] hk (by simp only [List.length_cons, List.length_nil]; omega)
  have q := zt l; have q2 := zt (l.take k ++ [v] ++ l.drop k); simp only [valsU, valV, List.map_cons, List.map_nil] at c q2; simp only [s_vin, zkr, oshV1, oshV2, List.all_cons, List.all_nil, fitA, fitC, AV.flat, AV.flat1, Bool.and_self, cond_true, z13, q, zr, c, Option.bind_some, u_asC, zd, u_asN, q2, putV])
theorem zks (l : List Val) (p : Nat) : ((l.map valV).take p ++ (l.map valV).drop (p + 1) ++ [AV.agg [iV 0, .str []]]).all AV.flat = true := by
  have := zt (l.take p ++ l.drop (p + 1) ++ [val0])
  simpa [valV, val0] using this
theorem zkt (l : List Val) (p : Nat) (hp : p < l.length) : ((l.map valV).take p ++ (l.map valV).drop (p + 1) ++ [AV.agg [iV 0, .str []]]).take (l.length - 1) = (cutV l p).map valV := by
  rw [List.take_append_of_le_length (by simp; omega), List.take_of_length_le (by simp; omega)]
  simp [cutV]
theorem z1t (l : List Val) (p : Nat) (hp : p < l.length) : (cutV l p).length = l.length - 1 := by simp [cutV]; omega
theorem z7p (l : List Val) (k : Nat) (v : Val) (hk : k ≤ l.length) : (putV l k v).length = l.length + 1 := by simp [putV]; omega
theorem zd5 (v : Val) (n : Int) {α : Type} {A : Alg α} (k : AV → α) : putC A (valV v) (setAt (valV v).cells 0 [iV n]) k = k (valV ⟨n, v.s⟩) := Eq.trans rfl rfl
theorem z68 (l : List Val) (p : Nat) (v : Val) : (List.map valV l).set p (valV v) = (l.set p v).map valV := by rw [List.map_set]
theorem c_ton (f : Frm) (x : Stp) (l : List Val) (p : Nat) (hp : OnP x f.fields l p) (h9 : x.op ≠ 9) (h10 : x.op ≠ 10) (hl : l.length ≤ 1000) : tbl E0 20 [.ref 0 0, frmV f, stpV x] (atO l p) = some ([.str (lostV x f.fields l p).1, .bool (lostV x f.fields l p).2], atO (onV x l p) p) := t_ton f x l p (by
  have q := zt l; have hlen := z14 hp.has; simp only [s_ton, zkr, oshW1, oshW2, List.all_cons, List.all_nil, fitA, fitC, AV.flat, AV.flat1, Bool.and_self, cond_true, q]
  by_cases o1 : x.op = 1
  · obtain ⟨k, hk, hkl⟩ := hp.one o1
    have c := c_vin l p k ⟨x.n, x.s⟩ hkl (by omega)
    have q2 := zt (putV l k ⟨x.n, x.s⟩); simp only [valsU, valV] at c
    have t1 : (x.op == 1) = true := by simpa using o1
    simp only [t1, cond_true, hk, zr, c, Option.bind_some, z57, u_asC, nbeq, decide_true, zd, u_asI, u_asN, q2, lostV, onV, o1, if_true, Int.toNat_natCast]; rfl
  have t1 := beq_f o1; have hlt := hp.lt o1
  have hlt2 : (p : Int) < l.length := by omega
  have hg := z1h hlt
  have hgf : f.fields[p]? = some ((f.fields[p]?).getD fld0) := by rw [List.getElem?_eq_getElem (by omega)]; rfl
  by_cases o2 : x.op = 2
  · have t2 : (x.op == 2) = true := by simpa using o2
    have hh := z2h hp.has p _ _ hgf hg; have hr0 := z41 hh
    have e2 : laysV ((f.fields[p]?).getD fld0) (valAt l p) = (layV ((f.fields[p]?).getD fld0) (valAt l p), 0) := by simp [laysV, hr0, hh]
    have c := zqu ((f.fields[p]?).getD fld0) (valAt l p); rw [e2] at c; simp only [fldV, fldC, valV] at c; have e3 := zkt l p hlt; have e4 := zks l p; simp only [t1, t2, cond_true, cond_false, z13, z9, Int.natCast_nonneg, decide_true, nthE, Int.toNat_natCast, List.getElem?_map, hg, Option.map_some, u_asA, u_asC, u_asI, u_asS, u_asL, u_asN, za, orFail, z1w, List.length_map, e3, e4, lostV, onV, o1, o2, if_true, if_false]
    rw [hgf]; simp only [Option.map_some, Option.getD_some, u_asA, u_asC, u_asI, u_asS, u_asL, u_asN, c, Option.bind_some, z1w, e4, cond_true, e3, Int.reduceEq, if_false]; rfl
  have t2 := beq_f o2
  by_cases o7 : x.op = 7
  · have t7 : (x.op == 7) = true := by simpa using o7
    obtain ⟨k, hk, hkl⟩ := hp.sev o7; have hc := z1t l p hlt
    have c := c_vin (cutV l p) p k (valAt l p) (by omega) (by omega)
    have q2 := zt (putV (cutV l p) k (valAt l p)); have e3 := zkt l p hlt; have e4 := zks l p; simp only [valsU, valV] at c; simp only [t1, t2, t7, cond_true, cond_false, z13, z9, Int.natCast_nonneg, decide_true, nthE, Int.toNat_natCast, List.getElem?_map, hg, Option.map_some, u_asA, u_asC, u_asI, u_asS, u_asL, u_asN, e4, List.length_map, e3, hk, zr, c, Option.bind_some, z57, nbeq, zd, q2, lostV, onV, o1, o2, o7, if_true, if_false]
    rfl
  have t7 := beq_f o7
  by_cases o4 : x.op = 4
  · have t4 : (x.op == 4) = true := by simpa using o4
    have hs := hp.num (.inl o4); have q2 := zt (l.set p ⟨affS x.a x.b (valAt l p).n, []⟩); simp only [t1, t2, t7, t4, cond_true, cond_false, z13, z9, Int.natCast_nonneg, hlt2, decide_true, Bool.and_self, nthE, Int.toNat_natCast, List.getElem?_map, hg, Option.map_some, List.length_map, AV.cells, List.getElem?_cons_zero, u_asI, lostV, onV, o1, o2, o7, o4, if_true, if_false]; have e := zd5 (valAt l p) (affS x.a x.b (valAt l p).n) (A := OA (R := CR) (tbl E0) (ltbl E0 20 0))
    rw [hs] at e; simp only [valV, AV.cells, affS] at e q2 ⊢; simp only [List.length_cons, List.length_nil, setAt, hs] at e ⊢; rw [e]; have e5 := z68 l p ⟨IntKind.i64.wrap (IntKind.i64.wrap (x.a * (valAt l p).n) + x.b), []⟩; simp only [valV] at e5; simp only [e5, q2, cond_true, AV.flat, List.all_cons, List.all_nil, AV.flat1, Bool.and_self]; rfl
  have t4 := beq_f o4
  by_cases o5 : x.op = 5
  · have t5 : (x.op == 5) = true := by simpa using o5
    have hs := hp.num (.inr (.inl o5)); obtain ⟨n0, n1⟩ := hp.five o5
    have ht : x.t[(valAt l p).n.toNat]? = some ((x.t[(valAt l p).n.toNat]?).getD 0) := by rw [List.getElem?_eq_getElem (by omega)]; rfl
    have q2 := zt (l.set p ⟨(x.t[(valAt l p).n.toNat]?).getD 0, []⟩); simp only [t1, t2, t7, t4, t5, cond_true, cond_false, z13, z9, Int.natCast_nonneg, hlt2, decide_true, Bool.and_self, nthE, Int.toNat_natCast, List.getElem?_map, hg, Option.map_some, List.length_map, AV.cells, List.getElem?_cons_zero, u_asI, n0, lostV, onV, o1, o2, o7, o4, o5, if_true, if_false]; rw [ht]; simp only [Option.map_some, Option.getD_some, u_asI]
    generalize (x.t[(valAt l p).n.toNat]?).getD 0 = m at q2 ⊢; have e := zd5 (valAt l p) m (A := OA (R := CR) (tbl E0) (ltbl E0 20 0)); rw [hs] at e; simp only [valV, AV.cells] at e q2 ⊢; simp only [List.length_cons, List.length_nil, setAt, hs] at e ⊢; rw [e]; have e5 := z68 l p ⟨m, []⟩; simp only [valV] at e5; simp only [e5, q2, cond_true, AV.flat, List.all_cons, List.all_nil, AV.flat1, Bool.and_self]
    rfl
  have t5 := beq_f o5
  by_cases o6 : x.op = 6
  · have t6 : (x.op == 6) = true := by simpa using o6
    have hs := hp.num (.inr (.inr o6)); obtain ⟨a2, n0⟩ := hp.six o6
    have ta : (x.a == 0) = false := beq_f (by omega)
    have e1 := zj (i := p) (by omega)
    have q2 := zt (l.set p ⟨IntKind.i64.wrap ((valAt l p).n.tdiv x.a), []⟩); have hsl : (l.set p ⟨IntKind.i64.wrap ((valAt l p).n.tdiv x.a), []⟩).length = l.length := List.length_set ..
    have c := c_vin (l.set p ⟨IntKind.i64.wrap ((valAt l p).n.tdiv x.a), []⟩) p (p + 1) ⟨(valAt l p).n.tmod x.a, []⟩ (by omega) (by omega)
    have q3 := zt (putV (l.set p ⟨IntKind.i64.wrap ((valAt l p).n.tdiv x.a), []⟩) (p + 1) ⟨(valAt l p).n.tmod x.a, []⟩); have e5 := z68 l p ⟨IntKind.i64.wrap ((valAt l p).n.tdiv x.a), []⟩; simp only [t1, t2, t7, t4, t5, t6, cond_true, cond_false, z13, z9, Int.natCast_nonneg, hlt2, decide_true, Bool.and_self, nthE, Int.toNat_natCast, List.getElem?_map, hg, Option.map_some, List.length_map, AV.cells, List.getElem?_cons_zero, u_asI, ta, Bool.not_false, lostV, onV, o1, o2, o7, o4, o5, o6, if_true, if_false]
    have e := zd5 (valAt l p) (IntKind.i64.wrap ((valAt l p).n.tdiv x.a)) (A := OA (R := CR) (tbl E0) (ltbl E0 20 0)); rw [hs] at e; simp only [valV, AV.cells] at e q2 ⊢; simp only [List.length_cons, List.length_nil, setAt, hs] at e ⊢; rw [e]; simp only [valV] at e5; simp only [valsU, valV] at c; simp only [e5, q2, cond_true, AV.flat, List.all_cons, List.all_nil, AV.flat1, Bool.and_self, e1, zr, c, Option.bind_some, z57, u_asC, nbeq, decide_true, zd, u_asI, u_asN, q3]
    rfl
  have t6 := beq_f o6; simp only [t1, t2, t7, t4, t5, t6, cond_false, cond_true, lostV, onV, o1, o2, o7, o4, o5, o6, if_false])
theorem c_tof (s : Sch) (x : Rec) (id : Int) (hs : Few s) (hx : x.vals.length ≤ 1000) : tbl E0 18 [schV s, recV x, iV id] [] =
    some (match formS s.forms x.form with
      | none => ([frmV ⟨0, []⟩, .agg [valsU [], iV 0], iV 16], [])
      | some g => if hasR g x then ([frmV g, .agg [valsU x.vals, iV (if atS g.fields id < 0 then 0 else atS g.fields id)], iV 0], []) else ([frmV g, .agg [valsU [], iV 0], iV 16], [])) := t_tof s x id (by
  have c1 := zbd s x.form hs.sml
  have c2 := zu2 x.vals (by omega)
  have q := zt x.vals; simp only [schV, frmsV, valsV, valsU] at c1 c2
  rcases z25 s.forms x.form with ⟨j, g, h1, h2, h3⟩ | ⟨h1, h2⟩
  · rw [h1] at c1
    have hgl := hs.2 g (List.mem_of_getElem? h3)
    have c3 := c_sAt g id (by omega)
    have c4 := zqw g x (by omega) (by omega)
    simp only [frmV, fldsV, recV, recC, valsV] at c1 c3 c4; simp only [s_tof, za, c1, Option.bind_some, u_asC, u_asA, u_asI, u_asB, u_asL, u_asN, zh, Bool.not_true, cond_false, c4, Tok.untok_tok, h1]
    rcases bor (hasR g x) with hb | hb
    · simp only [hb, Bool.not_true, cond_false, zr, c2, Option.bind_some, zd, u_asC, u_asN, c3, u_asI, q, cond_true, if_true]
    · simp only [hb, Bool.not_false, cond_true, Bool.false_eq_true, if_false, valsU, List.map_nil]
  · rw [h1] at c1
    simp only [frmV, fldsV, List.map_nil] at c1; simp only [s_tof, za, c1, Option.bind_some, u_asC, u_asA, u_asI, u_asB, u_asL, u_asN, zh, Bool.not_false, cond_true, Tok.untok_tok, h1, frmV, fldsV, valsU, List.map_nil])
theorem c_tOn (s : Sch) (x : Stp) (y : Rec) (hs : Few s) (hm : x.sml) (ho : x.ok) (hy : y.vals.length ≤ 1000) : tbl E0 7 [schV s, stpV x, recV y] [] = some ([donV (turnS s x y).1, iV (turnS s x y).2], []) := t_tOn s x y (by
  have c1 := c_gOn s x hs hm ho; have c2 := c_tof s y x.field hs hy; simp only [schV, frmsV, stpV, stpC, intsV, fldsV, recV, recC, valsV, valsU] at c1 c2; simp only [s_tOn, za, zr, c1, Option.bind_some, u_asC, u_asA, u_asI, u_asB, u_asL, u_asN, turnS]
  by_cases h0 : (onS s x).2 = 0
  · have t0 : ((onS s x).2 != 0) = false := by rw [h0]; rfl
    have n0 : ¬ ((onS s x).2 ≠ 0) := by simpa using h0
    simp only [t0, cond_false, c2, n0, if_false]
    rcases z25 s.forms y.form with ⟨j, g, h1, h2, h3⟩ | ⟨h1, h2⟩
    · have hgl := hs.2 g (List.mem_of_getElem? h3)
      simp only [h1]
      rcases bor (hasR g y) with hb | hb
      · have q := zt y.vals
        simp only [hb, if_true, Option.bind_some, frmV, fldsV, u_asC, u_asA, u_asI, u_asL, u_asN, zd, Bool.true_eq_false, if_false]; have e0 : ((0 : Int) != 0) = false := rfl; simp only [e0, cond_false]
        by_cases he : y.form = x.form
        · have te : (y.form == x.form) = true := by simpa using he
          have ne : ¬ (y.form ≠ x.form) := by simpa using he
          simp only [te, cond_true, ne, if_false]
          by_cases o10 : x.op = 10
          · have t10 : (x.op == 10) = true := by simpa using o10
            have c3 := zyz g y (by omega) (by omega)
            have hf : fineS g = true := by simp only [hasR, Bool.and_eq_true] at hb; exact hb.1
            have e2 : laysR g y = (layR g.fields y.vals, 0) := by simp [laysR, hf, hb]
            rw [e2] at c3; simp only [frmV, fldsV, recV, recC, valsV] at c3; simp only [t10, cond_true, c3, Option.bind_some, u_asC, u_asL, u_asI, u_asN, orFail, z1w, o10, beq_self_eq_true, cond_true, if_true, rec0, donV, donC, valsV, List.map_nil]
          · have t10 := beq_f o10
            obtain ⟨h9, hop, hfe, hp⟩ := on_p h0 h1 hb he o10
            have c3 := c_ton g x y.vals (plcS g x.field) hp h9 o10 (by omega)
            have e3 : (if atS g.fields x.field < 0 then 0 else atS g.fields x.field) = ((plcS g x.field : Nat) : Int) := by
              unfold plcS; split <;> omega
            have q2 := zt (onV x y.vals (plcS g x.field)); simp only [frmV, fldsV, stpV, stpC, intsV, atO, valsU] at c3; simp only [t10, cond_false, q, cond_true, e3, c3, Option.bind_some, u_asC, nbeq, decide_true, zd, u_asI, u_asS, u_asB, u_asN, q2, o10, if_false, donV, donC, valsV]
        · have te := beq_f he
          simp only [te, cond_false, q, cond_true, he, ne_eq, not_false_eq_true, if_true, donV, donC, valsV]
      · have e0 : ((16 : Int) != 0) = true := rfl
        simp only [hb, Bool.false_eq_true, if_false, Option.bind_some, frmV, fldsV, u_asC, u_asA, u_asI, u_asL, u_asN, zd, e0, cond_true, if_true, don0, rec0, donV, donC, valsV, List.map_nil]
    · have e0 : ((16 : Int) != 0) = true := rfl
      simp only [h1, Option.bind_some, frmV, fldsV, u_asC, u_asA, u_asI, u_asL, u_asN, zd, e0, cond_true, don0, rec0, donV, donC, valsV, List.map_nil]
  · have t0 : ((onS s x).2 != 0) = true := bne_t h0
    simp only [t0, cond_true, h0, ne_eq, not_false_eq_true, if_true, don0, rec0, donV, donC, valsV, List.map_nil])
end V
namespace V
def foldBE (u : Nat) (l : List UInt8) : Nat := l.foldl (fun u c => u * 256 + c.toNat) u
theorem zhg : ∀ (l : List UInt8) (u k : Nat), u < 256 ^ k → foldBE u l < 256 ^ (k + l.length)
  | [], u, k, h => by simpa [foldBE] using h
  | c :: l, u, k, h => by
    have hc := c.toNat_lt
    have := zhg l (u * 256 + c.toNat) (k + 1) (by rw [Nat.pow_succ]; omega)
    simp only [foldBE, List.foldl_cons, List.length_cons] at this ⊢
    rwa [show k + (l.length + 1) = k + 1 + l.length by omega]
def takeV (f : Fld) (b : List UInt8) : Val × Int × Int :=
  if b.length < (if f.kind = 4 then 1 else wdS (hiS f - loS f).toNat) then (val0, 0, 5)
  else if (if f.kind = 4 then f.most < (foldBE 0 (b.take 1) : Int) else hiS f - loS f < (foldBE 0 (b.take (wdS (hiS f - loS f).toNat)) : Int)) then (val0, 0, 16)
  else if f.kind ≠ 4 then (⟨loS f + (foldBE 0 (b.take (wdS (hiS f - loS f).toNat)) : Int), []⟩, (wdS (hiS f - loS f).toNat : Nat), 0)
  else if b.length < 1 + foldBE 0 (b.take 1) then (val0, 0, 5)
  else (⟨0, (b.take (1 + foldBE 0 (b.take 1))).drop 1⟩, (1 + foldBE 0 (b.take 1) : Nat), 0)
def takesV (f : Fld) (b : List UInt8) : Val × Int × Int := if rgtS f = false then (val0, 0, 2) else takeV f b
theorem zx3 (f : Fld) (b c : List UInt8) (n : Int) (t : Bool) (hc : c.length ≤ 6) : ∀ (r : List UInt8) (i u : Nat), c.drop i = r → u < 256 ^ i →
    ltbl E0 59 0 10 [.lst .ro 1 (encB b), iV n, .bool t, iV (u : Int), .lst .ro 1 (encB c), iV (c.length : Int), iV (i : Int)] [fldC f, [iV 0, .str []]] = some (1, [.lst .ro 1 (encB b), iV n, .bool t, iV (foldBE u r : Int)], [fldC f, [iV 0, .str []]]) := by
  intro r
  induction r with
  | nil =>
    intro i u hr hu
    have h : c.length ≤ i := by simpa using hr
    refine zmt _ _ _ _ _ _ _ _ ?_
    have : ¬ ((i : Int) < c.length) := by omega
    simp only [zfm, this, decide_false, cond_false, foldBE, List.foldl_nil]
  | cons x r ih =>
    intro i u hr hu; obtain ⟨hlt, hget, hr2⟩ := zu hr
    have h2 : (i : Int) < c.length := by omega
    have e1 := zj (i := i) (by omega)
    have hx := x.toNat_lt
    have hp : (256 : Nat) ^ i ≤ 256 ^ 5 := Nat.pow_le_pow_right (by decide) (by omega)
    have h5 : (256 : Nat) ^ 5 = 1099511627776 := by decide
    have h := ih (i + 1) (u * 256 + x.toNat) hr2 (by rw [Nat.pow_succ]; omega)
    have e2 : IntKind.i64.wrap ((u : Int) * (2 : Int) ^ (8 : Nat)) = ((u * 256 : Nat) : Int) := by
      rw [show (2 : Int) ^ (8 : Nat) = 256 by decide, show (u : Int) * 256 = ((u * 256 : Nat) : Int) by omega]
      exact wrap_i64 _ (by omega) (by omega)
    have e3 : IntKind.i64.wrap ((x.toNat : Nat) : Int) = ((x.toNat : Nat) : Int) := wrap_i64 _ (by omega) (by omega)
    have e4 := zu0 u x.toNat (by omega) hx
    refine zmt _ _ _ _ _ _ _ _ ?_; simp only [fldC] at h ⊢; simp only [zfm, h2, decide_true, cond_true, z9, Int.natCast_nonneg, nthE, Int.toNat_natCast, ziz, hget, Option.map_some, u_asI, e2, e3, e4, e1, h, foldBE, List.foldl_cons]
theorem zx4 (f : Fld) (b : List UInt8) (hr : rgtS f = true) (hb : b.length ≤ 1000000) :
    ltbl E0 59 0 1000006 [.lst .ro 1 (encB b), iV ((if f.kind = 4 then 1 else wdS (hiS f - loS f).toNat : Nat) : Int), .bool (f.kind == 4)] [fldC f, [iV 0, .str []]] = some (0, [iV (takeV f b).2.1, iV (takeV f b).2.2], [[iV (takeV f b).1.n, .str (takeV f b).1.s]]) := zw3 f b _ _ (by
  have hw := zau hr; have hbd := z35 hr; have c1 := z4d f (fun _ => hr)
  obtain ⟨w, hwd⟩ : ∃ w : Nat, w = (if f.kind = 4 then 1 else wdS (hiS f - loS f).toNat) := ⟨_, rfl⟩
  have hw6 : w ≤ 6 := by rw [hwd]; split <;> omega
  rw [← hwd]; simp only [fldV, fldC] at c1
  by_cases hl : b.length < w
  · have h1 : ((b.length : Int) < (w : Int)) := by omega
    have e : takeV f b = (val0, 0, 5) := by unfold takeV; rw [← hwd, if_pos hl]
    simp only [zfl, z1i, h1, decide_true, cond_true, e, val0]
  · have h1 : ¬ ((b.length : Int) < (w : Int)) := by omega
    have h2 : ((w : Int) ≤ (b.length : Int)) := by omega
    have hlen : (b.take w).length = w := by rw [List.length_take]; omega
    have c2 := zx3 f b (b.take w) (w : Int) (f.kind == 4) (by omega) (b.take w) 0 0 rfl (by decide)
    have hu := zhg (b.take w) 0 0 (by decide)
    rw [hlen, Nat.zero_add] at hu
    have hp : (256 : Nat) ^ w ≤ 256 ^ 6 := Nat.pow_le_pow_right (by decide) hw6
    have h6 : (256 : Nat) ^ 6 = 281474976710656 := by decide
    rw [hlen] at c2; simp only [fldC, Int.natCast_zero] at c2
    have e0 : (encB (b.take w)).length = w := by rw [z1i]; exact hlen
    simp only [zfl, z1i, h1, decide_false, cond_false, Int.le_refl, Int.natCast_nonneg, h2, decide_true, Bool.and_self, z9, cond_true, Int.toNat_natCast, List.drop_zero, zgj, hlen, ze, c2, Option.bind_some, nbeq, u_asL, u_asI, u_asB, u_asS, u_asN, u_asC, za, c1, zh]; generalize hU : foldBE 0 (b.take w) = u at hu ⊢
    have q1 : IntKind.i64.wrap (hiS f - loS f) = hiS f - loS f := wrap_i64 _ (by omega) (by omega)
    rw [q1]
    by_cases k : f.kind = 4
    · have k' : (f.kind == 4) = true := by simpa using k
      have w1 : w = 1 := by rw [hwd, if_pos k]
      subst w1; have hl' : ¬ (b.length < 1) := hl; simp only [k', cond_true, Bool.not_true, cond_false]
      by_cases hm : f.most < (u : Int)
      · have hm' : (u : Int) > f.most := by omega
        have e : takeV f b = (val0, 0, 16) := by unfold takeV; simp only [k, if_true, hl', if_false, hU, hm]
        simp only [hm', decide_true, cond_true, Option.bind_some, Tok.untok_tok, e, val0]
      · have hm' : ¬ ((u : Int) > f.most) := by omega
        have q2 : IntKind.i64.wrap ((b.length : Int) - ((1 : Nat) : Int)) = (b.length : Int) - 1 := by rw [wrap_i64 _ (by omega) (by omega)]; rfl
        simp only [hm', decide_false, cond_false, Option.bind_some, Tok.untok_tok, q2]
        by_cases hs : b.length < 1 + u
        · have hs' : (b.length : Int) - 1 < (u : Int) := by omega
          have e : takeV f b = (val0, 0, 5) := by unfold takeV; simp only [k, if_true, hl', if_false, hU, hm, ne_eq, not_true_eq_false, hs]
          simp only [hs', decide_true, cond_true, e, val0]
        · have hs' : ¬ ((b.length : Int) - 1 < (u : Int)) := by omega
          have q3 : IntKind.i64.wrap (((1 : Nat) : Int) + (u : Int)) = ((1 + u : Nat) : Int) := by rw [wrap_i64 _ (by omega) (by omega)]; omega
          have q4 : ((1 : Nat) : Int) ≤ ((1 + u : Nat) : Int) := by omega
          have q5 : ((1 + u : Nat) : Int) ≤ (b.length : Int) := by omega
          have e : takeV f b = (⟨0, (b.take (1 + u)).drop 1⟩, ((1 + u : Nat) : Int), 0) := by unfold takeV; simp only [k, if_true, hl', if_false, hU, hm, ne_eq, not_true_eq_false, hs]
          simp only [hs', decide_false, cond_false, q3, q4, q5, decide_true, Int.natCast_nonneg, Int.le_refl, Bool.and_self, cond_true, Int.toNat_natCast, zgj, zgk, orFail, z1w, e]
    · have k' : (f.kind == 4) = false := by simpa using k
      have w1 : w = wdS (hiS f - loS f).toNat := by rw [hwd, if_neg k]
      subst w1; simp only [k', cond_false, Bool.not_false, cond_true]
      by_cases hm : hiS f - loS f < (u : Int)
      · have hm' : (u : Int) > hiS f - loS f := by omega
        have e : takeV f b = (val0, 0, 16) := by unfold takeV; simp only [k, if_false, hl, hU, hm, if_true]
        simp only [hm', decide_true, cond_true, Option.bind_some, Tok.untok_tok, e, val0]
      · have hm' : ¬ ((u : Int) > hiS f - loS f) := by omega
        have q2 : IntKind.i64.wrap (loS f + (u : Int)) = loS f + (u : Int) := wrap_i64 _ (by omega) (by omega)
        have e : takeV f b = (⟨loS f + (u : Int), []⟩, ((wdS (hiS f - loS f).toNat : Nat) : Int), 0) := by unfold takeV; simp only [k, if_false, hl, hU, hm, ne_eq, not_false_eq_true, if_true]
        simp only [hm', decide_false, cond_false, cond_true, Option.bind_some, Tok.untok_tok, q2, e])
theorem zrq (f : Fld) (b : List UInt8) (hb : b.length ≤ 1000000) : tbl E0 59 [fldV f, .lst .ro 1 (encB b)] [] = some ([valV (takesV f b).1, iV (takesV f b).2.1, iV (takesV f b).2.2], []) := zye f b (by
  have c1 := z34 f; simp only [fldV, fldC] at c1; simp only [zq1, za, c1, Option.bind_some, u_asC, u_asB, u_asN, takesV]
  by_cases hr : rgtS f = true
  · have c2 := zfo f hr
    have c3 := zx4 f b hr hb; simp only [fldV, fldC] at c2 c3; simp only [hr, Bool.not_true, cond_false, c2, Option.bind_some, u_asC, u_asI, u_asN, Bool.true_eq_false, if_false]
    by_cases k : f.kind = 4
    · have k' : (f.kind == 4) = true := by simpa using k
      rw [if_pos k] at c3; simp only [k', Int.natCast_one] at c3 ⊢; simp only [cond_true, ze, c3, Option.bind_some, nbeq, decide_true, u_asC, u_asI, u_asS, u_asN]
    · have k' : (f.kind == 4) = false := by simpa using k
      rw [if_neg k] at c3; simp only [k'] at c3 ⊢; simp only [cond_false, ze, c3, Option.bind_some, nbeq, decide_true, cond_true, u_asC, u_asI, u_asS, u_asN]
  · have hr : rgtS f = false := by simpa using hr
    simp only [hr, Bool.not_false, cond_true, if_true, val0])
def takeR : List Fld → List UInt8 → List Val × List UInt8 × Int
  | [], b => ([], b, 0)
  | f :: fs, b => if (takesV f b).2.2 ≠ 0 then ([], b, (takesV f b).2.2) else ((takesV f b).1 :: (takeR fs (b.drop (takesV f b).2.1.toNat)).1, (takeR fs (b.drop (takesV f b).2.1.toNat)).2)
def LenP (b : List UInt8) (v : Val × Int × Int) : Prop := ∃ n : Nat, v.2.1 = n ∧ n ≤ b.length
theorem z6r {c : Prop} [Decidable c] {b : List UInt8} {x y : Val × Int × Int} (hx : c → LenP b x) (hy : ¬ c → LenP b y) : LenP b (if c then x else y) := by
  by_cases h : c
  · rw [if_pos h]; exact hx h
  · rw [if_neg h]; exact hy h
theorem zon (f : Fld) (b : List UInt8) : ∃ n : Nat, (takesV f b).2.1 = n ∧ n ≤ b.length := by
  show LenP b (takesV f b); unfold takesV; refine z6r (fun _ => ⟨0, rfl, Nat.zero_le _⟩) fun _ => ?_; unfold takeV; refine z6r (fun _ => ⟨0, rfl, Nat.zero_le _⟩) fun h1 => ?_; refine z6r (fun _ => ⟨0, rfl, Nat.zero_le _⟩) fun _ => ?_; refine z6r (fun k => ?_) fun _ => ?_
  · rw [if_neg k] at h1
    exact ⟨_, rfl, by omega⟩
  · exact z6r (fun _ => ⟨0, rfl, Nat.zero_le _⟩) fun h2 => ⟨_, rfl, by omega⟩
theorem zuo (m : List Fld) (id : Int) (hm : m.length ≤ 1000) : ∀ (r : List Fld) (i : Nat) (b : List UInt8) (l : List Val), m.drop i = r → b.length ≤ 1000000 → l.length ≤ i →
    ltbl E0 28 0 5 [.lst .ro 1 (encB b), fldsV m, iV (m.length : Int), iV (i : Int)] [[iV 0, valsV []], [iV id, .lst (.own (.O 1006 1)) 2 (l.map valV)]] =
      some (if (takeR r b).2.2 = 0 then (1, [.lst .ro 1 (encB (takeR r b).2.1)], [[iV 0, valsV []], [iV id, .lst (.own (.O 1006 1)) 2 ((l ++ (takeR r b).1).map valV)]]) else (0, [iV (takeR r b).2.2], [[iV 0, valsV []]])) := by
  intro r
  induction r with
  | nil =>
    intro i b l hr hb hl
    have h : m.length ≤ i := by simpa using hr
    refine zjt _ _ _ _ _ _ ?_
    have : ¬ ((i : Int) < m.length) := by omega
    simp only [zcp, this, decide_false, cond_false, takeR, if_true, List.append_nil, valsV, List.map_nil]
  | cons f r ih =>
    intro i b l hr hb hl; obtain ⟨hlt, hget, hr2⟩ := zu hr
    have h2 : (i : Int) < m.length := by omega
    have e1 := zj (i := i) (by omega)
    have c := zrq f b hb; obtain ⟨n, hn, hnl⟩ := zon f b; refine zjt _ _ _ _ _ _ ?_; simp only [valsV, fldsV, fldV, fldC, valV, List.map_nil] at c ⊢; simp only [zcp, h2, decide_true, cond_true, z9, Int.natCast_nonneg, nthE, Int.toNat_natCast, List.getElem?_map, hget, Option.map_some, u_asA, u_asC, u_asI, u_asS, u_asN, za, c, Option.bind_some, takeR]
    by_cases h0 : (takesV f b).2.2 = 0
    · have t0 : ((takesV f b).2.2 != 0) = false := by rw [h0]; rfl
      have h := ih (i + 1) (b.drop n) (l ++ [(takesV f b).1]) hr2 (by rw [List.length_drop]; omega) (by rw [List.length_append]; simp; omega)
      have q1 : (l.length + 1) * 24 ≤ 211106232532992 := by omega
      have q2 : (n : Int) ≤ (b.length : Int) := by omega
      have q3 : List.take b.length (encB b) = encB b := List.take_of_length_le (by simp)
      simp only [valsV, fldsV, List.map_nil, List.map_append, List.map_cons, valV] at h; simp only [t0, bne_self_eq_false, cond_false, List.length_map, List.length_cons, List.length_nil, Nat.zero_add, q1, decide_true, cond_true, hn, Int.natCast_nonneg, z1i, q2, Int.le_refl, Bool.and_self, Int.toNat_natCast, q3, zgk, e1, h, h0, ne_eq, not_true_eq_false, if_false, List.append_assoc, List.cons_append, List.nil_append, List.map_cons, List.map_append, valV]
    · have t0 : ((takesV f b).2.2 != 0) = true := bne_t h0
      simp only [t0, cond_true, h0, ne_eq, not_false_eq_true, if_true, if_false]
def takesR (f : Frm) (b : List UInt8) : Rec × Int :=
  if fineS f = false then (rec0, 2) else if (takeR f.fields b).2.2 ≠ 0 then (rec0, (takeR f.fields b).2.2) else if (takeR f.fields b).2.1 = [] then (⟨f.id, (takeR f.fields b).1⟩, 0) else (rec0, 6)
theorem zx5 (f : Frm) (b : List UInt8) (hf : f.fields.length ≤ 1000) (hb : b.length ≤ 1000000) : tbl E0 28 [frmV f, .lst .ro 1 (encB b)] [] = some ([recV (takesR f b).1, iV (takesR f b).2], []) := zw5 f b (by
  have c1 := z7z f (by omega)
  have c2 := zuo f.fields f.id hf f.fields 0 b [] rfl hb (Nat.le_refl _); simp only [frmV, fldsV, valsV, List.map_nil, List.nil_append, Int.natCast_zero] at c1 c2; simp only [zmm, za, c1, Option.bind_some, u_asC, u_asB, u_asN, takesR]
  rcases bor (fineS f) with hr | hr
  · simp only [hr, Bool.not_true, cond_false, List.length_map, ze, c2, Bool.true_eq_false, if_false]
    by_cases h0 : (takeR f.fields b).2.2 = 0
    · simp only [h0, if_true, ne_eq, not_true_eq_false, if_false, Option.bind_some, nbeq, u_asC, u_asI, u_asL, u_asN, zfg, z7i, cond_true, z1i]
      cases hrest : (takeR f.fields b).2.1 with
      | nil => simp [recV, recC, valsV]
      | cons c r =>
        have : ((r.length + 1 : Nat) : Int) > 0 := by omega
        simp [recV, recC, valsV, rec0, this]
    · simp only [h0, if_false, ne_eq, not_false_eq_true, if_true, Option.bind_some, nbeq, decide_true, cond_true, u_asC, u_asI, u_asL, u_asN, recV, recC, valsV, rec0, List.map_nil]
  · simp only [hr, Bool.not_false, cond_true, if_true, recV, recC, valsV, rec0, List.map_nil])
theorem z8x (b : Bool) : tbl E0 71 [.bool b] [] = some ([iV (if b then 0 else 20)], []) := zt4 b (by
  cases b <;> rfl)
theorem zrr (x n : Int) (z : List UInt8) : tbl E0 74 [iV x, .rp [.rp [iV n, .str z] 0] 0] [] = some ([.bool (x == n)], []) := zq5 x n z (by simp only [zgv])
theorem zrs (l : List Int) (n : Int) (z : List UInt8) (hl : l.length ≤ 1000000) : ∀ (r : List Int) (i : Nat), l.drop i = r →
    ltbl E0 73 0 2 [intsV l, .clo 74 [.rp [.rp [iV n, .str z] 0] 0], iV (l.length : Int), iV (i : Int)] [] = some (match r.findIdx? (· == n) with | some k => (0, [iV ((i + k : Nat) : Int)], []) | none => (1, [], [])) := by
  intro r
  induction r with
  | nil =>
    intro i hr
    have h : l.length ≤ i := by simpa using hr
    refine zgz _ _ _ _ _ ?_
    have : ¬ ((i : Int) < l.length) := by omega
    simp [zae, this]
  | cons x r ih =>
    intro i hr; obtain ⟨hlt, hget, hr2⟩ := zu hr
    have h2 : (i : Int) < l.length := by omega
    have e1 := zj (i := i) (by omega)
    have h := ih (i + 1) hr2; have c := zrr x n z; refine zgz _ _ _ _ _ ?_; simp only [intsV] at h; simp only [zae, h2, decide_true, cond_true, z9, Int.natCast_nonneg, nthE, Int.toNat_natCast, List.getElem?_map, hget, Option.map_some, u_asI, za, c, Option.bind_some, u_asC, u_asB, u_asN, e1, h, List.findIdx?_cons]
    by_cases e : x = n
    · simp [e]
    · have t := beq_f e
      simp only [t, cond_false, Bool.false_eq_true, if_false]
      cases r.findIdx? (· == n) with
      | none => rfl
      | some k =>
        simp only [Option.map_some]
        rw [show i + (k + 1) = i + 1 + k by omega]
theorem zup (l : List Int) (n : Int) (z : List UInt8) (hl : l.length ≤ 1000000) : tbl E0 73 [intsV l, .clo 74 [.rp [.rp [iV n, .str z] 0] 0]] [] = some ([iV (firstS (· == n) l)], []) := zt5 l n z (by
  have h := zrs l n z hl l 0 rfl; simp only [intsV, Int.natCast_zero, Nat.zero_add] at h; simp only [zjn, List.length_map, ze, h, firstS]
  cases l.findIdx? (· == n) with
  | none => simp
  | some k => simp)
end V
namespace V
def backV (x : Stp) (z : List UInt8) (q : Bool) (l : List Val) (p : Nat) : List Val × Int :=
  if x.op = 21 then (cutV l p, 0)
  else if x.op = 22 then (if q then (if (takesV x.f z).2.2 ≠ 0 ∨ (takesV x.f z).2.1 ≠ (z.length : Int) then (l, 12) else (putV l x.place.toNat (takesV x.f z).1, 0)) else (putV l x.place.toNat ⟨x.n, x.s⟩, 0))
  else if x.op = 27 then (putV (cutV l p) x.place.toNat (valAt l p), 0)
  else if x.op = 23 then (l, if hasV x.f (valAt l p).n (valAt l p).s then 0 else 20)
  else if x.op = 24 then (l.set p ⟨IntKind.i64.wrap ((IntKind.i64.wrap ((valAt l p).n - x.b)).tdiv x.a), (valAt l p).s⟩, if (IntKind.i64.wrap ((valAt l p).n - x.b)).tmod x.a = 0 then (if hasV x.f (IntKind.i64.wrap ((IntKind.i64.wrap ((valAt l p).n - x.b)).tdiv x.a)) (valAt l p).s then 0 else 20) else 20)
  else if x.op = 25 then (l.set p ⟨firstS (· == (valAt l p).n) x.t, (valAt l p).s⟩, if 0 ≤ firstS (· == (valAt l p).n) x.t then 0 else 20)
  else if x.op = 26 then ((cutV l (p + 1)).set p ⟨IntKind.i64.wrap (IntKind.i64.wrap ((valAt l p).n * x.a) + (valAt l (p + 1)).n), (valAt l p).s⟩, if hasV x.f (IntKind.i64.wrap (IntKind.i64.wrap ((valAt l p).n * x.a) + (valAt l (p + 1)).n)) (valAt l p).s then 0 else 20)
  else if x.op = 29 then (l, 20)
  else (l, 0)
structure BackP (x : Stp) (l : List Val) (p : Nat) : Prop where
  lt : x.op = 21 ∨ x.op = 23 ∨ x.op = 24 ∨ x.op = 25 ∨ x.op = 26 ∨ x.op = 27 → p < l.length
  two : x.op = 22 → ∃ k : Nat, x.place = k ∧ k ≤ l.length
  sev : x.op = 27 → ∃ k : Nat, x.place = k ∧ k < l.length
  four : x.op = 24 → x.a ≠ 0
  six : x.op = 26 → p + 1 < l.length
theorem oshB1 (a : List AV) (s : List UInt8) (q : Bool) : nodupN (List.map (fun x => x.fst) (oshOf T0 0 [AV.ref 0 0, AV.agg a, AV.str s, AV.bool q] Tryz.f39.params.toList)) = true := by kernel_rfl
theorem oshB2 (a : List AV) (s : List UInt8) (q : Bool) : ((oshOf T0 0 [AV.ref 0 0, AV.agg a, AV.str s, AV.bool q] Tryz.f39.params.toList).all fun p => p.fst.blt 64) = true := by kernel_rfl
theorem z8y (l : List Val) (k : Nat) : (l.map valV).take k ++ (l.map valV).drop (k + 1) ++ [AV.agg [iV 0, .str []]] = (cutV l k ++ [val0]).map valV := by simp [cutV, val0]
theorem ofN0 : Int.ofNat 0 = (0 : Int) := rfl
theorem zd7 (v : Val) : (valV v).flat = true := rfl
theorem z2v (v : Val) : (valV v).cells = [iV v.n, .str v.s] := rfl
theorem zd8 (v : Val) (n : Int) {α : Type} {A : Alg α} (k : AV → α) : putC A (valV v) (setAt [iV v.n, .str v.s] 0 [iV n]) k = k (valV ⟨n, v.s⟩) := Eq.trans rfl rfl
theorem b12 : Nat.ble 1 2 = true := rfl
theorem zx6 (x : Stp) (z : List UInt8) (q : Bool) (l : List Val) (p : Nat) (hp : BackP x l p) (hl : l.length ≤ 1000) (hz : z.length ≤ 1000000) (ht : x.t.length ≤ 1000000) : tbl E0 39 [.ref 0 0, stpV x, .str z, .bool q] (atO l p) = some ([iV (backV x z q l p).2], atO (backV x z q l p).1 p) := zw2 x z q l p (by
  have fl := zt l; have bb : Nat.ble 2 2 = true := rfl; simp only [zmk, zkr, oshB1, oshB2, List.all_cons, List.all_nil, fitA, fitC, AV.flat, AV.flat1, Bool.and_self, cond_true]
  by_cases o21 : x.op = 21
  · have hlt := hp.lt (.inl o21)
    have hg := z1h hlt
    have t : (x.op == 21) = true := by simpa using o21
    have e4 := zt (cutV l p ++ [val0])
    have e5 : ((cutV l p ++ [val0]).map valV).take (l.length - 1) = (cutV l p).map valV := by
      rw [← List.map_take, List.take_append_of_le_length (by rw [z1t l p hlt]; exact Nat.le_refl _), List.take_of_length_le (by rw [z1t l p hlt]; exact Nat.le_refl _)]
    simp only [t, cond_true, z9, Int.natCast_nonneg, decide_true, nthE, Int.toNat_natCast, List.getElem?_map, hg, Option.map_some, u_asA, u_asC, u_asI, u_asS, u_asN, z8y, e4, List.length_map, e5, backV, Int.reduceBEq, Int.reduceEq, o21, if_true]
  have t21 := beq_f o21
  by_cases o22 : x.op = 22
  · have t : (x.op == 22) = true := by simpa using o22
    obtain ⟨k, hk, hkl⟩ := hp.two o22
    have cc : ∀ v : Val, tbl E0 54 [.ref 0 0, iV k, .agg [iV v.n, .str v.s]] [(0, [.lst .uq 2 (l.map valV), iV p])] = some ([], [(0, [.lst .uq 2 ((putV l k v).map valV), iV p])]) := fun v => c_vin l p k v hkl (by omega)
    simp only [t21, t, cond_true, cond_false, backV, Int.reduceBEq, Int.reduceEq, o21, o22, if_true, if_false, Int.reduceBEq, Int.reduceEq]
    rcases bor q with hq | hq
    · have c := zrq x.f z hz
      simp only [fldV, fldC, valV] at c; simp only [hq, cond_true, za, c, Option.bind_some, u_asC, u_asA, u_asI, u_asS, u_asN, zh, if_true]
      by_cases h0 : (takesV x.f z).2.2 = 0
      · have t0 : ((takesV x.f z).2.2 != 0) = false := by rw [h0]; rfl
        by_cases h1 : (takesV x.f z).2.1 = (z.length : Int)
        · have t1 : ((takesV x.f z).2.1 != (z.length : Int)) = false := by rw [h1]; simp
          have q2 := zt (putV l k (takesV x.f z).1); simp only [t0, bne_self_eq_false, t1, cond_false, Option.bind_some, Tok.untok_tok, fl, cond_true, hk, zr, cc, z3r, u_asC, nbeq, decide_true, zd, u_asI, u_asN, q2, h0, h1, ne_eq, not_true_eq_false, or_self, if_false, Int.toNat_natCast]
        · have t1 : ((takesV x.f z).2.1 != (z.length : Int)) = true := bne_t h1
          simp only [t0, bne_self_eq_false, t1, cond_false, cond_true, Option.bind_some, Tok.untok_tok, fl, h0, h1, ne_eq, not_true_eq_false, not_false_eq_true, or_true, if_true]
      · have t0 : ((takesV x.f z).2.2 != 0) = true := bne_t h0
        simp only [t0, cond_true, Option.bind_some, Tok.untok_tok, fl, h0, ne_eq, not_false_eq_true, true_or, if_true]
    · have q2 := zt (putV l k ⟨x.n, x.s⟩)
      have c := cc ⟨x.n, x.s⟩; simp only at c; simp only [hq, cond_false, fl, cond_true, hk, zr, c, Option.bind_some, z3r, u_asC, nbeq, decide_true, zd, u_asI, u_asN, q2, Bool.false_eq_true, if_false, Int.toNat_natCast]
  have t22 := beq_f o22
  by_cases o27 : x.op = 27
  · have hlt := hp.lt (.inr (.inr (.inr (.inr (.inr o27)))))
    have hg := z1h hlt
    have t : (x.op == 27) = true := by simpa using o27
    obtain ⟨k, hk, hkl⟩ := hp.sev o27; have hc := z1t l p hlt
    have c := c_vin (cutV l p) p k (valAt l p) (by omega) (by omega)
    have q2 := zt (putV (cutV l p) k (valAt l p)); have e4 := zt (cutV l p ++ [val0])
    have e5 : ((cutV l p ++ [val0]).map valV).take (l.length - 1) = (cutV l p).map valV := by
      rw [← List.map_take, List.take_append_of_le_length (by rw [hc]; exact Nat.le_refl _), List.take_of_length_le (by rw [hc]; exact Nat.le_refl _)]
    simp only [atO, valsU, valV] at c; simp only [t21, t22, t, cond_true, cond_false, z9, Int.natCast_nonneg, decide_true, nthE, Int.toNat_natCast, List.getElem?_map, hg, Option.map_some, u_asA, u_asC, u_asI, u_asS, u_asN, z8y, e4, List.length_map, e5, hk, zr, c, Option.bind_some, z3r, nbeq, zd, q2, backV, Int.reduceBEq, Int.reduceEq, o21, o22, o27, if_true, if_false]
  have t27 := beq_f o27
  have hasK : ∀ (n : Int) (s : List UInt8) (W : List AV), W.all AV.flat = true → (OA (R := CR) (tbl E0) (ltbl E0 39 0)).callx 72 [.agg [iV x.f.id, iV x.f.kind, iV x.f.lo, iV x.f.hi, iV x.f.most], .agg [iV n, .str s]] (fun l146 => aB (OA (tbl E0) (ltbl E0 39 0)) l146 fun b149 l148 => asN (OA (tbl E0) (ltbl E0 39 0)) l148 ((OA (tbl E0) (ltbl E0 39 0)).callx 71 [.bool b149] fun l150 => aI (OA (tbl E0) (ltbl E0 39 0)) l150 fun n153 l152 => asN (OA (tbl E0) (ltbl E0 39 0)) l152 (some ([iV n153], [(0, [.lst .uq 2 W, iV p])])))) = some ([iV (if hasV x.f n s then 0 else 20)], [(0, [.lst .uq 2 W, iV p])]) := by
    intro n s W hW; have c := zas x.f n s; simp only [fldV, fldC] at c; simp only [za, c, Option.bind_some, u_asC, u_asB, u_asN, z8x, u_asI]
  by_cases o23 : x.op = 23
  · have hlt := hp.lt (.inr (.inl o23))
    have hlt2 : (p : Int) < l.length := by omega
    have hg := z1h hlt
    have t : (x.op == 23) = true := by simpa using o23
    have K := hasK (valAt l p).n (valAt l p).s (l.map valV) fl; simp only [t21, t22, t27, t, cond_true, cond_false, z9, z13, Int.natCast_nonneg, List.length_map, hlt2, decide_true, Bool.and_self, z4t, z7k, nthE, Int.toNat_natCast, List.getElem?_map, hg, Option.map_some, z2v, List.length_cons, List.length_nil, Nat.zero_add, Nat.reduceAdd, bb, List.drop_zero, List.take_succ_cons, List.take_zero, u_asC, u_asI, u_asS, u_asN, fl, K, z1v, backV, Int.reduceBEq, Int.reduceEq, o21, o22, o27, o23, if_true, if_false]
  have t23 := beq_f o23
  by_cases o24 : x.op = 24
  · have hlt := hp.lt (.inr (.inr (.inl o24)))
    have hlt2 : (p : Int) < l.length := by omega
    have hg := z1h hlt
    have t : (x.op == 24) = true := by simpa using o24
    have ta : (x.a == 0) = false := beq_f (hp.four o24); obtain ⟨m, hm⟩ : ∃ m, m = IntKind.i64.wrap ((IntKind.i64.wrap ((valAt l p).n - x.b)).tdiv x.a) := ⟨_, rfl⟩; have f2 := zt (l.set p ⟨m, (valAt l p).s⟩); have K := hasK m (valAt l p).s ((l.set p ⟨m, (valAt l p).s⟩).map valV) f2; have e5 := z68 l p ⟨m, (valAt l p).s⟩; have hsl : (l.set p ⟨m, (valAt l p).s⟩).length = l.length := List.length_set ..
    have hg2 : (l.set p ⟨m, (valAt l p).s⟩)[p]? = some ⟨m, (valAt l p).s⟩ := List.getElem?_set_self hlt
    have K2 : z5z (OA (tbl E0) (ltbl E0 39 0)) x z q l p (fun r o => some (r, o)) (valAt l p).n = some ([iV (if (IntKind.i64.wrap ((valAt l p).n - x.b)).tmod x.a = 0 then (if hasV x.f m (valAt l p).s then 0 else 20) else 20)], [(0, [.lst .uq 2 ((l.set p ⟨m, (valAt l p).s⟩).map valV), iV p])]) := by
      simp only [z5z, ← hm, nthE, Int.toNat_natCast, List.getElem?_map, hg, Option.map_some, z2v, List.length_cons, List.length_nil, Nat.zero_add, Nat.reduceAdd, b12, z9, cond_true, zd8, zd7, e5, ta, Bool.not_false, List.length_map, hsl, hlt2, Int.natCast_nonneg, decide_true, Bool.and_self, hg2, bb, List.drop_zero, List.take_succ_cons, List.take_zero, u_asC, u_asI, u_asS, u_asN, f2, K, z13, z1v]
      by_cases h0 : (IntKind.i64.wrap ((valAt l p).n - x.b)).tmod x.a = 0
      · have t0 : ((IntKind.i64.wrap ((valAt l p).n - x.b)).tmod x.a == 0) = true := by simpa using h0
        simp only [t0, beq_self_eq_true, cond_true, h0, if_true]
      · have t0 := beq_f h0
        simp only [t0, cond_false, za, z8x, Option.bind_some, u_asC, u_asI, u_asN, h0, if_false, Bool.false_eq_true]
    simp only [t21, t22, t27, t23, t, cond_true, cond_false, z9, z13, Int.natCast_nonneg, List.length_map, hlt2, decide_true, Bool.and_self, z8l, nthE, Int.toNat_natCast, List.getElem?_map, hg, Option.map_some, z2v, List.getElem?_cons_zero, u_asI, ta, Bool.not_false, K2, z1v, backV, Int.reduceBEq, Int.reduceEq, o21, o22, o27, o23, o24, if_true, if_false, ← hm]
  have t24 := beq_f o24
  by_cases o25 : x.op = 25
  · have hlt := hp.lt (.inr (.inr (.inr (.inl o25))))
    have hlt2 : (p : Int) < l.length := by omega
    have hg := z1h hlt
    have t : (x.op == 25) = true := by simpa using o25
    have c := zup x.t (valAt l p).n (valAt l p).s ht
    obtain ⟨m, hm⟩ : ∃ m, m = firstS (· == (valAt l p).n) x.t := ⟨_, rfl⟩
    rw [← hm] at c; have f2 := zt (l.set p ⟨m, (valAt l p).s⟩); have e5 := z68 l p ⟨m, (valAt l p).s⟩; have hg2 : (l.set p ⟨m, (valAt l p).s⟩)[p]? = some ⟨m, (valAt l p).s⟩ := List.getElem?_set_self hlt; simp only [intsV] at c
    have K4 : z4r (OA (tbl E0) (ltbl E0 39 0)) x z q l p (fun r o => some (r, o)) = some ([iV (if 0 ≤ m then 0 else 20)], [(0, [.lst .uq 2 ((l.set p ⟨m, (valAt l p).s⟩).map valV), iV p])]) := by
      have e6 : decide (m ≥ 0) = decide (0 ≤ m) := rfl; simp only [z4r, nthE, Int.toNat_natCast, List.getElem?_map, hg, Option.map_some, z2v, List.all_cons, List.all_nil, AV.flat1, Bool.and_self, z9, cond_true, za, c, Option.bind_some, u_asC, u_asI, u_asN, List.length_cons, List.length_nil, Nat.zero_add, Nat.reduceAdd, b12, zd8, zd7, e5, hg2, List.getElem?_cons_zero, z8x, f2, e6]
      by_cases h0 : 0 ≤ m
      · simp only [h0, decide_true, if_true]
      · simp only [h0, decide_false, Bool.false_eq_true, if_false]
    simp only [t21, t22, t27, t23, t24, t, cond_true, cond_false, z9, z13, Int.natCast_nonneg, List.length_map, hlt2, decide_true, Bool.and_self, K4, z1v, backV, Int.reduceBEq, Int.reduceEq, o21, o22, o27, o23, o24, o25, if_true, if_false, ← hm]
  have t25 := beq_f o25
  by_cases o26 : x.op = 26
  · have h26 := hp.six o26
    have hlt : p < l.length := by omega
    have hlt2 : (p : Int) < l.length := by omega
    have hg := z1h hlt; have hg1 := z1h h26
    have t : (x.op == 26) = true := by simpa using o26
    have e1 := zj (i := p) (by omega)
    have hc := z1t l (p + 1) h26; obtain ⟨m, hm⟩ : ∃ m, m = IntKind.i64.wrap (IntKind.i64.wrap ((valAt l p).n * x.a) + (valAt l (p + 1)).n) := ⟨_, rfl⟩
    have hgW : (cutV l (p + 1) ++ [val0])[p]? = some (valAt l p) := by
      rw [List.getElem?_append_left (by omega)]
      simp only [cutV]
      rw [List.getElem?_append_left (by rw [List.length_take]; omega), List.getElem?_take_of_lt (by omega)]
      exact hg
    have hW : (cutV l (p + 1) ++ [val0]).length = l.length := by rw [List.length_append, hc]; simp; omega
    have e5 := z68 (cutV l (p + 1) ++ [val0]) p ⟨m, (valAt l p).s⟩; have f2 := zt ((cutV l (p + 1) ++ [val0]).set p ⟨m, (valAt l p).s⟩)
    have hg2 : ((cutV l (p + 1) ++ [val0]).set p ⟨m, (valAt l p).s⟩)[p]? = some ⟨m, (valAt l p).s⟩ := List.getElem?_set_self (by omega)
    have hl1 : (p : Int) < ((l.length - 1 : Nat) : Int) := by omega
    have e6 : (((cutV l (p + 1) ++ [val0]).set p ⟨m, (valAt l p).s⟩).map valV).take (l.length - 1) = ((cutV l (p + 1)).set p ⟨m, (valAt l p).s⟩).map valV := by
      rw [← List.map_take, List.set_append_left _ _ (by omega), List.take_append_of_le_length (by rw [List.length_set, hc]; exact Nat.le_refl _), List.take_of_length_le (by rw [List.length_set, hc]; exact Nat.le_refl _)]
    have K := hasK m (valAt l p).s (((cutV l (p + 1)).set p ⟨m, (valAt l p).s⟩).map valV) (zt _)
    have K1 : z5y (OA (tbl E0) (ltbl E0 39 0)) x z q l p (fun r o => some (r, o)) (valAt l p).n (valAt l (p + 1)).n = some ([iV (if hasV x.f m (valAt l p).s then 0 else 20)], [(0, [.lst .uq 2 (((cutV l (p + 1)).set p ⟨m, (valAt l p).s⟩).map valV), iV p])]) := by
      simp only [z5y, ← hm, e1, Int.toNat_natCast, ofN0, z8y, nthE, List.getElem?_map, hgW, Option.map_some, z2v, List.length_cons, List.length_nil, Nat.zero_add, Nat.reduceAdd, b12, z9, cond_true, zd8, zd7, e5, List.length_map, hl1, Int.natCast_nonneg, decide_true, Bool.and_self, hg2, bb, List.drop_zero, List.take_succ_cons, List.take_zero, u_asC, u_asI, u_asS, u_asN, f2, e6, K, z13, z1v]
    have K10 : z5g (OA (tbl E0) (ltbl E0 39 0)) x z q l p (fun r o => some (r, o)) (valAt l p).n = some ([iV (if hasV x.f m (valAt l p).s then 0 else 20)], [(0, [.lst .uq 2 (((cutV l (p + 1)).set p ⟨m, (valAt l p).s⟩).map valV), iV p])]) := by
      simp only [z5g, e1, Int.natCast_nonneg, decide_true, z9, cond_true, nthE, Int.toNat_natCast, List.getElem?_map, hg1, Option.map_some, u_asA, u_asC, u_asI, u_asS, u_asN, K1]
    have K8 : z60 (OA (tbl E0) (ltbl E0 39 0)) x z q l p (fun r o => some (r, o)) (valAt l (p + 1)).n = some ([iV (if hasV x.f m (valAt l p).s then 0 else 20)], [(0, [.lst .uq 2 (((cutV l (p + 1)).set p ⟨m, (valAt l p).s⟩).map valV), iV p])]) := by
      simp only [z60, e1, Int.toNat_natCast, ofN0, z8y, nthE, List.getElem?_map, hgW, Option.map_some, z2v, List.getElem?_cons_zero, u_asI, K1]
    have K3 : z4s (OA (tbl E0) (ltbl E0 39 0)) x z q l p (fun r o => some (r, o)) = some ([iV (if hasV x.f m (valAt l p).s then 0 else 20)], [(0, [.lst .uq 2 (((cutV l (p + 1)).set p ⟨m, (valAt l p).s⟩).map valV), iV p])]) := by
      simp only [z4s, e1, Int.natCast_nonneg, decide_true, z9, cond_true, nthE, Int.toNat_natCast, List.getElem?_map, hg, hg1, Option.map_some, z2v, List.getElem?_cons_zero, u_asA, u_asC, u_asI, u_asS, u_asN, K10, K8, z1v]
    simp only [t21, t22, t27, t23, t24, t25, t, cond_true, cond_false, z8m, z9, z13, e1, Int.natCast_nonneg, List.length_map, hlt2, decide_true, Bool.and_self, nthE, Int.toNat_natCast, List.getElem?_map, hg, hg1, Option.map_some, z2v, List.getElem?_cons_zero, u_asA, u_asC, u_asI, u_asS, u_asN, K10, K3, K8, z1v, backV, Int.reduceBEq, Int.reduceEq, o21, o22, o27, o23, o24, o25, o26, if_true, if_false, ← hm]
  have t26 := beq_f o26
  by_cases o29 : x.op = 29
  · have t : (x.op == 29) = true := by simpa using o29
    simp only [t21, t22, t27, t23, t24, t25, t26, t, cond_true, cond_false, za, z8x, Option.bind_some, u_asC, u_asI, u_asN, fl, Bool.false_eq_true, if_false, backV, Int.reduceBEq, Int.reduceEq, o21, o22, o27, o23, o24, o25, o26, o29, if_true]
  have t29 := beq_f o29; simp only [t21, t22, t27, t23, t24, t25, t26, t29, cond_false, cond_true, fl, backV, Int.reduceBEq, Int.reduceEq, o21, o22, o27, o23, o24, o25, o26, o29, if_false])
end V
namespace V
theorem zhh : ∀ (l : List Frm) (n : Int), risingS n l = true → ∀ f ∈ l, n < f.id
  | [], _, _, f, hf => by simp at hf
  | g :: l, n, h, f, hf => by
    simp only [risingS, Bool.and_eq_true, decide_eq_true_eq] at h
    rcases List.mem_cons.1 hf with rfl | hf
    · exact h.1.2
    · have := zhh l g.id h.2 f hf
      have := h.1.2; omega
theorem zd9 : ∀ (l : List Frm) (n : Int), risingS n l = true → ∀ f ∈ l, ∃ j : Nat, findS l f.id = (j : Int) ∧ l[j]? = some f
  | [], _, _, f, hf => by simp at hf
  | g :: l, n, h, f, hf => by
    simp only [risingS, Bool.and_eq_true, decide_eq_true_eq] at h
    rcases List.mem_cons.1 hf with rfl | hf
    · exact ⟨0, by rw [z77, if_pos rfl]; rfl, rfl⟩
    · have g1 := zhh l g.id h.2 f hf
      obtain ⟨j, h1, h2⟩ := zd9 l g.id h.2 f hf
      refine ⟨j + 1, ?_, by simpa using h2⟩
      rw [z77, if_neg (by omega), h1, if_neg (by omega)]
      rfl
theorem zku (f : Frm) : ∀ (l : List Frm) (b : Bool), ∀ g ∈ l, g.id ≠ f.id → g ∈ bodyS f b l
  | [], _, g, hg, _ => by simp at hg
  | a :: l, b, g, hg, hn => by
    simp only [bodyS, List.mem_append]
    rcases List.mem_cons.1 hg with rfl | hg
    · exact .inr (.inl (by simp [hn]))
    · exact .inr (.inr (zku f l _ g hg hn))
theorem zuq {s : Sch} {x : Stp} (h : (onS s x).2 = 0) : (onS s x).1.ver = s.ver ∧ ∀ f ∈ s.forms, f.id ≠ x.form → ∃ j : Nat, findS (onS s x).1.forms f.id = (j : Int) ∧ (onS s x).1.forms[j]? = some f := by
  have r := z8w h; obtain ⟨g, e1, e2, _⟩ := z2a h; rw [e2] at h; have o := (zb1 h).2; rw [← e2] at o
  refine ⟨by rw [o], fun f hf hn => ?_⟩
  have r2 : risingS (-1) (onS s x).1.forms = true := by
    unfold schS at r; simp only [Bool.and_eq_true] at r; exact r.2
  refine zd9 _ _ r2 f ?_; rw [o]; simp only [formsS, List.mem_append]
  exact .inl (zku g _ _ f hf (by rw [e1]; exact hn))
end V
namespace V
theorem z78 : ∀ {a b : List Fld} {c d : List Val}, a.length = c.length → allsV (a ++ b) (c ++ d) = (allsV a c && allsV b d)
  | [], b, [], d, _ => by simp [allsV]
  | [], b, v :: c, d, h => by simp at h
  | f :: a, b, [], d, h => by simp at h
  | f :: a, b, v :: c, d, h => by
    have := z78 (a := a) (b := b) (c := c) (d := d) (by simpa using h)
    simp only [List.cons_append, allsV, this, Bool.and_assoc]
theorem zoo {fs : List Fld} {vs : List Val} (h : allsV fs vs = true) (k : Nat) : allsV (fs.take k) (vs.take k) = true := by
  have hl := z14 h
  have e := z78 (a := fs.take k) (b := fs.drop k) (c := vs.take k) (d := vs.drop k) (by simp [hl])
  rw [List.take_append_drop, List.take_append_drop, h] at e; have := e.symm; simp only [Bool.and_eq_true] at this; exact this.1
theorem z2w {fs ms : List Fld} {vs us : List Val} (h : allsV fs vs = true) (i j : Nat) (hm : allsV ms us = true) : allsV (fs.take i ++ ms ++ fs.drop j) (vs.take i ++ us ++ vs.drop j) = true := by
  have hl := z14 h; have hml := z14 hm
  rw [z78 (by simp [hl, hml]), z78 (by simp [hl]), zoo h, hm, zoh h]
  rfl
theorem z81 {l : List Val} {k : Nat} {v : Val} (hk : k < l.length) : l.set k v = l.take k ++ [v] ++ l.drop (k + 1) := by
  rw [List.set_eq_take_append_cons_drop, if_pos hk]; simp
theorem zn5 (fs : List Fld) (k : Nat) (ms : List Fld) (hk : k ≤ fs.length) : putS (cutS fs k) k ms = fs.take k ++ ms ++ fs.drop (k + 1) := by
  simp only [putS, cutS]
  rw [List.take_append_of_le_length (by rw [List.length_take]; omega), List.take_take, Nat.min_self, List.drop_append, List.drop_of_length_le (by rw [List.length_take]; omega), List.length_take, Nat.min_eq_left hk, Nat.sub_self, List.drop_zero, List.nil_append]
theorem zur {l : List Fld} {k : Nat} (f : Fld) : (putS l k [f]).isEmpty = false := by simp [putS]
def nextS (s : Sch) (x : Stp) : List Fld :=
  if x.op = 1 then putS (oldS s x) x.place.toNat [x.f]
  else match (oldS s x)[(atS (oldS s x) x.field).toNat]? with
    | none => []
    | some g => newS (oldS s x) x (typesS g x).1
theorem zx7 {s : Sch} {x : Stp} (h : (onS s x).2 = 0) (h9 : x.op ≠ 9) (h10 : x.op ≠ 10) : onS s x = outS s ⟨x.form, nextS s x⟩ ∧ (nextS s x).isEmpty = false := by
  obtain ⟨_, _, _, _, hs, h4, hr, hle⟩ := z2a h
  have g0 : ¬ ((!(schS s) || (!(tRightS x) || decide (10 < x.op))) = true) := by simp [hs, hr]; omega
  by_cases h1 : x.op = 1
  · unfold onS
    rw [if_neg g0, if_neg (by simp [h4]), if_neg h9, if_pos h1]
    simp only [nextS, h1, if_true]; exact ⟨trivial, zur _⟩
  · obtain ⟨k, f, q1, q2, q3⟩ := z5b h h1 h9 h10
    unfold onS at h ⊢
    rw [if_neg g0, if_neg (by simp [h4]), if_neg h9, if_neg h1, if_neg h10] at h ⊢
    simp only [nextS, h1, if_false, q1, Int.toNat_natCast, q2, q3, if_true] at h ⊢
    by_cases he : (newS (oldS s x) x (typesS f x).1).isEmpty = true
    · rw [if_pos he] at h; simp at h
    · rw [if_neg he]
      exact ⟨rfl, by simpa using he⟩
theorem zda {s : Sch} {x : Stp} (h : (onS s x).2 = 0) (h9 : x.op ≠ 9) (h10 : x.op ≠ 10) : ∃ j : Nat, findS (onS s x).1.forms x.form = (j : Int) ∧ (onS s x).1.forms[j]? = some ⟨x.form, nextS s x⟩ ∧ fineS ⟨x.form, nextS s x⟩ = true := by
  obtain ⟨e, hne⟩ := zx7 h h9 h10; have r := z8w h; rw [e] at h; have o := (zb1 h).2; rw [← e] at o
  obtain ⟨_, _, _, _, hs, h4, hr, hle⟩ := z2a (s := s) (x := x) (by rw [e]; exact h)
  obtain ⟨j, g, e1, e2, e3, e4, _⟩ := names0 h4 h9
  have r1 : risingS (-1) s.forms = true := by
    unfold schS at hs; simp only [Bool.and_eq_true] at hs; exact hs.2
  have r2 : risingS (-1) (onS s x).1.forms = true := by
    unfold schS at r; simp only [Bool.and_eq_true] at r; exact r.2
  have hm : (⟨x.form, nextS s x⟩ : Frm) ∈ (onS s x).1.forms := by
    rw [o]; simp only [hne]
    have hh : hereS x.form s.forms = true := by
      have := zd3 x.form s.forms (-1) r1; rw [e1] at this
      rcases bor (hereS x.form s.forms) with hb | hb
      · exact hb
      · rw [hb] at this
        simp only [Bool.false_eq_true, if_false] at this; omega
    rw [zb2 ⟨x.form, nextS s x⟩ s.forms (-1) r1 hh]
    have hlt : posS x.form s.forms < s.forms.length := by
      unfold hereS at hh
      rcases Nat.lt_or_ge (posS x.form s.forms) s.forms.length with hlt | hge
      · exact hlt
      · rw [List.getElem?_eq_none hge] at hh; cases hh
    exact List.mem_of_getElem? (i := posS x.form s.forms) (by rw [List.getElem?_set_self hlt])
  obtain ⟨j2, j3, j4⟩ := zd9 _ _ r2 _ hm; exact ⟨j2, j3, j4, z3a _ _ r2 _ hm⟩
theorem z69 {f : Fld} {n : Int} {s : List UInt8} (h1 : rgtS f = true) (h2 : loS f ≤ n) (h3 : n ≤ hiS f) (h4 : (s.length : Int) ≤ longestS f) : hasV f n s = true := by
  simp only [hasV, inS, h1, h2, h3, h4, decide_true, Bool.and_self]
theorem zhi {a m : Int} (ha : -1048576 ≤ a ∧ a ≤ 1048576) (hm : -1099511627776 ≤ m ∧ m ≤ 1099511627776) : -1152921504606846976 ≤ a * m ∧ a * m ≤ 1152921504606846976 := by
  rcases Int.le_total 0 a with p | p <;> rcases Int.le_total 0 m with q | q
  · have := Int.mul_le_mul ha.2 hm.2 q (by omega); have := Int.mul_nonneg p q; omega
  · have h := Int.mul_le_mul ha.2 (show -m ≤ 1099511627776 by omega) (by omega) (by omega : (0 : Int) ≤ 1048576); have := Int.mul_nonneg p (show 0 ≤ -m by omega); rw [Int.mul_neg] at h this; omega
  · have h := Int.mul_le_mul (show -a ≤ 1048576 by omega) hm.2 q (by omega); have := Int.mul_nonneg (show 0 ≤ -a by omega) q; rw [Int.neg_mul] at h this; omega
  · have h := Int.mul_le_mul (show -a ≤ 1048576 by omega) (show -m ≤ 1099511627776 by omega) (by omega) (by omega); have := Int.mul_nonneg (show 0 ≤ -a by omega) (show 0 ≤ -m by omega); rw [Int.neg_mul_neg] at h this; omega
theorem z6s {a b m : Int} (ha : -1048576 ≤ a ∧ a ≤ 1048576) (hb : -1099511627776 ≤ b ∧ b ≤ 1099511627776) (hm : -1099511627776 ≤ m ∧ m ≤ 1099511627776) : affS a b m = a * m + b := by
  have h1 := zhi ha hm; unfold affS
  rw [wrap_i64 (a * m) (by omega) (by omega), wrap_i64 _ (by omega) (by omega)]
theorem zzg {a b lo hi n : Int} (h1 : lo ≤ n) (h2 : n ≤ hi) : minS (a * lo + b) (a * hi + b) ≤ a * n + b ∧ a * n + b ≤ maxS (a * lo + b) (a * hi + b) := by
  rcases Int.le_total 0 a with p | p
  · have := Int.mul_le_mul_of_nonneg_left h1 p
    have := Int.mul_le_mul_of_nonneg_left h2 p; unfold minS maxS
    split <;> split <;> omega
  · have := Int.mul_le_mul_of_nonpos_left p h1
    have := Int.mul_le_mul_of_nonpos_left p h2; unfold minS maxS
    split <;> split <;> omega
theorem zbw {x : Stp} (h : tRightS x = true) (o : x.op = 4) : (-1048576 ≤ x.a ∧ x.a ≤ 1048576) ∧ x.a ≠ 0 ∧ (-1099511627776 ≤ x.b ∧ x.b ≤ 1099511627776) := by
  have h8 := zy h 5 (by rw [o]; decide)
  simp [fitsS, inS] at h8; omega
theorem zbx {x : Stp} (h : tRightS x = true) (o : x.op = 5) : (∀ n ∈ x.t, 0 ≤ n ∧ n ≤ x.a - 1) ∧ nodupI x.t = true := by
  have h8 := zy h 8 (by rw [o]; decide)
  simp only [fitsS, o] at h8; simp [apartS, inS] at h8; exact ⟨fun n hn => h8.1.1 n hn, h8.1.2⟩
theorem zus {s : Sch} {x : Stp} {y : Rec} {g : Frm} (h : (onS s x).2 = 0) (hg : formS s.forms y.form = some g) (hr : hasR g y = true) (he : y.form = x.form) (h10 : x.op ≠ 10) : hasR ⟨x.form, nextS s x⟩ ⟨y.form, onV x y.vals (plcS g x.field)⟩ = true := by
  obtain ⟨h9, hop, hfe, hp⟩ := on_p h hg hr he h10; obtain ⟨_, _, _, hfine⟩ := zda h h9 h10; obtain ⟨_, _, _, _, hs, h4, hrt, hle⟩ := z2a h; have ha := hp.has
  have hall : ∀ f ∈ nextS s x, rgtS f = true := by
    have := hfine; simp only [fineS, Bool.and_eq_true, List.all_eq_true] at this; exact this.1.2
  have key : allsV (nextS s x) (onV x y.vals (plcS g x.field)) = true := by
    by_cases o1 : x.op = 1
    · obtain ⟨k, hk, hkl⟩ := hp.one o1
      have h7 := zy hrt 7 (by rw [o1]; decide)
      simp [fitsS, o1] at h7; simp only [nextS, onV, o1, if_true, hk, Int.toNat_natCast, putS, putV, ← hfe]
      exact z2w ha k k (by simp only [allsV, h7, Bool.and_self])
    have hlt := hp.lt o1; have hlen := z14 ha; obtain ⟨k, f, q1, q2, q3⟩ := z5b h o1 h9 h10
    have hnx : nextS s x = newS (oldS s x) x (typesS f x).1 := by simp only [nextS, o1, if_false, q1, Int.toNat_natCast, q2]
    rw [hnx] at hall ⊢; rw [← hfe] at q1 q2 hall ⊢
    have hpk : plcS g x.field = k := by
      have q3 : ¬ ((k : Int) < 0) := by omega
      simp only [plcS, q1, q3, if_false, Int.toNat_natCast]
    rw [hpk] at hlt hp ⊢; have hv := z2h ha k f _ q2 (z1h hlt); have hi := z4e hv; have hrf := z41 hv; have hbd := z35 hrf
    have e0 : ∀ ms : List Fld, x.op ≠ 7 → newS g.fields x ms = g.fields.take k ++ ms ++ g.fields.drop (k + 1) := fun ms h7 => by
      simp only [newS, q1, Int.toNat_natCast, h7, if_false]
      exact zn5 _ _ _ (by omega)
    have same : ∀ f' : Fld, x.op ≠ 7 → hasV f' (valAt y.vals k).n (valAt y.vals k).s = true → allsV (newS g.fields x [f']) y.vals = true := fun f' h7 hh => by
      rw [e0 _ h7]
      have e1 : y.vals = y.vals.take k ++ [valAt y.vals k] ++ y.vals.drop (k + 1) := by
        rw [← z81 hlt]
        exact (List.ext_getElem? fun i => by
          rw [List.getElem?_set]
          split
          · rename_i e; subst e; exact z1h hlt
          · rfl)
      rw [e1]
      exact z2w ha k (k + 1) (by simp only [allsV, hh, Bool.and_self])
    by_cases o2 : x.op = 2
    · have e1 : (typesS f x).1 = [] := by simp [typesS, o2]
      have e2 : onV x y.vals k = y.vals.take k ++ [] ++ y.vals.drop (k + 1) := by simp [onV, o2, cutV]
      rw [e1, e0 _ (by omega), e2]
      exact z2w ha k (k + 1) rfl
    by_cases o3 : x.op = 3
    · have e1 : (typesS f x).1 = [x.f] := by simp [typesS, o3]
      have e2 : onV x y.vals k = y.vals := by simp [onV, o3]
      simp [typesS, o3, widerS] at q3; rw [e1, e2]
      refine same _ (by omega) (z69 q3.1.1.1.1.2 (by omega) (by omega) ?_)
      have := hi.2.2; simp only [longestS] at this ⊢; rw [← q3.1.1.1.2]
      split at this
      · rename_i k4; rw [if_pos k4]; omega
      · rename_i k4; rw [if_neg k4]; omega
    by_cases o4 : x.op = 4
    · have hsc := zbw hrt o4
      simp [typesS, o4] at q3
      have e1 : (typesS f x).1 = [scaleS f x.a x.b] := by simp [typesS, o4]
      have e2 : onV x y.vals k = y.vals.take k ++ [⟨affS x.a x.b (valAt y.vals k).n, []⟩] ++ y.vals.drop (k + 1) := by simp only [onV, o4]; exact z81 hlt
      have l1 : loS f = f.lo := by simp [loS, q3.1]
      have l2 : hiS f = f.hi := by simp [hiS, q3.1]
      rw [l1, l2] at hbd
      have hin := zzg (a := x.a) (b := x.b) (lo := f.lo) (hi := f.hi) (n := (valAt y.vals k).n) (by omega) (by omega)
      rw [e1, e0 _ (by omega), e2]
      refine z2w ha k (k + 1) ?_; simp only [allsV, Bool.and_true]
      refine z69 q3.2 ?_ ?_ (by simp [longestS, scaleS])
      · simp only [loS, scaleS, if_true, z6s hsc.1 hsc.2.2 (m := f.lo) (by omega), z6s hsc.1 hsc.2.2 (m := f.hi) (by omega), z6s hsc.1 hsc.2.2 (m := (valAt y.vals k).n) (by omega)]
        exact hin.1
      · simp only [hiS, scaleS, if_true, z6s hsc.1 hsc.2.2 (m := f.lo) (by omega), z6s hsc.1 hsc.2.2 (m := f.hi) (by omega), z6s hsc.1 hsc.2.2 (m := (valAt y.vals k).n) (by omega)]
        exact hin.2
    by_cases o5 : x.op = 5
    · obtain ⟨n0, n1⟩ := hp.five o5
      have ht := zbx hrt o5
      have e1 : (typesS f x).1 = [⟨f.id, 3, 0, 0, x.a⟩] := by simp [typesS, o5]
      have e2 : onV x y.vals k = y.vals.take k ++ [⟨(x.t[(valAt y.vals k).n.toNat]?).getD 0, []⟩] ++ y.vals.drop (k + 1) := by simp only [onV, o5]; exact z81 hlt
      have hrx := hall ⟨f.id, 3, 0, 0, x.a⟩ (by rw [e1, e0 _ (by omega)]; simp)
      rw [e1, e0 _ (by omega), e2]
      refine z2w ha k (k + 1) ?_; simp only [allsV, Bool.and_true]
      have hj : (valAt y.vals k).n.toNat < x.t.length := by omega
      have hm := ht.1 x.t[(valAt y.vals k).n.toNat] (List.getElem_mem hj); rw [List.getElem?_eq_getElem hj, Option.getD_some]
      exact z69 hrx (by simp [loS]; omega) (by simp [hiS]; omega) (by simp [longestS])
    by_cases o6 : x.op = 6
    · obtain ⟨a2, n0⟩ := hp.six o6
      simp [typesS, o6] at q3
      have h8 := zy hrt 4 (by rw [o6]; decide)
      simp [fitsS, inS, o6] at h8
      have l1 : loS f = 0 := by simp [loS, q3.1, q3.2]
      have l2 : hiS f = f.hi := by simp [hiS, q3.1]
      have e1 : (typesS f x).1 = [⟨f.id, 1, 0, IntKind.i64.wrap (f.hi.tdiv x.a), 0⟩, ⟨x.to, 1, 0, minS f.hi (IntKind.i64.wrap (x.a - 1)), 0⟩] := by simp [typesS, o6]
      have e2 : onV x y.vals k = y.vals.take k ++ [⟨IntKind.i64.wrap ((valAt y.vals k).n.tdiv x.a), []⟩, ⟨(valAt y.vals k).n.tmod x.a, []⟩] ++ y.vals.drop (k + 1) := by
        simp only [onV, o6]; have hsl : (y.vals.set k ⟨IntKind.i64.wrap ((valAt y.vals k).n.tdiv x.a), []⟩).length = y.vals.length := List.length_set ..; show putV (y.vals.set k ⟨IntKind.i64.wrap ((valAt y.vals k).n.tdiv x.a), []⟩) (k + 1) ⟨(valAt y.vals k).n.tmod x.a, []⟩ = _; simp only [putV]
        rw [List.drop_set_of_lt (by omega), z81 hlt, List.take_append_of_le_length (by simp; omega), List.take_of_length_le (by simp; omega)]
        simp
      have hm1 := hall ⟨f.id, 1, 0, IntKind.i64.wrap (f.hi.tdiv x.a), 0⟩ (by rw [e1, e0 _ (by omega)]; simp)
      have hm2 := hall ⟨x.to, 1, 0, minS f.hi (IntKind.i64.wrap (x.a - 1)), 0⟩ (by rw [e1, e0 _ (by omega)]; simp)
      have d1 : ∀ m : Int, 0 ≤ m → m.tdiv x.a = m / x.a := fun m hm => Int.tdiv_eq_ediv_of_nonneg hm; have d2 : (valAt y.vals k).n.tmod x.a = (valAt y.vals k).n % x.a := Int.tmod_eq_emod_of_nonneg n0
      have v1 : (valAt y.vals k).n / x.a ≤ f.hi / x.a := Int.ediv_le_ediv (by omega) (by omega)
      have v2 : 0 ≤ (valAt y.vals k).n / x.a := Int.ediv_nonneg n0 (by omega)
      have v3 : f.hi / x.a ≤ f.hi := Int.ediv_le_self _ (by omega)
      have v4 := Int.emod_nonneg (valAt y.vals k).n (show x.a ≠ 0 by omega)
      have v5 := Int.emod_lt_of_pos (valAt y.vals k).n (show 0 < x.a by omega)
      have v6 : (valAt y.vals k).n % x.a ≤ (valAt y.vals k).n := by
        have m1 := Int.emod_add_mul_ediv (valAt y.vals k).n x.a
        have m2 := Int.mul_nonneg (show 0 ≤ x.a by omega) v2
        omega
      have w1 : IntKind.i64.wrap (f.hi / x.a) = f.hi / x.a := wrap_i64 _ (by omega) (by omega)
      have w2 : IntKind.i64.wrap ((valAt y.vals k).n / x.a) = (valAt y.vals k).n / x.a := wrap_i64 _ (by omega) (by omega)
      have w3 : IntKind.i64.wrap (x.a - 1) = x.a - 1 := wrap_i64 _ (by omega) (by omega)
      rw [e1, e0 _ (by omega), e2]
      refine z2w ha k (k + 1) ?_
      rw [d1 _ (by omega), w1] at hm1
      rw [w3] at hm2
      rw [d1 _ (by omega), d1 _ n0, d2, w1, w2, w3]
      simp only [allsV, Bool.and_true, Bool.and_eq_true]
      refine ⟨z69 hm1 (by simp [loS]; omega) (by simp [hiS]; omega) (by simp [longestS]), z69 hm2 (by simp [loS]; omega) ?_ (by simp [longestS])⟩
      have m3 : hiS ⟨x.to, 1, 0, minS f.hi (x.a - 1), 0⟩ = minS f.hi (x.a - 1) := by simp [hiS]
      rw [m3]; unfold minS
      split <;> omega
    by_cases o7 : x.op = 7
    · obtain ⟨m, hm, hml⟩ := hp.sev o7
      have e1 : (typesS f x).1 = [f] := by simp [typesS, o7]
      have e2 : onV x y.vals k = (cutV y.vals k).take m ++ [valAt y.vals k] ++ (cutV y.vals k).drop m := by simp [onV, o7, hm, putV]
      have e3 : newS g.fields x [f] = (cutS g.fields k).take m ++ [f] ++ (cutS g.fields k).drop m := by simp [newS, q1, o7, hm, putS]
      have hc : allsV (cutS g.fields k) (cutV y.vals k) = true := by
        have := z2w (ms := []) (us := []) ha k (k + 1) rfl
        simpa [cutS, cutV] using this
      rw [e1, e2, e3]
      exact z2w hc m m (by simp only [allsV, hv, Bool.and_self])
    · have o8 : x.op = 8 := by omega
      have e1 : (typesS f x).1 = [⟨x.to, f.kind, f.lo, f.hi, f.most⟩] := by simp [typesS, o8]
      have e2 : onV x y.vals k = y.vals := by simp [onV, o8]
      have hrx := hall ⟨x.to, f.kind, f.lo, f.hi, f.most⟩ (by rw [e1, e0 _ (by omega)]; simp)
      rw [e1, e2]
      exact same _ (by omega) (z69 hrx (by have := hi.1; simpa [loS] using this) (by have := hi.2.1; simpa [hiS] using this) (by have := hi.2.2; simpa [longestS] using this))
  simp only [hasR, hfine, he, beq_self_eq_true, key, Bool.and_self]
end V
namespace V
theorem zop (u : Nat) (a b : List UInt8) : foldBE u (a ++ b) = foldBE (foldBE u a) b := by simp [foldBE, List.foldl_append]
theorem zb4 : ∀ (w n : Nat), n < 256 ^ w → foldBE 0 (bytesBE w n) = n
  | 0, n, h => by simp at h; subst h; rfl
  | w + 1, n, h => by
    rw [Nat.pow_succ] at h
    have := zb4 w (n / 256) (by omega)
    rw [bytesBE, zop, this]; simp only [foldBE, List.foldl_cons, List.foldl_nil]
    rw [z1c (by omega)]
    omega
theorem zzh : ∀ n : Nat, n < 256 ^ wdS n := by
  intro n
  induction n using Nat.strongRecOn with
  | _ n ih =>
    unfold wdS
    split
    · omega
    · have := ih (n / 256) (by omega)
      rw [Nat.pow_succ]; omega
theorem zkv {a b : List UInt8} {n : Nat} (h : a.length = n) : (a ++ b).take n = a := by rw [List.take_append_of_le_length (by omega), List.take_of_length_le (by omega)]
theorem zhj {f : Fld} {v : Val} (h : hasV f v.n v.s = true) (r : List UInt8) : takesV f (layV f v ++ r) = (v, ((layV f v).length : Int), 0) := by
  have hr := z41 h; have hi := z4e h; have hl := z5i hr; have hb := z35 hr
  rw [takesV, if_neg (by simp [hr])]
  by_cases k : f.kind = 4
  · have e : layV f v = byt v.s.length :: v.s := by simp [layV, k]
    have hu : foldBE 0 ((layV f v ++ r).take 1) = v.s.length := by
      rw [e]; simp only [List.cons_append, List.take_succ_cons, List.take_zero, foldBE, List.foldl_cons, List.foldl_nil]
      rw [z1c (by omega)]
      omega
    have hm : ¬ (f.most < (v.s.length : Int)) := by
      have := hi.2.2; simp only [longestS, k, if_true] at this; omega
    have hn : v.n = 0 := by
      have h1 := hi.1; have h2 := hi.2.1; simp [loS, hiS, k] at h1 h2; omega
    have hlen : (layV f v ++ r).length = 1 + v.s.length + r.length := by rw [e]; simp; omega
    have c1 : ¬ ((layV f v ++ r).length < 1) := by omega
    have c2 : ¬ ((layV f v ++ r).length < 1 + v.s.length) := by omega
    have e2 : ((layV f v ++ r).take (1 + v.s.length)).drop 1 = v.s := by
      rw [zkv (by rw [e]; simp; omega), e]; rfl
    have e3 : (layV f v).length = 1 + v.s.length := by rw [e]; simp; omega
    unfold takeV; simp only [k, if_true, c1, if_false, hu, hm, ne_eq, not_true_eq_false, c2, e2, e3]; obtain ⟨vn, vs⟩ := v; simp only at hn; subst hn; rfl
  · have e : layV f v = bytesBE (wdS (hiS f - loS f).toNat) (v.n - loS f).toNat := by simp [layV, k]
    have hln : (layV f v).length = wdS (hiS f - loS f).toNat := by rw [e, z58]
    have hu : foldBE 0 ((layV f v ++ r).take (wdS (hiS f - loS f).toNat)) = (v.n - loS f).toNat := by
      rw [zkv hln, e]
      exact zb4 _ _ (Nat.lt_of_le_of_lt (by omega) (zzh (hiS f - loS f).toNat))
    have c1 : ¬ ((layV f v ++ r).length < wdS (hiS f - loS f).toNat) := by rw [List.length_append, hln]; omega
    have hm : ¬ (hiS f - loS f < (((v.n - loS f).toNat : Nat) : Int)) := by omega
    have hs := zkq h k; unfold takeV; simp only [k, if_false, c1, hu, hm, ne_eq, not_false_eq_true, if_true, hln]; obtain ⟨vn, vs⟩ := v; simp only at hs; subst hs
    rw [show loS f + (((vn - loS f).toNat : Nat) : Int) = vn by simp only at hi; omega]
theorem zhk : ∀ {fs : List Fld} {vs : List Val} (r : List UInt8), allsV fs vs = true → takeR fs (layR fs vs ++ r) = (vs, r, 0)
  | [], [], r, _ => rfl
  | [], v :: vs, _, h => by cases h
  | f :: fs, [], _, h => by cases h
  | f :: fs, v :: vs, r, h => by
    simp only [allsV, Bool.and_eq_true] at h; have e := zhj h.1 (layR fs vs ++ r)
    have e2 : (layV f v ++ (layR fs vs ++ r)).drop (layV f v).length = layR fs vs ++ r := by simp
    simp only [layR, List.append_assoc, takeR, e, ne_eq, not_true_eq_false, if_false, Int.toNat_natCast, e2, zhk r h.2]
end V
namespace V
theorem zeu {α : Type} (p : α → Bool) (a : α) (l : List α) : firstS p (a :: l) = if p a then 0 else if firstS p l = -1 then -1 else firstS p l + 1 := by
  unfold firstS; rw [List.findIdx?_cons]
  cases p a with
  | true => simp
  | false =>
    simp only [Bool.false_eq_true, if_false]
    cases List.findIdx? p l with
    | none => simp
    | some i => simp
theorem z7q {α : Type} (key : α → Int) : ∀ (l : List α) (k : Nat) (f : α), nodupI (l.map key) = true → l[k]? = some f → firstS (fun g => key g == key f) l = (k : Int)
  | [], k, f, _, h => by simp at h
  | a :: l, 0, f, _, h => by
    simp at h; subst h; simp [zeu]
  | a :: l, k + 1, f, hn, h => by
    have h2 : l[k]? = some f := by simpa using h
    simp only [List.map_cons, nodupI, Bool.and_eq_true, Bool.not_eq_true', List.any_eq_false] at hn
    have hne : ¬ (key a = key f) := by
      intro e; have := hn.1 (key f) (List.mem_map_of_mem (List.mem_of_getElem? h2)); simp [e] at this
    have ih := z7q key l k f hn.2 h2
    have t : (key a == key f) = false := by simpa using hne
    rw [zeu, t, ih]; simp only [Bool.false_eq_true, if_false]
    rw [if_neg (by omega)]
    omega
theorem zdb {l : List Fld} {k : Nat} {f : Fld} {id : Int} (hn : nodupI (l.map Fld.id) = true) (h : l[k]? = some f) (e : f.id = id) : atS l id = (k : Int) := by
  subst e; exact z7q Fld.id l k f hn h
theorem zev {g : Frm} {id : Int} {k : Nat} (h : atS g.fields id = (k : Int)) : plcS g id = k := by
  have q : ¬ ((k : Int) < 0) := by omega
  simp only [plcS, h, q, if_false, Int.toNat_natCast]
theorem zg1 {α : Type} (a b : List α) (x : α) {k : Nat} (h : a.length = k) : (a ++ [x] ++ b)[k]? = some x := by
  rw [List.append_assoc, List.getElem?_append_right (by omega), h, Nat.sub_self]
  rfl
theorem zx8 (l : List Val) (k : Nat) (v : Val) : putV l k v = l.take k ++ [v] ++ l.drop k := rfl
theorem zg2 (l : List Val) (k : Nat) (v : Val) (hk : k ≤ l.length) : cutV (putV l k v) k = l := by
  have h1 : (l.take k).length = k := by rw [List.length_take]; omega
  have e : putV l k v = l.take k ++ (v :: l.drop k) := by simp [putV]
  rw [cutV, e, List.take_append_of_le_length (by omega), List.take_of_length_le (by omega), List.drop_append, List.drop_of_length_le (by omega), h1, show k + 1 - k = 1 by omega]
  simp
theorem zhl (l : List Val) (k : Nat) (v : Val) (hk : k ≤ l.length) : valAt (putV l k v) k = v := zb3 (zg1 _ _ _ (by rw [List.length_take]; omega))
theorem zkw (l : List Val) (k : Nat) (hk : k < l.length) : putV (cutV l k) k (valAt l k) = l := by
  have h1 : (l.take k).length = k := by rw [List.length_take]; omega
  simp only [putV, cutV]
  rw [List.take_append_of_le_length (by omega), List.take_of_length_le (l := l.take k) (by omega), List.drop_append, List.drop_of_length_le (l := l.take k) (by omega), h1, Nat.sub_self, List.drop_zero, List.nil_append, ← z81 hk]
  exact List.ext_getElem? fun i => by
    rw [List.getElem?_set]
    split
    · rename_i e; subst e; exact (z1h hk).symm
    · rfl
theorem zdc {l : List Val} {k : Nat} {v : Val} (hk : k < l.length) (hv : valAt l k = v) : l.set k v = l := by
  exact List.ext_getElem? fun i => by
    rw [List.getElem?_set]
    split
    · rename_i e; subst e; rw [z1h hk, hv]
    · rfl
theorem zhm {l : List Val} {k : Nat} {v : Val} (hk : k < l.length) : valAt (l.set k v) k = v := zb3 (List.getElem?_set_self hk)
theorem zg3 {v : Val} (h : v.s = []) : (⟨v.n, []⟩ : Val) = v := by
  obtain ⟨n, s⟩ := v; simp only at h; subst h; rfl
theorem zx9 {s : Sch} {x : Stp} {y : Rec} {g : Frm} (h : (onS s x).2 = 0) (hg : formS s.forms y.form = some g) (hr : hasR g y = true) (he : y.form = x.form) (h10 : x.op ≠ 10) :
    BackP (backOf s x) (onV x y.vals (plcS g x.field)) (plcS ⟨x.form, nextS s x⟩ (backOf s x).field) ∧
      backV (backOf s x) (lostV x g.fields y.vals (plcS g x.field)).1 (lostV x g.fields y.vals (plcS g x.field)).2 (onV x y.vals (plcS g x.field)) (plcS ⟨x.form, nextS s x⟩ (backOf s x).field) = (y.vals, 0) := by
  obtain ⟨h9, hop, hfe, hp⟩ := on_p h hg hr he h10; obtain ⟨_, _, _, hfine⟩ := zda h h9 h10; obtain ⟨_, _, _, _, hs, h4, hrt, hle⟩ := z2a h; have ha := hp.has; have hlen := z14 ha; have hnd : nodupI ((nextS s x).map Fld.id) = true := ((z3k _).1 hfine).2.2.2.2
  by_cases o1 : x.op = 1
  · obtain ⟨k, hk, hkl⟩ := hp.one o1
    have e1 : nextS s x = (oldS s x).take k ++ [x.f] ++ (oldS s x).drop k := by simp only [nextS, o1, if_true, hk, Int.toNat_natCast, putS]
    have e2 : onV x y.vals (plcS g x.field) = putV y.vals k ⟨x.n, x.s⟩ := by simp only [onV, o1, if_true, hk, Int.toNat_natCast]
    have e3 : backOf s x = ⟨21, x.form, x.f.id, 0, 0, 0, 0, fld0, 0, [], [], []⟩ := by simp [backOf, o1]
    have e4 : plcS ⟨x.form, nextS s x⟩ x.f.id = k := zev (zdb hnd (by rw [e1]; exact zg1 _ _ _ (by rw [List.length_take, ← hfe]; omega)) rfl)
    rw [e2, e3]; simp only [e4]; have hpl := z7p y.vals k ⟨x.n, x.s⟩ hkl
    refine ⟨⟨fun _ => by omega, fun h => by simp at h, fun h => by simp at h, fun h => by simp at h, fun h => by simp at h⟩, ?_⟩
    simp only [backV, if_true, zg2 _ _ _ hkl]
  have hlt := hp.lt o1; obtain ⟨k, f, q1, q2, q3⟩ := z5b h o1 h9 h10
  have hnx : nextS s x = newS (oldS s x) x (typesS f x).1 := by simp only [nextS, o1, if_false, q1, Int.toNat_natCast, q2]
  have hoa : ownAt s x = f := by simp only [ownAt, q1, Int.toNat_natCast, q2]
  have q1' := q1; rw [hnx] at hnd ⊢; rw [← hfe] at q1 q2 hnd ⊢
  have hid : f.id = x.field := by
    rcases z4g (p := fun f : Fld => f.id == x.field) (l := g.fields) with ⟨j, f', u1, u2, u3⟩ | u1
    · have u1 : atS g.fields x.field = (j : Int) := u1
      have : j = k := by omega
      subst this; rw [q2] at u2
      cases u2
      simpa using u3
    · have u1 : atS g.fields x.field = -1 := u1
      omega
  have hpk : plcS g x.field = k := zev q1; rw [hpk] at hlt hp ⊢
  have hgf : (g.fields[k]?).getD fld0 = f := by rw [q2]; rfl
  have hv := z2h ha k f _ q2 (z1h hlt); have hi := z4e hv; have hbd := z35 (z41 hv)
  have e0 : ∀ ms : List Fld, x.op ≠ 7 → newS g.fields x ms = g.fields.take k ++ ms ++ g.fields.drop (k + 1) := fun ms h7 => by
    simp only [newS, q1, Int.toNat_natCast, h7, if_false]
    exact zn5 _ _ _ (by omega)
  have ek : ∀ (f' : Fld) (ms : List Fld), x.op ≠ 7 → (typesS f x).1 = f' :: ms → f'.id = x.field → plcS ⟨x.form, newS g.fields x (typesS f x).1⟩ x.field = k := fun f' ms h7 e hid' => by
    refine zev (zdb hnd (f := f') ?_ hid')
    rw [e, e0 _ h7, List.append_assoc, List.getElem?_append_right (by rw [List.length_take]; omega), List.length_take, Nat.min_eq_left (by omega), Nat.sub_self]
    rfl
  by_cases o2 : x.op = 2
  · have e2 : onV x y.vals k = cutV y.vals k := by simp [onV, o2]
    have e3 : backOf s x = ⟨22, x.form, 0, (k : Int), 0, 0, 0, f, x.n, x.s, [], []⟩ := by simp [backOf, o2, hoa, q1']
    have e5 : lostV x g.fields y.vals k = (layV f (valAt y.vals k), true) := by simp [lostV, o2, hgf]
    have e6 := zhj hv []; rw [List.append_nil] at e6; have hcl := z1t y.vals k hlt; rw [e2, e3, e5]
    refine ⟨⟨fun h => by simp at h, fun _ => ⟨k, rfl, by omega⟩, fun h => by simp at h, fun h => by simp at h, fun h => by simp at h⟩, ?_⟩
    simp [backV, e6, zkw _ _ hlt]
  by_cases o3 : x.op = 3
  · have e2 : onV x y.vals k = y.vals := by simp [onV, o3]
    have e3 : backOf s x = ⟨23, x.form, x.field, 0, 0, 0, 0, f, 0, [], [], []⟩ := by simp [backOf, o3, hoa]
    have h6 := zy hrt 6 (by rw [o3]; decide)
    simp [fitsS, o3] at h6
    have e4 := ek x.f [] (by omega) (by simp [typesS, o3]) h6.2
    rw [e2, e3]; simp only [e4]
    refine ⟨⟨fun _ => hlt, fun h => by simp at h, fun h => by simp at h, fun h => by simp at h, fun h => by simp at h⟩, ?_⟩
    simp [backV, hv]
  by_cases o4 : x.op = 4
  · have hsc := zbw hrt o4
    have hst := hp.num (.inl o4); have hsl : (y.vals.set k ⟨affS x.a x.b (valAt y.vals k).n, []⟩).length = y.vals.length := List.length_set ..
    have e2 : onV x y.vals k = y.vals.set k ⟨affS x.a x.b (valAt y.vals k).n, []⟩ := by simp [onV, o4]
    have e3 : backOf s x = ⟨24, x.form, x.field, 0, 0, x.a, x.b, f, 0, [], [], []⟩ := by simp [backOf, o4, hoa]
    have e4 := ek (scaleS f x.a x.b) [] (by omega) (by simp [typesS, o4]) hid
    have ev := zhm (v := ⟨affS x.a x.b (valAt y.vals k).n, []⟩) hlt
    have ea : affS x.a x.b (valAt y.vals k).n = x.a * (valAt y.vals k).n + x.b := z6s hsc.1 hsc.2.2 (by omega)
    have hb1 : -1152921504606846976 ≤ x.a * (valAt y.vals k).n ∧ x.a * (valAt y.vals k).n ≤ 1152921504606846976 := zhi hsc.1 (by omega)
    have e6 : IntKind.i64.wrap (affS x.a x.b (valAt y.vals k).n - x.b) = x.a * (valAt y.vals k).n := by
      rw [ea, Int.add_sub_cancel]
      exact wrap_i64 _ (by omega) (by omega)
    have e7 : (x.a * (valAt y.vals k).n).tdiv x.a = (valAt y.vals k).n := Int.mul_tdiv_cancel_left _ hsc.2.1; have e8 : (x.a * (valAt y.vals k).n).tmod x.a = 0 := Int.mul_tmod_right ..
    have e9 : IntKind.i64.wrap (valAt y.vals k).n = (valAt y.vals k).n := wrap_i64 _ (by omega) (by omega)
    have hv2 : hasV f (valAt y.vals k).n [] = true := by rw [← hst]; exact hv
    rw [e2, e3]; simp only [e4]
    refine ⟨⟨fun _ => by omega, fun h => by simp at h, fun h => by simp at h, fun _ => hsc.2.1, fun h => by simp at h⟩, ?_⟩
    simp only [backV, Int.reduceEq, if_false, if_true, ev, e6, e7, e8, e9, hv2, List.set_set, zg3 hst, zdc hlt rfl]
  by_cases o5 : x.op = 5
  · obtain ⟨n0, n1⟩ := hp.five o5
    have hst := hp.num (.inr (.inl o5)); have htb := zbx hrt o5
    have hj : (valAt y.vals k).n.toNat < x.t.length := by omega
    obtain ⟨m, hm⟩ : ∃ m, m = (x.t[(valAt y.vals k).n.toNat]?).getD 0 := ⟨_, rfl⟩
    have hm2 : x.t[(valAt y.vals k).n.toNat]? = some m := by rw [hm, List.getElem?_eq_getElem hj]; rfl
    have hsl : (y.vals.set k ⟨m, []⟩).length = y.vals.length := List.length_set ..
    have e2 : onV x y.vals k = y.vals.set k ⟨m, []⟩ := by simp [onV, o5, hm]
    have e3 : backOf s x = ⟨25, x.form, x.field, 0, 0, 0, 0, fld0, 0, [], x.t, []⟩ := by simp [backOf, o5]
    have e4 := ek ⟨f.id, 3, 0, 0, x.a⟩ [] (by omega) (by simp [typesS, o5]) hid
    have ev := zhm (v := ⟨m, []⟩) hlt
    have e6 : firstS (· == m) x.t = (valAt y.vals k).n := by
      have e : firstS (· == m) x.t = _ := z7q (fun n : Int => n) x.t _ m (by simpa using htb.2) hm2
      rw [e]; omega
    rw [e2, e3]; simp only [e4]
    refine ⟨⟨fun _ => by omega, fun h => by simp at h, fun h => by simp at h, fun h => by simp at h, fun h => by simp at h⟩, ?_⟩
    simp only [backV, Int.reduceEq, if_false, if_true, ev, e6, n0, List.set_set, zg3 hst, zdc hlt rfl]
  by_cases o6 : x.op = 6
  · obtain ⟨a2, n0⟩ := hp.six o6
    have hst := hp.num (.inr (.inr o6)); simp [typesS, o6] at q3
    have l2 : hiS f = f.hi := by simp [hiS, q3.1]
    have h8 := zy hrt 4 (by rw [o6]; decide)
    simp [fitsS, inS, o6] at h8; obtain ⟨a1, ha1⟩ : ∃ a1, a1 = IntKind.i64.wrap ((valAt y.vals k).n.tdiv x.a) := ⟨_, rfl⟩; obtain ⟨b1, hb1⟩ : ∃ b1, b1 = (valAt y.vals k).n.tmod x.a := ⟨_, rfl⟩; have hsl : (y.vals.set k ⟨a1, []⟩).length = y.vals.length := List.length_set ..
    have e2 : onV x y.vals k = putV (y.vals.set k ⟨a1, []⟩) (k + 1) ⟨b1, []⟩ := by simp [onV, o6, ha1, hb1]
    have e3 : backOf s x = ⟨26, x.form, x.field, 0, x.to, x.a, 0, f, 0, [], [], []⟩ := by simp [backOf, o6, hoa]
    have e4 := ek ⟨f.id, 1, 0, IntKind.i64.wrap (f.hi.tdiv x.a), 0⟩ [⟨x.to, 1, 0, minS f.hi (IntKind.i64.wrap (x.a - 1)), 0⟩] (by omega) (by simp [typesS, o6]) hid
    have hpl := z7p (y.vals.set k ⟨a1, []⟩) (k + 1) ⟨b1, []⟩ (by omega)
    have ev1 : valAt (putV (y.vals.set k ⟨a1, []⟩) (k + 1) ⟨b1, []⟩) (k + 1) = ⟨b1, []⟩ := zhl _ _ _ (by omega)
    have ev0 : valAt (putV (y.vals.set k ⟨a1, []⟩) (k + 1) ⟨b1, []⟩) k = ⟨a1, []⟩ := by
      refine zb3 ?_
      rw [zx8, List.append_assoc, List.getElem?_append_left (by rw [List.length_take]; omega), List.getElem?_take_of_lt (by omega), List.getElem?_set_self hlt]
    have d1 : a1 = (valAt y.vals k).n / x.a := by
      rw [ha1, Int.tdiv_eq_ediv_of_nonneg n0]; have := Int.ediv_le_self x.a n0
      have := Int.ediv_nonneg n0 (show 0 ≤ x.a by omega)
      exact wrap_i64 _ (by omega) (by omega)
    have d2 : b1 = (valAt y.vals k).n % x.a := by rw [hb1, Int.tmod_eq_emod_of_nonneg n0]
    have d3 : a1 * x.a + b1 = (valAt y.vals k).n := by rw [d1, d2, Int.mul_comm]; exact Int.mul_ediv_add_emod _ _
    have d4 := Int.emod_nonneg (valAt y.vals k).n (show x.a ≠ 0 by omega)
    have d5 : 0 ≤ a1 * x.a := by rw [d1]; exact Int.mul_nonneg (Int.ediv_nonneg n0 (by omega)) (by omega)
    have e6 : IntKind.i64.wrap (IntKind.i64.wrap (a1 * x.a) + b1) = (valAt y.vals k).n := by
      rw [wrap_i64 (a1 * x.a) (by omega) (by omega), d3]
      exact wrap_i64 _ (by omega) (by omega)
    have hv2 : hasV f (valAt y.vals k).n [] = true := by rw [← hst]; exact hv
    rw [e2, e3]; simp only [e4]
    refine ⟨⟨fun _ => by omega, fun h => by simp at h, fun h => by simp at h, fun h => by simp at h, fun _ => by omega⟩, ?_⟩
    simp only [backV, Int.reduceEq, if_false, if_true, ev0, ev1, e6, hv2, zg2 _ _ _ (show k + 1 ≤ (y.vals.set k ⟨a1, []⟩).length by omega), List.set_set, zg3 hst, zdc hlt rfl]
  by_cases o7 : x.op = 7
  · obtain ⟨m, hm, hml⟩ := hp.sev o7
    have hcl := z1t y.vals k hlt
    have e2 : onV x y.vals k = putV (cutV y.vals k) m (valAt y.vals k) := by simp [onV, o7, hm]
    have e3 : backOf s x = ⟨27, x.form, x.field, (k : Int), 0, 0, 0, fld0, 0, [], [], []⟩ := by simp [backOf, o7, q1']
    have e4 : plcS ⟨x.form, newS g.fields x (typesS f x).1⟩ x.field = m := by
      refine zev (zdb hnd (f := f) ?_ hid)
      have : newS g.fields x (typesS f x).1 = (cutS g.fields k).take m ++ [f] ++ (cutS g.fields k).drop m := by simp [newS, q1, o7, hm, putS, typesS]
      rw [this]
      exact zg1 _ _ _ (by simp [cutS]; omega)
    have hpl := z7p (cutV y.vals k) m (valAt y.vals k) (by omega)
    rw [e2, e3]; simp only [e4]
    refine ⟨⟨fun _ => by omega, fun h => by simp at h, fun _ => ⟨k, rfl, by omega⟩, fun h => by simp at h, fun h => by simp at h⟩, ?_⟩
    simp only [backV, Int.reduceEq, if_false, if_true, zg2 _ _ _ (show m ≤ (cutV y.vals k).length by omega), zhl _ _ _ (show m ≤ (cutV y.vals k).length by omega), Int.toNat_natCast, zkw _ _ hlt]
  · have o8 : x.op = 8 := by omega
    have e2 : onV x y.vals k = y.vals := by simp [onV, o8]
    have e3 : (backOf s x).op = 28 := by simp [backOf, o8]
    rw [e2]
    refine ⟨⟨fun h => by omega, fun h => by omega, fun h => by omega, fun h => by omega, fun h => by omega⟩, ?_⟩
    simp [backV, e3]
end V
namespace V
def turnBS (s : Sch) (x : Stp) (y : Rec) (z : List UInt8) (q : Bool) : Rec × Int :=
  if (onS s x).2 ≠ 0 then (rec0, (onS s x).2)
  else match formS (onS s x).1.forms y.form with
    | none => (rec0, 16)
    | some g =>
      if hasR g y = false then (rec0, 16)
      else if y.form ≠ x.form then (y, 0)
      else if (backV (backOf s x) z q y.vals (plcS g (backOf s x).field)).2 ≠ 0 then (rec0, (backV (backOf s x) z q y.vals (plcS g (backOf s x).field)).2)
      else (⟨y.form, (backV (backOf s x) z q y.vals (plcS g (backOf s x).field)).1⟩, 0)
theorem zzi {s : Sch} {x : Stp} (h : (onS s x).2 = 0) : (backOf s x).t.length ≤ 1000000 := by
  obtain ⟨_, _, _, _, hs, h4, hrt, hle⟩ := z2a h; unfold backOf
  repeat' split
  all_goals first
    | (simp; done)
    | (rename_i o5; have := zn4 hrt o5; simp only; omega)
theorem zxa (s : Sch) (x : Stp) (y : Rec) (z : List UInt8) (q : Bool) (hs : Few s) (hm : x.sml) (ho : x.ok) (hy : y.vals.length ≤ 1000) (hz : z.length ≤ 1000000)
    (hB : ∀ g, (onS s x).2 = 0 → formS (onS s x).1.forms y.form = some g → hasR g y = true → y.form = x.form → BackP (backOf s x) y.vals (plcS g (backOf s x).field)) :
    tbl E0 15 [schV s, stpV x, recV y, .str z, .bool q] [] = some ([recV (turnBS s x y z q).1, iV (turnBS s x y z q).2], []) := zw6 s x y z q (by
  have c1 := c_gOn s x hs hm ho; have c2 := zrp s x hs hm ho; simp only [schV, frmsV, stpV, stpC, intsV, fldsV] at c1 c2; simp only [zmn, za, zr, c1, Option.bind_some, u_asC, u_asA, u_asI, u_asB, u_asL, u_asN, turnBS]
  by_cases h0 : (onS s x).2 = 0
  · have t0 : ((onS s x).2 != 0) = false := by rw [h0]; rfl
    have n0 : ¬ ((onS s x).2 ≠ 0) := by simpa using h0
    have hi : invS s x = (backOf s x, 0) := by simp [invS, h0]
    rw [hi] at c2; have e0 : ((0 : Int) != 0) = false := rfl; have hs' := zrg (z8w h0); have c3 := c_tof (onS s x).1 y (backOf s x).field hs' hy; simp only [schV, frmsV, recV, recC, valsV, valsU] at c3; simp only [t0, cond_false, c2, Option.bind_some, u_asC, u_asA, u_asI, u_asS, u_asL, u_asN, e0, c3, n0, if_false]
    rcases z25 (onS s x).1.forms y.form with ⟨j, g, h1, h2, h3⟩ | ⟨h1, h2⟩
    · simp only [h1]
      rcases bor (hasR g y) with hb | hb
      · have fl := zt y.vals
        simp only [hb, if_true, Option.bind_some, frmV, fldsV, u_asC, u_asA, u_asI, u_asL, u_asN, zd, Bool.true_eq_false, if_false, e0, cond_false]
        by_cases he : y.form = x.form
        · have te : (y.form == x.form) = true := by simpa using he
          have ne : ¬ (y.form ≠ x.form) := by simpa using he
          have c4 := zx6 (backOf s x) z q y.vals (plcS g (backOf s x).field) (hB g h0 h1 hb he) hy hz (zzi h0)
          have e3 : (if atS g.fields (backOf s x).field < 0 then 0 else atS g.fields (backOf s x).field) = ((plcS g (backOf s x).field : Nat) : Int) := by
            unfold plcS; split <;> omega
          have q2 := zt (backV (backOf s x) z q y.vals (plcS g (backOf s x).field)).1; simp only [stpV, stpC, intsV, fldsV, atO, valsU] at c4; simp only [te, cond_true, ne, if_false, fl, e3, c4, Option.bind_some, u_asC, nbeq, decide_true, zd, u_asI, u_asN]
          by_cases hc : (backV (backOf s x) z q y.vals (plcS g (backOf s x).field)).2 = 0
          · have tc : ((backV (backOf s x) z q y.vals (plcS g (backOf s x).field)).2 != 0) = false := by rw [hc]; rfl
            have nc : ¬ ((backV (backOf s x) z q y.vals (plcS g (backOf s x).field)).2 ≠ 0) := by simpa using hc
            simp only [tc, cond_false, q2, cond_true, nc, if_false, recV, recC, valsV]
          · have tc := bne_t hc
            simp only [tc, cond_true, hc, ne_eq, not_false_eq_true, if_true, recV, recC, valsV, rec0, List.map_nil]
        · have te := beq_f he
          simp only [te, cond_false, fl, cond_true, he, ne_eq, not_false_eq_true, if_true, recV, recC, valsV]
      · have e1 : ((16 : Int) != 0) = true := rfl
        simp only [hb, Bool.false_eq_true, if_false, Option.bind_some, frmV, fldsV, u_asC, u_asA, u_asI, u_asL, u_asN, zd, e1, cond_true, if_true, rec0, recV, recC, valsV, List.map_nil]
    · have e1 : ((16 : Int) != 0) = true := rfl
      simp only [h1, Option.bind_some, frmV, fldsV, u_asC, u_asA, u_asI, u_asL, u_asN, zd, e1, cond_true, rec0, recV, recC, valsV, List.map_nil]
  · have t0 : ((onS s x).2 != 0) = true := bne_t h0
    simp only [t0, cond_true, h0, ne_eq, not_false_eq_true, if_true, rec0, recV, recC, valsV, List.map_nil])
theorem zrt (s : Sch) (x : Stp) (z : List UInt8) (g : Frm) (hs : Few s) (hm : x.sml) (ho : x.ok) (hz : z.length ≤ 1000000) (h : (onS s x).2 = 0) (h10 : x.op = 10) (hg : formS s.forms x.form = some g) (hr : (takesR g z).2 = 0) :
    tbl E0 10 [schV s, stpV x, .str z] [] = some ([recV (takesR g z).1, iV 0], []) := zq6 s x z (by
  have c1 := c_gOn s x hs hm ho; have c2 := zbd s x.form hs.sml; rw [hg] at c2
  have hgl : g.fields.length ≤ 1000 := by
    rcases z25 s.forms x.form with ⟨j, g', h1, h2, h3⟩ | ⟨h1, h2⟩
    · rw [hg] at h1; cases h1; exact hs.2 g (List.mem_of_getElem? h3)
    · rw [hg] at h1; cases h1
  have c3 := zx5 g z hgl hz
  have t0 : ((onS s x).2 != 0) = false := by rw [h]; rfl
  have t1 : (x.op != 10) = false := by rw [h10]; rfl
  have e0 : ((0 : Int) != 0) = false := rfl; rw [hr] at c3; simp only [schV, frmsV, stpV, stpC, intsV, fldsV, frmV, recV, recC, valsV] at c1 c2 c3; simp only [zgw, za, c1, Option.bind_some, u_asC, u_asA, u_asI, u_asB, u_asL, u_asN, t0, t1, cond_false, c2, c3, e0, recV, recC, valsV])
end V
namespace V
variable {H : Type}
theorem zew {t : Nat} {d : DataW H} {m : Nat} {xs : List AV} (h : FitAll T0 m [t] [d] xs) : ∃ x ys, xs = [x] ∧ Fit T0 m t d ys ∧ ElemOf (T0.ty t) x ys := by
  obtain ⟨d', ds, x, xs', e1, rfl, ⟨ys, h0, h1⟩, h⟩ := zg h; obtain ⟨rfl, rfl⟩ := z2g h
  cases e1
  exact ⟨x, ys, rfl, h0, h1⟩
end V
namespace V
variable {H : Type}
theorem z8z {α β : Type} {q : β → Prop} : ∀ {l : List α} {r : List β}, Each (fun _ b => q b) l r → ∀ {b : β}, b ∈ r → q b := by
  intro l r h b hb; obtain ⟨i, hi, e⟩ := List.mem_iff_getElem.1 hb
  obtain ⟨a, _, h2⟩ := h.get i b (by rw [← e]; exact List.getElem?_eq_getElem hi)
  exact h2
theorem zn6 {n : Nat} {d : DataW H} {xs : List AV} (hf : Fit T0 (n + 2) 26 d xs) : ∃ f : Fld, f.ok ∧ xs = fldC f := by
  obtain ⟨ds, yss, rfl, rfl, h⟩ := z31 (fs := [(0, 3), (1, 3), (2, 3), (3, 3), (4, 3)]) (by kernel_rfl) hf
  obtain ⟨d0, ds, y0, yss, rfl, rfl, h0, h⟩ := zg h; obtain ⟨d1, ds, y1, yss, rfl, rfl, h1, h⟩ := zg h; obtain ⟨d2, ds, y2, yss, rfl, rfl, h2, h⟩ := zg h; obtain ⟨d3, ds, y3, yss, rfl, rfl, h3, h⟩ := zg h; obtain ⟨d4, ds, y4, yss, rfl, rfl, h4, h⟩ := zg h; obtain ⟨rfl, rfl⟩ := z2g h
  obtain ⟨a, ha, rfl, rfl⟩ := z1k (by kernel_rfl) h0
  obtain ⟨b, hb, rfl, rfl⟩ := z1k (by kernel_rfl) h1
  obtain ⟨c, hc, rfl, rfl⟩ := z1k (by kernel_rfl) h2
  obtain ⟨e, he, rfl, rfl⟩ := z1k (by kernel_rfl) h3
  obtain ⟨g, hg, rfl, rfl⟩ := z1k (by kernel_rfl) h4
  exact ⟨⟨a, b, c, e, g⟩, ⟨ha, hb, hc, he, hg⟩, rfl⟩
theorem zkx {n : Nat} {d : DataW H} {xs : List AV} (hf : Fit T0 (n + 3) 30 d xs) : ∃ l : List Fld, (∀ f ∈ l, f.ok) ∧ xs = [fldsV l] := by
  obtain ⟨ds, sp, l, hd, rfl, h⟩ := z4c (e := 26) (by kernel_rfl) hf
  obtain ⟨cs, rfl, hq⟩ := z40 (f := fldV) (Q := fun d f => f.ok) (fun d x ⟨ys, h1, h2⟩ => by
    obtain ⟨f, hf, rfl⟩ := zn6 h1
    exact ⟨f, z56 (by kernel_rfl) h2, hf⟩) h
  exact ⟨cs, fun f hf => z8z hq hf, rfl⟩
theorem zxb {n : Nat} {d : DataW H} {xs : List AV} (hf : Fit T0 (n + 4) 57 d xs) : ∃ f : Frm, f.ok ∧ xs = [iV f.id, fldsV f.fields] := by
  obtain ⟨ds, yss, rfl, rfl, h⟩ := z31 (fs := [(0, 3), (1, 30)]) (by kernel_rfl) hf
  obtain ⟨d0, ds, y0, yss, rfl, rfl, h0, h⟩ := zg h; obtain ⟨d1, ds, y1, yss, rfl, rfl, h1, h⟩ := zg h; obtain ⟨rfl, rfl⟩ := z2g h
  obtain ⟨a, ha, rfl, rfl⟩ := z1k (by kernel_rfl) h0
  obtain ⟨l, hl, rfl⟩ := zkx h1; exact ⟨⟨a, l⟩, ⟨ha, hl⟩, rfl⟩
theorem zut {n : Nat} {d : DataW H} {xs : List AV} (hf : Fit T0 (n + 5) 22 d xs) : ∃ l : List Frm, (∀ f ∈ l, f.ok) ∧ xs = [frmsV l] := by
  obtain ⟨ds, sp, l, hd, rfl, h⟩ := z4c (e := 57) (by kernel_rfl) hf
  obtain ⟨cs, rfl, hq⟩ := z40 (f := frmV) (Q := fun d f => f.ok) (fun d x ⟨ys, h1, h2⟩ => by
    obtain ⟨f, hf, rfl⟩ := zxb h1
    exact ⟨f, z56 (by kernel_rfl) h2, hf⟩) h
  exact ⟨cs, fun f hf => z8z hq hf, rfl⟩
theorem zxc {n : Nat} {d : DataW H} {xs : List AV} (hf : Fit T0 (n + 6) 24 d xs) : ∃ s : Sch, s.ok ∧ xs = [iV s.ver, frmsV s.forms] := by
  obtain ⟨ds, yss, rfl, rfl, h⟩ := z31 (fs := [(0, 3), (1, 22)]) (by kernel_rfl) hf
  obtain ⟨d0, ds, y0, yss, rfl, rfl, h0, h⟩ := zg h; obtain ⟨d1, ds, y1, yss, rfl, rfl, h1, h⟩ := zg h; obtain ⟨rfl, rfl⟩ := z2g h
  obtain ⟨a, ha, rfl, rfl⟩ := z1k (by kernel_rfl) h0
  obtain ⟨l, hl, rfl⟩ := zut h1; exact ⟨⟨a, l⟩, ⟨ha, hl⟩, rfl⟩
end V
namespace V
variable {H : Type}
theorem zuu {n : Nat} {d : DataW H} {xs : List AV} (hf : Fit T0 (n + 2) 29 d xs) : ∃ l : List Int, (∀ n ∈ l, i64 n) ∧ xs = [intsV l] := by
  obtain ⟨ds, sp, l, hd, rfl, h⟩ := z4c (e := 3) (by kernel_rfl) hf
  obtain ⟨cs, rfl, hq⟩ := z40 (f := fun n => iV n) (Q := fun d n => i64 n) (fun d x ⟨ys, h1, h2⟩ => by
    obtain ⟨a, ha, rfl, rfl⟩ := z1k (by kernel_rfl) h1
    have q := zj1 (by kernel_rfl) h2
    injection q with q; exact ⟨a, q.symm, ha⟩) h
  exact ⟨cs, fun f hf => z8z hq hf, rfl⟩
theorem zn7 {n : Nat} {d : DataW H} {xs : List AV} (hf : Fit T0 (n + 2) 28 d xs) : ∃ (a : Int) (s : List UInt8), i64 a ∧ xs = [iV a, .str s] := by
  obtain ⟨ds, yss, rfl, rfl, h⟩ := z31 (fs := [(0, 3), (1, 9)]) (by kernel_rfl) hf
  obtain ⟨d0, ds, y0, yss, rfl, rfl, h0, h⟩ := zg h; obtain ⟨d1, ds, y1, yss, rfl, rfl, h1, h⟩ := zg h; obtain ⟨rfl, rfl⟩ := z2g h
  obtain ⟨a, ha, rfl, rfl⟩ := z1k (by kernel_rfl) h0
  obtain ⟨s, rfl, rfl⟩ := zvj (by kernel_rfl) h1
  exact ⟨a, s, ha, rfl⟩
theorem zn8 {n : Nat} {d : DataW H} {xs : List AV} (hf : Fit T0 (n + 4) 32 d xs) : ∃ x : Stp, x.ok ∧ xs = stpC x := by
  obtain ⟨ds, yss, rfl, rfl, h⟩ := z31 (fs := [(0, 3), (1, 3), (2, 3), (3, 3), (4, 3), (5, 3), (6, 3), (7, 26), (12, 28), (14, 29), (15, 30)]) (by kernel_rfl) hf
  obtain ⟨d0, ds, y0, yss, rfl, rfl, h0, h⟩ := zg h; obtain ⟨d1, ds, y1, yss, rfl, rfl, h1, h⟩ := zg h; obtain ⟨d2, ds, y2, yss, rfl, rfl, h2, h⟩ := zg h; obtain ⟨d3, ds, y3, yss, rfl, rfl, h3, h⟩ := zg h; obtain ⟨d4, ds, y4, yss, rfl, rfl, h4, h⟩ := zg h; obtain ⟨d5, ds, y5, yss, rfl, rfl, h5, h⟩ := zg h; obtain ⟨d6, ds, y6, yss, rfl, rfl, h6, h⟩ := zg h; obtain ⟨d7, ds, y7, yss, rfl, rfl, h7, h⟩ := zg h
  obtain ⟨d8, ds, y8, yss, rfl, rfl, h8, h⟩ := zg h; obtain ⟨d9, ds, y9, yss, rfl, rfl, h9, h⟩ := zg h; obtain ⟨dA, ds, yA, yss, rfl, rfl, hA, h⟩ := zg h; obtain ⟨rfl, rfl⟩ := z2g h
  obtain ⟨a0, i0, rfl, rfl⟩ := z1k (by kernel_rfl) h0
  obtain ⟨a1, i1, rfl, rfl⟩ := z1k (by kernel_rfl) h1
  obtain ⟨a2, i2, rfl, rfl⟩ := z1k (by kernel_rfl) h2
  obtain ⟨a3, i3, rfl, rfl⟩ := z1k (by kernel_rfl) h3
  obtain ⟨a4, i4, rfl, rfl⟩ := z1k (by kernel_rfl) h4
  obtain ⟨a5, i5, rfl, rfl⟩ := z1k (by kernel_rfl) h5
  obtain ⟨a6, i6, rfl, rfl⟩ := z1k (by kernel_rfl) h6
  obtain ⟨f, i7, rfl⟩ := zn6 h7; obtain ⟨a8, s, i8, rfl⟩ := zn7 h8; obtain ⟨t, i9, rfl⟩ := zuu h9; obtain ⟨fs, iA, rfl⟩ := zkx hA; exact ⟨⟨a0, a1, a2, a3, a4, a5, a6, f, a8, s, t, fs⟩, ⟨i0, i1, i2, i3, i4, i5, i6, i7, i8, i9, iA⟩, rfl⟩
end V
namespace V
variable {H : Type}
set_option maxRecDepth 1000000 in
theorem z4h : tbl E0 6 [] [] = some ([.bool true], []) := z4b.2 ⟨60, by kernel_rfl⟩
def grt19 (s : Sch) (x : Stp) (y : Rec) : Bool := (s.forms.take 41).any big || (decide (40 < s.forms.length) || (greatT [x] || decide (40 < y.vals.length)))
theorem zli (s : Sch) (x : Stp) (y : Rec) : ∀ (r : List Frm) (i : Nat), s.forms.drop i = r → i ≤ 41 →
    ltbl E0 5 0 2 [iV i] [caseC s x y] = some (if (r.take (41 - i)).any big then (0, [.bool true], []) else (1, [], [caseC s x y])) := by
  intro r
  induction r with
  | nil =>
    intro i hr hi
    have h : s.forms.length ≤ i := by simpa using hr
    refine zbr _ _ _ _ ?_
    have : ¬ ((i : Int) < s.forms.length) := by omega
    simp [z5h, this]
  | cons f r ih =>
    intro i hr hi; obtain ⟨hlt, hget, hr2⟩ := zu hr
    have h2 : (i : Int) < s.forms.length := by omega
    have e1 := zj (i := i) (by omega)
    refine zbr _ _ _ _ ?_
    by_cases h41 : i < 41
    · have h := ih (i + 1) hr2 (by omega)
      have h3 : (i : Int) < 41 := by omega
      have e2 : 41 - i = (41 - (i + 1)) + 1 := by omega
      rw [e2, List.take_succ_cons, List.any_cons]; simp only [caseC, stpC, recC, fldsV, intsV, frmsV, valsV, List.cons_append, List.nil_append] at h; simp only [z5h, zh, zo, List.length_map, h2, h3, decide_true, cond_true, Option.bind_some, Tok.untok_tok, z9, Int.natCast_nonneg, nthE, Int.toNat_natCast, List.getElem?_map, hget, Option.map_some, u_asA, u_asC, u_asI, u_asB, u_asL, u_asN, e1, h]
      by_cases b : 40 < f.fields.length
      · have b' : (f.fields.length : Int) > 40 := by omega
        simp [big, b, b']
      · have b' : ¬ ((f.fields.length : Int) > 40) := by omega
        simp [big, b, b']
    · have h3 : ¬ ((i : Int) < 41) := by omega
      have e2 : 41 - i = 0 := by omega
      simp [z5h, h2, h3, e2]
theorem zex (s : Sch) (x : Stp) (y : Rec) : tbl E0 5 [.agg (caseC s x y)] [] = some ([.bool (grt19 s x y)], []) := zo7 s x y (by
  have e := zli s x y s.forms 0 rfl (by omega)
  have g := ztz [x]; simp only [Int.natCast_zero, Nat.sub_zero, caseC, stpC, recC, fldsV, intsV, frmsV, valsV, List.cons_append, List.nil_append] at e; simp only [stpsV, stpV, stpC, intsV, fldsV, List.map_cons, List.map_nil] at g; simp only [ze6, ze, e, grt19]
  by_cases b : ((s.forms.take 41).any big) = true
  · simp [b]
  · have b : ((s.forms.take 41).any big) = false := by simpa using b
    simp only [b, Bool.false_eq_true, if_false, Option.bind_some, nbeq, u_asN, u_asC, u_asI, u_asS, u_asL, List.length_map]
    by_cases c : 40 < s.forms.length
    · have c' : (s.forms.length : Int) > 40 := by omega
      simp [c, c']
    · have c' : ¬ ((s.forms.length : Int) > 40) := by omega
      simp only [c, c', decide_false, cond_false, za, g, Option.bind_some, u_asC, u_asB, u_asN, Bool.false_or]
      rcases bor (greatT [x]) with d | d
      · simp [d]
      · by_cases v : 40 < y.vals.length
        · have v' : (y.vals.length : Int) > 40 := by omega
          simp [d, v, v']
        · have v' : ¬ ((y.vals.length : Int) > 40) := by omega
          simp [d, v, v'])
theorem zhn {s : Sch} {x : Stp} {y : Rec} (h : grt19 s x y = false) : Few s ∧ x.sml ∧ y.vals.length ≤ 40 := by
  unfold grt19 at h; simp only [greatT, Bool.or_eq_false_iff, decide_eq_false_iff_not, List.any_eq_false, big, decide_eq_true_eq] at h
  refine ⟨⟨by omega, fun f hf => ?_⟩, ?_, by omega⟩
  · have := h.1 f (by rw [List.take_of_length_le (by omega)]; exact hf)
    omega
  · have := h.2.2.1.1 x (by simp)
    simp only [bigT, Bool.or_eq_true, decide_eq_true_eq, not_or] at this
    exact ⟨by omega, by omega⟩
theorem zey {s : Sch} {x : Stp} {y : Rec} (hy : y.vals.length ≤ 40) : (turnS s x y).1.rcd.vals.length ≤ 1000 := by
  unfold turnS
  split
  · simp [don0, rec0]
  split
  · simp [don0, rec0]
  split
  · simp [don0, rec0]
  split
  · simp; omega
  split
  · simp [rec0]
  · simp only [onV, putV, cutV]
    repeat' split
    all_goals first | omega | (simp; done) | (simp; omega)
theorem zuw {n : Nat} {d : DataW H} {xs : List AV} (hf : Fit T0 (n + 3) 33 d xs) : ∃ l : List Val, xs = [valsV l] := by
  obtain ⟨ds, sp, l, hd, rfl, h⟩ := z4c (e := 28) (by kernel_rfl) hf
  obtain ⟨cs, rfl, hq⟩ := z40 (f := valV) (Q := fun d f => True) (fun d x ⟨ys, h1, h2⟩ => by
    obtain ⟨a, s, ha, rfl⟩ := zn7 h1
    exact ⟨⟨a, s⟩, z56 (by kernel_rfl) h2, trivial⟩) h
  exact ⟨cs, rfl⟩
theorem zxd {n : Nat} {d : DataW H} {xs : List AV} (hf : Fit T0 (n + 4) 35 d xs) : ∃ y : Rec, i64 y.form ∧ xs = recC y := by
  obtain ⟨ds, yss, rfl, rfl, h⟩ := z31 (fs := [(0, 3), (1, 33)]) (by kernel_rfl) hf
  obtain ⟨d0, ds, y0, yss, rfl, rfl, h0, h⟩ := zg h; obtain ⟨d1, ds, y1, yss, rfl, rfl, h1, h⟩ := zg h; obtain ⟨rfl, rfl⟩ := z2g h
  obtain ⟨a, ha, rfl, rfl⟩ := z1k (by kernel_rfl) h0
  obtain ⟨l, rfl⟩ := zuw h1; exact ⟨⟨a, l⟩, ha, rfl⟩
theorem zky {n : Nat} {d : DataW H} {xs : List AV} (hf : Fit T0 (n + 7) 37 d xs) : ∃ (s : Sch) (x : Stp) (y : Rec), s.ok ∧ x.ok ∧ xs = caseC s x y := by
  obtain ⟨ds, yss, rfl, rfl, h⟩ := z31 (fs := [(0, 24), (2, 32), (18, 35)]) (by kernel_rfl) hf
  obtain ⟨d0, ds, y0, yss, rfl, rfl, h0, h⟩ := zg h; obtain ⟨d1, ds, y1, yss, rfl, rfl, h1, h⟩ := zg h; obtain ⟨d2, ds, y2, yss, rfl, rfl, h2, h⟩ := zg h; obtain ⟨rfl, rfl⟩ := z2g h; obtain ⟨s, hs, rfl⟩ := zxc h0; obtain ⟨x, hx, rfl⟩ := zn8 h1; obtain ⟨y, hy, rfl⟩ := zxd h2
  exact ⟨s, x, y, hs, hx, by simp [caseC]⟩
end V
namespace V
variable {H : Type}
theorem z6t {l : List Frm} {id : Int} {j : Nat} {g : Frm} (h1 : findS l id = (j : Int)) (h2 : l[j]? = some g) : formS l id = some g := by
  rcases z25 l id with ⟨j', g', e1, e2, e3⟩ | ⟨e1, e2⟩
  · have : j' = j := by omega
    subst this; rw [h2] at e3; rw [e1, e3]
  · omega
theorem zxe {l : List Frm} {id : Int} {g : Frm} (h : formS l id = some g) : g.id = id := by
  have := List.find?_some h
  simpa using this
theorem zxf {g : Frm} {y : Rec} (h : hasR g y = true) : y.form = g.id := by
  simp only [hasR, Bool.and_eq_true] at h
  simpa using h.2.1
theorem zrw {s : Sch} {x : Stp} {y : Rec} (h0 : (turnS s x y).2 = 0) (hg : (turnS s x y).1.gone = false) : (onS s x).2 = 0 ∧ (∃ (j : Nat) (g : Frm), findS (onS s x).1.forms (turnS s x y).1.rcd.form = (j : Int) ∧ (onS s x).1.forms[j]? = some g ∧ hasR g (turnS s x y).1.rcd = true ∧
      ((turnS s x y).1.rcd.form = x.form → BackP (backOf s x) (turnS s x y).1.rcd.vals (plcS g (backOf s x).field))) ∧ turnBS s x (turnS s x y).1.rcd (turnS s x y).1.lost (turnS s x y).1.has = (y, 0) := by
  unfold turnS at h0 hg ⊢
  by_cases ho : (onS s x).2 = 0
  · have n0 : ¬ ((onS s x).2 ≠ 0) := by simpa using ho
    simp only [n0, if_false] at h0 hg ⊢
    cases hf : formS s.forms y.form with
    | none => rw [hf] at h0; simp at h0
    | some g =>
      rw [hf] at h0 hg; simp only at h0 hg ⊢
      rcases bor (hasR g y) with hb | hb
      · simp only [hb, Bool.true_eq_false, if_false] at h0 hg ⊢
        have hid := zxe hf
        by_cases he : y.form = x.form
        · have ne : ¬ (y.form ≠ x.form) := by simpa using he
          simp only [ne, if_false] at h0 hg ⊢
          by_cases o10 : x.op = 10
          · simp [o10] at hg
          · simp only [o10, if_false]
            obtain ⟨h9, _, _, _⟩ := on_p ho hf hb he o10; obtain ⟨j, j1, j2, _⟩ := zda ho h9 o10; have hk := zus ho hf hb he o10; obtain ⟨b1, b2⟩ := zx9 ho hf hb he o10
            refine ⟨ho, ⟨j, ⟨x.form, nextS s x⟩, by rw [he]; exact j1, j2, hk, fun _ => b1⟩, ?_⟩
            unfold turnBS; rw [if_neg n0, he, z6t j1 j2]; simp only; rw [he] at hk; simp only [hk, Bool.true_eq_false, if_false, ne_eq, not_true_eq_false]; rw [b2]; simp only [not_true_eq_false, if_false]; rw [← he]
        · simp only [he, ne_eq, not_false_eq_true, if_true]
          rcases z25 s.forms y.form with ⟨j0, g0, u1, u2, u3⟩ | ⟨u1, u2⟩
          · rw [hf] at u1; cases u1
            obtain ⟨j, j1, j2⟩ := (zuq ho).2 g (List.mem_of_getElem? u3) (by rw [hid]; exact he)
            rw [hid] at j1
            refine ⟨ho, ⟨j, g, j1, j2, hb, fun h => by first | exact absurd h he | exact h.elim⟩, ?_⟩
            unfold turnBS; rw [if_neg n0, z6t j1 j2]; simp only [hb, Bool.true_eq_false, if_false, he, ne_eq, not_false_eq_true, if_true]
          · rw [hf] at u1; cases u1
      · simp [hb] at h0
  · simp only [ho, ne_eq, not_false_eq_true, if_true] at h0
theorem zux {s : Sch} {x : Stp} {y : Rec} (h : (turnS s x y).2 ≠ 0) : (turnS s x y).1 = don0 := by
  unfold turnS at h ⊢
  split
  · rfl
  split
  · rfl
  split
  · rfl
  rename_i n0 _ g hf hb; rw [if_neg n0] at h; simp only [hf] at h; rw [if_neg hb] at h; exfalso
  revert h
  split
  · simp
  split <;> simp
theorem zrx {s : Sch} {x : Stp} {y : Rec} (h0 : (turnS s x y).2 = 0) (hg : (turnS s x y).1.gone = true) : (onS s x).2 = 0 ∧ x.op = 10 ∧ ∃ g, formS s.forms x.form = some g ∧ hasR g y = true ∧ turnS s x y = (⟨rec0, true, true, layR g.fields y.vals⟩, 0) := by
  unfold turnS at h0 hg ⊢
  by_cases ho : (onS s x).2 = 0
  · have n0 : ¬ ((onS s x).2 ≠ 0) := by simpa using ho
    simp only [n0, if_false] at h0 hg ⊢
    cases hf : formS s.forms y.form with
    | none => rw [hf] at h0; simp at h0
    | some g =>
      rw [hf] at h0 hg; simp only at h0 hg ⊢
      rcases bor (hasR g y) with hb | hb
      · simp only [hb, Bool.true_eq_false, if_false] at h0 hg ⊢
        by_cases he : y.form = x.form
        · have ne : ¬ (y.form ≠ x.form) := by simpa using he
          simp only [ne, if_false] at h0 hg ⊢
          by_cases o10 : x.op = 10
          · exact ⟨ho, o10, g, by rw [← he]; exact hf, hb, by rw [if_pos o10]⟩
          · simp [o10] at hg
        · simp [he] at hg
      · simp [hb] at h0
  · simp only [ho, ne_eq, not_false_eq_true, if_true] at h0
theorem zor {s : Sch} {x : Stp} {y : Rec} (h0 : (turnS s x y).2 = 0) (hg : (turnS s x y).1.gone = false) : (turnS s x y).1.lost.length ≤ 1000000 := by
  unfold turnS at h0 hg ⊢
  by_cases ho : (onS s x).2 = 0
  · have n0 : ¬ ((onS s x).2 ≠ 0) := by simpa using ho
    simp only [n0, if_false] at h0 hg ⊢
    cases hf : formS s.forms y.form with
    | none => simp [don0]
    | some g =>
      rw [hf] at h0 hg; simp only at h0 hg ⊢
      rcases bor (hasR g y) with hb | hb
      · simp only [hb, Bool.true_eq_false, if_false] at h0 hg ⊢
        by_cases he : y.form = x.form
        · have ne : ¬ (y.form ≠ x.form) := by simpa using he
          simp only [ne, if_false] at h0 hg ⊢
          by_cases o10 : x.op = 10
          · simp [o10] at hg
          · simp only [o10, if_false, lostV]
            split
            · rename_i o2
              obtain ⟨h9, _, hfe, hp⟩ := on_p ho hf hb he o10
              have hlt := hp.lt (by omega)
              have hlen := z14 hp.has
              have hq : g.fields[plcS g x.field]? = some ((g.fields[plcS g x.field]?).getD fld0) := by rw [List.getElem?_eq_getElem (by omega)]; rfl
              have := z61 (z2h hp.has _ _ _ hq (z1h hlt)); show (layV _ _).length ≤ 1000000; omega
            · simp
        · simp [he]
      · simp [hb, don0]
  · simp [ho, don0]
theorem zos (s : Sch) (x : Stp) (y : Rec) (ho : x.ok) : tbl E0 4 [.agg (caseC s x y)] [] = some ([.bool true], []) := zo6 s x y (by
  have c0 := zex s x y; simp only [caseC, stpC, recC, fldsV, intsV, frmsV, valsV, List.cons_append, List.nil_append] at c0; simp only [ze5, za, c0, Option.bind_some, u_asC, u_asB, u_asN]
  rcases bor (grt19 s x y) with hb | hb
  · simp only [hb, cond_true, z4h, Option.bind_some, u_asC, u_asB, u_asN]
  · obtain ⟨hs, hm, hy⟩ := zhn hb
    have c1 := c_tOn s x y hs hm ho (by omega)
    simp only [schV, frmsV, stpV, stpC, intsV, fldsV, recV, recC, valsV, donV, donC] at c1; simp only [hb, cond_false, c1, Option.bind_some, u_asC, u_asA, u_asI, u_asB, u_asL, u_asS, u_asN]
    by_cases h0 : (turnS s x y).2 = 0
    · have t0 : ((turnS s x y).2 != 0) = false := by rw [h0]; rfl
      simp only [t0, cond_false]
      rcases bor (turnS s x y).1.gone with hg | hg
      · obtain ⟨h1, h10, g, hf, hr, e⟩ := zrx h0 hg
        have ha : allsV g.fields y.vals = true := by simp only [hasR, Bool.and_eq_true] at hr; exact hr.2.2
        have hfi : fineS g = true := by simp only [hasR, Bool.and_eq_true] at hr; exact hr.1
        have hsh := zeq ha; have e2 := zhk [] ha; rw [List.append_nil] at e2
        have e3 : takesR g (layR g.fields y.vals) = (y, 0) := by
          have hid := zxf hr; simp [takesR, hfi, e2]; obtain ⟨yf, yv⟩ := y; simp only at hid; rw [hid]
        have c2 := zrt s x (layR g.fields y.vals) g hs hm ho (by omega) h1 h10 hf (by rw [e3])
        rw [e3] at c2
        have c3 := zav y y (by omega)
        simp only [schV, frmsV, stpV, stpC, intsV, fldsV, recV, recC, valsV, decide_true] at c2 c3; simp only [e, cond_true, rec0, List.map_nil, c2, Option.bind_some, u_asC, u_asA, u_asI, u_asB, u_asL, u_asN, zh, c3, beq_self_eq_true, List.length_nil, Int.natCast_zero, z4h, Tok.untok_tok]
      · obtain ⟨h1, ⟨j, g, j1, j2, hr, hB⟩, e⟩ := zrw h0 hg
        have hsh := zey (s := s) (x := x) hy; have hs' := zrg (z8w h1); have c2 := c_zOn s x hs hm; have c3 := zbc (onS s x).1 (turnS s x y).1.rcd.form hs'.sml; have hgl := hs'.2 g (List.mem_of_getElem? j2)
        have c4 := zke g (turnS s x y).1.rcd (by omega) (by omega)
        have c5 := zxa s x (turnS s x y).1.rcd (turnS s x y).1.lost (turnS s x y).1.has hs hm ho hsh (zor h0 hg) (fun g' _ hf' _ he' => by
          have : g' = g := by
            rw [z6t j1 j2] at hf'
            cases hf'
            rfl
          subst this; exact hB he')
        have c6 := zav y y (by omega)
        have nj : ¬ ((j : Int) < 0) := by omega
        rw [e] at c5; rw [j1] at c3; rw [hr] at c4; simp only [schV, frmsV, stpV, stpC, intsV, fldsV, frmV, recV, recC, valsV, decide_true] at c2 c3 c4 c5 c6; simp only [hg, cond_false, c2, Option.bind_some, u_asC, u_asA, u_asI, u_asB, u_asL, u_asN, c3, nj, decide_false, z9, Int.natCast_nonneg, decide_true, cond_true, nthE, Int.toNat_natCast, List.getElem?_map, j2, Option.map_some, frmV, fldsV, c4, Bool.not_true, c5, zh, c6, beq_self_eq_true, z4h, Tok.untok_tok]
    · have t0 : ((turnS s x y).2 != 0) = true := bne_t h0
      have e := zux h0; simp only [t0, cond_true, e, don0, rec0, List.map_nil, List.length_nil, Int.natCast_zero, beq_self_eq_true, Bool.not_false, zh, za, z4h, Option.bind_some, u_asC, u_asB, u_asN, Tok.untok_tok])
theorem zot (d0 : DataW H) (xs : List AV) (hf : FitAll T0 9 Tryz.f4.params.toList [d0] xs) (hk : (DataW.weightsEach Tryz.prog (Tryz.f4.params.toList ++ Rows.turnBackSpec.plain.varTypes Tryz.prog) ([d0] ++ [])).all (· ≤ reachBytes) = true) :
    tbl E0 4 xs [] = some ([.bool true], []) := by
  obtain ⟨x, ys, rfl, h1, h2⟩ := zew (t := 37) hf; obtain ⟨s, t, y, hs, ht, rfl⟩ := zky h1
  have e1 := z56 (by kernel_rfl) h2
  subst e1; exact zos s t y ht
end V
end Go.Proofs.YtgkiakemfcbgiaaGreat
namespace Go.Proofs.YtgkiakemfcbgiaaGreat.turnBack
open Go Go.ChangeShapes Go.WideShapes Go.ChangeAt Go.RowKit Go.Proofs.YtgkiakemfcbgiaaGreat.V
theorem own : ownKnob Tryz.prog.godebug = none := by kernel_rfl
set_option maxRecDepth 100000 in
theorem contract (H : Type) (enc : TypeId × Value → H) (W : World) (base : Nat) (args : Array Value) (ds gs : List (DataW H)) (before : List MemPlace)
    (hval : ∀ (j : Nat) t v, Tryz.f4.params[j]? = some t → args[j]? = some v → Value.okWide Tryz.prog W .any base t v)
    (hW : DataW.Whole enc Tryz.prog Tryz.f4.params.toList Rows.turnBackSpec.vars false W args.toList ds gs before) (hk : (DataW.weightsEach Tryz.prog (Tryz.f4.params.toList ++ Rows.turnBackSpec.plain.varTypes Tryz.prog) (ds ++ gs)).all (· ≤ reachBytes) = true) :
    Calls Tryz.prog 4 args W fun e W' => ∃ v, e = .returned v ∧ Rows.turnBackSpec.post enc Tryz.prog Tryz.f4 false true false false W args v W' := by
  obtain ⟨p, q, hA, hV, hps, hfz, hnd⟩ := id hW; obtain ⟨rfl, rfl⟩ := trodVars_none hV; have hlen := z7x hA
  obtain ⟨d0, rfl⟩ : ∃ d0, ds = [d0] := by
    match ds, hlen with
    | [d0], _ => exact ⟨d0, rfl⟩
  refine (zpi (E := E0) E0_ok (m := 9) (ts := Tryz.f4.params.toList) (by kernel_rfl) (fun j t v h1 h2 => hval j t v (by simpa using h1) (by simpa using h2)) hA (fun xs hf => zot d0 xs hf hk)).mono fun e W' ⟨he, bel⟩ => ?_
  subst he
  exact ⟨_, rfl, zsd (tb := 4) (by kernel_rfl) (by kernel_rfl) (by kernel_rfl) Tryz.underlying4 rfl rfl hW hA bel⟩
set_option maxRecDepth 100000 in
theorem lifted (os : Os) (started : os.Started) (H : Type) (enc : TypeId × Value → H) :
    ReturnsInHanded {} Tryz.checked os 4 .any (Rows.turnBackSpec.pre6 enc Tryz.prog Tryz.f4 Rows.turnBackRow.domain false) (Rows.turnBackSpec.post enc Tryz.prog Tryz.f4 false true false false) := by
  refine returnsInHanded_of_change_sized (C := Tryz.checked) own started (by kernel_rfl) Tryz.func4
    (ChangeSpec.witness6 (enc := enc) (C := Tryz.checked) false ⟨#[], #[.agg #[.int .i64 0, .slice none 0 0, .int .i64 0, .int .i64 0, .int .i64 0, .int .i64 0, .int .i64 0, .int .i64 0, .int .i64 0, .int .i64 0, .int .i64 0, .int .i64 0, .int .i64 0, .int .i64 0, .int .i64 0, .string ⟨#[]⟩, .slice none 0 0, .slice none 0 0, .int .i64 0, .slice none 0 0]], []⟩ 9 (by kernel_rfl) (by kernel_rfl) (by kernel_rfl) (by kernel_rfl)) ?_
  intro W base args ds gs before hval hW _ hk _; exact contract H enc W base args ds gs before hval hW hk
theorem proved : Rows.TurnBackSaid :=
  OpenClaim.holds_of_wide 4 Tryz.f4 rfl rfl rfl rfl rfl rfl rfl ⟨rfl, rfl, rfl, rfl, rfl⟩ rfl rfl rfl rfl rfl (by kernel_rfl) Tryz.func4 (by kernel_rfl)
    (of_decide_eq_true (by kernel_rfl)) (by unfold Func.isWrapper; first | (rw [if_pos (by decide +kernel)]; kernel_rfl) | (rw [if_neg (by decide +kernel)]; exact ⟨rfl, rfl⟩))
    (fun os started H enc _ => lifted os started H enc)
end Go.Proofs.YtgkiakemfcbgiaaGreat.turnBack
namespace Go.Proofs.YtgkiakemfcbgiaaGreat
theorem turnBack_holds : Rows.TurnBackSaid := turnBack.proved
end Go.Proofs.YtgkiakemfcbgiaaGreat
