/- What is answered makes of the first schema the forms of the other one, and no way of fewer links is there. -/
import Derived.Test.YtjkjhgfiaodgmaaRows
import Derived.JoinedCond
import Derived.SizedLaws
import Derived.Test.YtjkjhgfiaodgmaaQd
set_option linter.unusedVariables false
set_option linter.unusedSimpArgs false
namespace Go.Proofs.Ytjkjhgfiaodgmaa.V
open Go
theorem zpl (f : Fld) (a b : Int) : tbl E0 67 [fldV f, iV a, iV b] [] = some ([fldV (scaledS f a b), .bool (rgtS (scaledS f a b))], []) := zpc f a b (by
  have c3 := z3o (scaledS f a b)
  have m1 : (if IntKind.i64.wrap (IntKind.i64.wrap (a * f.hi) + b) < IntKind.i64.wrap (IntKind.i64.wrap (a * f.lo) + b) then IntKind.i64.wrap (IntKind.i64.wrap (a * f.hi) + b) else IntKind.i64.wrap (IntKind.i64.wrap (a * f.lo) + b)) = minS (affS a b f.lo) (affS a b f.hi) := rfl
  have m2 : (if IntKind.i64.wrap (IntKind.i64.wrap (a * f.lo) + b) < IntKind.i64.wrap (IntKind.i64.wrap (a * f.hi) + b) then IntKind.i64.wrap (IntKind.i64.wrap (a * f.hi) + b) else IntKind.i64.wrap (IntKind.i64.wrap (a * f.lo) + b)) = maxS (affS a b f.lo) (affS a b f.hi) := rfl
  simp only [fldV, fldC, scaledS] at c3; simp only [zfl, z5p, z5o, z9, cond_true, za, m1, m2, c3, Option.bind_some, u_asC, u_asB, u_asN, z12, z2h]
  rfl)
theorem oshE4 : (nodupN (List.map (fun x => x.fst) (oshOf T0 0 [AV.ref 0 0] Try.f46.params.toList)) && (oshOf T0 0 [AV.ref 0 0] Try.f46.params.toList).all fun p => p.fst.blt 64) = true := by kernel_rfl
theorem oshE5 : (nodupN (List.map (fun x => x.fst) (oshOf T0 0 [AV.ref 0 0] Try.f25.params.toList)) && (oshOf T0 0 [AV.ref 0 0] Try.f25.params.toList).all fun p => p.fst.blt 64) = true := by kernel_rfl
theorem oshE6 : (nodupN (List.map (fun x => x.fst) (oshOf T0 0 [AV.ref 0 0] Try.f28.params.toList)) && (oshOf T0 0 [AV.ref 0 0] Try.f28.params.toList).all fun p => p.fst.blt 64) = true := by kernel_rfl
set_option maxHeartbeats 2000000 in
theorem zn9 (x : Stp) (v : Int) (l : List Frm) (p e : Int) (o1 : x.op = 1) : tbl E0 46 [.ref 0 0] [(0, madO x v l p e)] = some ([fldsU [x.f], iV 0, .bool true], [(0, madO x v l p e)]) := zfm x v l p e (by
  have q := zx l; have o := oshE4; rw [Bool.and_eq_true] at o
  have o1' : (x.op == 1) = true := by simpa using o1
  simp only [z9s, z2w, o.1, o.2, List.all_cons, List.all_nil, fitA, Bool.and_self, cond_true, z9, q, o1', fldsU, List.map_cons, List.map_nil])
set_option maxHeartbeats 2000000 in
theorem zpm (x : Stp) (v : Int) (l : List Frm) (p e : Nat) (g : Frm) (f : Fld) (hg : l[p]? = some g) (hf : g.fields[e]? = some f) (hr : f.kind = 3 → rgtS f = true) (o1 : x.op ≠ 1) (ha : x.op = 6 → x.a ≠ 0) :
    tbl E0 46 [.ref 0 0] [(0, madO x v l p e)] = some ([fldsU (turnedS f x).1, iV 1, .bool (turnedS f x).2], [(0, madO x v l p e)]) := zfm x v l p e (by
  have q := zx l; have o := oshE4; rw [Bool.and_eq_true] at o
  have o1' : (x.op == 1) = false := by simpa using o1
  have c := zpj x v l p e g f hg hf; have c1 := zpd f x.n x.s; have c2 := zse f x.f; have c3 := zpl f x.a x.b; simp only [fldV, fldC] at c c1 c2 c3; simp only [z9s, z5q, z5r, z2w, o.1, o.2, List.all_cons, List.all_nil, fitA, Bool.and_self, cond_true, cond_false, z9, q, o1', zh, c, Option.bind_some, nbeq, decide_true, u_asN, u_asC, u_asI, u_asS, u_asL, zt, u_asA, u_asB]
  by_cases h2 : x.op = 2
  · have t2 : (x.op == 2) = true := by simpa using h2
    have e2 : turnedS f x = ([], hasV f x.n x.s) := by simp [turnedS, h2]
    rw [e2]; simp only [t2, cond_true, za, c1, Option.bind_some, u_asC, u_asB, u_asN, q]; rfl
  have g2 := beq_f h2
  by_cases h3 : x.op = 3
  · have t3 : (x.op == 3) = true := by simpa using h3
    have e3 : turnedS f x = ([x.f], widerS f x.f) := by simp [turnedS, h3]
    rw [e3]; simp only [g2, t3, cond_true, cond_false, za, c2, Option.bind_some, u_asC, u_asB, u_asN, q, z12, z9]; rfl
  have g3 := beq_f h3
  by_cases h4 : x.op = 4
  · have t4 : (x.op == 4) = true := by simpa using h4
    simp only [t4, g2, g3, cond_true, cond_false, z9]
    have e4 : turnedS f x = (if f.kind = 1 then ([scaledS f x.a x.b], rgtS (scaledS f x.a x.b)) else ([f], false)) := by simp [turnedS, h4]
    by_cases k : f.kind = 1
    · have k' : (f.kind == 1) = true := by simpa using k
      rw [e4, if_pos k]; simp only [k', cond_true, za, c3, Option.bind_some, u_asC, u_asA, u_asI, u_asB, u_asN, q]; rfl
    · have k' : (f.kind == 1) = false := by simpa using k
      rw [e4, if_neg k]; simp only [k', cond_false, q, cond_true]; rfl
  have g4 := beq_f h4
  by_cases h5 : x.op = 5
  · have t5 : (x.op == 5) = true := by simpa using h5
    have e5 : turnedS f x = ([⟨f.id, f.kind, f.lo, f.hi, x.a⟩], f.kind == 3 && f.most == (x.t.length : Int)) := by simp [turnedS, h5]
    rw [e5]; simp only [t5, g2, g3, g4, cond_true, cond_false, z9, ze, zq, List.length_map, q]
    rcases bor (f.kind == 3) with k | k <;> simp only [k, cond_true, cond_false, Option.bind_some, Tok.untok_tok, Bool.true_and, Bool.false_and] <;> rfl
  have g5 := beq_f h5
  by_cases h6 : x.op = 6
  · have t6 : (x.op == 6) = true := by simpa using h6
    have e6 : turnedS f x = ([⟨f.id, f.kind, f.lo, IntKind.i64.wrap (f.hi.tdiv x.a), f.most⟩, ⟨x.to, 1, 0, minS (IntKind.i64.wrap (x.a - 1)) f.hi, 0⟩], f.kind == 1 && f.lo == 0) := by simp [turnedS, h6]
    have ha' : (!(x.a == (0 : Int))) = true := by simpa using ha h6
    have m1 : (if f.hi < IntKind.i64.wrap (x.a - 1) then f.hi else IntKind.i64.wrap (x.a - 1)) = minS (IntKind.i64.wrap (x.a - 1)) f.hi := rfl
    rw [e6]; simp only [t6, g2, g3, g4, g5, cond_true, cond_false, z9, ze, zq, ha', m1, q]
    rcases bor (f.kind == 1) with k | k <;> simp only [k, cond_true, cond_false, Option.bind_some, Tok.untok_tok, Bool.true_and, Bool.false_and] <;> rfl
  have g6 := beq_f h6
  have e7 : turnedS f x = ([⟨x.to, f.kind, f.lo, f.hi, f.most⟩], true) := by simp [turnedS, h2, h3, h4, h5, h6]
  rw [e7]; simp only [g2, g3, g4, g5, g6, cond_false, cond_true, z9, q]
  rfl)
def thereS (x : Stp) (g : Frm) (e n : Int) : Int :=
  if e < 0 then 8 else if decide (0 ≤ n) && decide (0 ≤ atS g.fields n) then 9
  else if x.op == 1 && decide ((g.fields.length : Int) < x.place) then 3 else if x.op == 7 && decide ((g.fields.length : Int) ≤ x.place) then 3 else 0
def atG (x : Stp) (g : Frm) : Int := if x.op = 1 then x.place else if x.op = 10 then 0 else atS g.fields x.field
def freshG (x : Stp) : Int := if x.op = 1 then x.f.id else if x.op = 6 ∨ x.op = 8 then x.to else -1
theorem zpn (x : Stp) (v : Int) (l : List Frm) (p e : Int) (g : Frm) (n : Int) (hg : g.fields.length ≤ 1000) :
    ltbl E0 25 0 1000020 [iV n] [madO x v l p e, [iV g.id, fldsV g.fields]] = some (0, [iV (thereS x g e n)], [madO x v l p e]) := zpa x v l p e g n (by
  have q := zx l
  have c := c_sAt g n (by omega)
  simp only [frmV, fldsV] at c; simp only [zfj, q, cond_true, zq, z9, za, c, Option.bind_some, u_asC, u_asI, u_asN, ze, List.length_map, ge_iff_le, gt_iff_lt]; unfold thereS
  by_cases e0 : e < 0
  · simp only [e0, decide_true, cond_true, if_true]
  · simp only [e0, decide_false, cond_false, if_false]
    rw [z5f]; simp only [Option.bind_some, Tok.untok_tok, z5f, zud]
    rcases bor (decide (0 ≤ n) && decide (0 ≤ atS g.fields n)) with a | a
    · simp only [a, cond_true, if_true]
    · simp only [a, cond_false, Bool.false_eq_true, if_false, Option.bind_some, Tok.untok_tok]
      rcases bor (x.op == 1 && decide ((g.fields.length : Int) < x.place)) with b | b
      · simp only [b, cond_true, if_true]
      · simp only [b, cond_false, Bool.false_eq_true, if_false, Option.bind_some, Tok.untok_tok]
        rcases bor (x.op == 7 && decide ((g.fields.length : Int) ≤ x.place)) with c | c <;> simp only [c, cond_true, cond_false, Bool.false_eq_true, if_true, if_false])
theorem z72 (a b : AV) : setAt ((tabAt T0 (E0.an 25 0)).ty 60).zero 0 [a, b] = [a, b] := rfl
theorem s72 : ((tabAt T0 (E0.an 25 0)).ty 60).size = 2 := by kernel_rfl
theorem d72 (g : Frm) : List.map AV.dem1 [iV g.id, fldsV g.fields] = [iV g.id, fldsV g.fields] := rfl
theorem dS72 (g : Frm) : demSL [Sh.int .i64, Sh.lst 5] [iV g.id, fldsV g.fields] = [iV g.id, fldsV g.fields] := rfl
theorem f72 (g : Frm) : (AV.agg [iV g.id, fldsV g.fields]).flat = true := rfl
theorem f72' (g : Frm) : ([iV g.id, fldsV g.fields]).all AV.flat1 = true := rfl
theorem fI (n : Int) : (iV n).flat = true := rfl
theorem b22 : Nat.ble 2 2 = true := rfl
theorem zpo {id : Int} {l : List Frm} {g : Frm} (h : l[posS id l]? = some g) (e : g.id = id) : hereS id l = true := by
  simp [hereS, h, e]
set_option maxHeartbeats 4000000 in
theorem zpp (x : Stp) (v : Int) (l : List Frm) (p e : Int) (hl : l.length ≤ 1000) (o : x.op = 9) :
    tbl E0 25 [.ref 0 0] [(0, madO x v l p e)] = some ([iV (if hereS x.form l then 9 else 0)], [(0, madO x v l (posS x.form l) e)]) := zbu x v l p e (by
  have q := zx l; have o5 := oshE5; rw [Bool.and_eq_true] at o5; have c := ze8 x v l p e hl
  have t : (x.op == 9) = true := by simpa using o
  simp only [z7o, z2w, o5.1, o5.2, List.all_cons, List.all_nil, fitA, Bool.and_self, cond_true, z9, q, zh, c, Option.bind_some, nbeq, decide_true, u_asN, u_asC, u_asI, u_asS, u_asL, zt, u_asB, t]
  rcases bor (hereS x.form l) with h | h <;> simp only [h, cond_true, cond_false, if_true, Bool.false_eq_true, if_false])
set_option maxHeartbeats 4000000 in
theorem zpq (x : Stp) (v : Int) (l : List Frm) (p e : Int) (hl : l.length ≤ 1000) (o : x.op ≠ 9) (h : hereS x.form l = false) :
    tbl E0 25 [.ref 0 0] [(0, madO x v l p e)] = some ([iV 8], [(0, madO x v l (posS x.form l) e)]) := zbu x v l p e (by
  have q := zx l; have o5 := oshE5; rw [Bool.and_eq_true] at o5; have c := ze8 x v l p e hl; have t := beq_f o; simp only [z7o, z2w, o5.1, o5.2, List.all_cons, List.all_nil, fitA, Bool.and_self, cond_true, z9, q, zh, c, Option.bind_some, nbeq, decide_true, u_asN, u_asC, u_asI, u_asS, u_asL, zt, u_asB, t, h, cond_false, Bool.not_false])
set_option maxHeartbeats 4000000 in
theorem zsg (x : Stp) (v : Int) (l : List Frm) (p e : Int) (hl : l.length ≤ 1000) (hf : ∀ f ∈ l, f.fields.length ≤ 1000) (o : x.op ≠ 9) (g : Frm) (hg : l[posS x.form l]? = some g) (he : g.id = x.form) :
    tbl E0 25 [.ref 0 0] [(0, madO x v l p e)] = some ([iV (thereS x g (atG x g) (freshG x))], [(0, madO x v l (posS x.form l) (atG x g))]) := zbu x v l p e (by
  have q := zx l; have o5 := oshE5; rw [Bool.and_eq_true] at o5; have c := ze8 x v l p e hl; have t := beq_f o; have h := zpo hg he; have hlt : posS x.form l < l.length := (List.getElem?_eq_some_iff.1 hg).1
  have hlt2 : ((posS x.form l : Nat) : Int) < l.length := by omega
  have hgl := hf g (List.mem_of_getElem? hg)
  have cA := c_sAt g x.field (by omega)
  have M := fun (e n : Int) => zpn x v l (posS x.form l) e g n hgl; simp only [frmV, fldsV] at cA; simp only [z7o, z2w, o5.1, o5.2, List.all_cons, List.all_nil, fitA, Bool.and_self, cond_true, z9, q, zh, c, Option.bind_some, nbeq, decide_true, u_asN, u_asC, u_asI, u_asS, u_asL, zt, u_asB, t, h, cond_false, Bool.not_true, z6o, List.length_map, hlt2, Int.natCast_nonneg, z3i, nthE, Int.toNat_natCast, List.getElem?_map, hg, Option.map_some, z12, z2h, AV.cells, List.length_cons, List.length_nil, List.drop_zero, List.take_succ_cons, List.take_zero, z72, s72]
  simp only [Nat.zero_add, Nat.reduceAdd, b22, cond_true, d72, dS72, f72, f72', fI, List.take_succ_cons, List.take_zero, Bool.and_self, Bool.true_and, za]; simp only [fldsV] at M ⊢; simp only [cA, Option.bind_some, u_asC, u_asI, u_asN]
  by_cases o1 : x.op = 1
  · have t1 : (x.op == 1) = true := by simpa using o1
    have e1 : atG x g = x.place := by simp [atG, o1]
    have e2 : freshG x = x.f.id := by simp [freshG, o1]
    rw [e1, e2]; simp only [t1, cond_true, zm, M, Option.bind_some, z1x, nbeq, decide_true, u_asN, u_asC, u_asI, u_asS, u_asL, zt, q]
  have t1 := beq_f o1
  by_cases o6 : x.op = 6 ∨ x.op = 8
  · have e1 : atG x g = atS g.fields x.field := by
      have : ¬ x.op = 10 := by omega
      simp [atG, o1, this]
    have e2 : freshG x = x.to := by simp [freshG, o1, o6]
    rw [e1, e2]
    have k3 : z4q (OA (tbl E0) (ltbl E0 25 0)) x v l p e (fun r o => some (r, o)) (List.map frmV l) x.to x.op x.form x.field x.place x.a x.b x.f.id x.f.kind x.f.lo x.f.hi x.f.most x.n x.s (List.map (fun n => iV n) x.t) (List.map fldV x.fields) v (posS x.form l) (atS g.fields x.field) (frmV g) = some ([iV (thereS x g (atS g.fields x.field) x.to)], [(0, madO x v l (posS x.form l) (atS g.fields x.field))]) := by
      simp only [z4q, q, cond_true, AV.cells, List.drop_zero, List.take_succ_cons, List.take_zero, z72, s72, d72, zm]; simp only [fldsV, M, Option.bind_some, z1x, nbeq, decide_true, cond_true, u_asN, u_asC, u_asI, u_asS, u_asL, zt, q]
    rcases o6 with o6 | o6
    · have t6 : (x.op == 6) = true := by simpa using o6
      simp only [t1, t6, cond_true, cond_false, k3]
    · have t8 : (x.op == 8) = true := by simpa using o6
      have t6 : (x.op == 6) = false := by simp [o6]
      simp only [t1, t6, t8, cond_true, cond_false, k3]
  have t6 : (x.op == 6) = false := beq_f (by omega)
  have t8 : (x.op == 8) = false := beq_f (by omega)
  have e2 : freshG x = -1 := by simp [freshG, o1, o6]
  by_cases o10 : x.op = 10
  · have t10 : (x.op == 10) = true := by simpa using o10
    have e1 : atG x g = 0 := by simp [atG, o10]
    rw [e1, e2]; simp only [t1, t6, t8, t10, cond_true, cond_false, zm, M, Option.bind_some, z1x, nbeq, decide_true, u_asN, u_asC, u_asI, u_asS, u_asL, zt, q]
  · have t10 := beq_f o10
    have e1 : atG x g = atS g.fields x.field := by simp [atG, o1, o10]
    rw [e1, e2]; simp only [t1, t6, t8, t10, cond_true, cond_false, zm, M, Option.bind_some, z1x, nbeq, decide_true, u_asN, u_asC, u_asI, u_asS, u_asL, zt, q])
theorem E0_X : E0.X = X0 := rfl
theorem zwc (l : List Fld) (k : Nat) (hk : k < l.length) : tbl E0 45 [fldsU l, iV k, iV ((k + 1 : Nat) : Int)] [] = some ([fldsU (cutS l k)], []) := tbl_X (by
  have h1 : (0 : Int) ≤ k := by omega
  have h2 : (k : Int) ≤ ((k + 1 : Nat) : Int) := by omega
  have h3 : ((k + 1 : Nat) : Int) ≤ l.length := by omega
  have e : X0 45 [fldsU l, iV k, iV ((k + 1 : Nat) : Int)] [] = delX 5 [fldsU l, iV k, iV ((k + 1 : Nat) : Int)] [] := rfl; rw [E0_X, e]; simp only [delX, fldsU, List.length_map, h1, h2, h3, nbeq, decide_true, Bool.and_self, cond_true, Int.toNat_natCast, cutS, List.map_append, List.map_take, List.map_drop])
theorem zwd (l : List Fld) (n : Nat) (m : List Fld) (hn : n ≤ l.length) (hl : l.length + m.length ≤ 1000) : tbl E0 44 [fldsU l, iV n, fldsU m] [] = some ([fldsU (putS l n m)], []) := tbl_X (by
  have h1 : (0 : Int) ≤ n := by omega
  have h2 : (n : Int) ≤ l.length := by omega
  have h3 : (l.length + m.length) * 40 ≤ 211106232532992 := by omega
  have e : X0 44 [fldsU l, iV n, fldsU m] [] = insX 5 40 [fldsU l, iV n, fldsU m] [] := rfl; rw [E0_X, e]; simp only [insX, fldsU, List.length_map, h1, h2, h3, nbeq, decide_true, Bool.and_self, cond_true, Int.toNat_natCast, putS, List.map_append, List.map_take, List.map_drop])
theorem zwe (l : List Fld) (n k : Nat) (m : List Fld) (hn : n ≤ k) (hk : k ≤ l.length) (hl : l.length + m.length ≤ 1000) : tbl E0 47 [fldsU l, iV n, iV k, fldsU m] [] = some ([fldsU (l.take n ++ m ++ l.drop k)], []) := tbl_X (by
  have h1 : (0 : Int) ≤ n := by omega
  have h2 : (n : Int) ≤ k := by omega
  have h4 : (k : Int) ≤ l.length := by omega
  have h3 : (l.length + m.length) * 40 ≤ 211106232532992 := by omega
  have e : X0 47 [fldsU l, iV n, iV k, fldsU m] [] = repX 5 40 [fldsU l, iV n, iV k, fldsU m] [] := rfl; rw [E0_X, e]; simp only [repX, fldsU, List.length_map, h1, h2, h3, h4, nbeq, decide_true, Bool.and_self, cond_true, Int.toNat_natCast, List.map_append, List.map_take, List.map_drop])
theorem zwf (l : List Frm) (n : Nat) (m : List Frm) (hn : n ≤ l.length) (hl : l.length + m.length ≤ 3000) : tbl E0 26 [frmsU l, iV n, frmsU m] [] = some ([frmsU (l.take n ++ m ++ l.drop n)], []) := tbl_X (by
  have h1 : (0 : Int) ≤ n := by omega
  have h2 : (n : Int) ≤ l.length := by omega
  have h3 : (l.length + m.length) * 32 ≤ 211106232532992 := by omega
  have e : X0 26 [frmsU l, iV n, frmsU m] [] = insX 2 32 [frmsU l, iV n, frmsU m] [] := rfl; rw [E0_X, e]; simp only [insX, frmsU, List.length_map, h1, h2, h3, nbeq, decide_true, Bool.and_self, cond_true, Int.toNat_natCast, List.map_append, List.map_take, List.map_drop])
theorem zwg (l : List Frm) (k : Nat) (hk : k < l.length) : tbl E0 27 [frmsU l, iV k, iV ((k + 1 : Nat) : Int)] [] = some ([frmsU (l.take k ++ l.drop (k + 1))], []) := tbl_X (by
  have h1 : (0 : Int) ≤ k := by omega
  have h2 : (k : Int) ≤ ((k + 1 : Nat) : Int) := by omega
  have h3 : ((k + 1 : Nat) : Int) ≤ l.length := by omega
  have e : X0 27 [frmsU l, iV k, iV ((k + 1 : Nat) : Int)] [] = delX 2 [frmsU l, iV k, iV ((k + 1 : Nat) : Int)] [] := rfl; rw [E0_X, e]; simp only [delX, frmsU, List.length_map, h1, h2, h3, nbeq, decide_true, Bool.and_self, cond_true, Int.toNat_natCast, List.map_append, List.map_take, List.map_drop])
theorem ziy {α : Type} {A : Alg α} (g : Frm) (m : List Fld) (k : AV → α) : putC A (frmV g) (setAt (frmV g).cells 1 [fldsV m]) k = k (frmV ⟨g.id, m⟩) := Eq.trans rfl rfl
set_option maxHeartbeats 4000000 in
theorem zna (x : Stp) (v : Int) (l : List Frm) (p e n : Nat) (g : Frm) (f : Fld) (hg : l[p]? = some g) (hf : g.fields[e]? = some f) (o7 : x.op = 7) (hn : x.place = n) (hn2 : n < g.fields.length) (hgl : g.fields.length ≤ 900) :
    tbl E0 28 [.ref 0 0] [(0, madO x v l p e)] = some ([.bool true], [(0, madO x v (l.set p ⟨g.id, putS (cutS g.fields e) n [f]⟩) p e)]) := zfn x v l p e (by
  have q := zx l; have q2 := z35; have o6 := oshE6; rw [Bool.and_eq_true] at o6; have hp : p < l.length := (List.getElem?_eq_some_iff.1 hg).1
  have hp2 : (p : Int) < l.length := by omega
  have he : e < g.fields.length := (List.getElem?_eq_some_iff.1 hf).1; have cf := z9u x v l p e g hg
  have cc := z5u g.fields (by omega)
  have co := zpj x v l p e g f hg hf; have cd := zwc g.fields e he; have hC := zlp he
  have ci := zwd (cutS g.fields e) n [f] (by omega) (by simp; omega)
  have e1 := zn (i := e) (by omega)
  have t7 : (x.op == 7) = true := by simpa using o7
  simp only [fldsV, fldsU, fldV, fldC, List.map_cons, List.map_nil] at cf cc co cd ci; rw [← hn] at ci; have qf : ([AV.agg [iV f.id, iV f.kind, iV f.lo, iV f.hi, iV f.most]] : List AV).all AV.flat = true := rfl
  have k5 : z2k (OA (tbl E0) (ltbl E0 28 0)) x v l p e (fun r o => (some (r, o) : Option CR)) [AV.lst .uq 5 (List.map fldV (putS (cutS g.fields e) n [f]))] [] p (List.map frmV l) x.op x.form x.field x.place x.to x.a x.b x.f.id x.f.kind x.f.lo x.f.hi x.f.most x.n x.s (List.map (fun n => iV n) x.t) (List.map fldV x.fields) v e = some ([.bool true], [(0, madO x v (l.set p ⟨g.id, putS (cutS g.fields e) n [f]⟩) p e)]) := by
    have z := ziy (α := Option CR) (A := OA (tbl E0) (ltbl E0 28 0)) g (putS (cutS g.fields e) n [f]); simp only [fldsV] at z; have z2 : Nat.ble (1 + [AV.lst Md.ro 5 (List.map fldV (putS (cutS g.fields e) n [f]))].length) (frmV g).cells.length = true := rfl; have z3 : (frmV ⟨g.id, putS (cutS g.fields e) n [f]⟩).flat = true := rfl; have z4 := zx (l.set p ⟨g.id, putS (cutS g.fields e) n [f]⟩)
    have z5 : (List.map frmV l).set p (frmV ⟨g.id, putS (cutS g.fields e) n [f]⟩) = List.map frmV (l.set p ⟨g.id, putS (cutS g.fields e) n [f]⟩) := by rw [List.map_set]
    simp only [z2k, u_asC, zt, u_asN, q2, cond_true, z2h, z9, Int.natCast_nonneg, List.length_map, hp2, decide_true, Bool.and_self, nthE, Int.toNat_natCast, List.getElem?_map, hg, Option.map_some, z, z2, z3, z4, z5]
  have k1 : z34 (OA (tbl E0) (ltbl E0 28 0)) x v l p e (fun r o => (some (r, o) : Option CR)) (List.map fldV (cutS g.fields e)) x.place f.id f.kind f.lo f.hi f.most p (List.map frmV l) x.op x.form x.field x.to x.a x.b x.f.id x.f.kind x.f.lo x.f.hi x.f.most x.n x.s (List.map (fun n => iV n) x.t) (List.map fldV x.fields) v e = some ([.bool true], [(0, madO x v (l.set p ⟨g.id, putS (cutS g.fields e) n [f]⟩) p e)]) := by
    simp only [z34, q2, cond_true, zh, ci, Option.bind_some, k5]
  have k2 : z1j (OA (tbl E0) (ltbl E0 28 0)) x v l p e (fun r o => (some (r, o) : Option CR)) (List.map fldV g.fields) e x.place f.id f.kind f.lo f.hi f.most p (List.map frmV l) x.op x.form x.field x.to x.a x.b x.f.id x.f.kind x.f.lo x.f.hi x.f.most x.n x.s (List.map (fun n => iV n) x.t) (List.map fldV x.fields) v = some ([.bool true], [(0, madO x v (l.set p ⟨g.id, putS (cutS g.fields e) n [f]⟩) p e)]) := by
    simp only [z1j, q2, cond_true, zh, e1, cd, Option.bind_some, u_asC, zt, u_asN, k1]
  simp only [z9t, z2w, o6.1, o6.2, List.all_cons, List.all_nil, fitA, Bool.and_self, cond_true, z9, q, zh, cf, cc, co, Option.bind_some, nbeq, decide_true, u_asN, u_asC, u_asI, u_asS, u_asL, zt, u_asA, t7, z5s, z5t, z4a, z4b, q2, e1, cd, k1, k2, z12, z2h])
set_option maxHeartbeats 4000000 in
theorem zda (x : Stp) (v : Int) (l : List Frm) (p e n : Nat) (g : Frm) (m : List Fld) (b : Bool) (hg : l[p]? = some g) (o7 : x.op ≠ 7) (hn : n ≤ 1) (hen : e + n ≤ g.fields.length) (hgl : g.fields.length ≤ 900) (hm : m.length ≤ 8)
    (ht : tbl E0 46 [.ref 0 0] [(0, madO x v l p e)] = some ([fldsU m, iV n, .bool b], [(0, madO x v l p e)])) :
    tbl E0 28 [.ref 0 0] [(0, madO x v l p e)] = some ([.bool b], [(0, madO x v (if b then l.set p ⟨g.id, g.fields.take e ++ m ++ g.fields.drop (e + n)⟩ else l) p e)]) := zfn x v l p e (by
  have q := zx l; have q2 := z35; have o6 := oshE6; rw [Bool.and_eq_true] at o6; have hp : p < l.length := (List.getElem?_eq_some_iff.1 hg).1
  have hp2 : (p : Int) < l.length := by omega
  have cf := z9u x v l p e g hg
  have cc := z5u g.fields (by omega)
  have cr := zwe g.fields e (e + n) m (by omega) hen (by omega)
  have e1 : IntKind.i64.wrap ((e : Int) + n) = ((e + n : Nat) : Int) := by rw [wrap_i64 _ (by omega) (by omega)]; omega
  have t7 := beq_f o7; simp only [fldsV, fldsU] at cf cc cr ht; generalize hN : g.fields.take e ++ m ++ g.fields.drop (e + n) = nw at cr ⊢
  have k5 : z2k (OA (tbl E0) (ltbl E0 28 0)) x v l p e (fun r o => (some (r, o) : Option CR)) [AV.lst .uq 5 (List.map fldV nw)] [] p (List.map frmV l) x.op x.form x.field x.place x.to x.a x.b x.f.id x.f.kind x.f.lo x.f.hi x.f.most x.n x.s (List.map (fun n => iV n) x.t) (List.map fldV x.fields) v e = some ([.bool true], [(0, madO x v (l.set p ⟨g.id, nw⟩) p e)]) := by
    have z := ziy (α := Option CR) (A := OA (tbl E0) (ltbl E0 28 0)) g nw; simp only [fldsV] at z; have z2 : Nat.ble (1 + [AV.lst Md.ro 5 (List.map fldV nw)].length) (frmV g).cells.length = true := rfl; have z3 : (frmV ⟨g.id, nw⟩).flat = true := rfl; have z4 := zx (l.set p ⟨g.id, nw⟩)
    have z5 : (List.map frmV l).set p (frmV ⟨g.id, nw⟩) = List.map frmV (l.set p ⟨g.id, nw⟩) := by rw [List.map_set]
    simp only [z2k, u_asC, zt, u_asN, q2, cond_true, z2h, z9, Int.natCast_nonneg, List.length_map, hp2, decide_true, Bool.and_self, nthE, Int.toNat_natCast, List.getElem?_map, hg, Option.map_some, z, z2, z3, z4, z5]
  simp only [z9t, z2w, o6.1, o6.2, List.all_cons, List.all_nil, fitA, Bool.and_self, cond_true, cond_false, z9, q, zh, cf, cc, ht, Option.bind_some, nbeq, decide_true, u_asN, u_asC, u_asI, u_asS, u_asL, zt, u_asA, u_asB, t7, z2h]
  rcases bor b with hb | hb
  · simp only [hb, Bool.not_true, cond_false, q2, cond_true, zh, e1, cr, Option.bind_some, k5, if_true]
  · simp only [hb, Bool.not_false, cond_true, q, Bool.false_eq_true, if_false])
end Go.Proofs.Ytjkjhgfiaodgmaa.V
namespace Go.Proofs.Ytjkjhgfiaodgmaa.V
open Go
theorem z6b (f : Frm) : ∀ (l : List Frm) (n : Int), risingS n l = true → f.id ≤ n → bodyS f true l = l
  | [], _, _, _ => rfl
  | g :: l, n, h, hn => by
    simp only [risingS, Bool.and_eq_true, decide_eq_true_eq] at h
    have : g.id ≠ f.id := by omega
    simp only [bodyS, Bool.not_true, Bool.false_and, Bool.false_eq_true, if_false, List.nil_append, ne_eq, this, not_false_eq_true, if_true, Bool.true_or, z6b f l g.id h.2 (by omega)]
    rfl
theorem z4x (f : Frm) : ∀ l : List Frm, doneS f true l = true
  | [] => rfl
  | g :: l => by simp only [doneS, Bool.true_or, z4x f l]
theorem zfp (f : Frm) : ∀ (l : List Frm) (n : Int), risingS n l = true → hereS f.id l = true → formsS f false l = l.set (posS f.id l) f
  | [], _, _, h => by simp [hereS, posS] at h
  | g :: l, n, hr, h => by
    simp only [risingS, Bool.and_eq_true, decide_eq_true_eq] at hr
    by_cases c : g.id < f.id
    · have h2 : hereS f.id l = true := by simpa [hereS, posS, c] using h
      have ih := zfp f l g.id hr.2 h2
      have n1 : ¬ (f.id ≤ g.id) := by omega
      have n2 : g.id ≠ f.id := by omega
      simp only [formsS, bodyS, doneS, n1, n2, decide_false, Bool.and_false, Bool.or_false, Bool.false_eq_true, if_false, ne_eq, not_false_eq_true, if_true, List.nil_append, List.cons_append, posS, c, List.set_cons_succ]; rw [← ih]; rfl
    · have e : g.id = f.id := by simpa [hereS, posS, c] using h
      have n1 : f.id ≤ g.id := by omega
      simp [formsS, bodyS, doneS, n1, e, posS, c, z4x, z6b f l g.id hr.2 n1]
theorem zfq (f : Frm) : ∀ (l : List Frm) (n : Int), risingS n l = true → hereS f.id l = false → formsS f false l = l.take (posS f.id l) ++ [f] ++ l.drop (posS f.id l)
  | [], _, _, h => by simp [formsS, bodyS, doneS, posS]
  | g :: l, n, hr, h => by
    simp only [risingS, Bool.and_eq_true, decide_eq_true_eq] at hr
    by_cases c : g.id < f.id
    · have h2 : hereS f.id l = false := by simpa [hereS, posS, c] using h
      have ih := zfq f l g.id hr.2 h2
      have n1 : ¬ (f.id ≤ g.id) := by omega
      have n2 : g.id ≠ f.id := by omega
      simp only [formsS, bodyS, doneS, n1, n2, decide_false, Bool.and_false, Bool.or_false, Bool.false_eq_true, if_false, ne_eq, not_false_eq_true, if_true, List.nil_append, List.cons_append, posS, c, List.take_succ_cons, List.drop_succ_cons]; simp only [formsS] at ih; rw [ih]
    · have e : g.id ≠ f.id := by simpa [hereS, posS, c] using h
      have n1 : f.id ≤ g.id := by omega
      simp [formsS, bodyS, doneS, n1, e, posS, c, z4x, z6b f l g.id hr.2 n1]
theorem zfr (f : Frm) : ∀ (l : List Frm) (n : Int), risingS n l = true → hereS f.id l = true → formsS f true l = l.take (posS f.id l) ++ l.drop (posS f.id l + 1)
  | [], _, _, h => by simp [hereS, posS] at h
  | g :: l, n, hr, h => by
    simp only [risingS, Bool.and_eq_true, decide_eq_true_eq] at hr
    by_cases c : g.id < f.id
    · have h2 : hereS f.id l = true := by simpa [hereS, posS, c] using h
      have ih := zfr f l g.id hr.2 h2
      have n2 : g.id ≠ f.id := by omega
      simp only [formsS, z4x, if_true, List.append_nil] at ih ⊢; simp only [bodyS, n2, Bool.not_true, Bool.false_and, Bool.true_or, Bool.false_eq_true, if_false, ne_eq, not_false_eq_true, if_true, List.nil_append, List.cons_append, posS, c, List.take_succ_cons, List.drop_succ_cons, ih]
    · have e : g.id = f.id := by simpa [hereS, posS, c] using h
      have n1 : f.id ≤ g.id := by omega
      simp [formsS, bodyS, z4x, e, posS, c, z6b f l g.id hr.2 n1]
theorem z6c (g : Frm) (l : List Frm) (id : Int) : findS (g :: l) id = if g.id = id then 0 else if findS l id = -1 then -1 else findS l id + 1 := by
  unfold findS firstS; rw [List.findIdx?_cons]
  by_cases e : g.id = id
  · simp [e]
  · have e' : (g.id == id) = false := by simpa using e
    rw [e']; simp only [Bool.false_eq_true, if_false, e]
    cases List.findIdx? (fun f : Frm => f.id == id) l with
    | none => simp
    | some i => simp
theorem zlq {id : Int} : ∀ (l : List Frm) (n : Int), risingS n l = true → id ≤ n → findS l id = -1
  | [], _, _, _ => rfl
  | g :: l, n, h, hn => by
    simp only [risingS, Bool.and_eq_true, decide_eq_true_eq] at h
    have e : g.id ≠ id := by omega
    rw [z6c, if_neg e, zlq l g.id h.2 (by omega)]
    rfl
theorem ziz (id : Int) : ∀ (l : List Frm) (n : Int), risingS n l = true → findS l id = if hereS id l then (posS id l : Int) else -1
  | [], _, _ => by simp [hereS, posS]; rfl
  | g :: l, n, hr => by
    simp only [risingS, Bool.and_eq_true, decide_eq_true_eq] at hr; rw [z6c]
    by_cases c : g.id < id
    · have e : g.id ≠ id := by omega
      have h2 : hereS id (g :: l) = hereS id l := by simp [hereS, posS, c]
      rw [if_neg e, h2, ziz id l g.id hr.2]
      cases hereS id l
      · simp
      · simp [posS, c]
    · by_cases e : g.id = id
      · simp [e, hereS, posS]
      · have h1 : hereS id (g :: l) = false := by simp [hereS, posS, c, e]
        rw [if_neg e, h1, zlq l g.id hr.2 (by omega)]
        rfl
end Go.Proofs.Ytjkjhgfiaodgmaa.V
namespace Go.Proofs.Ytjkjhgfiaodgmaa.V
open Go
theorem zwh {f : Fld} (h : rgtS f = true) : 0 ≤ f.id := by
  simp only [rgtS, Bool.and_eq_true, decide_eq_true_eq] at h; exact h.1.1
theorem zk4 {s : Sch} {x : Stp} (hx : tRightS x = true) (h10 : x.op ≤ 10) (h9 : x.op ≠ 9) {j : Nat} {g : Frm} (e1 : findS s.forms x.form = (j : Int)) (e2 : s.forms[j]? = some g) :
    thereS x g (atG x g) (freshG x) = namesS s x := by
  have n1 : ¬ ((j : Int) < 0) := by omega
  have en : namesS s x = (if fieldS x.op && decide (atS g.fields x.field < 0) then 8
        else if (x.op == 1 && decide (0 ≤ atS g.fields x.f.id)) || ((x.op == 6 || x.op == 8) && decide (0 ≤ atS g.fields x.to)) then 9
        else if (x.op == 1 && decide ((g.fields.length : Int) < x.place)) || (x.op == 7 && decide ((g.fields.length : Int) ≤ x.place)) then 3 else 0) := by
    simp only [namesS, h9, if_false, e1, n1, Int.toNat_natCast, e2]
  rw [en]
  rcases z3p hx h10 with o | o | o | o | o | o | o | o | o | o
  · obtain ⟨p1, p2⟩ := ze9 hx o
    have p3 := zwh p2
    have p4 : ¬ (x.place < 0) := by omega
    simp [thereS, atG, freshG, fieldS, o, p3, p4]
  · simp [thereS, atG, freshG, fieldS, o]
  · simp [thereS, atG, freshG, fieldS, o]
  · simp [thereS, atG, freshG, fieldS, o]
  · simp [thereS, atG, freshG, fieldS, o]
  · have := (zlm hx o).2
    simp [thereS, atG, freshG, fieldS, o, this]
  · simp [thereS, atG, freshG, fieldS, o]
  · have := zuh hx o
    simp [thereS, atG, freshG, fieldS, o, this]
  · exact absurd o h9
  · simp [thereS, atG, freshG, fieldS, o]
theorem zbv (s : Sch) (x : Stp) (v : Int) (l : List Frm) (hl : Sml ⟨v, l⟩) : z7p (OA (tbl E0) (ltbl E0 14 0)) s x (fun r o => (some (r, o) : Option CR)) (l.map frmV) v =
    some ([schV (if schS ⟨v, l⟩ then (⟨v, l⟩, (0 : Int)) else (sch0, 7)).1, iV (if schS ⟨v, l⟩ then ((⟨v, l⟩ : Sch), (0 : Int)) else (sch0, 7)).2], []) := by
  have c := z5i ⟨v, l⟩ hl; simp only [schV, frmsV] at c; simp only [z7p, zx l, cond_true, z9, za, c, Option.bind_some, u_asC, u_asB, u_asN]
  rcases bor (schS ⟨v, l⟩) with h | h
  · simp [h]
  · simp [h, sch0]
set_option maxHeartbeats 4000000 in
theorem c_gOn (s : Sch) (x : Stp) (hs : Few s) (hx : x.sml) (hxo : x.ok) : tbl E0 14 [schV s, stpV x] [] = some ([schV (onS s x).1, iV (onS s x).2], []) := t_gOn s x (by
  have c1 := z5i s hs.sml; have c2 := zit x hxo hx; simp only [schV, stpV, stpC, intsV, frmsV, fldsV] at c1 c2
  have gate : onS s x = if !(schS s) || (!(tRightS x) || decide (10 < x.op)) then (sch0, 2) else onS s x := by
    by_cases h : (!(schS s) || (!(tRightS x) || decide (10 < x.op))) = true
    · rw [if_pos h]; unfold onS; rw [if_pos h]
    · rw [if_neg h]
  simp only [s_gOn, z9, cond_true, zq, za, c1, Option.bind_some, u_asC, u_asB, u_asN]
  rcases bor' (schS s) with h1 | h1
  · simp [h1, gate, sch0]
  simp only [h1, Bool.not_true, cond_false, c2, Option.bind_some, u_asC, u_asB, u_asN]
  rcases bor' (tRightS x) with h2 | h2
  · simp [h1, h2, gate, sch0]
  have hop := (z2s h2).2.1
  have hop1 : ¬ (x.op < 1) := by
    simp only [opsL, List.mem_cons, List.not_mem_nil, or_false] at hop; omega
  simp only [h2, Bool.not_true, hop1, decide_false, cond_false, Option.bind_some, Tok.untok_tok, gt_iff_lt]
  by_cases h3 : 10 < x.op
  · simp [h1, h2, h3, gate, sch0]
  have g0 : ¬ ((!(schS s) || (!(tRightS x) || decide (10 < x.op))) = true) := by simp [h1, h2, h3]
  have sf := z5v h1
  have cc := zfo s (by omega) (fun f hf => by have := (sf.2 f hf).1; omega)
  simp only [schV, frmsV, frmsU] at cc; have q := zx s.forms; simp only [h3, decide_false, cond_false, zh, cc, Option.bind_some, u_asC, u_asA, u_asI, zt, u_asN, q, cond_true]
  have sml8 : ∀ (l : List Frm), l.length ≤ 9 → (∀ f ∈ l, f.fields.length ≤ 900) → Sml ⟨s.ver, l⟩ := fun l a b => ⟨Nat.le_trans a (by decide), fun f hf => Nat.le_trans (b f hf) (by decide)⟩
  have rise : risingS (-1) s.forms = true := by
    simp only [schS, Bool.and_eq_true] at h1; exact h1.2
  have hfind := ziz x.form s.forms (-1) rise; have hpos := ziw x.form s.forms
  by_cases h9 : x.op = 9
  · have ct := zpp x s.ver s.forms 0 0 (by omega) h9
    have t9 : (x.op == 9) = true := by simpa using h9
    simp only [madO, intsV, fldsV, frmsU] at ct; simp only [ct, Option.bind_some, nbeq, decide_true, cond_true, u_asC, u_asA, u_asI, u_asS, u_asL, zt, u_asN]
    rcases bor (hereS x.form s.forms) with hh | hh
    · have en : namesS s x = 9 := by simp [namesS, h9, hfind, hh]
      have eo : onS s x = (sch0, 9) := by unfold onS; rw [if_neg g0, if_pos (by simp [en]), en]
      rw [eo]; simp [hh, sch0]
    · have en : namesS s x = 0 := by simp [namesS, h9, hfind, hh]
      have eo : onS s x = outS s ⟨x.form, x.fields⟩ := by unfold onS; rw [if_neg g0, if_neg (by simp [en]), if_pos h9]
      have f9 := zln h2 h9; have l9 : x.fields.length ≤ 8 := (zf7 f9).1
      have cl := z5u x.fields (by omega)
      have ci := zwf s.forms (posS x.form s.forms) [⟨x.form, x.fields⟩] hpos (by simp; omega)
      have fn := zfq ⟨x.form, x.fields⟩ s.forms (-1) rise hh; simp only [fldsV, fldsU, frmsU, List.map_cons, List.map_nil] at cl ci
      have k3 := zbv s x s.ver (s.forms.take (posS x.form s.forms) ++ [⟨x.form, x.fields⟩] ++ s.forms.drop (posS x.form s.forms)) (sml8 _ (by simp; omega) (fun f hf => by
        simp only [List.mem_append, List.mem_singleton] at hf
        rcases hf with (hf | hf) | hf
        · have := (sf.2 f (List.mem_of_mem_take hf)).1; omega
        · subst hf; simp; omega
        · have := (sf.2 f (List.mem_of_mem_drop hf)).1; omega))
      simp only [hh, Bool.false_eq_true, if_false, t9, cond_true, zbt, z2t, zh, cl, ci, Option.bind_some, u_asC, zt, u_asN, z35, z9, q, k3, z12, z2h, (by decide : ((0 : Int) != 0) = false), cond_false]
      have hne : (⟨x.form, x.fields⟩ : Frm).fields.isEmpty = false := by
        rw [z33] at f9; have := f9.2.1.1
        cases hxf : x.fields with
        | nil => simp [hxf] at this
        | cons a l => rfl
      rw [eo, outS, hne, fn]
  have t9 := beq_f h9
  rcases bor' (hereS x.form s.forms) with hh | hh
  · have ct := zpq x s.ver s.forms 0 0 (by omega) h9 hh
    have en : namesS s x = 8 := by simp [namesS, h9, hfind, hh]
    have eo : onS s x = (sch0, 8) := by unfold onS; rw [if_neg g0, if_pos (by simp [en]), en]
    simp only [madO, intsV, fldsV, frmsU] at ct; simp only [ct, Option.bind_some, nbeq, decide_true, cond_true, u_asC, u_asA, u_asI, u_asS, u_asL, zt, u_asN]; rw [eo]; simp [sch0]
  · rw [hh] at hfind
    simp only [if_true] at hfind
    obtain ⟨g, hg, he⟩ : ∃ g, s.forms[posS x.form s.forms]? = some g ∧ g.id = x.form := by
      unfold hereS at hh
      split at hh
      · rename_i g hg; exact ⟨g, hg, by simpa using hh⟩
      · cases hh
    have hp : posS x.form s.forms < s.forms.length := (List.getElem?_eq_some_iff.1 hg).1; have hgl := (sf.2 g (List.mem_of_getElem? hg)).1
    have ct := zsg x s.ver s.forms 0 0 (by omega) (fun f hf => by have := (sf.2 f hf).1; omega) h9 g hg he
    rw [zk4 h2 (by omega) h9 hfind hg] at ct
    simp only [madO, intsV, fldsV, frmsU] at ct; simp only [ct, Option.bind_some, nbeq, decide_true, cond_true, u_asC, u_asA, u_asI, u_asS, u_asL, zt, u_asN]
    by_cases h4 : ¬ (namesS s x = 0)
    · have h4' := bne_t h4
      have eo : onS s x = (sch0, namesS s x) := by unfold onS; rw [if_neg g0, if_pos h4]
      rw [eo]; simp only [h4', cond_true, sch0, schV, frmsV, List.map_nil]
    have h4 : namesS s x = 0 := Classical.not_not.1 h4
    have h4' : (namesS s x != 0) = false := by simp [h4]
    simp only [h4', cond_false, t9]
    by_cases o10 : x.op = 10
    · have t10 : (x.op == 10) = true := by simpa using o10
      have o1 : x.op ≠ 1 := by omega
      have eo : onS s x = outS s ⟨x.form, []⟩ := by unfold onS; rw [if_neg g0, if_neg (by simp [h4]), if_neg h9, if_neg o1, if_pos o10]
      have cd := zwg s.forms (posS x.form s.forms) hp; have fn := zfr ⟨x.form, []⟩ s.forms (-1) rise hh
      have e1 := zn (i := posS x.form s.forms) (by omega)
      have k3 := zbv s x s.ver (s.forms.take (posS x.form s.forms) ++ s.forms.drop (posS x.form s.forms + 1)) (sml8 _ (by simp; omega) (fun f hf => by
        simp only [List.mem_append] at hf
        rcases hf with hf | hf
        · have := (sf.2 f (List.mem_of_mem_take hf)).1; omega
        · have := (sf.2 f (List.mem_of_mem_drop hf)).1; omega))
      simp only [frmsU] at cd; simp only [t10, cond_true, z2h, q, zh, e1, cd, Option.bind_some, z2t, u_asC, zt, u_asN, z9, k3, z12]; have hne : (⟨x.form, []⟩ : Frm).fields.isEmpty = true := rfl; rw [eo, outS, hne, fn]
    have t10 := beq_f o10; simp only [t10, cond_false, q, cond_true, zh]
    have tail : ∀ nw : List Fld, (if schS ⟨s.ver, s.forms.set (posS x.form s.forms) ⟨g.id, nw⟩⟩ then ((⟨s.ver, s.forms.set (posS x.form s.forms) ⟨g.id, nw⟩⟩ : Sch), (0 : Int)) else (sch0, 7)) = if nw.isEmpty then (sch0, 7) else outS s ⟨x.form, nw⟩ := by
      intro nw; have fn := zfp ⟨x.form, nw⟩ s.forms (-1) rise hh; rw [he]
      rcases bor nw.isEmpty with z | z
      · have : schS ⟨s.ver, s.forms.set (posS x.form s.forms) ⟨x.form, nw⟩⟩ = false := by
          cases hb : schS ⟨s.ver, s.forms.set (posS x.form s.forms) ⟨x.form, nw⟩⟩ with
          | false => rfl
          | true =>
            simp only [schS, Bool.and_eq_true] at hb; have hm := z2v _ _ hb.2 ⟨x.form, nw⟩ (List.mem_set hp _); rw [z33] at hm; have := hm.2.1.1
            cases nw with
            | nil => simp at this
            | cons a l => cases z
        rw [this, z]; rfl
      · have hne : (⟨x.form, nw⟩ : Frm).fields.isEmpty = false := z
        rw [z, outS, hne, fn]; rfl
    obtain ⟨j, g', e1, e2, e3, e4, e5, e6, e7, e8⟩ := names0 h4 h9
    have hj : j = posS x.form s.forms := by rw [hfind] at e1; omega
    subst hj
    have hgg : g' = g := by rw [hg] at e2; injection e2 with e2; exact e2.symm
    subst hgg
    have main : ∃ (e : Nat) (nw : List Fld) (b : Bool), atG x g' = (e : Int) ∧ nw.length ≤ 900 ∧ onS s x = (if b then (if nw.isEmpty then (sch0, 7) else outS s ⟨x.form, nw⟩) else (sch0, 17)) ∧
        tbl E0 28 [.ref 0 0] [(0, madO x s.ver s.forms (posS x.form s.forms) e)] = some ([.bool b], [(0, madO x s.ver (if b then s.forms.set (posS x.form s.forms) ⟨g'.id, nw⟩ else s.forms) (posS x.form s.forms) e)]) := by
      by_cases o1 : x.op = 1
      · obtain ⟨p1, p2⟩ := ze9 h2 o1
        have p3 := (e6 o1).1
        obtain ⟨k, hk⟩ : ∃ k : Nat, x.place = (k : Int) := ⟨x.place.toNat, by omega⟩
        have eo : onS s x = outS s ⟨x.form, putS g'.fields k [x.f]⟩ := by unfold onS; rw [if_neg g0, if_neg (by simp [h4]), if_neg h9, if_pos o1, e4, hk, Int.toNat_natCast]
        refine ⟨k, putS g'.fields k [x.f], true, by simp [atG, o1, hk], by rw [zlo]; simp; omega, ?_, ?_⟩
        · have : (putS g'.fields k [x.f]).isEmpty = false := by simp [putS]
          rw [eo, this]; rfl
        · exact zda x s.ver s.forms (posS x.form s.forms) k 0 g' [x.f] true hg (by omega) (by omega) (by omega) (by omega) (by simp) (zn9 x s.ver s.forms _ _ o1)
      have hfield : fieldS x.op = true := by simp [fieldS, o1, h9, o10]
      obtain ⟨k, f, q1, q2⟩ := e5 hfield; have hk : k < g'.fields.length := (List.getElem?_eq_some_iff.1 q2).1; have hf : rgtS f = true := (sf.2 g' (List.mem_of_getElem? hg)).2 f (List.mem_of_getElem? q2)
      have ha : atG x g' = (k : Int) := by simp [atG, o1, o10, q1]
      have hC := zlp hk
      have eo : onS s x = if (typesS f x).2 then (if (newS g'.fields x (typesS f x).1).isEmpty then (sch0, 7) else outS s ⟨x.form, newS g'.fields x (typesS f x).1⟩) else (sch0, 17) := by
        unfold onS
        rw [if_neg g0, if_neg (by simp [h4]), if_neg h9, if_neg o1, if_neg o10, e4, q1, Int.toNat_natCast, q2]
      by_cases o7 : x.op = 7
      · have p := zui h2 o7
        have p2 := e7 o7
        obtain ⟨n, hn⟩ : ∃ n : Nat, x.place = (n : Int) := ⟨x.place.toNat, by omega⟩
        have et : typesS f x = ([f], true) := by simp [typesS, o7]
        have enw : newS g'.fields x [f] = putS (cutS g'.fields k) n [f] := by simp only [newS, o7, if_true, hn, Int.toNat_natCast, q1]
        refine ⟨k, putS (cutS g'.fields k) n [f], true, ha, by rw [zlo]; simp; omega, ?_, ?_⟩
        · rw [eo, et, enw]
        · exact zna x s.ver s.forms (posS x.form s.forms) k n g' f hg q2 o7 hn (by omega) (by omega)
      · have ops : x.op = 2 ∨ x.op = 3 ∨ x.op = 4 ∨ x.op = 5 ∨ x.op = 6 ∨ x.op = 8 := by
          have := z3p h2 (by omega)
          omega
        obtain ⟨tt1, tt2⟩ := zix hf o7 ops
        have ct := zpm x s.ver s.forms (posS x.form s.forms) k g' f hg q2 (fun _ => hf) o1 (fun o6 => by have := zlm h2 o6; omega)
        have tl : (turnedS f x).1.length ≤ 8 := by
          unfold turnedS
          repeat' split
          all_goals simp
        have enw : newS g'.fields x (turnedS f x).1 = g'.fields.take k ++ (turnedS f x).1 ++ g'.fields.drop (k + 1) := by
          simp only [newS, o7, if_false, Int.toNat_natCast, q1, putS, cutS]
          have e1 : (g'.fields.take k).length = k := by simp; omega
          rw [List.take_append_of_le_length (by omega), List.drop_append_of_le_length (by omega)]
          have e2 : (g'.fields.take k).drop k = [] := List.drop_eq_nil_of_le (by omega)
          rw [e2, List.take_take, Nat.min_self, List.nil_append]
        refine ⟨k, g'.fields.take k ++ (turnedS f x).1 ++ g'.fields.drop (k + 1), (turnedS f x).2, ha, by simp; omega, ?_, ?_⟩
        · rw [eo, tt1]
          rcases bor (typesS f x).2 with t | t
          · rw [t, ← tt2 t, enw]
          · rw [t]
            rfl
        · exact zda x s.ver s.forms (posS x.form s.forms) k 1 g' (turnedS f x).1 (turnedS f x).2 hg o7 (by omega) (by omega) (by omega) tl ct
    obtain ⟨e, nw, b, ha, hl, hon, hc⟩ := main; rw [ha, hon]; simp only [madO, intsV, fldsV, frmsU] at hc; simp only [hc, Option.bind_some, nbeq, decide_true, cond_true, u_asC, u_asA, u_asI, u_asS, u_asL, zt, u_asN, u_asB]
    have k3 := zbv s x s.ver (s.forms.set (posS x.form s.forms) ⟨g'.id, nw⟩) (sml8 _ (by simp; omega) (fun f hf => by
      rcases List.mem_or_eq_of_mem_set hf with hf | hf
      · have := (sf.2 f hf).1; omega
      · subst hf; exact hl))
    rcases bor b with hb | hb
    · simp only [hb, Bool.not_true, cond_false, if_true, k3, tail nw]
    · simp [hb, sch0])
end Go.Proofs.Ytjkjhgfiaodgmaa.V
namespace Go.Proofs.Ytjkjhgfiaodgmaa.V
open Go
theorem zuj (l : List Stp) (hl : l.length ≤ 1000) (hx : ∀ x ∈ l, x.sml ∧ x.ok) : ∀ (r : List Stp) (i : Nat) (s : Sch), l.drop i = r → Few s →
    ltbl E0 7 0 3 [stpsV l, iV l.length, iV i] [[iV 0, frmsV []], [iV s.ver, frmsV s.forms]] =
      some (if (allS s i r).2.2 = 0 then (1, [], [[iV 0, frmsV []], [iV (allS s i r).1.ver, frmsV (allS s i r).1.forms]]) else (0, [iV ((allS s i r).2.1 : Nat), iV (allS s i r).2.2], [[iV 0, frmsV []]])) := by
  intro r
  induction r with
  | nil =>
    intro i s hr hs
    have h : l.length ≤ i := by simpa using hr
    refine zlk _ _ _ _ ?_
    have : ¬ ((i : Int) < l.length) := by omega
    simp [ze6, this, allS]
  | cons x r ih =>
    intro i s hr hs; obtain ⟨hlt, hget, hr2⟩ := zw hr
    have h2 : (i : Int) < l.length := by omega
    have e1 := zn (i := i) (by omega)
    have c := c_gOn s x hs (hx x (z1e hr)).1 (hx x (z1e hr)).2; simp only [schV, frmsV, stpV, stpC, intsV, fldsV] at c; refine zlk _ _ _ _ ?_; simp only [stpV, stpC, intsV, fldsV, frmsV, List.map_nil] at ih ⊢; simp only [ze6, ze, List.length_map, h2, decide_true, cond_true, z9, Int.natCast_nonneg, nthE, Int.toNat_natCast, List.getElem?_map, hget, Option.map_some, u_asA, u_asC, u_asI, u_asS, u_asL, u_asN, stpV, stpC, intsV, fldsV, za, c, Option.bind_some, e1, z2h, z12]
    by_cases h : (onS s x).2 = 0
    · have h' : ((onS s x).2 != 0) = false := by simp [h]
      have e := ih (i + 1) (onS s x).1 hr2 (zd9 (z5w h)); simp only [h', cond_false, e, allS, if_pos h]
    · have h' := bne_t h
      simp only [h', cond_true, allS, if_neg h]
theorem zuk : ∀ (l : List Stp) (i : Nat) (s : Sch), ((allS s i l).2.2 = 0 → (allS s i l).2.1 = 0) ∧ ((allS s i l).2.2 ≠ 0 → (allS s i l).1 = sch0) := by
  intro l
  induction l with
  | nil => intro i s; simp [allS]
  | cons x l ih =>
    intro i s; unfold allS
    by_cases h : (onS s x).2 = 0
    · rw [if_pos h]; exact ih _ _
    · rw [if_neg h]; exact ⟨fun h2 => absurd h2 h, fun _ => rfl⟩
theorem zj0 (s : Sch) (l : List Stp) (hs : Few s) (hl : l.length ≤ 1000) (hx : ∀ x ∈ l, x.sml ∧ x.ok) : tbl E0 7 [schV s, stpsV l] [] = some ([schV (allS s 0 l).1, iV ((allS s 0 l).2.1 : Nat), iV (allS s 0 l).2.2], []) := zwa s l (by
  have c := zuj l hl hx l 0 s rfl hs; obtain ⟨z1, z2⟩ := zuk l 0 s; have cc := zfo s hs.1 hs.2; simp only [Int.natCast_zero, stpsV, frmsV, List.map_nil] at c; have ff := zx s.forms; simp only [frmsU, schV, frmsV] at cc; simp only [zp8, z9, cond_true, zh, ze, List.length_map, cc, Option.bind_some, u_asC, u_asA, u_asI, zt, u_asN, ff, zm, c]
  by_cases h : (allS s 0 l).2.2 = 0
  · simp [h, z1 h]
  · simp [h, z2 h, sch0])
end Go.Proofs.Ytjkjhgfiaodgmaa.V
namespace Go.Proofs.Ytjkjhgfiaodgmaa.V
open Go
def stpN : Stp := ⟨0, 0, 0, 0, 0, 0, 0, fld0, 0, [], [], []⟩
def ownAt (s : Sch) (x : Stp) : Fld := match (oldS s x)[(atS (oldS s x) x.field).toNat]? with | some f => f | none => fld0
def backOf (s : Sch) (x : Stp) : Stp :=
  if x.op = 9 then ⟨29, x.form, 0, 0, 0, 0, 0, fld0, 0, [], [], []⟩
  else if x.op = 10 then ⟨30, x.form, 0, 0, 0, 0, 0, fld0, 0, [], [], oldS s x⟩
  else if x.op = 1 then ⟨21, x.form, x.f.id, 0, 0, 0, 0, fld0, 0, [], [], []⟩
  else if x.op = 2 then ⟨22, x.form, 0, atS (oldS s x) x.field, 0, 0, 0, ownAt s x, x.n, x.s, [], []⟩
  else if x.op = 3 then ⟨23, x.form, x.field, 0, 0, 0, 0, ownAt s x, 0, [], [], []⟩
  else if x.op = 4 then ⟨24, x.form, x.field, 0, 0, x.a, x.b, ownAt s x, 0, [], [], []⟩
  else if x.op = 5 then ⟨25, x.form, x.field, 0, 0, 0, 0, fld0, 0, [], x.t, []⟩
  else if x.op = 6 then ⟨26, x.form, x.field, 0, x.to, x.a, 0, ownAt s x, 0, [], [], []⟩
  else if x.op = 7 then ⟨27, x.form, x.field, atS (oldS s x) x.field, 0, 0, 0, fld0, 0, [], [], []⟩
  else ⟨28, x.form, x.to, 0, x.field, 0, 0, fld0, 0, [], [], []⟩
def invS (s : Sch) (x : Stp) : Stp × Int := if (onS s x).2 = 0 then (backOf s x, 0) else (stpN, (onS s x).2)
def backS (s : Sch) (out : List Stp) : List Stp → List Stp × Int
  | [] => (out, 0)
  | x :: l => if (onS s x).2 = 0 then backS (onS s x).1 (backOf s x :: out) l else ([], (onS s x).2)
def trailS (s : Sch) : List Stp → List Stp
  | [] => []
  | x :: l => backOf s x :: trailS (onS s x).1 l
def likeN : List Stp → List Stp → Nat
  | a :: l, b :: r => if a = b then likeN l r + 1 else 0
  | _, _ => 0
theorem zbw : ∀ (l : List Stp) (i : Nat) (s : Sch) (out : List Stp), (backS s out l).2 = (allS s i l).2.2
  | [], i, s, out => rfl
  | x :: l, i, s, out => by
    unfold backS allS
    by_cases h : (onS s x).2 = 0
    · rw [if_pos h, if_pos h]; exact zbw l (i + 1) _ _
    · rw [if_neg h, if_neg h]
theorem zj1 : ∀ (l : List Stp) (s : Sch) (out : List Stp), (backS s out l).2 ≠ 0 → (backS s out l).1 = []
  | [], s, out, h => absurd rfl h
  | x :: l, s, out, h => by
    unfold backS at h ⊢
    by_cases e : (onS s x).2 = 0
    · rw [if_pos e] at h ⊢; exact zj1 l _ _ h
    · rw [if_neg e]
theorem zea : ∀ (l : List Stp) (s : Sch) (out : List Stp), (backS s out l).2 = 0 → (backS s out l).1 = (trailS s l).reverse ++ out
  | [], s, out, h => rfl
  | x :: l, s, out, h => by
    unfold backS at h ⊢
    by_cases e : (onS s x).2 = 0
    · rw [if_pos e] at h ⊢
      rw [zea l _ _ h, trailS]; simp
    · rw [if_neg e] at h; exact absurd h e
theorem zfs : ∀ (l : List Stp) (s : Sch), (trailS s l).length = l.length
  | [], s => rfl
  | x :: l, s => by rw [trailS, List.length_cons, zfs l, List.length_cons]
theorem at_id {l : List Fld} {id : Int} {k : Nat} {f : Fld} (h : atS l id = (k : Int)) (hk : l[k]? = some f) : f.id = id := by
  rcases z6a (p := fun f : Fld => f.id == id) (l := l) with ⟨j, g, q1, q2, q3⟩ | q1
  · have q1 : atS l id = (j : Int) := q1
    have : j = k := by omega
    subst this; rw [q2] at hk; injection hk with hk; subst hk
    simpa using q3
  · have q1 : atS l id = -1 := q1
    omega
theorem z1g {s : Sch} {x : Stp} (h : (onS s x).2 = 0) (h1 : x.op ≠ 1) (h9 : x.op ≠ 9) (h10 : x.op ≠ 10) : ∃ (k : Nat) (f : Fld), atS (oldS s x) x.field = (k : Int) ∧ (oldS s x)[k]? = some f ∧ f.id = x.field ∧ rgtS f = true ∧ ownAt s x = f ∧ k ≤ 7 ∧ (typesS f x).2 = true := by
  obtain ⟨_, _, _, _, hs, h4, hr, hle⟩ := z36 h; obtain ⟨j, g, e1, e2, e3, e4, e5, _⟩ := names0 h4 h9
  obtain ⟨k, f, q1, q2⟩ := e5 (by simp [fieldS, h1, h9, h10])
  have sf := z5v hs; have hg := sf.2 g (List.mem_of_getElem? e2); have hk := (List.getElem?_eq_some_iff.1 q2).1
  refine ⟨k, f, by rw [e4]; exact q1, by rw [e4]; exact q2, at_id q1 q2, hg.2 f (List.mem_of_getElem? q2), ?_, by omega, ?_⟩
  · unfold ownAt
    rw [e4, q1, Int.toNat_natCast, q2]
  · have g0 : ¬ (!(schS s) || (!(tRightS x) || decide (10 < x.op))) = true := by simp [hs, hr]; omega
    cases ht : (typesS f x).2 with
    | true => rfl
    | false =>
      exfalso; unfold onS at h
      rw [if_neg g0, if_neg (by simp [h4]), if_neg h9, if_neg h1, if_neg h10, e4, q1, Int.toNat_natCast, q2] at h
      simp [ht] at h
end Go.Proofs.Ytjkjhgfiaodgmaa.V
namespace Go.Proofs.Ytjkjhgfiaodgmaa.V
open Go
theorem zsi (l : List Int) (h : l.length ≤ 1000) : tbl E0 76 [intsV l] [] = some ([intsV l], []) := zrc l (by
  have h2 : (0 + (l.map fun n => iV n).length) * 8 ≤ 211106232532992 := by rw [List.length_map]; omega
  cases l with
  | nil =>
    simp only [zbg, List.map_nil]
    exact z6l (fun b => by cases b <;> rfl)
  | cons a l =>
    simp only [zbg, List.map_cons] at h2 ⊢; have h3 := decide_eq_true h2; simp only [nilEq, List.map_cons, z9, h3, cond_false, cond_true]
    rfl)
def pownS (s : Sch) (x : Stp) : Fld × Int :=
  match formS s.forms x.form with
  | none => (fld0, 0)
  | some g => match g.fields[(atS g.fields x.field).toNat]? with
    | some f => if 0 ≤ atS g.fields x.field then (f, atS g.fields x.field) else (fld0, 0)
    | none => (fld0, 0)
theorem zwj {l : List Fld} {id : Int} : (∃ (k : Nat) (f : Fld), atS l id = (k : Int) ∧ l[k]? = some f) ∨ atS l id = -1 := by
  rcases z6a (p := fun f : Fld => f.id == id) (l := l) with ⟨j, g, q1, q2, q3⟩ | q1
  · exact .inl ⟨j, g, q1, q2⟩
  · exact .inr q1
theorem zum (s : Sch) (x : Stp) (hs : Few s) : tbl E0 75 [schV s, stpV x] [] = some ([fldV (pownS s x).1, iV (pownS s x).2], []) := ztt s x (by
  have c1 := zl9 s x.form hs.sml; simp only [schV, frmsV] at c1
  rcases zf6 s.forms x.form with ⟨j, g, h1, h2, h3⟩ | ⟨h1, h2⟩
  · rw [h1] at c1
    have c2 := c_sAt g x.field (by have := hs.2 g (List.mem_of_getElem? h3); omega)
    simp only [frmV, fldsV] at c1 c2; simp only [zdy, z9, cond_true, za, c1, c2, Option.bind_some, u_asC, u_asA, u_asI, u_asB, u_asL, u_asN, pownS, h1]
    rcases zwj (l := g.fields) (id := x.field) with ⟨k, f, q1, q2⟩ | q1
    · have q3 : (k : Int) ≥ 0 := by omega
      have q4 : (0 : Int) ≤ k := q3; simp only [q1, Int.toNat_natCast, q2, q3, q4, decide_true, cond_true, if_true, z9, nthE, List.getElem?_map, Option.map_some, u_asC, u_asA, u_asI, u_asN]
    · have q3 : ¬ ((-1 : Int) ≥ 0) := by omega
      have q4 : ¬ ((0 : Int) ≤ -1) := by omega
      simp only [q1, q3, q4, decide_false, cond_false, if_false]
      cases g.fields[(-1 : Int).toNat]? <;> rfl
  · rw [h1] at c1
    have c2 := c_sAt ⟨0, []⟩ x.field (by simp)
    have q : atS [] x.field = -1 := rfl
    have q3 : ¬ ((-1 : Int) ≥ 0) := by omega
    simp only [frmV, fldsV, List.map_nil, q] at c1 c2; simp only [zdy, z9, cond_true, za, c1, c2, Option.bind_some, u_asC, u_asA, u_asI, u_asB, u_asL, u_asN, pownS, h1, q3, decide_false, cond_false]
    rfl)
theorem zeb {s : Sch} {x : Stp} (h : (onS s x).2 = 0) (h9 : x.op ≠ 9) : ∃ (j : Nat) (g : Frm), findS s.forms x.form = (j : Int) ∧ s.forms[j]? = some g ∧ oldS s x = g.fields ∧ formS s.forms x.form = some g ∧ g.fields.length ≤ 8 := by
  obtain ⟨_, _, _, _, hs, h4, hr, hle⟩ := z36 h; obtain ⟨j, g, e1, e2, e3, e4, _⟩ := names0 h4 h9; refine ⟨j, g, e1, e2, e4, ?_, ((z5v hs).2 g (List.mem_of_getElem? e2)).1⟩
  rcases zf6 s.forms x.form with ⟨j', g', h1, h2, h3⟩ | ⟨h1, h2⟩
  · have : j' = j := by omega
    subst this; rw [e2] at h3; injection h3 with h3; rw [h1, h3]
  · omega
theorem z6x {s : Sch} {x : Stp} (h : (onS s x).2 = 0) (h9 : x.op ≠ 9) {k : Nat} {f : Fld} (q1 : atS (oldS s x) x.field = (k : Int)) (q2 : (oldS s x)[k]? = some f) : pownS s x = (f, (k : Int)) := by
  obtain ⟨j, g, e1, e2, e3, e4, _⟩ := zeb h h9; rw [e3] at q1 q2
  have q4 : (0 : Int) ≤ k := by omega
  simp only [pownS, e4, q1, Int.toNat_natCast, q2, q4, if_true]
theorem zdb {x : Stp} (h : tRightS x = true) (o : x.op = 9 ∨ x.op = 10) : x.field = 0 := by
  have h3 := congrArg Stp.field (z2s h).2.2
  rcases o with o | o <;> simpa [onlyS, hasS, usesS, o] using h3
theorem zlr {x : Stp} (h : tRightS x = true) (o : x.op = 5) : x.t.length ≤ 64 := by
  have h8 := z1f h 8 (by rw [o]; decide)
  simp [fitsS, o] at h8; simp only [apartS, Bool.and_eq_true, decide_eq_true_eq] at h8; exact h8.2.2
theorem zps (s : Sch) (x : Stp) (hs : Few s) (hm : x.sml) (ho : x.ok) : tbl E0 55 [schV s, stpV x] [] = some ([stpV (invS s x).1, iV (invS s x).2], []) := zof s x (by
  have c1 := c_gOn s x hs hm ho; simp only [schV, frmsV, stpV, stpC, intsV, fldsV] at c1
  by_cases h : (onS s x).2 = 0
  · have h' : ((onS s x).2 != 0) = false := by simp [h]
    have ei : invS s x = (backOf s x, 0) := by unfold invS; rw [if_pos h]
    obtain ⟨_, _, _, _, hsr, h4, hr, hle⟩ := z36 h; have c2 := zum s x hs; simp only [schV, frmsV, stpV, stpC, intsV, fldsV] at c2; rw [ei]; simp only [z96, z9, cond_true, za, c1, h', cond_false, Option.bind_some, u_asC, u_asA, u_asI, u_asL, u_asN]
    rcases z3p hr hle with o | o | o | o | o | o | o | o | o | o
    · have eb : backOf s x = ⟨21, x.form, x.f.id, 0, 0, 0, 0, fld0, 0, [], [], []⟩ := by simp [backOf, o]
      have b1 : (x.op == 1) = true := by rw [o]; rfl
      have w : IntKind.i64.wrap (x.op + 20) = 21 := by rw [o]; rfl
      rw [eb]; simp only [fldV, fldC] at c2; simp only [c2, b1, w, z9, cond_true, cond_false, za, zh, Option.bind_some, u_asC, u_asA, u_asI, u_asB, u_asL, zt, u_asS, u_asN, fld0, List.map_nil]; rfl
    · obtain ⟨k, f, q1, q2, q3, q4, q5, q6, q7⟩ := z1g h (by omega) (by omega) (by omega)
      have ep := z6x h (by omega) q1 q2
      have eb : backOf s x = ⟨22, x.form, 0, (k : Int), 0, 0, 0, f, x.n, x.s, [], []⟩ := by simp [backOf, o, q1, q5]
      have b1 : (x.op == 1) = false := by rw [o]; rfl
      have b2 : (x.op == 2) = true := by rw [o]; rfl
      have w : IntKind.i64.wrap (x.op + 20) = 22 := by rw [o]; rfl
      rw [ep] at c2; rw [eb]; simp only [fldV, fldC] at c2; simp only [c2, b1, b2, w, z9, cond_true, cond_false, za, zh, Option.bind_some, u_asC, u_asA, u_asI, u_asB, u_asL, zt, u_asS, u_asN, fld0, List.map_nil]; rfl
    · obtain ⟨k, f, q1, q2, q3, q4, q5, q6, q7⟩ := z1g h (by omega) (by omega) (by omega)
      have ep := z6x h (by omega) q1 q2
      have eb : backOf s x = ⟨23, x.form, x.field, 0, 0, 0, 0, f, 0, [], [], []⟩ := by simp [backOf, o, q1, q5]
      have b1 : (x.op == 1) = false := by rw [o]; rfl
      have b2 : (x.op == 2) = false := by rw [o]; rfl
      have b4 : (x.op == 4) = false := by rw [o]; rfl
      have b6 : (x.op == 6) = false := by rw [o]; rfl
      have b3 : (x.op == 3) = true := by rw [o]; rfl
      have w : IntKind.i64.wrap (x.op + 20) = 23 := by rw [o]; rfl
      rw [ep] at c2; rw [eb]; simp only [fldV, fldC] at c2; simp only [c2, b1, b2, b4, b6, b3, w, z9, cond_true, cond_false, za, zh, Option.bind_some, u_asC, u_asA, u_asI, u_asB, u_asL, zt, u_asS, u_asN, fld0, List.map_nil]; rfl
    · obtain ⟨k, f, q1, q2, q3, q4, q5, q6, q7⟩ := z1g h (by omega) (by omega) (by omega)
      have ep := z6x h (by omega) q1 q2
      have eb : backOf s x = ⟨24, x.form, x.field, 0, 0, x.a, x.b, f, 0, [], [], []⟩ := by simp [backOf, o, q1, q5]
      have b1 : (x.op == 1) = false := by rw [o]; rfl
      have b2 : (x.op == 2) = false := by rw [o]; rfl
      have b4 : (x.op == 4) = true := by rw [o]; rfl
      have w : IntKind.i64.wrap (x.op + 20) = 24 := by rw [o]; rfl
      rw [ep] at c2; rw [eb]; simp only [fldV, fldC] at c2; simp only [c2, b1, b2, b4, w, z9, cond_true, cond_false, za, zh, Option.bind_some, u_asC, u_asA, u_asI, u_asB, u_asL, zt, u_asS, u_asN, fld0, List.map_nil]; rfl
    · have eb : backOf s x = ⟨25, x.form, x.field, 0, 0, 0, 0, fld0, 0, [], x.t, []⟩ := by simp [backOf, o]
      have b1 : (x.op == 1) = false := by rw [o]; rfl
      have b2 : (x.op == 2) = false := by rw [o]; rfl
      have b4 : (x.op == 4) = false := by rw [o]; rfl
      have b6 : (x.op == 6) = false := by rw [o]; rfl
      have b3 : (x.op == 3) = false := by rw [o]; rfl
      have b5 : (x.op == 5) = true := by rw [o]; rfl
      have w : IntKind.i64.wrap (x.op + 20) = 25 := by rw [o]; rfl
      rw [eb]
      have c3 := zsi x.t (by have := zlr hr o; omega)
      simp only [intsV] at c3; simp only [fldV, fldC] at c2; simp only [c2, b1, b2, b4, b6, b3, b5, w, z9, cond_true, cond_false, za, zh, Option.bind_some, u_asC, u_asA, u_asI, u_asB, u_asL, zt, u_asS, u_asN, fld0, List.map_nil, c3]; rfl
    · obtain ⟨k, f, q1, q2, q3, q4, q5, q6, q7⟩ := z1g h (by omega) (by omega) (by omega)
      have ep := z6x h (by omega) q1 q2
      have eb : backOf s x = ⟨26, x.form, x.field, 0, x.to, x.a, 0, f, 0, [], [], []⟩ := by simp [backOf, o, q1, q5]
      have b1 : (x.op == 1) = false := by rw [o]; rfl
      have b2 : (x.op == 2) = false := by rw [o]; rfl
      have b4 : (x.op == 4) = false := by rw [o]; rfl
      have b6 : (x.op == 6) = true := by rw [o]; rfl
      have w : IntKind.i64.wrap (x.op + 20) = 26 := by rw [o]; rfl
      rw [ep] at c2; rw [eb]; simp only [fldV, fldC] at c2; simp only [c2, b1, b2, b4, b6, w, z9, cond_true, cond_false, za, zh, Option.bind_some, u_asC, u_asA, u_asI, u_asB, u_asL, zt, u_asS, u_asN, fld0, List.map_nil]; rfl
    · obtain ⟨k, f, q1, q2, q3, q4, q5, q6, q7⟩ := z1g h (by omega) (by omega) (by omega)
      have ep := z6x h (by omega) q1 q2
      have eb : backOf s x = ⟨27, x.form, x.field, (k : Int), 0, 0, 0, fld0, 0, [], [], []⟩ := by simp [backOf, o, q1]
      have b1 : (x.op == 1) = false := by rw [o]; rfl
      have b2 : (x.op == 2) = false := by rw [o]; rfl
      have b4 : (x.op == 4) = false := by rw [o]; rfl
      have b6 : (x.op == 6) = false := by rw [o]; rfl
      have b3 : (x.op == 3) = false := by rw [o]; rfl
      have b5 : (x.op == 5) = false := by rw [o]; rfl
      have b7 : (x.op == 7) = true := by rw [o]; rfl
      have w : IntKind.i64.wrap (x.op + 20) = 27 := by rw [o]; rfl
      rw [ep] at c2; rw [eb]; simp only [fldV, fldC] at c2; simp only [c2, b1, b2, b4, b6, b3, b5, b7, w, z9, cond_true, cond_false, za, zh, Option.bind_some, u_asC, u_asA, u_asI, u_asB, u_asL, zt, u_asS, u_asN, fld0, List.map_nil]; rfl
    · have eb : backOf s x = ⟨28, x.form, x.to, 0, x.field, 0, 0, fld0, 0, [], [], []⟩ := by simp [backOf, o]
      have b1 : (x.op == 1) = false := by rw [o]; rfl
      have b2 : (x.op == 2) = false := by rw [o]; rfl
      have b4 : (x.op == 4) = false := by rw [o]; rfl
      have b6 : (x.op == 6) = false := by rw [o]; rfl
      have b3 : (x.op == 3) = false := by rw [o]; rfl
      have b5 : (x.op == 5) = false := by rw [o]; rfl
      have b7 : (x.op == 7) = false := by rw [o]; rfl
      have b8 : (x.op == 8) = true := by rw [o]; rfl
      have w : IntKind.i64.wrap (x.op + 20) = 28 := by rw [o]; rfl
      rw [eb]; simp only [fldV, fldC] at c2; simp only [c2, b1, b2, b4, b6, b3, b5, b7, b8, w, z9, cond_true, cond_false, za, zh, Option.bind_some, u_asC, u_asA, u_asI, u_asB, u_asL, zt, u_asS, u_asN, fld0, List.map_nil]; rfl
    · have eb : backOf s x = ⟨29, x.form, 0, 0, 0, 0, 0, fld0, 0, [], [], []⟩ := by simp [backOf, o]
      have b1 : (x.op == 1) = false := by rw [o]; rfl
      have b2 : (x.op == 2) = false := by rw [o]; rfl
      have b4 : (x.op == 4) = false := by rw [o]; rfl
      have b6 : (x.op == 6) = false := by rw [o]; rfl
      have b3 : (x.op == 3) = false := by rw [o]; rfl
      have b5 : (x.op == 5) = false := by rw [o]; rfl
      have b7 : (x.op == 7) = false := by rw [o]; rfl
      have b8 : (x.op == 8) = false := by rw [o]; rfl
      have b10 : (x.op == 10) = false := by rw [o]; rfl
      have w : IntKind.i64.wrap (x.op + 20) = 29 := by rw [o]; rfl
      rw [eb]
      have z0 := zdb hr (by omega)
      simp only [fldV, fldC] at c2; simp only [c2, b1, b2, b4, b6, b3, b5, b7, b8, b10, w, z9, cond_true, cond_false, za, zh, Option.bind_some, u_asC, u_asA, u_asI, u_asB, u_asL, zt, u_asS, u_asN, fld0, List.map_nil]; rw [z0]; rfl
    · obtain ⟨j, g, e1, e2, e3, e4, e5⟩ := zeb h (by omega)
      have eb : backOf s x = ⟨30, x.form, 0, 0, 0, 0, 0, fld0, 0, [], [], g.fields⟩ := by simp [backOf, o, e3]
      have b1 : (x.op == 1) = false := by rw [o]; rfl
      have b2 : (x.op == 2) = false := by rw [o]; rfl
      have b4 : (x.op == 4) = false := by rw [o]; rfl
      have b6 : (x.op == 6) = false := by rw [o]; rfl
      have b3 : (x.op == 3) = false := by rw [o]; rfl
      have b5 : (x.op == 5) = false := by rw [o]; rfl
      have b7 : (x.op == 7) = false := by rw [o]; rfl
      have b8 : (x.op == 8) = false := by rw [o]; rfl
      have b10 : (x.op == 10) = true := by rw [o]; rfl
      have w : IntKind.i64.wrap (x.op + 20) = 30 := by rw [o]; rfl
      rw [eb]
      have z0 := zdb hr (by omega)
      have c3 := zl9 s x.form hs.sml; rw [e4] at c3
      have c4 := z5u g.fields (by omega)
      have ff := z35 g.fields; simp only [schV, frmsV, frmV, fldsV, fldsU] at c3 c4; simp only [fldV, fldC] at c2; simp only [c2, b1, b2, b4, b6, b3, b5, b7, b8, b10, w, z9, cond_true, cond_false, za, zh, Option.bind_some, u_asC, u_asA, u_asI, u_asB, u_asL, zt, u_asS, u_asN, fld0, List.map_nil, c3, c4, ff]; rw [z0]; rfl
  · have h' := bne_t h
    have ei : invS s x = (stpN, (onS s x).2) := by unfold invS; rw [if_neg h]
    rw [ei]; simp only [z96, z9, cond_true, za, c1, h', Option.bind_some, u_asC, u_asA, u_asI, u_asL, u_asN, stpN, fld0, stpV, stpC, intsV, fldsV, List.map_nil])
end Go.Proofs.Ytjkjhgfiaodgmaa.V
namespace Go.Proofs.Ytjkjhgfiaodgmaa.V
open Go
theorem zbx {x : Fld} (hx : x.ok) (hr : rgtS x = true) : (fldW x).length ≤ 50 := by
  have r := z1u hr; obtain ⟨_, ⟨_, _⟩, ⟨_, _⟩, ⟨_, _⟩, ⟨_, _⟩⟩ := hx
  have h1 : (cnt x.id.toNat).length ≤ 10 := zd (by omega)
  have h2 : (cnt x.kind.toNat).length ≤ 10 := zd (by omega)
  have h3 : (cnt (zz x.lo)).length ≤ 10 := zd (zz_lt (by omega) (by omega))
  have h4 : (cnt (zz x.hi)).length ≤ 10 := zd (zz_lt (by omega) (by omega))
  have h5 : (cnt x.most.toNat).length ≤ 10 := zd (by omega)
  unfold fldW; simp only [List.length_append]; omega
theorem z1m (b : List AV) (n e : Int) (hb : b.length + 10 ≤ 211106232532992) (h0 : 0 ≤ n) (hn : n ≤ 9223372036854775807) : tbl E0 52 [.ref 0 0, iV n] [(0, [.lst (.own (.E 0 0)) 1 b, iV e])] = some ([], [(0, [.lst (.own (.E 0 0)) 1 (b ++ encB (cnt n.toNat)), iV e])]) := by
  have c := z2q b n e hb hn
  rw [if_neg (by omega)] at c
  exact c
theorem p_Num (b : List AV) (n e : Int) (hb : b.length + 10 ≤ 211106232532992) (h : i64 n) : tbl E0 82 [.ref 0 0, iV n] [(0, [.lst (.own (.E 0 0)) 1 b, iV e])] = some ([], [(0, [.lst (.own (.E 0 0)) 1 (b ++ encB (cnt (zz n))), iV e])]) := zi5 b n e hb h.1 h.2
theorem zz_l {n : Int} (h : i64 n) : (cnt (zz n)).length ≤ 10 := zd (zz_lt h.1 h.2)
theorem z9w (b : List AV) (x : Fld) (e : Int) (hx : x.ok) (hr : rgtS x = true) (hb : b.length + 50 ≤ 211106232532992) : tbl E0 83 [.ref 0 0, fldV x] [(0, [.lst (.own (.E 0 0)) 1 b, iV e])] = some ([], [(0, [.lst (.own (.E 0 0)) 1 (b ++ encB (fldW x)), iV e])]) :=
  zik b x e (by
    have r := z1u hr; obtain ⟨_, ⟨_, _⟩, g1, g2, ⟨_, _⟩⟩ := hx
    have h1 : (cnt x.id.toNat).length ≤ 10 := zd (by omega)
    have h2 : (cnt x.kind.toNat).length ≤ 10 := zd (by omega)
    have h3 := zz_l g1; have h4 := zz_l g2
    have c1 := z1m b x.id e (by omega) (by omega) (by omega)
    have c2 := z1m (b ++ encB (cnt x.id.toNat)) x.kind e (by simp; omega) (by omega) (by omega)
    have c3 := p_Num (b ++ encB (cnt x.id.toNat) ++ encB (cnt x.kind.toNat)) x.lo e (by simp; omega) g1
    have c4 := p_Num (b ++ encB (cnt x.id.toNat) ++ encB (cnt x.kind.toNat) ++ encB (cnt (zz x.lo))) x.hi e (by simp; omega) g2
    have c5 := z1m (b ++ encB (cnt x.id.toNat) ++ encB (cnt x.kind.toNat) ++ encB (cnt (zz x.lo)) ++ encB (cnt (zz x.hi))) x.most e (by simp; omega) (by omega) (by omega)
    have eb : b ++ encB (fldW x) = b ++ encB (cnt x.id.toNat) ++ encB (cnt x.kind.toNat) ++ encB (cnt (zz x.lo)) ++ encB (cnt (zz x.hi)) ++ encB (cnt x.most.toNat) := by unfold fldW; simp only [zk, List.append_assoc]
    rw [eb]; simp only [z9h, z9, cond_true, zh, c1, c2, c3, c4, c5, u_asC, u_asI, zy, u_asN, Option.bind_some, nbeq, decide_true])
theorem zpt (l : List Int) (hl : l.length ≤ 64) (hok : ∀ n ∈ l, 0 ≤ n ∧ n ≤ 1000) : ∀ (r : List Int) (i : Nat) (b : List AV) (e : Int), l.drop i = r → b.length + 10 * r.length + 10 ≤ 211106232532992 →
    ltbl E0 71 0 23 [intsV l, iV l.length, iV i] [[.lst (.own (.O 0 0)) 1 b, iV e]] = some (2, [], [[.lst (.own (.O 0 0)) 1 (b ++ encB (intsB r)), iV e]]) := by
  intro r
  induction r with
  | nil =>
    intro i b e hr hb
    have h : l.length ≤ i := by simpa using hr
    refine zf8 _ _ _ _ _ ?_
    have : ¬ ((i : Int) < l.length) := by omega
    simp [z9i, this, intsB, z2c]
  | cons n r ih =>
    intro i b e hr hb; obtain ⟨hlt, hget, hr2⟩ := zw hr
    have h2 : (i : Int) < l.length := by omega
    have e1 := zn (i := i) (by omega)
    obtain ⟨g1, g2⟩ := hok n (z1e hr)
    have hx : (cnt n.toNat).length ≤ 10 := zd (by omega)
    simp only [List.length_cons] at hb
    have h := ih (i + 1) (b ++ encB (cnt n.toNat)) e hr2 (by simp; omega)
    have c := z1m b n e (by omega) g1 (by omega)
    have eb : b ++ encB (intsB (n :: r)) = b ++ encB (cnt n.toNat) ++ encB (intsB r) := by simp [intsB, zk]
    refine zf8 _ _ _ _ _ ?_; rw [eb, ← h]; simp only [z9i, h2, decide_true, cond_true, z9, Int.natCast_nonneg, nthE, Int.toNat_natCast, List.getElem?_map, hget, Option.map_some, u_asC, u_asI, zy, u_asN, zh, c, Option.bind_some, nbeq, e1]
theorem zpu (l : List Fld) (hl : l.length ≤ 8) (hok : FldsOK l) : ∀ (r : List Fld) (i : Nat) (b : List AV) (e : Int), l.drop i = r → b.length + 50 * r.length + 50 ≤ 211106232532992 →
    ltbl E0 71 0 30 [fldsV l, iV l.length, iV i] [[.lst (.own (.O 0 0)) 1 b, iV e]] = some (4, [], [[.lst (.own (.O 0 0)) 1 (b ++ encB (fldsW r)), iV e]]) := by
  intro r
  induction r with
  | nil =>
    intro i b e hr hb
    have h : l.length ≤ i := by simpa using hr
    refine zf9 _ _ _ _ _ ?_
    have : ¬ ((i : Int) < l.length) := by omega
    simp [z9j, this, fldsW, z2c]
  | cons n r ih =>
    intro i b e hr hb; obtain ⟨hlt, hget, hr2⟩ := zw hr
    have h2 : (i : Int) < l.length := by omega
    have e1 := zn (i := i) (by omega)
    obtain ⟨g1, g2⟩ := hok n (z1e hr); have hx := zbx g1 g2; simp only [List.length_cons] at hb
    have h := ih (i + 1) (b ++ encB (fldW n)) e hr2 (by simp; omega)
    have c := z9w b n e g1 g2 (by omega)
    have eb : b ++ encB (fldsW (n :: r)) = b ++ encB (fldW n) ++ encB (fldsW r) := by simp [fldsW, zk]
    refine zf9 _ _ _ _ _ ?_; rw [eb, ← h]; simp only [z9j, h2, decide_true, cond_true, z9, Int.natCast_nonneg, nthE, Int.toNat_natCast, List.getElem?_map, hget, Option.map_some, u_asA, u_asC, u_asI, zy, u_asN, zh, c, Option.bind_some, nbeq, e1]
theorem zft : ∀ (l : List Int), (∀ n ∈ l, 0 ≤ n ∧ n ≤ 1000) → (intsB l).length ≤ 10 * l.length
  | [], _ => by simp [intsB]
  | n :: l, h => by
    have h1 : (cnt n.toNat).length ≤ 10 := zd (by have := h n (by simp); omega)
    have h2 := zft l (fun g hg => h g (by simp [hg]))
    have e : intsB (n :: l) = cnt n.toNat ++ intsB l := by simp [intsB]
    rw [e, List.length_append, List.length_cons]; omega
theorem zfu : ∀ (l : List Fld), FldsOK l → (fldsW l).length ≤ 50 * l.length
  | [], _ => by simp [fldsW]
  | n :: l, h => by
    have h1 := zbx (h n (by simp)).1 (h n (by simp)).2
    have h2 := zfu l (fun g hg => h g (by simp [hg]))
    have e : fldsW (n :: l) = fldW n ++ fldsW l := by simp [fldsW]
    rw [e, List.length_append, List.length_cons]; omega
theorem zfv {x : Stp} (hx : x.ok) (h : fitsS x 9 = true) : x.fields.length ≤ 8 ∧ FldsOK x.fields := by
  obtain ⟨h1, h2⟩ := zp0 h; exact ⟨h1, fun f hf => ⟨hx.2.2.2.2.2.2.2.2.2.2 f hf, h2 f hf⟩⟩
theorem cnt10 {n : Int} (h : n ≤ 9223372036854775807) : (cnt n.toNat).length ≤ 10 := zd (by omega)
theorem zj3 {x : Stp} (hx : x.ok) {p : Int} (hp : Fits x p) : (prtB x p).length ≤ 650 := by
  have hx0 := hx; obtain ⟨h1, h2, h3, h4, h5, h6, h7, h8, h9, h10, h11⟩ := hx; have hp0 := hp; obtain ⟨hr, hf, hb⟩ := hp
  rcases z4l hr with rfl | rfl | rfl | rfl | rfl | rfl | rfl | rfl | rfl | rfl <;> simp only [prtB, if_true, Int.reduceEq, if_false, List.length_append]
  · have := cnt10 h2.2; omega
  · have := cnt10 h3.2; omega
  · have := cnt10 h4.2; omega
  · have := cnt10 h5.2; omega
  · have := cnt10 h6.2; omega
  · have := zz_l h6; have := zz_l h7; omega
  · simp [fitsS] at hf
    have := zbx h8 hf.1; omega
  · have := zif hf
    have := zz_l h9
    have : (cnt x.s.length).length ≤ 10 := zd (by omega)
    omega
  · obtain ⟨g1, g2⟩ := zig hp0
    have := zft x.t g1
    have : (cnt x.t.length).length ≤ 10 := zd (by omega)
    omega
  · obtain ⟨g1, g2⟩ := zfv hx0 hf
    have := zfu x.fields g2
    have : (cnt x.fields.length).length ≤ 10 := zd (by omega)
    omega
theorem zsj (b : List AV) (x : Stp) (p e : Int) (hx : x.ok) (hp : Fits x p) (hb : b.length + 700 ≤ 211106232532992) : tbl E0 71 [.ref 0 0, stpV x, iV p] [(0, [.lst (.own (.E 0 0)) 1 b, iV e])] = some ([], [(0, [.lst (.own (.E 0 0)) 1 (b ++ encB (prtB x p)), iV e])]) := by
  have hx0 := hx; obtain ⟨h1, h2, h3, h4, h5, h6, h7, h8, h9, h10, h11⟩ := hx; have hp0 := hp; obtain ⟨hr, hf, hbb⟩ := hp; refine zs0 b x p e ?_
  rcases z4l hr with rfl | rfl | rfl | rfl | rfl | rfl | rfl | rfl | rfl | rfl <;> simp only [prtB, if_true, Int.reduceEq, if_false, zij, z9, cond_true, cond_false, zh, ze, zm, Int.reduceBEq, beq_self_eq_true]
  · simp [fitsS, inS] at hf
    have c := z1m b x.form e (by omega) (by omega) h2.2
    simp only [c, u_asC, u_asI, zy, u_asN, Option.bind_some, nbeq, decide_true, cond_true]
  · simp [fitsS, inS] at hf
    have c := z1m b x.field e (by omega) (by omega) h3.2
    simp only [c, u_asC, u_asI, zy, u_asN, Option.bind_some, nbeq, decide_true, cond_true]
  · simp [fitsS, inS] at hf
    have c := z1m b x.place e (by omega) (by omega) h4.2
    simp only [c, u_asC, u_asI, zy, u_asN, Option.bind_some, nbeq, decide_true, cond_true]
  · simp [fitsS, inS] at hf
    have c := z1m b x.to e (by omega) (by omega) h5.2
    simp only [c, u_asC, u_asI, zy, u_asN, Option.bind_some, nbeq, decide_true, cond_true]
  · simp [fitsS, inS] at hf
    have c := z1m b x.a e (by omega) (by split at hf <;> omega) h6.2
    simp only [c, u_asC, u_asI, zy, u_asN, Option.bind_some, nbeq, decide_true, cond_true]
  · have g1 := zz_l h6
    have c := p_Num b x.a e (by omega) h6
    have c2 := p_Num (b ++ encB (cnt (zz x.a))) x.b e (by simp; omega) h7
    simp only [c, c2, u_asC, u_asI, zy, u_asN, Option.bind_some, nbeq, decide_true, cond_true, zh, zk, List.append_assoc]
  · simp [fitsS] at hf
    have c := z9w b x.f e h8 hf.1 (by omega)
    simp only [c, u_asC, u_asI, zy, u_asN, Option.bind_some, nbeq, decide_true, cond_true]
  · have g1 := zz_l h9
    have g2 := zif hf
    have c := p_Num b x.n e (by omega) h9
    have c2 := ze0 (b ++ encB (cnt (zz x.n))) x.s e (by simp; omega)
    simp only [penA] at c2; simp only [c, c2, u_asC, u_asI, zy, u_asN, Option.bind_some, nbeq, decide_true, cond_true, zh, zk, List.append_assoc]
  · obtain ⟨g1, g2⟩ := zig hp0
    have g3 : (cnt x.t.length).length ≤ 10 := zd (by omega)
    have c := z1m b x.t.length e (by omega) (by omega) (by omega)
    have c2 := zpt x.t g2 g1 x.t 0 (b ++ encB (cnt x.t.length)) e rfl (by simp; omega)
    simp only [Int.toNat_natCast, Int.natCast_zero] at c c2; simp only [List.length_map, c, c2, u_asC, u_asI, u_asL, zy, u_asN, Option.bind_some, nbeq, decide_true, cond_true, cond_false, zh, ze, zm, zk, List.append_assoc, z17]
  · obtain ⟨g1, g2⟩ := zfv hx0 hf
    have g3 : (cnt x.fields.length).length ≤ 10 := zd (by omega)
    have c := z1m b x.fields.length e (by omega) (by omega) (by omega)
    have c2 := zpu x.fields g1 g2 x.fields 0 (b ++ encB (cnt x.fields.length)) e rfl (by simp; omega)
    simp only [Int.toNat_natCast, Int.natCast_zero] at c c2; simp only [List.length_map, c, c2, u_asC, u_asI, u_asL, zy, u_asN, Option.bind_some, nbeq, decide_true, cond_true, cond_false, zh, ze, zm, zk, List.append_assoc, z17]
end Go.Proofs.Ytjkjhgfiaodgmaa.V
namespace Go.Proofs.Ytjkjhgfiaodgmaa.V
open Go
theorem zdc (x : Stp) (p : Int) (l : List Int) : prtsB x (p :: l) = prtB x p ++ prtsB x l := by simp [prtsB]
theorem zdd (x : Stp) (l : List Stp) : stpsB (x :: l) = stpB x ++ stpsB l := by simp [stpsB]
theorem zfw {x : Stp} (hx : x.ok) : ∀ (l : List Int), (∀ p ∈ l, Fits x p) → (prtsB x l).length ≤ 650 * l.length
  | [], _ => by simp [prtsB]
  | p :: l, h => by
    have h1 := zj3 hx (h p (by simp))
    have h2 := zfw hx l (fun g hg => h g (by simp [hg]))
    rw [zdc, List.length_append, List.length_cons]; omega
theorem zj4 {x : Stp} (hx : x.ok) (hr : tRightS x = true) : (stpB x).length ≤ 3300 := by
  obtain ⟨h1, h2, _⟩ := z2s hr; have h3 := zfw hx _ h1; have h4 := z5k x.op; have h5 := ze4 h2
  have h6 : (cnt x.op.toNat).length ≤ 10 := zd (by omega)
  unfold stpB; rw [List.length_append]; omega
theorem z9x : ∀ (l : List Stp), (∀ x ∈ l, x.ok ∧ tRightS x = true) → (stpsB l).length ≤ 3300 * l.length
  | [], _ => by simp [stpsB]
  | x :: l, h => by
    have h1 := zj4 (h x (by simp)).1 (h x (by simp)).2
    have h2 := z9x l (fun g hg => h g (by simp [hg]))
    rw [zdd, List.length_append, List.length_cons]; omega
theorem zpv (l : List Stp) (x : Stp) (hx : x.ok) (u : List Int) (m i : Int) (hu : u.length ≤ 5) (hf : ∀ p ∈ u, Fits x p) : ∀ (r : List Int) (k : Nat) (b : List AV) (e : Int), u.drop k = r → b.length + 700 * r.length + 700 ≤ 211106232532992 →
    ltbl E0 50 0 12 [stpsV l, iV m, iV i, intsV u, iV u.length, iV k] [stpC x, [.lst (.own (.O 1012 0)) 1 b, iV e]] = some (3, [stpsV l, iV m, iV i], [[.lst (.own (.O 1012 0)) 1 (b ++ encB (prtsB x r)), iV e]]) := by
  intro r
  induction r with
  | nil =>
    intro k b e hr hb
    have h : u.length ≤ k := by simpa using hr
    refine zfb _ _ _ _ _ _ _ _ _ ?_
    have : ¬ ((k : Int) < u.length) := by omega
    simp [z9l, this, prtsB, z2c]
  | cons p r ih =>
    intro k b e hr hb; obtain ⟨hlt, hget, hr2⟩ := zw hr
    have h2 : (k : Int) < u.length := by omega
    have e1 := zn (i := k) (by omega)
    have g1 := hf p (z1e hr); have hl := zj3 hx g1; simp only [List.length_cons] at hb
    have h := ih (k + 1) (b ++ encB (prtB x p)) e hr2 (by simp; omega)
    have c := zsj b x p e hx g1 (by omega)
    simp only [stpV, stpC, intsV, fldsV] at c h
    have eb : b ++ encB (prtsB x (p :: r)) = b ++ encB (prtB x p) ++ encB (prtsB x r) := by rw [zdc, zk, List.append_assoc]
    refine zfb _ _ _ _ _ _ _ _ _ ?_; rw [eb, ← h]; simp only [z9l, h2, decide_true, cond_true, z9, Int.natCast_nonneg, nthE, Int.toNat_natCast, List.getElem?_map, hget, Option.map_some, u_asC, u_asI, zy, u_asN, zh, c, Option.bind_some, nbeq, e1]
theorem zpw (l : List Stp) (hl : l.length ≤ 40) (hok : ∀ x ∈ l, x.ok ∧ x.sml) : ∀ (r : List Stp) (i : Nat) (b : List AV) (e : Int), l.drop i = r → b.length + 4000 * r.length + 4000 ≤ 211106232532992 →
    ltbl E0 50 0 6 [stpsV l, iV l.length, iV i] [[.lst (.own (.O 1012 0)) 1 b, iV e]] = some (if r.all tRightS then (1, [], [[.lst (.own (.O 1012 0)) 1 (b ++ encB (stpsB r)), iV e]]) else (0, [.lst .ro 1 [], iV 2], [])) := by
  intro r
  induction r with
  | nil =>
    intro i b e hr hb
    have h : l.length ≤ i := by simpa using hr
    refine zfa _ _ _ _ _ ?_
    have : ¬ ((i : Int) < l.length) := by omega
    simp [z9k, this, stpsB, z2c]
  | cons x r ih =>
    intro i b e hr hb; obtain ⟨hlt, hget, hr2⟩ := zw hr
    have h2 : (i : Int) < l.length := by omega
    have e1 := zn (i := i) (by omega)
    obtain ⟨x1, x2⟩ := hok x (z1e hr); have c0 := zit x x1 x2; simp only [stpV, stpC, intsV, fldsV] at c0; refine zfa _ _ _ _ _ ?_; simp only [z9k, ze, h2, decide_true, cond_true, z9, Int.natCast_nonneg, nthE, Int.toNat_natCast, List.getElem?_map, hget, Option.map_some, u_asA, u_asC, u_asI, u_asB, u_asS, u_asL, u_asN, za, c0, Option.bind_some]
    rcases bor (tRightS x) with hq | hq
    · obtain ⟨g1, g2, g3⟩ := z2s hq
      have g4 := ze4 g2; have hxl := zj4 x1 hq
      have h6 : (cnt x.op.toNat).length ≤ 10 := zd (by omega)
      simp only [List.length_cons] at hb
      have h := ih (i + 1) (b ++ encB (stpB x)) e hr2 (by simp; omega)
      have c1 := z1m b x.op e (by omega) (by omega) x1.1.2
      have c2 := ze7 x.op
      have k := zpv l x x1 (usesS x.op) (l.length : Int) (i : Int) (z5k _) g1 (usesS x.op) 0 (b ++ encB (cnt x.op.toNat)) e rfl (by have := z5k x.op; simp; omega)
      simp only [Int.natCast_zero, stpC, intsV, fldsV] at k
      have ek : b ++ encB (cnt x.op.toNat) ++ encB (prtsB x (usesS x.op)) = b ++ encB (stpB x) := by unfold stpB; simp only [zk, List.append_assoc]
      rw [ek] at k
      have eb : b ++ encB (stpsB (x :: r)) = b ++ encB (stpB x) ++ encB (stpsB r) := by rw [zdd, zk, List.append_assoc]
      simp only [hq, Bool.not_true, cond_false, zh, c1, u_asC, u_asI, u_asB, u_asL, zy, u_asN, Option.bind_some, za, c2, ze, zm, List.length_map, k, nbeq, decide_true, cond_true, z17, e1, List.all_cons, Bool.true_and, eb]; exact h
    · simp [hq]
theorem zj5 (l : List Stp) (hok : ∀ x ∈ l, x.ok ∧ x.sml) : tbl E0 50 [stpsV l] [] = some ([.lst .ro 1 (if l.length ≤ 40 ∧ l.all tRightS = true then encB (lstB l) else []), iV (if 40 < l.length then 7 else if l.all tRightS = true then 0 else 2)], []) :=
  zs1 l (by
    by_cases hl : 40 < l.length
    · have h1 : (l.length : Int) > 40 := by omega
      have h2 : ¬ (l.length ≤ 40) := by omega
      simp [z7m, h1, h2, hl]
    · have h1 : ¬ ((l.length : Int) > 40) := by omega
      have hl2 : l.length ≤ 40 := by omega
      have h7 : (cnt l.length).length ≤ 10 := zd (by omega)
      have c1 := z1m [] l.length 0 (by simp) (by omega) (by omega)
      simp only [Int.toNat_natCast, List.nil_append] at c1
      have k := zpw l hl2 hok l 0 (encB (cnt l.length)) 0 rfl (by simp; omega)
      simp only [Int.natCast_zero, ← zk] at k
      rcases bor (l.all tRightS) with hq | hq
      · have hs := z9x l (fun x hx => ⟨(hok x hx).1, List.all_eq_true.1 hq x hx⟩)
        have d := ze1 (lstB l) 0 (by unfold lstB; rw [List.length_append]; omega)
        simp only [penV, penA, if_true] at d; simp only [hq, if_true] at k; have ek : cnt l.length ++ stpsB l = lstB l := rfl; rw [ek] at k; simp only [z7m, hq, hl, hl2, h1, ze, List.length_map, decide_true, decide_false, cond_true, cond_false, z9, u_asC, u_asI, u_asB, u_asL, zy, u_asN, z3m, zh, za, zm, c_New, c1, k, d, Option.bind_some, nbeq, z17, if_true, if_false, and_self, Nat.one_ne_zero]
      · simp only [hq, Bool.false_eq_true, if_false] at k
        simp only [z7m, hq, hl, hl2, h1, ze, List.length_map, decide_true, decide_false, cond_true, cond_false, z9, u_asC, u_asI, u_asB, u_asL, zy, u_asN, z3m, zh, za, zm, c_New, c1, k, Option.bind_some, nbeq, z17, if_false, Bool.false_eq_true, and_false])
end Go.Proofs.Ytjkjhgfiaodgmaa.V
namespace Go.Proofs.Ytjkjhgfiaodgmaa.V
open Go
end Go.Proofs.Ytjkjhgfiaodgmaa.V
namespace Go.Proofs.Ytjkjhgfiaodgmaa.V
open Go
end Go.Proofs.Ytjkjhgfiaodgmaa.V
namespace Go.Proofs.Ytjkjhgfiaodgmaa.V
open Go
end Go.Proofs.Ytjkjhgfiaodgmaa.V
namespace Go.Proofs.Ytjkjhgfiaodgmaa.V
open Go
end Go.Proofs.Ytjkjhgfiaodgmaa.V
namespace Go.Proofs.Ytjkjhgfiaodgmaa.V
open Go
theorem zg1 {l : List Stp} (h : greatT l = false) : l.length ≤ 60 ∧ ∀ x ∈ l, x.sml := by
  simp only [greatT, Bool.or_eq_false_iff, decide_eq_false_iff_not, List.any_eq_false] at h; obtain ⟨h1, h2⟩ := h
  rw [List.take_of_length_le (by omega)] at h1
  exact ⟨by omega, fun x hx => zsb (by simpa using h1 x hx)⟩
end Go.Proofs.Ytjkjhgfiaodgmaa.V
namespace Go.Proofs.Ytjkjhgfiaodgmaa.V
open Go
theorem z9y {f : Fld} (h : rgtS f = true) : f.ok := by
  obtain ⟨id, kind, lo, hi, most⟩ := f; simp only [rgtS, Bool.and_eq_true, decide_eq_true_eq] at h; obtain ⟨h1, h2⟩ := h
  have h3 : i64 kind ∧ i64 lo ∧ i64 hi ∧ i64 most := by
    simp only [i64]
    split at h2
    · simp only [decide_eq_true_eq] at h2; omega
    · split at h2
      · simp only [decide_eq_true_eq] at h2; omega
      · split at h2
        · simp only [decide_eq_true_eq] at h2; omega
        · split at h2
          · simp only [decide_eq_true_eq] at h2; omega
          · cases h2
  exact ⟨⟨by show (-9223372036854775808 : Int) ≤ id; omega, by show id ≤ (9223372036854775807 : Int); omega⟩, h3⟩
theorem ok_mk {op form field place to a b n : Int} {f : Fld} {s : List UInt8} {t : List Int} {fs : List Fld} (h : i64 op ∧ i64 form ∧ i64 field ∧ i64 place ∧ i64 to ∧ i64 a ∧ i64 b ∧ i64 n) (hf : f.ok)
    (ht : (∀ n ∈ t, i64 n) ∧ t.length ≤ 1000) (hfs : (∀ f ∈ fs, f.ok) ∧ fs.length ≤ 1000) : (Stp.mk op form field place to a b f n s t fs).ok ∧ (Stp.mk op form field place to a b f n s t fs).sml := by
  obtain ⟨h1, h2, h3, h4, h5, h6, h7, h8⟩ := h; obtain ⟨t1, t2⟩ := ht; obtain ⟨f1, f2⟩ := hfs
  exact ⟨⟨h1, h2, h3, h4, h5, h6, h7, hf, h8, t1, f1⟩, ⟨by show t.length ≤ _; omega, by show fs.length ≤ _; omega⟩⟩
theorem zuo : fld0.ok := by
  refine ⟨⟨?_, ?_⟩, ⟨?_, ?_⟩, ⟨?_, ?_⟩, ⟨?_, ?_⟩, ⟨?_, ?_⟩⟩ <;> decide
theorem zpy {s : Sch} {x : Stp} (h : (onS s x).2 = 0) (hx : x.ok) : (backOf s x).ok ∧ (backOf s x).sml := by
  obtain ⟨i0, i1, i2, i3, i4, i5, i6, i7, i8, i9, iA⟩ := hx; obtain ⟨_, _, _, _, hsr, h4, hr, hle⟩ := z36 h; have zf := zuo; have i7' := i7.1
  rcases z3p hr hle with o | o | o | o | o | o | o | o | o | o
  · have eb : backOf s x = ⟨21, x.form, x.f.id, 0, 0, 0, 0, fld0, 0, [], [], []⟩ := by simp [backOf, o]
    rw [eb]
    exact ok_mk (by simp only [i64] at *; omega) zf ⟨by simp, by simp⟩ ⟨by simp, by simp⟩
  · obtain ⟨k, f, q1, q2, q3, q4, q5, q6, q7⟩ := z1g h (by omega) (by omega) (by omega)
    have eb : backOf s x = ⟨22, x.form, 0, (k : Int), 0, 0, 0, f, x.n, x.s, [], []⟩ := by simp [backOf, o, q1, q5]
    rw [eb]
    exact ok_mk (by simp only [i64] at *; omega) (z9y q4) ⟨by simp, by simp⟩ ⟨by simp, by simp⟩
  · obtain ⟨k, f, q1, q2, q3, q4, q5, q6, q7⟩ := z1g h (by omega) (by omega) (by omega)
    have eb : backOf s x = ⟨23, x.form, x.field, 0, 0, 0, 0, f, 0, [], [], []⟩ := by simp [backOf, o, q1, q5]
    rw [eb]
    exact ok_mk (by simp only [i64] at *; omega) (z9y q4) ⟨by simp, by simp⟩ ⟨by simp, by simp⟩
  · obtain ⟨k, f, q1, q2, q3, q4, q5, q6, q7⟩ := z1g h (by omega) (by omega) (by omega)
    have eb : backOf s x = ⟨24, x.form, x.field, 0, 0, x.a, x.b, f, 0, [], [], []⟩ := by simp [backOf, o, q1, q5]
    rw [eb]
    exact ok_mk (by simp only [i64] at *; omega) (z9y q4) ⟨by simp, by simp⟩ ⟨by simp, by simp⟩
  · have eb : backOf s x = ⟨25, x.form, x.field, 0, 0, 0, 0, fld0, 0, [], x.t, []⟩ := by simp [backOf, o]
    rw [eb]
    exact ok_mk (by simp only [i64] at *; omega) zf ⟨i9, by have := zlr hr o; omega⟩ ⟨by simp, by simp⟩
  · obtain ⟨k, f, q1, q2, q3, q4, q5, q6, q7⟩ := z1g h (by omega) (by omega) (by omega)
    have eb : backOf s x = ⟨26, x.form, x.field, 0, x.to, x.a, 0, f, 0, [], [], []⟩ := by simp [backOf, o, q1, q5]
    rw [eb]
    exact ok_mk (by simp only [i64] at *; omega) (z9y q4) ⟨by simp, by simp⟩ ⟨by simp, by simp⟩
  · obtain ⟨k, f, q1, q2, q3, q4, q5, q6, q7⟩ := z1g h (by omega) (by omega) (by omega)
    have eb : backOf s x = ⟨27, x.form, x.field, (k : Int), 0, 0, 0, fld0, 0, [], [], []⟩ := by simp [backOf, o, q1]
    rw [eb]
    exact ok_mk (by simp only [i64] at *; omega) zf ⟨by simp, by simp⟩ ⟨by simp, by simp⟩
  · have eb : backOf s x = ⟨28, x.form, x.to, 0, x.field, 0, 0, fld0, 0, [], [], []⟩ := by simp [backOf, o]
    rw [eb]
    exact ok_mk (by simp only [i64] at *; omega) zf ⟨by simp, by simp⟩ ⟨by simp, by simp⟩
  · have eb : backOf s x = ⟨29, x.form, 0, 0, 0, 0, 0, fld0, 0, [], [], []⟩ := by simp [backOf, o]
    rw [eb]
    exact ok_mk (by simp only [i64] at *; omega) zf ⟨by simp, by simp⟩ ⟨by simp, by simp⟩
  · obtain ⟨j, g, e1, e2, e3, e4, e5⟩ := zeb h (by omega)
    have hg := ((z5v hsr).2 g (List.mem_of_getElem? e2)).2
    have eb : backOf s x = ⟨30, x.form, 0, 0, 0, 0, 0, fld0, 0, [], [], g.fields⟩ := by simp [backOf, o, e3]
    rw [eb]
    exact ok_mk (by simp only [i64] at *; omega) zf ⟨by simp, by simp⟩ ⟨fun y hy => z9y (hg y hy), by omega⟩
theorem zj6 : ∀ (l : List Stp) (i : Nat) (s : Sch), (allS s i l).2.2 = 0 → (∀ x ∈ l, x.ok) → ∀ y ∈ trailS s l, y.ok ∧ y.sml
  | [], i, s, h, hx, y, hy => by simp [trailS] at hy
  | a :: l, i, s, h, hx, y, hy => by
    unfold allS at h
    by_cases e : (onS s a).2 = 0
    · rw [if_pos e] at h
      rcases List.mem_cons.1 hy with rfl | hy
      · exact zpy e (hx a (by simp))
      · exact zj6 l (i + 1) _ h (fun x hm => hx x (by simp [hm])) y hy
    · rw [if_neg e] at h; exact absurd h e
theorem z9z (l : List Stp) : (l.map stpV).all AV.flat = true := by
  rw [List.all_eq_true]; intro x hx; obtain ⟨f, _, rfl⟩ := List.mem_map.1 hx; rfl
theorem zup {α : Type} {b : Bool} {x y : α} (h : b = true) : (bif b then x else y) = x := by rw [h]; rfl
theorem q168 {n : Nat} (h : n ≤ 3000) : n * 168 ≤ 211106232532992 := by omega
theorem zsm (l : List Stp) (hl : l.length ≤ 1000) (hx : ∀ x ∈ l, x.sml ∧ x.ok) : ∀ (r : List Stp) (i : Nat) (s : Sch) (d : List Stp), l.drop i = r → Few s → d.length = i →
    ltbl E0 32 0 3 [.lst .uq 16 (d.map stpV), stpsV l, iV l.length, iV i] [[iV s.ver, frmsV s.forms]] =
      some (if (allS s i r).2.2 = 0 then (1, [.lst .uq 16 ((d ++ trailS s r).map stpV)], []) else (0, [stpsV [], iV (allS s i r).2.2], [])) := by
  intro r
  induction r with
  | nil =>
    intro i s d hr hs hd
    have h : l.length ≤ i := by simpa using hr
    refine zi1 _ _ _ _ _ ?_
    have : ¬ ((i : Int) < l.length) := by omega
    have ff := z9z d; simp [z7h, this, allS, trailS, ff]
  | cons x r ih =>
    intro i s d hr hs hd; obtain ⟨hlt, hget, hr2⟩ := zw hr
    have h2 : (i : Int) < l.length := by omega
    have e1 := zn (i := i) (by omega)
    have hxx := hx x (z1e hr); have c := zps s x hs hxx.1 hxx.2; have c2 := c_gOn s x hs hxx.1 hxx.2; refine zi1 _ _ _ _ _ ?_
    by_cases h : (onS s x).2 = 0
    · have ei : invS s x = (backOf s x, 0) := by unfold invS; rw [if_pos h]
      rw [ei] at c
      have e := ih (i + 1) (onS s x).1 (d ++ [backOf s x]) hr2 (zd9 (z5w h)) (by simp [hd])
      have ff := z9z (d ++ [backOf s x])
      have ea : allS s i (x :: r) = allS (onS s x).1 (i + 1) r := by rw [allS, if_pos h]
      have et : trailS s (x :: r) = backOf s x :: trailS (onS s x).1 r := rfl; rw [ea, et]
      have ed : d ++ backOf s x :: trailS (onS s x).1 r = d ++ [backOf s x] ++ trailS (onS s x).1 r := by simp
      rw [ed]
      have hq := q168 (n := d.length + 1) (by omega)
      generalize backOf s x = y at *; simp only [List.map_append, List.map_cons, List.map_nil, schV, frmsV, stpV, stpC, intsV, fldsV] at c c2 e ff ⊢; simp only [z7h, ze, List.length_map, h2, decide_true, cond_true, z9, Int.natCast_nonneg, nthE, Int.toNat_natCast, List.getElem?_map, hget, Option.map_some, u_asA, u_asC, u_asI, u_asS, u_asL, u_asN, stpV, stpC, intsV, fldsV, za, c, c2, Option.bind_some, e1, z2h, z12, bne_self_eq_false, cond_false, List.length_cons, List.length_nil, Nat.zero_add]
      simp only [hq, decide_true, cond_true]; exact (zup ff).trans e
    · have ei : invS s x = (stpN, (onS s x).2) := by unfold invS; rw [if_neg h]
      rw [ei] at c; have h' := bne_t h; simp only [schV, frmsV, stpV, stpC, intsV, fldsV, stpN, fld0, List.map_nil] at c; simp only [z7h, ze, List.length_map, h2, decide_true, cond_true, z9, Int.natCast_nonneg, nthE, Int.toNat_natCast, List.getElem?_map, hget, Option.map_some, u_asA, u_asC, u_asI, u_asS, u_asL, u_asN, stpV, stpC, intsV, fldsV, za, c, Option.bind_some, h', allS, if_neg h, stpsV, List.map_nil]
theorem zuq (s : Sch) (l : List Stp) (hs : Few s) (hl : l.length ≤ 1000) (hx : ∀ x ∈ l, x.sml ∧ x.ok) : tbl E0 32 [schV s, stpsV l] [] = some ([stpsV (backS s [] l).1, iV (backS s [] l).2], []) := ztu s l (by
  have c := zsm l hl hx l 0 s [] rfl hs rfl; have e2 := zbw l 0 s []; simp only [Int.natCast_zero, List.map_nil, List.nil_append, stpsV, frmsV] at c; simp only [zl5, z9, cond_true, ze, List.length_map, zm, c, Option.bind_some]
  by_cases h : (allS s 0 l).2.2 = 0
  · have eb := zea l s [] (e2.trans h)
    have ff := z9z (trailS s l).reverse; rw [List.map_reverse] at ff; rw [e2, h, eb, if_pos rfl]
    simp only [Option.bind_some, nbeq, decide_true, cond_true, cond_false, decide_false, (by decide : (1 : Nat) ≠ 0), u_asC, zt, u_asN, ff, List.append_nil, List.map_reverse, stpsV]
  · have eb := zj1 l s [] (by rw [e2]; exact h)
    rw [e2, eb, if_neg h]; simp only [Option.bind_some, nbeq, decide_true, cond_true, u_asC, u_asI, u_asL, u_asN, stpsV, List.map_nil])
theorem zwk {i a b : Int} (h1 : i < a) (h2 : i < b) : i < if b < a then b else a := by split <;> omega
theorem zlt {i a b : Int} (h : a ≤ i ∨ b ≤ i) : ¬ (i < if b < a then b else a) := by split <;> omega
set_option maxRecDepth 100000 in
theorem znb (a b : List Stp) (ha : a.length ≤ 1000) (hao : ∀ x ∈ a, x.ok ∧ x.sml) (hbo : ∀ x ∈ b, x.ok) : ∀ (r r' : List Stp) (i : Nat), a.drop i = r → b.drop i = r' →
    ltbl E0 33 0 2 [stpsV a, stpsV b, .clo 34 [], iV i] [] = some (1, [iV ((i + likeN r r' : Nat) : Int)], []) := by
  intro r
  induction r with
  | nil =>
    intro r' i hr hr'
    have h : a.length ≤ i := by simpa using hr
    have hn := zlt (i := i) (a := a.length) (b := b.length) (by omega)
    refine z7i _ _ _ ?_; simp only [z51, ze, List.length_map, hn, decide_false, cond_false, likeN, Nat.add_zero]
  | cons x r ih =>
    intro r' i hr hr'; obtain ⟨hlt, hget, hr2⟩ := zw hr
    cases r' with
    | nil =>
      have h : b.length ≤ i := by simpa using hr'
      have hn := zlt (i := i) (a := a.length) (b := b.length) (by omega)
      refine z7i _ _ _ ?_; simp only [z51, ze, List.length_map, hn, decide_false, cond_false, likeN, Nat.add_zero]
    | cons y r' =>
      obtain ⟨hlt', hget', hr2'⟩ := zw hr'
      have hn := zwk (i := i) (a := a.length) (b := b.length) (by omega) (by omega)
      have e1 := zn (i := i) (by omega)
      have h := ih r' (i + 1) hr2 hr2'; have hx := hao x (z1e hr); have c := zll x y hx.1 (hbo y (z1e hr')) hx.2; simp only [stpsV, stpV, stpC, intsV, fldsV] at c h; refine z7i _ _ _ ?_; simp only [z51, ze, List.length_map, hn, decide_true, cond_true, z9, Int.natCast_nonneg, nthE, Int.toNat_natCast, List.getElem?_map, hget, hget', Option.map_some, u_asA, u_asC, u_asI, u_asB, u_asS, u_asL, u_asN, stpV, stpC, intsV, fldsV, za, c, Option.bind_some, e1]
      by_cases e : x = y
      · subst e
        have el : likeN (x :: r) (x :: r') = likeN r r' + 1 := by rw [likeN, if_pos rfl]
        rw [el, show i + (likeN r r' + 1) = i + 1 + likeN r r' by omega]
        simp only [decide_true, cond_true]; exact h
      · have el : likeN (x :: r) (y :: r') = 0 := by unfold likeN; rw [if_neg e]
        rw [el]; simp only [e, decide_false, cond_false, Nat.add_zero]
theorem zpz (a b : List Stp) (ha : a.length ≤ 1000) (hao : ∀ x ∈ a, x.ok ∧ x.sml) (hbo : ∀ x ∈ b, x.ok) : tbl E0 33 [stpsV a, stpsV b, .clo 34 []] [] = some ([iV (likeN a b : Nat)], []) := zog a b (by
  have c := znb a b ha hao hbo a b 0 rfl rfl; simp only [Int.natCast_zero, Nat.zero_add, stpsV] at c; simp only [zez, zm, c, Option.bind_some, nbeq, decide_true, cond_true, u_asC, u_asI, u_asN])
def chkS (s : Sch) (a b : List Stp) : Int × Int :=
  if (allS s 0 a).2.2 = 0 then (if likeN (trailS s a).reverse b < max (trailS s a).reverse.length b.length then ((likeN (trailS s a).reverse b : Nat), 18) else (0, 0)) else (((allS s 0 a).2.1 : Nat), (allS s 0 a).2.2)
theorem zq0 {i a b : Nat} : ((i : Int) < if (a : Int) < (b : Int) then (b : Int) else (a : Int)) ↔ i < max a b := by split <;> omega
theorem zsn (s : Sch) (a b : List Stp) (hs : Few s) (hl : a.length ≤ 1000) (ha : ∀ x ∈ a, x.sml ∧ x.ok) (hb : ∀ x ∈ b, x.ok) : tbl E0 22 [schV s, stpsV a, stpsV b] [] = some ([iV (chkS s a b).1, iV (chkS s a b).2], []) := zrd s a b (by
  have c1 := zj0 s a hs hl ha; have c2 := zuq s a hs hl ha; have e2 := zbw a 0 s []; simp only [schV, frmsV, stpsV] at c1 c2; simp only [zi0, z9, cond_true, za, c1, Option.bind_some, u_asC, u_asA, u_asI, u_asL, u_asN]
  by_cases h : (allS s 0 a).2.2 = 0
  · have h' : ((allS s 0 a).2.2 != 0) = false := by simp [h]
    have eb := zea a s [] (e2.trans h); rw [List.append_nil] at eb; rw [e2, h, eb] at c2
    have c3 := zpz (trailS s a).reverse b (by rw [List.length_reverse, zfs]; omega) (fun y hy => zj6 a 0 s h (fun x hx => (ha x hx).2) y (by simpa using hy)) hb
    simp only [stpsV] at c3; simp only [h', cond_false, c2, c3, Option.bind_some, z9, za, ze, List.length_map, bne_self_eq_false, u_asC, u_asI, u_asL, u_asN, cond_true, chkS, h, if_true]
    by_cases q : likeN (trailS s a).reverse b < max (trailS s a).reverse.length b.length
    · rw [if_pos q, decide_eq_true (zq0.2 q)]
      rfl
    · rw [if_neg q, decide_eq_false (fun w => q (zq0.1 w))]
      rfl
  · have h' := bne_t h
    simp only [h', cond_true, chkS, if_neg h])
end Go.Proofs.Ytjkjhgfiaodgmaa.V
namespace Go.Proofs.Ytjkjhgfiaodgmaa.V
open Go
theorem zj7 {x : Fld} (hx : x.ok) (hr : rgtS x = true) : (fldB x).length ≤ 40 := by
  have r := z1u hr; obtain ⟨_, ⟨_, _⟩, ⟨_, _⟩, ⟨_, _⟩, ⟨_, _⟩⟩ := hx
  have h1 : (cnt x.id.toNat).length ≤ 10 := zd (by omega)
  have h2 : (cnt x.kind.toNat).length ≤ 10 := zd (by omega)
  have h3 : (cnt (zz x.lo)).length ≤ 10 := zd (zz_lt (by omega) (by omega))
  have h4 : (cnt (zz x.hi)).length ≤ 10 := zd (zz_lt (by omega) (by omega))
  have h5 : (cnt x.most.toNat).length ≤ 10 := zd (by omega)
  unfold fldB; simp only [List.length_append]
  split
  · simp only [List.length_append]; omega
  · split
    · omega
    · simp; omega
theorem zso (b : List AV) (x : Fld) (e : Int) (hx : x.ok) (hr : rgtS x = true) (hb : b.length + 40 ≤ 211106232532992) : tbl E0 70 [.ref 0 0, fldV x] (penA b e) = some ([], penA (b ++ encB (fldB x)) e) :=
  zs2 b x e (by
    have r := z1u hr; obtain ⟨_, ⟨_, _⟩, ⟨_, _⟩, ⟨_, _⟩, ⟨_, _⟩⟩ := hx
    have h1 : (cnt x.id.toNat).length ≤ 10 := zd (by omega)
    have h2 : (cnt x.kind.toNat).length ≤ 10 := zd (by omega)
    have h3 : (cnt (zz x.lo)).length ≤ 10 := zd (zz_lt (by omega) (by omega))
    have c1 := z2q b x.id e (by omega) (by omega)
    have c2 := z2q (b ++ encB (cnt x.id.toNat)) x.kind e (by simp; omega) (by omega)
    have c3 := z2q (b ++ encB (cnt x.id.toNat) ++ encB (cnt x.kind.toNat)) x.most e (by simp; omega) (by omega)
    have c4 := zi5 (b ++ encB (cnt x.id.toNat) ++ encB (cnt x.kind.toNat)) x.lo e (by simp; omega) (by omega) (by omega)
    have c5 := zi5 (b ++ encB (cnt x.id.toNat) ++ encB (cnt x.kind.toNat) ++ encB (cnt (zz x.lo))) x.hi e (by simp; omega) (by omega) (by omega)
    have n1 : ¬ (x.id < 0) := by omega
    have n2 : ¬ (x.kind < 0) := by omega
    have n3 : ¬ (x.most < 0) := by omega
    simp only [n1, n2, n3, if_false, penA] at c1 c2 c3 c4 c5; unfold fldB
    by_cases k1 : x.kind = 1
    · simp only [k1] at c2 c3 c4 c5
      simp_all [z5l, penA, zk]
    · by_cases k3 : x.kind = 3
      · simp only [k3] at c2 c3 c4 c5
        simp_all [z5l, penA, zk]
      · by_cases k4 : x.kind = 4
        · simp only [k4] at c2 c3 c4 c5
          simp_all [z5l, penA, zk]
        · have k2 : x.kind = 2 := by omega
          simp only [k2] at c2 c3 c4 c5; simp_all [z5l, penA, zk])
end Go.Proofs.Ytjkjhgfiaodgmaa.V
namespace Go.Proofs.Ytjkjhgfiaodgmaa.V
open Go
theorem zdg (f : Fld) (l : List Fld) : fldsB (f :: l) = fldB f ++ fldsB l := by simp [fldsB]
theorem zdh (f : Frm) (l : List Frm) : frmsB (f :: l) = frmB f ++ frmsB l := by simp [frmsB]
theorem zg2 : ∀ (l : List Fld), FldsOK l → (fldsB l).length ≤ 40 * l.length
  | [], _ => by simp [fldsB]
  | f :: l, h => by
    have h1 := zj7 (h f (by simp)).1 (h f (by simp)).2
    have h2 := zg2 l (fun g hg => h g (by simp [hg]))
    rw [zdg, List.length_append, List.length_cons]; omega
theorem zq1 (l : List Frm) (fs : List Fld) (m i : Int) (hl : fs.length ≤ 8) (hok : FldsOK fs) : ∀ (r : List Fld) (k : Nat) (b : List AV) (e : Int), fs.drop k = r → b.length + 40 * r.length + 40 ≤ 211106232532992 →
    ltbl E0 49 0 12 [frmsV l, iV m, iV i, fldsV fs, iV fs.length, iV k] [[.lst (.own (.O 1012 0)) 1 b, iV e]] = some (3, [frmsV l, iV m, iV i], [[.lst (.own (.O 1012 0)) 1 (b ++ encB (fldsB r)), iV e]]) := by
  intro r
  induction r with
  | nil =>
    intro k b e hr hb
    have h : fs.length ≤ k := by simpa using hr
    refine zfd _ _ _ _ _ _ _ _ ?_
    have : ¬ ((k : Int) < fs.length) := by omega
    simp [z9n, this, fldsB, z2c]
  | cons x r ih =>
    intro k b e hr hb; obtain ⟨hlt, hget, hr2⟩ := zw hr
    have h2 : (k : Int) < fs.length := by omega
    have e1 := zn (i := k) (by omega)
    obtain ⟨x1, x2⟩ := hok x (z1e hr); have hx := zj7 x1 x2; simp only [List.length_cons] at hb
    have h := ih (k + 1) (b ++ encB (fldB x)) e hr2 (by simp; omega)
    have c := zso b x e x1 x2 (by omega)
    simp only [penA] at c; refine zfd _ _ _ _ _ _ _ _ ?_; rw [zdg, zk, ← List.append_assoc, ← h]; simp only [z9n, ze, List.length_map, h2, decide_true, cond_true, z9, Int.natCast_nonneg, nthE, Int.toNat_natCast, List.getElem?_map, hget, Option.map_some, u_asA, u_asC, u_asI, u_asB, u_asL, zy, u_asN, zh, c, Option.bind_some, nbeq, e1]
def FrmOK (f : Frm) : Prop := f.ok ∧ 0 ≤ f.id ∧ f.fields.length ≤ 8 ∧ FldsOK f.fields
theorem zj8 {f : Frm} (h : FrmOK f) : (frmB f).length ≤ 340 := by
  obtain ⟨⟨⟨_, _⟩, _⟩, h2, h3, h4⟩ := h; have h5 := zg2 f.fields h4
  have h6 : (cnt f.id.toNat).length ≤ 10 := zd (by omega)
  have h7 : (cnt f.fields.length).length ≤ 10 := zd (by omega)
  unfold frmB; simp only [List.length_append]; omega
theorem zq2 (l : List Frm) (hl : l.length ≤ 8) (hok : ∀ f ∈ l, FrmOK f) : ∀ (r : List Frm) (i : Nat) (b : List AV) (e : Int), l.drop i = r → b.length + 400 * r.length + 400 ≤ 211106232532992 →
    ltbl E0 49 0 7 [frmsV l, iV l.length, iV i] [[.lst (.own (.O 1012 0)) 1 b, iV e]] = some (1, [], [[.lst (.own (.O 1012 0)) 1 (b ++ encB (frmsB r)), iV e]]) := by
  intro r
  induction r with
  | nil =>
    intro i b e hr hb
    have h : l.length ≤ i := by simpa using hr
    refine zfc _ _ _ _ _ ?_
    have : ¬ ((i : Int) < l.length) := by omega
    simp [z9m, this, frmsB, z2c]
  | cons x r ih =>
    intro i b e hr hb; obtain ⟨hlt, hget, hr2⟩ := zw hr
    have h2 : (i : Int) < l.length := by omega
    have e1 := zn (i := i) (by omega)
    have hx := hok x (z1e hr); have hxl := zj8 hx; obtain ⟨⟨⟨_, _⟩, _⟩, x2, x3, x4⟩ := hx
    have h6 : (cnt x.id.toNat).length ≤ 10 := zd (by omega)
    have h7 : (cnt x.fields.length).length ≤ 10 := zd (by omega)
    simp only [List.length_cons] at hb
    have h := ih (i + 1) (b ++ encB (frmB x)) e hr2 (by simp; omega)
    have c1 := z2q b x.id e (by omega) (by omega)
    have c2 := z2q (b ++ encB (cnt x.id.toNat)) x.fields.length e (by simp; omega) (by omega)
    rw [if_neg (by omega)] at c1 c2
    simp only [penA, Int.toNat_natCast] at c1 c2
    have k := zq1 l x.fields (l.length : Int) (i : Int) x3 x4 x.fields 0 (b ++ encB (cnt x.id.toNat) ++ encB (cnt x.fields.length)) e rfl (by simp; omega)
    simp only [Int.natCast_zero] at k; refine zfc _ _ _ _ _ ?_
    have eb : b ++ encB (frmsB (x :: r)) = b ++ encB (frmB x) ++ encB (frmsB r) := by rw [zdh, zk, List.append_assoc]
    have ek : b ++ encB (cnt x.id.toNat) ++ encB (cnt x.fields.length) ++ encB (fldsB x.fields) = b ++ encB (frmB x) := by unfold frmB; simp only [zk, List.append_assoc]
    rw [eb, ← h, ← ek]; simp only [z9m, ze, List.length_map, h2, decide_true, cond_true, z9, Int.natCast_nonneg, nthE, Int.toNat_natCast, List.getElem?_map, hget, Option.map_some, u_asA, u_asC, u_asI, u_asB, u_asL, zy, u_asN, zh, zm, c1, c2, k, Option.bind_some, nbeq, e1, z17]
theorem zj9 {s : Sch} (hs : s.ok) (hr : schS s = true) : s.forms.length ≤ 8 ∧ ∀ f ∈ s.forms, FrmOK f := by
  obtain ⟨h1, h2, h3⟩ := (z7k s).1 hr; refine ⟨h2, fun f hf => ?_⟩; obtain ⟨a1, a2, _, a4, _⟩ := (z33 f).1 (z2v _ _ h3 f hf); exact ⟨hs.2 f hf, a1.1, a2.2, fun x hx => ⟨(hs.2 f hf).2 x hx, a4 x hx⟩⟩
theorem zg3 : ∀ (l : List Frm), (∀ f ∈ l, FrmOK f) → (frmsB l).length ≤ 340 * l.length
  | [], _ => by simp [frmsB]
  | f :: l, h => by
    have h1 := zj8 (h f (by simp))
    have h2 := zg3 l (fun g hg => h g (by simp [hg]))
    rw [zdh, List.length_append, List.length_cons]; omega
theorem z7q {s : Sch} (hs : s.ok) (hr : schS s = true) : (schB s).length ≤ 4000 := by
  obtain ⟨h1, h2⟩ := zj9 hs hr; obtain ⟨h3, _, _⟩ := (z7k s).1 hr; have h4 := zg3 s.forms h2
  have h6 : (cnt s.ver.toNat).length ≤ 10 := zd (by omega)
  have h7 : (cnt s.forms.length).length ≤ 10 := zd (by omega)
  unfold schB; simp only [List.length_append]; omega
theorem zsp (s : Sch) (hs : s.ok) (hm : Sml s) : tbl E0 49 [schV s] [] = some ([.lst .ro 1 (if schS s then encB (schB s) else []), iV (if schS s then 0 else 2)], []) :=
  zs3 s (by
    have c0 := z5i s hm
    rcases bor (schS s) with hb | hb
    · obtain ⟨h1, h2⟩ := zj9 hs hb
      obtain ⟨h3, _, _⟩ := (z7k s).1 hb
      have h6 : (cnt s.ver.toNat).length ≤ 10 := zd (by omega)
      have h7 : (cnt s.forms.length).length ≤ 10 := zd (by omega)
      have hl := z7q hs hb
      have c1 := z2q [] s.ver 0 (by simp) (by omega)
      have c2 := z2q (encB (cnt s.ver.toNat)) s.forms.length 0 (by simp; omega) (by omega)
      rw [if_neg (by omega)] at c1 c2
      simp only [penA, Int.toNat_natCast, List.nil_append] at c1 c2
      have k := zq2 s.forms h1 h2 s.forms 0 (encB (cnt s.ver.toNat) ++ encB (cnt s.forms.length)) 0 rfl (by simp; omega)
      simp only [Int.natCast_zero] at k
      have ek : encB (cnt s.ver.toNat) ++ encB (cnt s.forms.length) ++ encB (frmsB s.forms) = encB (schB s) := by unfold schB; simp only [zk]
      rw [ek] at k
      have d := ze1 (schB s) 0 (by omega)
      simp only [penV, penA, if_true] at d; simp only [zbp, hb, ze, List.length_map, decide_true, cond_true, cond_false, Bool.not_true, z9, u_asA, u_asC, u_asI, u_asB, u_asL, zy, u_asN, z3m, zh, za, zm, c0, c_New, c1, c2, k, d, Option.bind_some, nbeq, z17, if_true]
    · simp only [zbp, hb, ze, cond_true, Bool.not_false, z9, u_asC, u_asB, u_asN, za, c0, Option.bind_some, if_false, Bool.false_eq_true])
end Go.Proofs.Ytjkjhgfiaodgmaa.V
namespace Go.Proofs.Ytjkjhgfiaodgmaa.V
open Go
end Go.Proofs.Ytjkjhgfiaodgmaa.V
namespace Go.Proofs.Ytjkjhgfiaodgmaa.V
open Go
end Go.Proofs.Ytjkjhgfiaodgmaa.V
namespace Go.Proofs.Ytjkjhgfiaodgmaa.V
open Go
end Go.Proofs.Ytjkjhgfiaodgmaa.V
namespace Go.Proofs.Ytjkjhgfiaodgmaa.V
open Go
open AV (int lst agg str bool ref clo)
open List (map)
end Go.Proofs.Ytjkjhgfiaodgmaa.V
namespace Go.Proofs.Ytjkjhgfiaodgmaa.V
open Go
theorem zq4 (x : Lnk) : ∀ (r : List Frm) (i : Nat), x.to.forms.drop i = r → i ≤ 41 →
    ltbl E0 10 0 2 [iV i] [lnkC x] = some (if (r.take (41 - i)).any big then (0, [.bool true], []) else (1, [], [lnkC x])) := by
  intro r
  induction r with
  | nil =>
    intro i hr hi
    have h : x.to.forms.length ≤ i := by simpa using hr
    refine zfe _ _ ?_
    have : ¬ ((i : Int) < x.to.forms.length) := by omega
    simp [z69, this]
  | cons f r ih =>
    intro i hr hi; obtain ⟨hlt, hget, hr2⟩ := zw hr
    have h2 : (i : Int) < x.to.forms.length := by omega
    have e1 := zn (i := i) (by omega)
    refine zfe _ _ ?_
    by_cases h41 : i < 41
    · have h := ih (i + 1) hr2 (by omega)
      have h3 : (i : Int) < 41 := by omega
      have e2 : 41 - i = (41 - (i + 1)) + 1 := by omega
      rw [e2, List.take_succ_cons, List.any_cons]; simp only [z69, zq, ze, List.length_map, h2, h3, decide_true, cond_true, Option.bind_some, Tok.untok_tok, z9, Int.natCast_nonneg, nthE, Int.toNat_natCast, List.getElem?_map, hget, Option.map_some, u_asA, u_asC, u_asI, u_asB, u_asL, u_asN, e1, h]
      by_cases b : 40 < f.fields.length
      · have b' : (f.fields.length : Int) > 40 := by omega
        simp [big, b, b']
      · have b' : ¬ ((f.fields.length : Int) > 40) := by omega
        simp [big, b, b']
    · have h3 : ¬ ((i : Int) < 41) := by omega
      have e2 : 41 - i = 0 := by omega
      simp [z69, h2, h3, e2]
def greatK (x : Lnk) : Bool := greatS x.to || (greatT x.on || greatT x.back)
theorem z5x (x : Lnk) : tbl E0 10 [lnkV x] [] = some ([.bool (greatK x)], []) :=
  zs4 x (by
    have e := zq4 x x.to.forms 0 rfl (by omega)
    have g1 := ziv x.on; have g2 := ziv x.back; simp only [Int.natCast_zero, Nat.sub_zero, lnkC] at e; simp only [stpsV] at g1 g2; simp only [zil, z9, cond_true, zm, e, greatK, greatS]
    by_cases b : ((x.to.forms.take 41).any big) = true
    · simp [b]
    · have b : ((x.to.forms.take 41).any big) = false := by simpa using b
      by_cases c : 40 < x.to.forms.length
      · have c' : (x.to.forms.length : Int) > 40 := by omega
        simp [b, c, c']
      · have c' : ¬ ((x.to.forms.length : Int) > 40) := by omega
        rcases bor (greatT x.on) with q | q
        · simp [b, c, c', g1, q]
        · simp [b, c, c', g1, g2, q])
def Lnk.sml (x : Lnk) : Prop := Sml x.to ∧ (x.on.length ≤ 60 ∧ ∀ s ∈ x.on, s.sml) ∧ x.back.length ≤ 60 ∧ ∀ s ∈ x.back, s.sml
theorem z7r {x : Lnk} (h : greatK x = false) : x.sml := by
  simp only [greatK, Bool.or_eq_false_iff] at h; exact ⟨zvz h.1, zg1 h.2.1, zg1 h.2.2⟩
def txtsB (l : List (List UInt8)) : List UInt8 := (l.map txtB).flatten
theorem zq5 (l : List (List UInt8)) (hl : l.length ≤ 3) (hok : ∀ s ∈ l, s.length ≤ 211106232532992) : ∀ (r : List (List UInt8)) (i : Nat) (b : List AV) (e : Int), l.drop i = r → b.length + (txtsB r).length + 10 ≤ 211106232532992 →
    ltbl E0 31 0 10 [.lst .ro 1 (l.map bytesV), iV l.length, iV i] [[.lst (.own (.O 1061 0)) 1 b, iV e]] = some (1, [], [[.lst (.own (.O 1061 0)) 1 (b ++ encB (txtsB r)), iV e]]) := by
  intro r
  induction r with
  | nil =>
    intro i b e hr hb
    have h : l.length ≤ i := by simpa using hr
    refine zff _ _ _ _ _ ?_
    have : ¬ ((i : Int) < l.length) := by omega
    simp [z9o, this, txtsB, z2c]
  | cons s r ih =>
    intro i b e hr hb; obtain ⟨hlt, hget, hr2⟩ := zw hr
    have h2 : (i : Int) < l.length := by omega
    have e1 := zn (i := i) (by omega)
    have hs := hok s (z1e hr)
    have et : (txtsB (s :: r)).length = (cnt s.length).length + s.length + (txtsB r).length := by simp [txtsB, txtB, Nat.add_assoc]
    have h := ih (i + 1) (b ++ encB (txtB s)) e hr2 (by rw [List.length_append, z3h]; unfold txtB; rw [List.length_append]; omega)
    have c := ze0 b s e (by omega)
    simp only [penA] at c
    have eb : b ++ encB (txtsB (s :: r)) = b ++ encB (txtB s) ++ encB (txtsB r) := by simp [txtsB, zk]
    refine zff _ _ _ _ _ ?_; rw [eb]; simp only [z9o, h2, Int.natCast_nonneg, nthE, Int.toNat_natCast, List.getElem?_map, hget, Option.map_some, orFail, z8t, ze, z9, zh, za, zm, z12, u_asA, u_asC, u_asI, u_asB, u_asS, u_asL, zy, u_asN, z3m, Option.bind_some, nbeq, z17, decide_true, cond_true, cond_false, c, e1]; exact h
theorem znc (l : List Stp) : (if 40 < l.length then (7 : Int) else if l.all tRightS = true then 0 else 2) = 0 ↔ rightsS l = true := by
  unfold rightsS
  by_cases h : 40 < l.length
  · have : ¬ (l.length ≤ 40) := by omega
    simp [h, this]
  · have h' : l.length ≤ 40 := by omega
    rcases bor (l.all tRightS) with q | q <;> simp [h, h', q]
theorem znd (l : List Stp) : ((if 40 < l.length then (7 : Int) else if l.all tRightS = true then 0 else 2) == 0) = rightsS l := by
  rw [Bool.eq_iff_iff, beq_iff_eq]; exact znc l
theorem z7s {l : List Stp} (hl : l.length ≤ 60) (h : ∀ x ∈ l, x.ok ∧ tRightS x = true) : (lstB l).length ≤ 400000 := by
  have h7 : (cnt l.length).length ≤ 10 := zd (by omega)
  have := z9x l h; unfold lstB; rw [List.length_append]; omega
theorem z6d {l : List Stp} (hok : ∀ s ∈ l, s.ok) (h : rightsS l = true) : l.length ≤ 40 ∧ l.all tRightS = true ∧ (∀ x ∈ l, x.ok ∧ tRightS x = true) := by
  simp only [rightsS, Bool.and_eq_true, decide_eq_true_eq] at h; exact ⟨h.1, h.2, fun x hx => ⟨hok x hx, List.all_eq_true.1 h.2 x hx⟩⟩
theorem zja {x : Lnk} (hx : x.ok) (hs : x.sml) (h : lnkS x = true) : (lnkB x).length ≤ 2000000 := by
  obtain ⟨h1, h2, h3, h4⟩ := hx; simp only [lnkS, Bool.and_eq_true, decide_eq_true_eq] at h; obtain ⟨g1, g2, g3, _, g4, g5⟩ := h; obtain ⟨p1, p2, p3⟩ := z6d h3 g4; obtain ⟨q1, q2, q3⟩ := z6d h4 g5; have a1 := z7q h2 g3
  have a2 := z7s (by omega) p3
  have a3 := z7s (by omega) q3
  have c0 : (cnt x.fr.toNat).length ≤ 10 := zd (by omega)
  have c1 : (cnt (schB x.to).length).length ≤ 10 := zd (by omega)
  have c2 : (cnt (lstB x.on).length).length ≤ 10 := zd (by omega)
  have c3 : (cnt (lstB x.back).length).length ≤ 10 := zd (by omega)
  unfold lnkB txtB; simp only [List.length_append]; omega
theorem zsr (x : Lnk) (hx : x.ok) (hs : x.sml) : tbl E0 31 [lnkV x] [] = some ([.lst .ro 1 (if lnkS x = true then encB (lnkB x) else []), iV (if lnkS x = true then 0 else 2)], []) :=
  zs6 x (by
    have hx0 := hx; obtain ⟨h1, h2, h3, h4⟩ := hx; obtain ⟨s1, s2, s3⟩ := hs; have c1 := zsp x.to h2 s1; have c2 := zj5 x.on (fun y hy => ⟨h3 y hy, s2.2 y hy⟩); have c3 := zj5 x.back (fun y hy => ⟨h4 y hy, s3.2 y hy⟩); simp only [schV, stpsV] at c1 c2 c3
    have e0 : ((if schS x.to = true then (0 : Int) else 2) == 0) = schS x.to := by rcases bor (schS x.to) with q | q <;> simp [q]
    have er : (bif (if schS x.to = true then (0 : Int) else 2) != 0 then true else bif (if 40 < x.on.length then (7 : Int) else if x.on.all tRightS = true then 0 else 2) != 0 then true else bif (if 40 < x.back.length then (7 : Int) else if x.back.all tRightS = true then 0 else 2) != 0 then true else bif decide (x.fr < 1) then true else bif decide (x.fr > 65535) then true else (x.fr == x.to.ver)) = !lnkS x := by
      simp only [bne, e0, znd, lnkS]
      have k1 : decide (x.fr < 1) = !decide (1 ≤ x.fr) := by rw [← decide_not]; exact decide_eq_decide.2 (by omega)
      have k2 : decide (x.fr > 65535) = !decide (x.fr ≤ 65535) := by rw [← decide_not]; exact decide_eq_decide.2 (by omega)
      have k3 : (x.fr == x.to.ver) = (x.to.ver == x.fr) := by rw [Bool.eq_iff_iff, beq_iff_eq, beq_iff_eq]; exact eq_comm
      rw [k1, k2, k3]
      cases schS x.to <;> cases rightsS x.on <;> cases rightsS x.back <;> cases decide (1 ≤ x.fr) <;> cases decide (x.fr ≤ 65535) <;> cases (x.to.ver == x.fr) <;> rfl
    simp only [zin, ze, z9, zh, za, zm, z12, u_asA, u_asC, u_asI, u_asB, u_asS, u_asL, zy, u_asN, z3m, Option.bind_some, nbeq, z17, decide_true, cond_true, cond_false, zq, c1, c2, c3]; simp only [z5f, Option.bind_some, Tok.untok_tok, er]
    rcases bor (lnkS x) with q | q
    · have hlen := zja hx0 ⟨s1, s2, s3⟩ q
      have q0 := q; simp only [lnkS, Bool.and_eq_true, decide_eq_true_eq] at q0; obtain ⟨g1, g2, g3, _, g4, g5⟩ := q0; obtain ⟨p1, p2, p3⟩ := z6d h3 g4; obtain ⟨q1, q2, q3⟩ := z6d h4 g5; have a1 := z7q h2 g3
      have a2 := z7s (by omega) p3
      have a3 := z7s (by omega) q3
      have hc : (cnt x.fr.toNat).length ≤ 10 := zd (by omega)
      have d1 := z1m [] x.fr 0 (by simp) (by omega) h1.2
      simp only [List.nil_append] at d1
      have et : cnt x.fr.toNat ++ txtsB [schB x.to, lstB x.on, lstB x.back] = lnkB x := by simp [txtsB, lnkB]
      have k := zq5 [schB x.to, lstB x.on, lstB x.back] (by simp) (by intro s hs; simp at hs; rcases hs with rfl | rfl | rfl <;> omega) _ 0 (encB (cnt x.fr.toNat)) 0 rfl (by rw [List.drop_zero, z3h, ← List.length_append, et]; omega)
      rw [← zk, List.drop_zero, et] at k
      have d := ze1 (lnkB x) 0 (by omega)
      simp only [penV, penA, if_true] at d; simp only [List.map_cons, List.map_nil, bytesV, Int.natCast_zero, List.length_cons, List.length_nil] at k; simp only [q, g3, p1, p2, q1, q2, and_self, if_true, Bool.not_true, ze, z9, zh, za, zm, z12, u_asA, u_asC, u_asI, u_asB, u_asS, u_asL, zy, u_asN, z3m, Option.bind_some, nbeq, z17, decide_true, cond_true, cond_false, List.length_cons, List.length_nil, c_New, d1, k, d, Nat.one_ne_zero]
    · simp only [q, Bool.not_false, cond_true, Bool.false_eq_true, if_false])
theorem zss (x : Lnk) (hx : x.ok) (hs : x.sml) : tbl E0 21 [lnkV x] [] = some ([.bool (lnkS x)], []) :=
  zs5 x (by
    have c := zsr x hx hs; simp only [lnkV, lnkC] at c; simp only [zim, ze, z9, zh, za, zm, z12, u_asA, u_asC, u_asI, u_asB, u_asS, u_asL, zy, u_asN, z3m, Option.bind_some, nbeq, z17, decide_true, cond_true, cond_false, zq, c]; simp only [z5f, Option.bind_some, Tok.untok_tok]
    have e : ((if lnkS x = true then (0 : Int) else 2) == 0) = lnkS x := by rcases bor (lnkS x) with q | q <;> simp [q]
    simp only [e]
    have k : (bif decide (x.fr < 1) then true else bif decide (x.fr > 65535) then true else (x.fr == x.to.ver)) = true → lnkS x = false := by
      intro h; unfold lnkS
      by_cases h1 : x.fr < 1
      · have : ¬ (1 ≤ x.fr) := by omega
        simp [this]
      · by_cases h2 : x.fr > 65535
        · have : ¬ (x.fr ≤ 65535) := by omega
          simp [this]
        · simp only [h1, h2, decide_false, cond_false, beq_iff_eq] at h
          simp [h]
    rcases bor (bif decide (x.fr < 1) then true else bif decide (x.fr > 65535) then true else (x.fr == x.to.ver)) with h | h
    · rw [h, k h]; rfl
    · rw [h]; rfl)
end Go.Proofs.Ytjkjhgfiaodgmaa.V
namespace Go.Proofs.Ytjkjhgfiaodgmaa.V
open Go
def Man.sml (x : Man) : Prop := Sml x.sch ∧ x.links.length ≤ 12 ∧ ∀ l ∈ x.links, l.sml
end Go.Proofs.Ytjkjhgfiaodgmaa.V
namespace Go.Proofs.Ytjkjhgfiaodgmaa.V
open Go
def lpW (l : List Lnk) : List (Int × Int) := l.map fun x => (x.fr, x.to.ver)
def resD : Option (List Nat) → List AV
  | some w => [natsV w, .bool true]
  | none => [natsV [], .bool false]
theorem zst {α : Type} {L : List α} {f : α → Option (List Nat)} {w : List Nat} {n : Nat} (h : L.findSome? f = some w) (hf : ∀ p u, f p = some u → u.length = n) : w.length = n := by
  obtain ⟨p, _, h2⟩ := List.exists_of_findSome?_eq_some h; exact hf p w h2
theorem z56 (l : List (Int × Int)) (g : Int) : ∀ (n : Nat) (v : Int) (w : List Nat), dfsW l g n v = some w → w.length = n
  | 0, v, w, h => by
    unfold dfsW at h
    split at h
    · injection h with h; rw [← h]; rfl
    · cases h
  | n + 1, v, w, h => by
    unfold dfsW at h; refine zst h fun p u hu => ?_
    cases hd : dfsW l g n p.2 with
    | none => rw [hd] at hu; cases hu
    | some x =>
      rw [hd] at hu; injection hu with hu; rw [← hu, List.length_cons, z56 l g n p.2 x hd]
theorem zsu (l : List Lnk) (g : Int) (n : Nat) (hl : l.length ≤ 100) (hn : n ≤ 100)
    (ihn : ∀ v : Int, tbl E0 15 [.agg [lnksV l, iV g], iV v, iV n] [] = some (resD (dfsW (lpW l) g n v), [])) (v : Int) : ∀ (r : List Lnk) (i : Nat), l.drop i = r →
    ltbl E0 15 0 4 [iV v, iV ((n + 1 : Nat) : Int), lnksV l, iV l.length, iV i] [[lnksV l, iV g]] =
      some (match (outW i v (lpW r)).findSome? (fun p => (dfsW (lpW l) g n p.2).map (p.1 :: ·)) with | some w => (0, [natsV w, .bool true], []) | none => (1, [], [])) := by
  intro r
  induction r with
  | nil =>
    intro i hr
    have h : l.length ≤ i := by simpa using hr
    have : ¬ ((i : Int) < l.length) := by omega
    refine zip _ _ _ _ _ _ ?_; simp [z5m, this, lpW, outW]
  | cons x r ih =>
    intro i hr; obtain ⟨hlt, hget, hr2⟩ := zw hr
    have h2 : (i : Int) < l.length := by omega
    have e1 := zn (i := i) (by omega)
    have e := ih (i + 1) hr2
    have ew : IntKind.i64.wrap (((n + 1 : Nat) : Int) - 1) = (n : Int) := by
      rw [show ((n + 1 : Nat) : Int) - 1 = (n : Int) by omega]
      exact wrap_i64 _ (by omega) (by omega)
    refine zip _ _ _ _ _ _ ?_
    have eo : outW i v (lpW (x :: r)) = if x.fr = v then (i, x.to.ver) :: outW (i + 1) v (lpW r) else outW (i + 1) v (lpW r) := rfl
    rw [eo]; simp only [lnksV] at e
    by_cases hv : x.fr = v
    · have hv' : (x.fr != v) = false := by simp [hv]
      have c := ihn x.to.ver; rw [if_pos hv, List.findSome?_cons]; simp only [lnksV] at c
      cases hd : dfsW (lpW l) g n x.to.ver with
      | none =>
        rw [hd] at c; simp only [resD, natsV, List.map_nil] at c; simp only [Option.map_none, z5m, h2, decide_true, cond_true, cond_false, z9, Int.natCast_nonneg, nthE, Int.toNat_natCast, List.getElem?_map, hget, Option.map_some, lnkV, lnkC, frmsV, stpsV, u_asA, u_asC, u_asI, u_asB, u_asL, u_asN, hv', za, ew, c, Option.bind_some, e1]; exact e
      | some w =>
        rw [hd] at c; have hw := z56 _ _ _ _ _ hd
        have hq : (0 + 1 + w.length) * 8 ≤ 211106232532992 := by omega
        simp only [resD, natsV] at c; simp only [Option.map_some, z5m, h2, decide_true, cond_true, cond_false, z9, Int.natCast_nonneg, nthE, Int.toNat_natCast, List.getElem?_map, hget, lnkV, lnkC, frmsV, stpsV, u_asA, u_asC, u_asI, u_asB, u_asL, u_asN, hv', za, ew, c, Option.bind_some, List.length_cons, List.length_nil, List.length_map, hq]; rfl
    · have hv' := bne_t hv
      rw [if_neg hv]; simp only [z5m, h2, decide_true, cond_true, z9, Int.natCast_nonneg, nthE, Int.toNat_natCast, List.getElem?_map, hget, Option.map_some, lnkV, lnkC, frmsV, stpsV, u_asA, u_asC, u_asI, u_asB, u_asL, u_asN, hv', e1]; exact e
theorem zlu (l : List Lnk) (g : Int) (hl : l.length ≤ 100) : ∀ n : Nat, n ≤ 100 → ∀ v : Int, tbl E0 15 [.agg [lnksV l, iV g], iV v, iV n] [] = some (resD (dfsW (lpW l) g n v), [])
  | 0, _, v => zlf l g v 0 (by
    simp only [ze5, z9, cond_true, (by decide : ((0 : Int) == 0) = true), dfsW]
    by_cases h : v = g
    · rw [if_pos h]; simp [h, resD]
    · rw [if_neg h]; simp [h, resD])
  | n + 1, hn, v => zlf l g v ((n + 1 : Nat) : Int) (by
    have c := zsu l g n hl (by omega) (zlu l g hl n (by omega)) v l 0 rfl
    have h0 : (((n + 1 : Nat) : Int) == 0) = false := by
      have : ((n + 1 : Nat) : Int) ≠ 0 := by omega
      simpa using this
    have ed : dfsW (lpW l) g (n + 1) v = (outW 0 v (lpW l)).findSome? fun p => (dfsW (lpW l) g n p.2).map (p.1 :: ·) := rfl
    rw [ed]; simp only [lnksV, Int.natCast_zero] at c; simp only [ze5, z9, cond_true, h0, cond_false, ze, List.length_map, zm, c, Option.bind_some]
    cases (outW 0 v (lpW l)).findSome? fun p => (dfsW (lpW l) g n p.2).map (p.1 :: ·) with
    | none => rfl
    | some w => rfl)
def wayW (l : List Lnk) (a b : Int) : List Nat × Int :=
  if 8 < l.length then ([], 7) else match (List.range' 0 (l.length + 1)).findSome? (fun n => dfsW (lpW l) b n a) with | some w => (w, 0) | none => ([], 19)
theorem zur (l : List Lnk) (a b : Int) (hl : l.length ≤ 8) : ∀ (c i : Nat), i + c = l.length + 1 →
    ltbl E0 8 0 4 [lnksV l, iV a, iV b, iV ((l.length + 1 : Nat) : Int), iV i] [] =
      some (match (List.range' i c).findSome? (fun n => dfsW (lpW l) b n a) with | some w => (0, [natsV w, iV 0], []) | none => (1, [], [])) := by
  intro c
  induction c with
  | zero =>
    intro i hi
    have : ¬ ((i : Int) < ((l.length + 1 : Nat) : Int)) := by omega
    refine zlg _ _ _ _ _ ?_; simp only [zab, this, decide_false, cond_false]; rfl
  | succ c ih =>
    intro i hi
    have h2 : (i : Int) < ((l.length + 1 : Nat) : Int) := by omega
    have e1 := zn (i := i) (by omega)
    have e := ih (i + 1) (by omega)
    have cf := zlu l b (by omega) i (by omega) a
    refine zlg _ _ _ _ _ ?_; rw [List.range'_succ, List.findSome?_cons]; simp only [lnksV] at cf e
    cases hd : dfsW (lpW l) b i a with
    | none =>
      rw [hd] at cf; simp only [resD, natsV, List.map_nil] at cf; simp only [zab, h2, decide_true, cond_true, cond_false, z9, za, cf, Option.bind_some, u_asC, u_asB, u_asL, u_asN, e1]; exact e
    | some w =>
      rw [hd] at cf; simp only [resD, natsV] at cf; simp only [zab, h2, decide_true, cond_true, z9, za, cf, Option.bind_some, u_asC, u_asB, u_asL, u_asN]
theorem zq6 (l : List Lnk) (a b : Int) : tbl E0 8 [lnksV l, iV a, iV b] [] = some ([natsV (wayW l a b).1, iV (wayW l a b).2], []) := zw7 l a b (by
  by_cases h : 8 < l.length
  · have h' : (l.length : Int) > 8 := by omega
    simp [zio, h', wayW, h]
  · have h' : ¬ ((l.length : Int) > 8) := by omega
    have c := zur l a b (by omega) (l.length + 1) 0 (by omega)
    have ew : IntKind.i64.wrap ((l.length : Int) + 1) = ((l.length + 1 : Nat) : Int) := zn (by omega)
    simp only [lnksV, Int.natCast_zero] at c; rw [wayW, if_neg h]; simp only [zio, ze, List.length_map, h', decide_false, cond_false, ew, zm, c, Option.bind_some]
    cases (List.range' 0 (l.length + 1)).findSome? (fun n => dfsW (lpW l) b n a) with
    | none => rfl
    | some w => rfl)
end Go.Proofs.Ytjkjhgfiaodgmaa.V
namespace Go.Proofs.Ytjkjhgfiaodgmaa.V
open Go
variable {H : Type}
end Go.Proofs.Ytjkjhgfiaodgmaa.V
namespace Go.Proofs.Ytjkjhgfiaodgmaa.V
open Go
variable {H : Type}
theorem z5y {α β : Type} {q : β → Prop} : ∀ {l : List α} {r : List β}, Each (fun _ b => q b) l r → ∀ {b : β}, b ∈ r → q b := by
  intro l r h b hb; obtain ⟨i, hi, e⟩ := List.mem_iff_getElem.1 hb
  obtain ⟨a, _, h2⟩ := h.get i b (by rw [← e]; exact List.getElem?_eq_getElem hi)
  exact h2
theorem zlv {n : Nat} {d : DataW H} {xs : List AV} (hf : Fit T0 (n + 2) 47 d xs) : ∃ f : Fld, f.ok ∧ xs = fldC f := by
  obtain ⟨ds, yss, rfl, rfl, h⟩ := z3b (fs := [(0, 3), (1, 3), (2, 3), (3, 3), (4, 3)]) (by kernel_rfl) hf
  obtain ⟨d0, ds, y0, yss, rfl, rfl, h0, h⟩ := zg h; obtain ⟨d1, ds, y1, yss, rfl, rfl, h1, h⟩ := zg h; obtain ⟨d2, ds, y2, yss, rfl, rfl, h2, h⟩ := zg h; obtain ⟨d3, ds, y3, yss, rfl, rfl, h3, h⟩ := zg h; obtain ⟨d4, ds, y4, yss, rfl, rfl, h4, h⟩ := zg h; obtain ⟨rfl, rfl⟩ := z29 h
  obtain ⟨a, ha, rfl, rfl⟩ := z1i (by kernel_rfl) h0
  obtain ⟨b, hb, rfl, rfl⟩ := z1i (by kernel_rfl) h1
  obtain ⟨c, hc, rfl, rfl⟩ := z1i (by kernel_rfl) h2
  obtain ⟨e, he, rfl, rfl⟩ := z1i (by kernel_rfl) h3
  obtain ⟨g, hg, rfl, rfl⟩ := z1i (by kernel_rfl) h4
  exact ⟨⟨a, b, c, e, g⟩, ⟨ha, hb, hc, he, hg⟩, rfl⟩
theorem zjd {n : Nat} {d : DataW H} {xs : List AV} (hf : Fit T0 (n + 3) 50 d xs) : ∃ l : List Fld, (∀ f ∈ l, f.ok) ∧ xs = [fldsV l] := by
  obtain ⟨ds, sp, l, hd, rfl, h⟩ := z3z (e := 47) (by kernel_rfl) hf
  obtain ⟨cs, rfl, hq⟩ := z3n (f := fldV) (Q := fun d f => f.ok) (fun d x ⟨ys, h1, h2⟩ => by
    obtain ⟨f, hf, rfl⟩ := zlv h1
    exact ⟨f, z4k (by kernel_rfl) h2, hf⟩) h
  exact ⟨cs, fun f hf => z5y hq hf, rfl⟩
theorem zut {n : Nat} {d : DataW H} {xs : List AV} (hf : Fit T0 (n + 4) 60 d xs) : ∃ f : Frm, f.ok ∧ xs = [iV f.id, fldsV f.fields] := by
  obtain ⟨ds, yss, rfl, rfl, h⟩ := z3b (fs := [(0, 3), (1, 50)]) (by kernel_rfl) hf
  obtain ⟨d0, ds, y0, yss, rfl, rfl, h0, h⟩ := zg h; obtain ⟨d1, ds, y1, yss, rfl, rfl, h1, h⟩ := zg h; obtain ⟨rfl, rfl⟩ := z29 h
  obtain ⟨a, ha, rfl, rfl⟩ := z1i (by kernel_rfl) h0
  obtain ⟨l, hl, rfl⟩ := zjd h1; exact ⟨⟨a, l⟩, ⟨ha, hl⟩, rfl⟩
theorem zsw {n : Nat} {d : DataW H} {xs : List AV} (hf : Fit T0 (n + 5) 22 d xs) : ∃ l : List Frm, (∀ f ∈ l, f.ok) ∧ xs = [frmsV l] := by
  obtain ⟨ds, sp, l, hd, rfl, h⟩ := z3z (e := 60) (by kernel_rfl) hf
  obtain ⟨cs, rfl, hq⟩ := z3n (f := frmV) (Q := fun d f => f.ok) (fun d x ⟨ys, h1, h2⟩ => by
    obtain ⟨f, hf, rfl⟩ := zut h1
    exact ⟨f, z4k (by kernel_rfl) h2, hf⟩) h
  exact ⟨cs, fun f hf => z5y hq hf, rfl⟩
theorem zec {n : Nat} {d : DataW H} {xs : List AV} (hf : Fit T0 (n + 6) 24 d xs) : ∃ s : Sch, s.ok ∧ xs = [iV s.ver, frmsV s.forms] := by
  obtain ⟨ds, yss, rfl, rfl, h⟩ := z3b (fs := [(0, 3), (1, 22)]) (by kernel_rfl) hf
  obtain ⟨d0, ds, y0, yss, rfl, rfl, h0, h⟩ := zg h; obtain ⟨d1, ds, y1, yss, rfl, rfl, h1, h⟩ := zg h; obtain ⟨rfl, rfl⟩ := z29 h
  obtain ⟨a, ha, rfl, rfl⟩ := z1i (by kernel_rfl) h0
  obtain ⟨l, hl, rfl⟩ := zsw h1; exact ⟨⟨a, l⟩, ⟨ha, hl⟩, rfl⟩
end Go.Proofs.Ytjkjhgfiaodgmaa.V
namespace Go.Proofs.Ytjkjhgfiaodgmaa.V
open Go
variable {H : Type}
theorem zsx {n : Nat} {d : DataW H} {xs : List AV} (hf : Fit T0 (n + 2) 34 d xs) : ∃ l : List Int, (∀ n ∈ l, i64 n) ∧ xs = [intsV l] := by
  obtain ⟨ds, sp, l, hd, rfl, h⟩ := z3z (e := 3) (by kernel_rfl) hf
  obtain ⟨cs, rfl, hq⟩ := z3n (f := fun n => iV n) (Q := fun d n => i64 n) (fun d x ⟨ys, h1, h2⟩ => by
    obtain ⟨a, ha, rfl, rfl⟩ := z1i (by kernel_rfl) h1
    have q := zbb (by kernel_rfl) h2
    injection q with q; exact ⟨a, q.symm, ha⟩) h
  exact ⟨cs, fun f hf => z5y hq hf, rfl⟩
theorem zuu {n : Nat} {d : DataW H} {xs : List AV} (hf : Fit T0 (n + 2) 49 d xs) : ∃ (a : Int) (s : List UInt8), i64 a ∧ xs = [iV a, .str s] := by
  obtain ⟨ds, yss, rfl, rfl, h⟩ := z3b (fs := [(0, 3), (1, 9)]) (by kernel_rfl) hf
  obtain ⟨d0, ds, y0, yss, rfl, rfl, h0, h⟩ := zg h; obtain ⟨d1, ds, y1, yss, rfl, rfl, h1, h⟩ := zg h; obtain ⟨rfl, rfl⟩ := z29 h
  obtain ⟨a, ha, rfl, rfl⟩ := z1i (by kernel_rfl) h0
  obtain ⟨s, rfl, rfl⟩ := zti (by kernel_rfl) h1
  exact ⟨a, s, ha, rfl⟩
theorem zuv {n : Nat} {d : DataW H} {xs : List AV} (hf : Fit T0 (n + 4) 52 d xs) : ∃ x : Stp, x.ok ∧ xs = stpC x := by
  obtain ⟨ds, yss, rfl, rfl, h⟩ := z3b (fs := [(0, 3), (1, 3), (2, 3), (3, 3), (4, 3), (5, 3), (6, 3), (7, 47), (12, 49), (14, 34), (15, 50)]) (by kernel_rfl) hf
  obtain ⟨d0, ds, y0, yss, rfl, rfl, h0, h⟩ := zg h; obtain ⟨d1, ds, y1, yss, rfl, rfl, h1, h⟩ := zg h; obtain ⟨d2, ds, y2, yss, rfl, rfl, h2, h⟩ := zg h; obtain ⟨d3, ds, y3, yss, rfl, rfl, h3, h⟩ := zg h; obtain ⟨d4, ds, y4, yss, rfl, rfl, h4, h⟩ := zg h; obtain ⟨d5, ds, y5, yss, rfl, rfl, h5, h⟩ := zg h; obtain ⟨d6, ds, y6, yss, rfl, rfl, h6, h⟩ := zg h; obtain ⟨d7, ds, y7, yss, rfl, rfl, h7, h⟩ := zg h
  obtain ⟨d8, ds, y8, yss, rfl, rfl, h8, h⟩ := zg h; obtain ⟨d9, ds, y9, yss, rfl, rfl, h9, h⟩ := zg h; obtain ⟨dA, ds, yA, yss, rfl, rfl, hA, h⟩ := zg h; obtain ⟨rfl, rfl⟩ := z29 h
  obtain ⟨a0, i0, rfl, rfl⟩ := z1i (by kernel_rfl) h0
  obtain ⟨a1, i1, rfl, rfl⟩ := z1i (by kernel_rfl) h1
  obtain ⟨a2, i2, rfl, rfl⟩ := z1i (by kernel_rfl) h2
  obtain ⟨a3, i3, rfl, rfl⟩ := z1i (by kernel_rfl) h3
  obtain ⟨a4, i4, rfl, rfl⟩ := z1i (by kernel_rfl) h4
  obtain ⟨a5, i5, rfl, rfl⟩ := z1i (by kernel_rfl) h5
  obtain ⟨a6, i6, rfl, rfl⟩ := z1i (by kernel_rfl) h6
  obtain ⟨f, i7, rfl⟩ := zlv h7; obtain ⟨a8, s, i8, rfl⟩ := zuu h8; obtain ⟨t, i9, rfl⟩ := zsx h9; obtain ⟨fs, iA, rfl⟩ := zjd hA; exact ⟨⟨a0, a1, a2, a3, a4, a5, a6, f, a8, s, t, fs⟩, ⟨i0, i1, i2, i3, i4, i5, i6, i7, i8, i9, iA⟩, rfl⟩
theorem zje {n : Nat} {d : DataW H} {xs : List AV} (hf : Fit T0 (n + 5) 28 d xs) : ∃ l : List Stp, (∀ f ∈ l, f.ok) ∧ xs = [stpsV l] := by
  obtain ⟨ds, sp, l, hd, rfl, h⟩ := z3z (e := 52) (by kernel_rfl) hf
  obtain ⟨cs, rfl, hq⟩ := z3n (f := stpV) (Q := fun d f => f.ok) (fun d x ⟨ys, h1, h2⟩ => by
    obtain ⟨f, hf, rfl⟩ := zuv h1
    exact ⟨f, z4k (by kernel_rfl) h2, hf⟩) h
  exact ⟨cs, fun f hf => z5y hq hf, rfl⟩
end Go.Proofs.Ytjkjhgfiaodgmaa.V
namespace Go.Proofs.Ytjkjhgfiaodgmaa.V
open Go
variable {H : Type}
end Go.Proofs.Ytjkjhgfiaodgmaa.V
namespace Go.Proofs.Ytjkjhgfiaodgmaa.V
open Go
variable {H : Type}
theorem zjf : Sml sch0 := ⟨by simp [sch0], by simp [sch0]⟩
theorem zlw : ∀ (l : List Stp) (i : Nat) (s : Sch), Few s → Sml (allS s i l).1
  | [], i, s, h => h.sml
  | x :: l, i, s, h => by
    unfold allS
    by_cases e : (onS s x).2 = 0
    · rw [if_pos e]; exact zlw l (i + 1) _ (zd9 (z5w e))
    · rw [if_neg e]; exact zjf
end Go.Proofs.Ytjkjhgfiaodgmaa.V
namespace Go.Proofs.Ytjkjhgfiaodgmaa.V
open Go
theorem zlx {s : Sch} {a b : List Stp} (h : (chkS s a b).2 = 0) : (allS s 0 a).2.2 = 0 := by
  by_cases e : (allS s 0 a).2.2 = 0
  · exact e
  · rw [chkS, if_neg e] at h; exact absurd h e
def nowS (s : Sch) (x : Lnk) : Sch := ⟨x.to.ver, (allS s 0 x.on).1.forms⟩
def ovS (s : Sch) (x : Lnk) : Sch × Int :=
  if lnkS x then (if (chkS s x.on x.back).2 = 0 then (nowS s x, if nowS s x = x.to then 0 else 17) else (s, (chkS s x.on x.back).2)) else (s, 2)
theorem zux (s : Sch) (x : Lnk) (hs : Few s) (hx : x.ok) (hm : x.sml) : tbl E0 12 [schV s, lnkV x] [] = some ([schV (ovS s x).1, iV (ovS s x).2], []) := zu8 s x (by
  have c1 := zss x hx hm; obtain ⟨m1, ⟨m2, m3⟩, m4, m5⟩ := hm; have ha : ∀ y ∈ x.on, y.sml ∧ y.ok := fun y hy => ⟨m3 y hy, hx.2.2.1 y hy⟩
  have c2 := zsn s x.on x.back hs (by omega) ha hx.2.2.2
  have c3 := zj0 s x.on hs (by omega) ha
  have sm : Sml (nowS s x) := zlw x.on 0 s hs; have c4 := ze2 (nowS s x) x.to sm; simp only [lnkV, lnkC, frmsV, stpsV, schV] at c1 c2 c3 c4; simp only [zlh, z9, cond_true, za, c1, Option.bind_some, u_asC, u_asB, u_asN]
  rcases bor (lnkS x) with hb | hb
  · simp only [hb, Bool.not_true, cond_false, z9, cond_true, za, c2, Option.bind_some, u_asC, u_asI, u_asN]
    by_cases h : (chkS s x.on x.back).2 = 0
    · have hal := zlx h
      rw [hal] at c3
      have eo : ovS s x = (nowS s x, if nowS s x = x.to then 0 else 17) := by rw [ovS, if_pos hb, if_pos h]
      rw [eo]; simp only [h, bne_self_eq_false, cond_false, cond_true, z9, za, c3, Option.bind_some, u_asC, u_asA, u_asI, u_asL, u_asN, zq, beq_self_eq_true, nowS] at c4 ⊢; simp only [c4, Option.bind_some, u_asC, u_asB, u_asN, Tok.untok_tok]
      by_cases e : (⟨x.to.ver, (allS s 0 x.on).1.forms⟩ : Sch) = x.to
      · have ef : (allS s 0 x.on).1.forms = x.to.forms := by have q := congrArg Sch.forms e; exact q
        simp [e, ef]
      · simp [e]
    · have h' := bne_t h
      have eo : ovS s x = (s, (chkS s x.on x.back).2) := by rw [ovS, if_pos hb, if_neg h]
      rw [eo]; simp only [h', cond_true]
  · have eo : ovS s x = (s, 2) := by rw [ovS, hb]; rfl
    rw [eo]; simp only [hb, Bool.not_false, cond_true])
def runS (l : List Lnk) : Sch → List Stp → List Nat → Sch × List Stp × Int
  | s, d, [] => (s, d, 0)
  | s, d, k :: w => match l[k]? with
    | none => (s, [], 99)
    | some x => if (ovS s x).2 = 0 then runS l (nowS s x) (d ++ x.on) w else (s, [], (ovS s x).2)
def planS (s : Sch) (l : List Lnk) (t : Sch) : List Stp × Int :=
  if schS s && schS t then
    (if (wayW l s.ver t.ver).2 = 0 then
      (if (runS l s [] (wayW l s.ver t.ver).1).2.2 = 0 then
        (if (runS l s [] (wayW l s.ver t.ver).1).1 = t then (if 200 < (runS l s [] (wayW l s.ver t.ver).1).2.1.length then ([], 7) else ((runS l s [] (wayW l s.ver t.ver).1).2.1, 0)) else ([], 17))
        else ([], (runS l s [] (wayW l s.ver t.ver).1).2.2))
      else ([], (wayW l s.ver t.ver).2))
  else ([], 2)
theorem zq8 {s : Sch} {x : Lnk} (h : (ovS s x).2 = 0) (hm : x.sml) (hx : Few x.to) : nowS s x = x.to ∧ Few (nowS s x) := by
  unfold ovS at h
  by_cases hb : lnkS x = true
  · rw [if_pos hb] at h
    by_cases hc : (chkS s x.on x.back).2 = 0
    · rw [if_pos hc] at h
      by_cases e : nowS s x = x.to
      · exact ⟨e, by rw [e]; exact hx⟩
      · simp [e] at h
    · rw [if_neg hc] at h; exact absurd h hc
  · rw [if_neg hb] at h; simp at h
theorem zby : ∀ (L : List (Int × Int)) (i : Nat) (v : Int) (p : Nat × Int), p ∈ outW i v L → p.1 < i + L.length
  | [], i, v, p, h => by simp [outW] at h
  | (a, b) :: L, i, v, p, h => by
    rw [outW] at h
    split at h
    · rcases List.mem_cons.1 h with rfl | h
      · simp
      · have := zby L (i + 1) v p h
        rw [List.length_cons]; omega
    · have := zby L (i + 1) v p h
      rw [List.length_cons]; omega
theorem zq9 (L : List (Int × Int)) (g : Int) : ∀ (n : Nat) (v : Int) (w : List Nat), dfsW L g n v = some w → ∀ k ∈ w, k < L.length
  | 0, v, w, h, k, hk => by
    unfold dfsW at h
    split at h
    · injection h with h; subst h; simp at hk
    · cases h
  | n + 1, v, w, h, k, hk => by
    unfold dfsW at h; obtain ⟨p, hp, h2⟩ := List.exists_of_findSome?_eq_some h
    cases hd : dfsW L g n p.2 with
    | none => rw [hd] at h2; cases h2
    | some u =>
      rw [hd] at h2; injection h2 with h2; subst h2
      rcases List.mem_cons.1 hk with rfl | hk
      · have := zby L 0 v p hp; omega
      · exact zq9 L g n p.2 u hd k hk
theorem zwl {l : List Lnk} {a b : Int} : ∀ k ∈ (wayW l a b).1, ∃ x, l[k]? = some x := by
  intro k hk; unfold wayW at hk
  split at hk
  · simp at hk
  · cases h : (List.range' 0 (l.length + 1)).findSome? (fun n => dfsW (lpW l) b n a) with
    | none => rw [h] at hk; simp at hk
    | some w =>
      rw [h] at hk; obtain ⟨n, _, hd⟩ := List.exists_of_findSome?_eq_some h; have := zq9 _ _ _ _ _ hd k hk
      have hl : k < l.length := by simpa [lpW] using this
      exact ⟨_, List.getElem?_eq_getElem hl⟩
theorem z7t (l : List Lnk) (a b : Int) : (wayW l a b).1.length ≤ 9 := by
  unfold wayW
  split
  · simp
  · cases h : (List.range' 0 (l.length + 1)).findSome? (fun n => dfsW (lpW l) b n a) with
    | none => simp
    | some w =>
      obtain ⟨n, hn, hd⟩ := List.exists_of_findSome?_eq_some h; have := z56 _ _ _ _ _ hd; simp only [List.mem_range'_1] at hn; show w.length ≤ 9; omega
theorem zly {l : List Lnk} (hl : ∀ x ∈ l, x.ok ∧ x.sml ∧ Few x.to) : ∀ (w : List Nat) (s : Sch) (d : List Stp), Few s → Few (runS l s d w).1
  | [], s, d, hs => hs
  | k :: w, s, d, hs => by
    rw [runS]
    cases hk : l[k]? with
    | none => exact hs
    | some x =>
      have hx := hl x (List.mem_of_getElem? hk); simp only
      by_cases h : (ovS s x).2 = 0
      · rw [if_pos h]; exact zly hl w _ _ (zq8 h hx.2.1 hx.2.2).2
      · rw [if_neg h]; exact hs
set_option maxRecDepth 100000 in
theorem zng (l : List Lnk) (t : Sch) (w : List Nat) (hl : ∀ x ∈ l, x.ok ∧ x.sml ∧ Few x.to) (hw : ∀ k ∈ w, ∃ x, l[k]? = some x) (hwl : w.length ≤ 100) : ∀ (r : List Nat) (i : Nat) (s : Sch) (d : List Stp), w.drop i = r → Few s → d.length + 60 * r.length ≤ 100000 →
    ltbl E0 6 0 8 [lnksV l, .lst (.own (.L 10)) 16 (d.map stpV), natsV w, iV w.length, iV i] [[iV s.ver, frmsV s.forms], [iV t.ver, frmsV t.forms]] =
      some (if (runS l s d r).2.2 = 0 then (1, [.lst (.own (.L 10)) 16 ((runS l s d r).2.1.map stpV)], [[iV (runS l s d r).1.ver, frmsV (runS l s d r).1.forms], [iV t.ver, frmsV t.forms]]) else (0, [stpsV [], iV (runS l s d r).2.2], [])) := by
  intro r
  induction r with
  | nil =>
    intro i s d hr hs hd
    have h : w.length ≤ i := by simpa using hr
    refine zd6 _ _ _ _ _ _ _ ?_
    have : ¬ ((i : Int) < w.length) := by omega
    simp only [z52, this, decide_false, cond_false, runS, if_true]
  | cons k r ih =>
    intro i s d hr hs hd; obtain ⟨hlt, hget, hr2⟩ := zw hr; rw [List.length_cons] at hd
    have h2 : (i : Int) < w.length := by omega
    have e1 := zn (i := i) (by omega)
    obtain ⟨x, hxk⟩ := hw k (z1e hr); have hx := hl x (List.mem_of_getElem? hxk); have c := zux s x hs hx.1 hx.2.1; refine zd6 _ _ _ _ _ _ _ ?_
    have er : runS l s d (k :: r) = if (ovS s x).2 = 0 then runS l (nowS s x) (d ++ x.on) r else (s, [], (ovS s x).2) := by rw [runS, hxk]
    rw [er]
    by_cases h : (ovS s x).2 = 0
    · obtain ⟨o1, o2⟩ := zq8 h hx.2.1 hx.2.2
      have e := ih (i + 1) (nowS s x) (d ++ x.on) hr2 o2 (by have := hx.2.1.2.1.1; rw [List.length_append]; omega)
      have eo : ovS s x = (nowS s x, 0) := by
        unfold ovS at h ⊢
        by_cases hb : lnkS x = true
        · rw [if_pos hb] at h ⊢
          by_cases hc : (chkS s x.on x.back).2 = 0
          · rw [if_pos hc] at h ⊢; rw [show (if nowS s x = x.to then (0 : Int) else 17) = 0 from h]
          · rw [if_neg hc] at h; exact absurd h hc
        · rw [if_neg hb] at h; simp at h
      have n1 : (d.length + x.on.length) * 168 ≤ 211106232532992 := by have := hx.2.1.2.1.1; omega
      rw [if_pos h]; rw [eo] at c; simp only [schV, lnkV, lnkC, frmsV, stpsV, lnksV, natsV, List.map_append] at c e ⊢; simp only [z52, z3k, h2, decide_true, cond_true, cond_false, z9, Int.natCast_nonneg, nthE, Int.toNat_natCast, List.getElem?_map, hget, hxk, Option.map_some, intN, lnkV, lnkC, frmsV, stpsV, u_asA, u_asC, u_asI, u_asL, u_asN, zy, z17, za, c, Option.bind_some, bne_self_eq_false, z2h, z12, List.length_map, n1, e1]
      exact e
    · have h' := bne_t h
      rw [if_neg h, if_neg h]; simp only [schV, lnkV, lnkC, frmsV, stpsV, lnksV, natsV] at c ⊢; simp only [z52, z3k, h2, decide_true, cond_true, cond_false, z9, Int.natCast_nonneg, nthE, Int.toNat_natCast, List.getElem?_map, hget, hxk, Option.map_some, intN, lnkV, lnkC, frmsV, stpsV, u_asA, u_asC, u_asI, u_asL, u_asN, za, c, Option.bind_some, z2h, z12, h', List.map_nil]
set_option maxRecDepth 100000 in
theorem zqa (s : Sch) (l : List Lnk) (t : Sch) (hs : Few s) (ht : Few t) (hl : ∀ x ∈ l, x.ok ∧ x.sml ∧ Few x.to) : tbl E0 6 [schV s, lnksV l, schV t] [] = some ([stpsV (planS s l t).1, iV (planS s l t).2], []) := zp6 s l t (by
  have c1 := z5i s hs.sml; have c2 := z5i t ht.sml; have c3 := zq6 l s.ver t.ver
  have cL := zng l t (wayW l s.ver t.ver).1 hl zwl (by have := z7t l s.ver t.ver; omega) (wayW l s.ver t.ver).1 0 s [] rfl hs (by have := z7t l s.ver t.ver; simp only [List.length_nil]; omega)
  have c4 := ze2 (runS l s [] (wayW l s.ver t.ver).1).1 t (zly hl _ _ _ hs).sml; simp only [schV, frmsV, lnksV, natsV, List.map_nil, Int.natCast_zero] at c1 c2 c3 cL c4; simp only [zfh, z9, cond_true, za, zq, c1, Option.bind_some, u_asC, u_asB, u_asN]
  rcases bor (schS s) with h1 | h1
  · rcases bor (schS t) with h2 | h2
    · simp only [h1, h2, Bool.not_true, cond_false, Tok.untok_tok, za, c2, c3, Option.bind_some, u_asC, u_asB, u_asI, u_asL, u_asN]
      by_cases h3 : (wayW l s.ver t.ver).2 = 0
      · have h3' : ((wayW l s.ver t.ver).2 != 0) = false := by simp [h3]
        simp only [h3', cond_false, ze, List.length_map, zm, cL, Option.bind_some]
        by_cases h4 : (runS l s [] (wayW l s.ver t.ver).1).2.2 = 0
        · rw [if_pos h4]
          simp only [nbeq, decide_true, decide_false, (by decide : (1 : Nat) ≠ 0), cond_true, cond_false, u_asC, zy, u_asI, u_asL, u_asN, z17, z9, za, c4, Option.bind_some, u_asB]
          by_cases h5 : (runS l s [] (wayW l s.ver t.ver).1).1 = t
          · by_cases h6 : 200 < (runS l s [] (wayW l s.ver t.ver).1).2.1.length
            · have h6' : ((runS l s [] (wayW l s.ver t.ver).1).2.1.length : Int) > 200 := by omega
              simp [planS, h1, h2, h3, h4, h5, h6, h6']
            · have h6' : ¬ (((runS l s [] (wayW l s.ver t.ver).1).2.1.length : Int) > 200) := by omega
              simp [planS, h1, h2, h3, h4, h5, h6, h6']
          · simp [planS, h1, h2, h3, h4, h5]
        · rw [if_neg h4]
          simp [planS, h1, h2, h3, h4]
      · have h3' := bne_t h3
        simp [planS, h1, h2, h3, h3']
    · simp [planS, h1, h2, c2]
  · simp [planS, h1])
end Go.Proofs.Ytjkjhgfiaodgmaa.V
namespace Go.Proofs.Ytjkjhgfiaodgmaa.V
open Go
theorem zlz {v u : Int} (hv : 1 ≤ v ∧ v ≤ 65535) (hu : 1 ≤ u ∧ u ≤ 65535) (l : List Frm) : schS ⟨v, l⟩ = schS ⟨u, l⟩ := by
  unfold schS; rw [decide_eq_true hv, decide_eq_true hu]
theorem zad {v u : Int} (hv : 1 ≤ v ∧ v ≤ 65535) (hu : 1 ≤ u ∧ u ≤ 65535) (l : List Frm) (f : Frm) : outS ⟨v, l⟩ f = if (outS ⟨u, l⟩ f).2 = 0 then (⟨v, (outS ⟨u, l⟩ f).1.forms⟩, 0) else (sch0, (outS ⟨u, l⟩ f).2) := by
  unfold outS; rw [zlz hv hu]
  rcases bor (schS ⟨u, formsS f f.fields.isEmpty l⟩) with h | h <;> simp [h]
theorem zwm {v u : Int} (hv : 1 ≤ v ∧ v ≤ 65535) (hu : 1 ≤ u ∧ u ≤ 65535) (l : List Frm) (x : Stp) : onS ⟨v, l⟩ x = if (onS ⟨u, l⟩ x).2 = 0 then (⟨v, (onS ⟨u, l⟩ x).1.forms⟩, 0) else (sch0, (onS ⟨u, l⟩ x).2) := by
  have n1 : namesS ⟨v, l⟩ x = namesS ⟨u, l⟩ x := rfl; have n2 : oldS ⟨v, l⟩ x = oldS ⟨u, l⟩ x := rfl; unfold onS; rw [zlz hv hu, n1, n2]
  split
  · simp
  · split
    · rename_i h; simp [h]
    · split
      · exact zad hv hu l _
      · split
        · exact zad hv hu l _
        · split
          · exact zad hv hu l _
          · split
            · simp
            · split
              · split
                · simp
                · exact zad hv hu l _
              · simp
theorem zsy {s : Sch} {x : Stp} (h : (onS s x).2 = 0) : (onS s x).1.ver = s.ver := by
  obtain ⟨g, e1, e2, _⟩ := z36 h; rw [e2] at h ⊢; rw [(z9v h).2]
theorem zm0 {v u : Int} (hv : 1 ≤ v ∧ v ≤ 65535) (hu : 1 ≤ u ∧ u ≤ 65535) : ∀ (l : List Stp) (i : Nat) (fs : List Frm), (allS ⟨u, fs⟩ i l).2.2 = 0 → (allS ⟨v, fs⟩ i l).2.2 = 0 ∧ (allS ⟨v, fs⟩ i l).1 = ⟨v, (allS ⟨u, fs⟩ i l).1.forms⟩
  | [], i, fs, h => ⟨rfl, rfl⟩
  | x :: l, i, fs, h => by
    unfold allS at h ⊢
    by_cases e : (onS ⟨u, fs⟩ x).2 = 0
    · have ov := zwm hv hu fs x
      rw [if_pos e] at ov; rw [if_pos e] at h
      have ek : (onS ⟨u, fs⟩ x).1 = ⟨u, (onS ⟨u, fs⟩ x).1.forms⟩ := by
        have := zsy e
        cases hq : (onS ⟨u, fs⟩ x).1 with
        | mk a b => rw [hq] at this; simp only at this; rw [this]
      rw [ov, if_pos rfl, if_pos e]; rw [ek] at h ⊢; exact zm0 hv hu l (i + 1) _ h
    · rw [if_neg e] at h; exact absurd h e
theorem zm1 : ∀ (l : List Stp) (i j : Nat) (s : Sch), (allS s i l).1 = (allS s j l).1 ∧ (allS s i l).2.2 = (allS s j l).2.2
  | [], i, j, s => ⟨rfl, rfl⟩
  | x :: l, i, j, s => by
    unfold allS
    by_cases e : (onS s x).2 = 0
    · rw [if_pos e, if_pos e]; exact zm1 l _ _ _
    · rw [if_neg e, if_neg e]; exact ⟨rfl, rfl⟩
theorem zm2 : ∀ (a b : List Stp) (i : Nat) (s : Sch), (allS s i a).2.2 = 0 → (allS s i (a ++ b)).1 = (allS (allS s i a).1 0 b).1 ∧ (allS s i (a ++ b)).2.2 = (allS (allS s i a).1 0 b).2.2
  | [], b, i, s, h => zm1 b i 0 s
  | x :: a, b, i, s, h => by
    have ea : ∀ l : List Stp, allS s i (x :: l) = if (onS s x).2 = 0 then allS (onS s x).1 (i + 1) l else (sch0, i, (onS s x).2) := fun l => by rw [allS]
    rw [ea a] at h ⊢; rw [List.cons_append, ea (a ++ b)]
    by_cases e : (onS s x).2 = 0
    · rw [if_pos e] at h
      rw [if_pos e, if_pos e]; exact zm2 a b (i + 1) _ h
    · rw [if_neg e] at h; exact absurd h e
theorem zm3 : ∀ (L : List (Int × Int)) (i : Nat) (v : Int) (p : Nat × Int), p ∈ outW i v L → ∃ j, p.1 = i + j ∧ L[j]? = some (v, p.2)
  | [], i, v, p, h => by simp [outW] at h
  | (a, b) :: L, i, v, p, h => by
    have rest : p ∈ outW (i + 1) v L → ∃ j, p.1 = i + j ∧ ((a, b) :: L)[j]? = some (v, p.2) := by
      intro h; obtain ⟨j, h1, h2⟩ := zm3 L (i + 1) v p h
      exact ⟨j + 1, by omega, by simpa using h2⟩
    rw [outW] at h
    split at h
    · rename_i e
      rcases List.mem_cons.1 h with rfl | h
      · exact ⟨0, rfl, by simp [e]⟩
      · exact rest h
    · exact rest h
def chainW (L : List (Int × Int)) (g : Int) : Int → List Nat → Prop
  | v, [] => v = g
  | v, k :: w => ∃ u, L[k]? = some (v, u) ∧ chainW L g u w
theorem zg8 (L : List (Int × Int)) (g : Int) : ∀ (n : Nat) (v : Int) (w : List Nat), dfsW L g n v = some w → chainW L g v w
  | 0, v, w, h => by
    unfold dfsW at h
    split at h
    · rename_i e; injection h with h; subst h; exact e
    · cases h
  | n + 1, v, w, h => by
    unfold dfsW at h; obtain ⟨p, hp, h2⟩ := List.exists_of_findSome?_eq_some h
    cases hd : dfsW L g n p.2 with
    | none => rw [hd] at h2; cases h2
    | some u =>
      rw [hd] at h2; injection h2 with h2; subst h2; obtain ⟨j, h3, h4⟩ := zm3 L 0 v p hp
      have : p.1 = j := by omega
      exact ⟨p.2, by rw [this]; exact h4, zg8 L g n p.2 u hd⟩
theorem zm4 : ∀ (L : List (Int × Int)) (i : Nat) (v b : Int) (j : Nat), L[j]? = some (v, b) → (i + j, b) ∈ outW i v L
  | [], i, v, b, j, h => by simp at h
  | (a, c) :: L, i, v, b, j, h => by
    cases j with
    | zero =>
      simp only [List.getElem?_cons_zero, Option.some.injEq, Prod.mk.injEq] at h; obtain ⟨rfl, rfl⟩ := h; rw [outW, if_pos rfl]; simp
    | succ j =>
      rw [List.getElem?_cons_succ] at h; have := zm4 L (i + 1) v b j h
      rw [show i + 1 + j = i + (j + 1) by omega] at this
      rw [outW]
      split
      · exact List.mem_cons_of_mem _ this
      · exact this
theorem zuy {L : List (Int × Int)} {a b : Int} {k : Nat} (h : L[k]? = some (a, b)) : dfsW L b 1 a ≠ none := by
  intro hn; unfold dfsW at hn; rw [List.findSome?_eq_none_iff] at hn; have := hn _ (zm4 L 0 a b k h); simp [dfsW] at this
end Go.Proofs.Ytjkjhgfiaodgmaa.V
namespace Go.Proofs.Ytjkjhgfiaodgmaa.V
open Go
theorem ov_ok {s : Sch} {x : Lnk} (h : (ovS s x).2 = 0) : (chkS s x.on x.back).2 = 0 ∧ nowS s x = x.to ∧ schS x.to = true := by
  unfold ovS at h
  by_cases hb : lnkS x = true
  · rw [if_pos hb] at h
    by_cases hc : (chkS s x.on x.back).2 = 0
    · rw [if_pos hc] at h
      by_cases e : nowS s x = x.to
      · refine ⟨hc, e, ?_⟩
        simp only [lnkS, Bool.and_eq_true] at hb; exact hb.2.2.1
      · simp [e] at h
    · rw [if_neg hc] at h; exact absurd h hc
  · rw [if_neg hb] at h; simp at h
theorem za1 {s : Sch} (h : schS s = true) : 1 ≤ s.ver ∧ s.ver ≤ 65535 := by
  simp only [schS, Bool.and_eq_true, decide_eq_true_eq] at h; exact h.1.1
theorem zm5 {l : List Lnk} (s0 : Sch) (h0 : 1 ≤ s0.ver ∧ s0.ver ≤ 65535) : ∀ (w : List Nat) (s : Sch) (d : List Stp), 1 ≤ s.ver ∧ s.ver ≤ 65535 → (allS s0 0 d).2.2 = 0 → (allS s0 0 d).1 = ⟨s0.ver, s.forms⟩ → (runS l s d w).2.2 = 0 →
    (allS s0 0 (runS l s d w).2.1).2.2 = 0 ∧ (allS s0 0 (runS l s d w).2.1).1 = ⟨s0.ver, (runS l s d w).1.forms⟩
  | [], s, d, hs, hd, he, h => ⟨hd, he⟩
  | k :: w, s, d, hs, hd, he, h => by
    rw [runS] at h ⊢
    cases hk : l[k]? with
    | none => rw [hk] at h; simp at h
    | some x =>
      rw [hk] at h; simp only at h ⊢
      by_cases e : (ovS s x).2 = 0
      · rw [if_pos e] at h ⊢
        obtain ⟨o1, o2, o3⟩ := ov_ok e; have ha := zlx o1; have hv := zm0 h0 hs x.on 0 s.forms ha; have ap := zm2 d x.on 0 s0 hd; rw [he] at ap; refine zm5 s0 h0 w (nowS s x) (d ++ x.on) ?_ ?_ ?_ h
        · rw [o2]; exact za1 o3
        · rw [ap.2]; exact hv.1
        · rw [ap.1, hv.2]; rfl
      · rw [if_neg e] at h; exact absurd h e
theorem zm6 {l : List Lnk} (hl : ∀ x ∈ l, x.ok) : ∀ (w : List Nat) (s : Sch) (d : List Stp), (∀ y ∈ d, y.ok) → ∀ y ∈ (runS l s d w).2.1, y.ok
  | [], s, d, hd => hd
  | k :: w, s, d, hd => by
    rw [runS]
    cases hk : l[k]? with
    | none => simp
    | some x =>
      have hx := hl x (List.mem_of_getElem? hk); simp only
      by_cases h : (ovS s x).2 = 0
      · rw [if_pos h]
        exact zm6 hl w (nowS s x) (d ++ x.on) (fun y hy => by
          rcases List.mem_append.1 hy with hy | hy
          · exact hd y hy
          · exact hx.2.2.1 y hy)
      · rw [if_neg h]; simp
theorem zg9 {l : List Lnk} {a b : Int} (h : (wayW l a b).2 = 0) : (List.range' 0 (l.length + 1)).findSome? (fun n => dfsW (lpW l) b n a) = some (wayW l a b).1 := by
  unfold wayW at h ⊢
  split at h
  · simp at h
  · rename_i c
    rw [if_neg c]
    cases hf : (List.range' 0 (l.length + 1)).findSome? (fun n => dfsW (lpW l) b n a) with
    | none => rw [hf] at h; simp at h
    | some w => rfl
theorem zqb {l : List Lnk} {a b : Int} (h : (wayW l a b).2 = 0) : chainW (lpW l) b a (wayW l a b).1 := by
  obtain ⟨n, _, hd⟩ := List.exists_of_findSome?_eq_some (zg9 h); exact zg8 _ _ _ _ _ hd
theorem zuz {l : List Lnk} {a b : Int} (h : (wayW l a b).2 = 0) (hn : 1 < (wayW l a b).1.length) (k : Nat) : (lpW l)[k]? ≠ some (a, b) := by
  intro hk; have hf := zg9 h; have h1 := zuy hk
  have hl : 1 ≤ l.length := by
    have := (List.getElem?_eq_some_iff.1 hk).1; simp only [lpW, List.length_map] at this; omega
  obtain ⟨m, hm⟩ : ∃ m, l.length = m + 1 := ⟨l.length - 1, by omega⟩
  rw [hm, List.range'_succ, List.findSome?_cons] at hf
  cases h0 : dfsW (lpW l) b 0 a with
  | some u =>
    rw [h0] at hf; injection hf with hf; have := z56 _ _ _ _ _ h0; rw [hf] at this; omega
  | none =>
    rw [h0] at hf; simp only [Nat.zero_add] at hf; rw [List.range'_succ, List.findSome?_cons] at hf
    cases h2 : dfsW (lpW l) b 1 a with
    | none => exact h1 h2
    | some u =>
      rw [h2] at hf; injection hf with hf; have := z56 _ _ _ _ _ h2; rw [hf] at this; omega
end Go.Proofs.Ytjkjhgfiaodgmaa.V
namespace Go.Proofs.Ytjkjhgfiaodgmaa.V
open Go
variable {H : Type}
theorem zv0 {n : Nat} {d : DataW H} {xs : List AV} (hf : Fit T0 (n + 7) 39 d xs) : ∃ x : Lnk, x.ok ∧ xs = lnkC x := by
  obtain ⟨ds, yss, rfl, rfl, h⟩ := z3b (fs := [(0, 3), (1, 24), (3, 28), (4, 28)]) (by kernel_rfl) hf
  obtain ⟨d0, ds, y0, yss, rfl, rfl, h0, h⟩ := zg h; obtain ⟨d1, ds, y1, yss, rfl, rfl, h1, h⟩ := zg h; obtain ⟨d2, ds, y2, yss, rfl, rfl, h2, h⟩ := zg h; obtain ⟨d3, ds, y3, yss, rfl, rfl, h3, h⟩ := zg h; obtain ⟨rfl, rfl⟩ := z29 h
  obtain ⟨a, ha, rfl, rfl⟩ := z1i (by kernel_rfl) h0
  obtain ⟨s, hs, rfl⟩ := zec h1; obtain ⟨l, hl, rfl⟩ := zje h2; obtain ⟨m, hm, rfl⟩ := zje h3; exact ⟨⟨a, s, l, m⟩, ⟨ha, hs, hl, hm⟩, rfl⟩
end Go.Proofs.Ytjkjhgfiaodgmaa.V
namespace Go.Proofs.Ytjkjhgfiaodgmaa.V
open Go
variable {H : Type}
theorem zsz {n : Nat} {d : DataW H} {xs : List AV} (hf : Fit T0 (n + 8) 25 d xs) : ∃ l : List Lnk, (∀ f ∈ l, f.ok) ∧ xs = [lnksV l] := by
  obtain ⟨ds, sp, l, hd, rfl, h⟩ := z3z (e := 39) (by kernel_rfl) hf
  obtain ⟨cs, rfl, hq⟩ := z3n (f := lnkV) (Q := fun d f => f.ok) (fun d x ⟨ys, h1, h2⟩ => by
    obtain ⟨f, hf, rfl⟩ := zv0 h1
    exact ⟨f, z4k (by kernel_rfl) h2, hf⟩) h
  exact ⟨cs, fun f hf => z5y hq hf, rfl⟩
end Go.Proofs.Ytjkjhgfiaodgmaa.V
namespace Go.Proofs.Ytjkjhgfiaodgmaa.V
open Go
variable {H : Type}
theorem za2 : tbl E0 5 [] [] = some ([.bool true], []) := z4j.2 ⟨60, by kernel_rfl⟩
end Go.Proofs.Ytjkjhgfiaodgmaa.V
namespace Go.Proofs.Ytjkjhgfiaodgmaa.V
open Go
variable {H : Type}
def greatQ (s t : Sch) (l : List Lnk) : Bool := (l.take 13).any greatK || (decide (12 < l.length) || (greatK ⟨0, s, [], []⟩ || greatK ⟨0, t, [], []⟩))
theorem zv1 (s t : Sch) (l : List Lnk) : ∀ (r : List Lnk) (i : Nat), l.drop i = r → i ≤ 13 →
    ltbl E0 4 0 2 [lnksV l, iV i] [[iV s.ver, frmsV s.forms], [iV t.ver, frmsV t.forms]] = some (if (r.take (13 - i)).any greatK then (0, [.bool true], []) else (1, [lnksV l], [[iV s.ver, frmsV s.forms], [iV t.ver, frmsV t.forms]])) := by
  intro r
  induction r with
  | nil =>
    intro i hr hi
    have h : l.length ≤ i := by simpa using hr
    refine zli _ _ _ _ ?_
    have : ¬ ((i : Int) < l.length) := by omega
    simp [zac, this]
  | cons x r ih =>
    intro i hr hi; obtain ⟨hlt, hget, hr2⟩ := zw hr
    have h2 : (i : Int) < l.length := by omega
    have e1 := zn (i := i) (by omega)
    refine zli _ _ _ _ ?_
    by_cases h13 : i < 13
    · have h := ih (i + 1) hr2 (by omega)
      have h3 : (i : Int) < 13 := by omega
      have e2 : 13 - i = (13 - (i + 1)) + 1 := by omega
      have c := z5x x; rw [e2, List.take_succ_cons, List.any_cons]; simp only [lnkV, lnkC, frmsV, stpsV] at c; simp only [lnksV] at h; simp only [zac, zq, ze, List.length_map, h2, h3, decide_true, cond_true, Option.bind_some, Tok.untok_tok, z9, Int.natCast_nonneg, nthE, Int.toNat_natCast, List.getElem?_map, hget, Option.map_some, lnkV, lnkC, frmsV, stpsV, u_asA, u_asC, u_asI, u_asB, u_asL, u_asN, za, c, e1]
      rcases bor (greatK x) with hb | hb
      · rw [hb, Bool.true_or, if_pos rfl]
        rfl
      · rw [hb, Bool.false_or]
        exact h
    · have h3 : ¬ ((i : Int) < 13) := by omega
      have e2 : 13 - i = 0 := by omega
      simp [zac, h2, h3, e2]
theorem zwo (s t : Sch) (l : List Lnk) : tbl E0 4 [schV s, schV t, lnksV l] [] = some ([.bool (greatQ s t l)], []) := zw8 s t l (by
  have e := zv1 s t l l 0 rfl (by omega)
  have g1 := z5x ⟨0, s, [], []⟩; have g2 := z5x ⟨0, t, [], []⟩; simp only [lnkV, lnkC, frmsV, stpsV, List.map_nil] at g1 g2; simp only [Int.natCast_zero, Nat.sub_zero, lnksV, frmsV] at e; simp only [zp5, z9, cond_true, zm, e, Option.bind_some, greatQ]
  rcases bor ((l.take 13).any greatK) with hb | hb
  · rw [hb, if_pos rfl, Bool.true_or]
    simp only [nbeq, decide_true, cond_true, u_asC, u_asB, u_asN]
  · rw [hb, if_neg (by decide), Bool.false_or]
    simp only [nbeq, decide_true, decide_false, (by decide : (1 : Nat) ≠ 0), cond_true, cond_false, u_asC, u_asL, u_asI, u_asN, zq, ze, List.length_map, z9, za, g1, g2, Option.bind_some, u_asB]
    by_cases c : 12 < l.length
    · have c' : (l.length : Int) > 12 := by omega
      simp only [c, c', decide_true, cond_true, Option.bind_some, Tok.untok_tok, Bool.true_or]
    · have c' : ¬ ((l.length : Int) > 12) := by omega
      rcases bor (greatK ⟨0, s, [], []⟩) with h1 | h1
      · simp only [c, c', h1, decide_false, cond_true, cond_false, Option.bind_some, Tok.untok_tok, Bool.false_or, Bool.true_or]
      · simp only [c, c', h1, decide_false, cond_false, Option.bind_some, Tok.untok_tok, Bool.false_or])
theorem zga {s : Sch} (h : greatS s = false) : Few s := by
  unfold greatS at h; simp only [Bool.or_eq_false_iff, decide_eq_false_iff_not, List.any_eq_false, big, decide_eq_true_eq] at h
  refine ⟨by omega, fun f hf => ?_⟩
  have := h.1 f (by rw [List.take_of_length_le (by omega)]; exact hf)
  omega
theorem znh {s t : Sch} {l : List Lnk} (h : greatQ s t l = false) : Few s ∧ Few t ∧ l.length ≤ 12 ∧ ∀ x ∈ l, x.sml ∧ Few x.to := by
  simp only [greatQ, Bool.or_eq_false_iff, decide_eq_false_iff_not] at h; obtain ⟨h1, h2, h3, h4⟩ := h
  have k : ∀ {u : Sch}, greatK ⟨0, u, [], []⟩ = false → Few u := by
    intro u hu; simp only [greatK, Bool.or_eq_false_iff] at hu; exact zga hu.1
  refine ⟨k h3, k h4, by omega, fun x hx => ?_⟩
  rw [List.take_of_length_le (by omega), List.any_eq_false] at h1
  have hx2 : greatK x = false := by simpa using h1 x hx
  refine ⟨z7r hx2, ?_⟩; simp only [greatK, Bool.or_eq_false_iff] at hx2; exact zga hx2.1
theorem zed {l : List Lnk} (hl : ∀ x ∈ l, x.sml) : ∀ (w : List Nat) (s : Sch) (d : List Stp), (∀ y ∈ d, y.sml) → (runS l s d w).2.1.length ≤ d.length + 60 * w.length ∧ ∀ y ∈ (runS l s d w).2.1, y.sml
  | [], s, d, hd => ⟨by simp [runS], hd⟩
  | k :: w, s, d, hd => by
    rw [runS]
    cases hk : l[k]? with
    | none => simp
    | some x =>
      have hx := hl x (List.mem_of_getElem? hk); simp only
      by_cases h : (ovS s x).2 = 0
      · rw [if_pos h]
        have := zed hl w (nowS s x) (d ++ x.on) (fun y hy => by
          rcases List.mem_append.1 hy with hy | hy
          · exact hd y hy
          · exact hx.2.1.2 y hy)
        refine ⟨?_, this.2⟩; have h1 := this.1; have h2 := hx.2.1.1; rw [List.length_append] at h1; rw [List.length_cons]; omega
      · rw [if_neg h]; simp
end Go.Proofs.Ytjkjhgfiaodgmaa.V
namespace Go.Proofs.Ytjkjhgfiaodgmaa.V
open Go
variable {H : Type}
theorem zt0 {s t : Sch} {l : List Lnk} (h : (planS s l t).2 ≠ 0) : (planS s l t).1 = [] := by
  unfold planS at h ⊢
  repeat' split
  all_goals first
    | rfl
    | (exfalso; simp_all; done)
theorem zv2 {s t : Sch} {l : List Lnk} (h : (planS s l t).2 = 0) : schS s = true ∧ schS t = true ∧ (wayW l s.ver t.ver).2 = 0 ∧ (runS l s [] (wayW l s.ver t.ver).1).2.2 = 0 ∧ (runS l s [] (wayW l s.ver t.ver).1).1 = t ∧
    (runS l s [] (wayW l s.ver t.ver).1).2.1.length ≤ 200 ∧ (planS s l t).1 = (runS l s [] (wayW l s.ver t.ver).1).2.1 := by
  unfold planS at h ⊢
  by_cases h1 : (schS s && schS t) = true
  · rw [if_pos h1] at h ⊢
    by_cases h2 : (wayW l s.ver t.ver).2 = 0
    · rw [if_pos h2] at h ⊢
      by_cases h3 : (runS l s [] (wayW l s.ver t.ver).1).2.2 = 0
      · rw [if_pos h3] at h ⊢
        by_cases h4 : (runS l s [] (wayW l s.ver t.ver).1).1 = t
        · rw [if_pos h4] at h ⊢
          by_cases h5 : 200 < (runS l s [] (wayW l s.ver t.ver).1).2.1.length
          · rw [if_pos h5] at h; simp at h
          · rw [if_neg h5]
            simp only [Bool.and_eq_true] at h1
            exact ⟨h1.1, h1.2, h2, h3, h4, by omega, rfl⟩
        · rw [if_neg h4] at h; simp at h
      · rw [if_neg h3] at h; exact absurd h h3
    · rw [if_neg h2] at h; exact absurd h h2
  · rw [if_neg h1] at h; simp at h
set_option maxRecDepth 100000 in
theorem zji (s : Sch) (l : List Lnk) (t : Sch) (w : List Nat) (hwl : w.length ≤ 100) (hmin : 1 < w.length → ∀ k : Nat, (lpW l)[k]? ≠ some (s.ver, t.ver)) : ∀ (r : List Nat) (i : Nat) (a : Int), w.drop i = r → chainW (lpW l) t.ver a r →
    ltbl E0 3 0 13 [lnksV l, natsV w, iV a, iV i] [[iV s.ver, frmsV s.forms], [iV t.ver, frmsV t.forms]] = some (1, [iV t.ver], [[iV t.ver, frmsV t.forms]]) := by
  intro r
  induction r with
  | nil =>
    intro i a hr hc
    have h : w.length ≤ i := by simpa using hr
    have hc : a = t.ver := hc; refine z9q _ _ _ _ _ _ ?_
    have : ¬ ((i : Int) < w.length) := by omega
    simp only [z5n, List.length_map, this, decide_false, cond_false, hc]
  | cons k r ih =>
    intro i a hr hc; obtain ⟨hlt, hget, hr2⟩ := zw hr; obtain ⟨u, hu, hc2⟩ := hc
    have h2 : (i : Int) < w.length := by omega
    have e1 := zn (i := i) (by omega)
    have e := ih (i + 1) u hr2 hc2; have hu' := hu; simp only [lpW, List.getElem?_map] at hu'
    obtain ⟨x, hx⟩ : ∃ x, l[k]? = some x := by
      cases hq : l[k]? with
      | none => rw [hq] at hu'; cases hu'
      | some x => exact ⟨x, rfl⟩
    rw [hx] at hu'; simp only [Option.map_some, Option.some.injEq, Prod.mk.injEq] at hu'; obtain ⟨f1, f2⟩ := hu'; have hkl := (List.getElem?_eq_some_iff.1 hx).1
    have k1 : ¬ ((k : Int) < 0) := by omega
    have k2 : ¬ ((k : Int) ≥ (l.length : Int)) := by omega
    have k3 : (x.fr != a) = false := by simp [f1]
    refine z9q _ _ _ _ _ _ ?_; simp only [lnksV, natsV, frmsV] at e ⊢; simp only [z5n, List.length_map, h2, decide_true, cond_true, cond_false, zq, z9, Int.natCast_nonneg, nthE, Int.toNat_natCast, List.getElem?_map, hget, hx, Option.map_some, intN, lnkV, lnkC, frmsV, stpsV, u_asA, u_asC, u_asI, u_asL, u_asN, k1, k2, k3, decide_false, Option.bind_some, Tok.untok_tok, e1]
    by_cases hw : 1 < w.length
    · have hw' : (w.length : Int) > 1 := by omega
      rcases bor (x.fr == s.ver) with hs | hs
      · have ht : (x.to.ver == t.ver) = false := by
          refine beq_f (fun q => hmin hw k ?_)
          rw [hu, f1.symm.trans (by simpa using hs), ← f2, q]
        have ht' : (u == t.ver) = false := by rw [← f2]; exact ht
        simp only [hw', decide_true, cond_true, cond_false, hs, f2, ht', Option.bind_some, Tok.untok_tok]; exact e
      · simp only [hw', decide_true, cond_true, cond_false, hs, Option.bind_some, Tok.untok_tok, f2]
        exact e
    · have hw' : ¬ ((w.length : Int) > 1) := by omega
      simp only [hw', decide_false, cond_false, Option.bind_some, Tok.untok_tok, f2]; exact e
set_option maxRecDepth 100000 in
theorem zk6 (s : Sch) (l : List Lnk) (t : Sch) (hl : ∀ x ∈ l, x.ok) : tbl E0 3 [schV s, lnksV l, schV t] [] = some ([.bool true], []) := zk3 s l t (by
  have g := zwo s t l
  rcases bor (greatQ s t l) with hb | hb
  · simp only [schV, frmsV, lnksV, hb] at g
    simp only [z6n, z9, cond_true, za, g, Option.bind_some, u_asC, u_asB, u_asN, za2]
  · obtain ⟨hs, ht, hlen, hx⟩ := znh hb
    have hq : ∀ x ∈ l, x.ok ∧ x.sml ∧ Few x.to := fun x h => ⟨hl x h, hx x h⟩; have c1 := zqa s l t hs ht hq; simp only [schV, frmsV, lnksV, stpsV, hb] at g c1; simp only [z6n, z9, cond_true, cond_false, za, g, c1, Option.bind_some, u_asC, u_asB, u_asI, u_asL, u_asN]
    by_cases e : (planS s l t).2 = 0
    · obtain ⟨p1, p2, p3, p4, p5, p6, p7⟩ := zv2 e
      have r1 := zed (fun x h => (hx x h).1) (wayW l s.ver t.ver).1 s [] (by simp)
      have r2 := zm6 hl (wayW l s.ver t.ver).1 s [] (by simp)
      have ra := zm5 (l := l) s (za1 p1) (wayW l s.ver t.ver).1 s [] (za1 p1) rfl rfl p4; rw [p7, e]
      have c2 := zj0 s (runS l s [] (wayW l s.ver t.ver).1).2.1 hs (by omega) (fun y hy => ⟨r1.2 y hy, r2 y hy⟩)
      rw [ra.1, ra.2, p5] at c2; have c3 := zq6 l s.ver t.ver; rw [p3] at c3; have c4 := ze2 t t ht.sml; have wl := z7t l s.ver t.ver
      have cL := zji s l t (wayW l s.ver t.ver).1 (by omega) (fun h k => zuz p3 h k) (wayW l s.ver t.ver).1 0 s.ver rfl (zqb p3)
      have n1 : ¬ (((runS l s [] (wayW l s.ver t.ver).1).2.1.length : Int) > 200) := by omega
      simp only [schV, frmsV, lnksV, stpsV, natsV, Int.natCast_zero] at c2 c3 c4 cL
      simp only [bne_self_eq_false, cond_false, cond_true, za, c2, c3, c4, cL, Option.bind_some, zq, zm, Tok.untok_tok, u_asC, u_asA, u_asI, u_asB, u_asL, u_asN, decide_true, decide_false, Bool.not_true, List.length_map, n1, nbeq, (by decide : (1 : Nat) ≠ 0), beq_self_eq_true, za2]
    · have h' := bne_t e
      have pe := zt0 e; rw [pe]; simp only [h', cond_true, zq, List.map_nil, List.length_nil, Int.natCast_zero, beq_self_eq_true, za, za2, Option.bind_some, u_asC, u_asB, u_asN, Tok.untok_tok])
theorem zk7 (d0 d1 d2 : DataW H) (xs : List AV) (hf : FitAll T0 9 Try.f3.params.toList [d0, d1, d2] xs) (hk : (DataW.weightsEach Try.prog (Try.f3.params.toList ++ Rows.planLeadsSpec.plain.varTypes Try.prog) ([d0, d1, d2] ++ [])).all (· ≤ reachBytes) = true) :
    tbl E0 3 xs [] = some ([.bool true], []) := by
  have hf' : FitAll T0 9 [24, 25, 24] [d0, d1, d2] xs := hf; obtain ⟨d', ds, x, xs', e1, rfl, ⟨ys, h0, h1⟩, h⟩ := zg hf'
  injection e1 with e1 e2; subst e1; subst e2; obtain ⟨d', ds, y, xs', e1, rfl, ⟨zs, h2, h3⟩, h⟩ := zg h
  injection e1 with e1 e2; subst e1; subst e2; obtain ⟨d', ds, z, xs', e1, rfl, ⟨us, h4, h5⟩, h⟩ := zg h
  injection e1 with e1 e2; subst e1; subst e2; obtain ⟨-, rfl⟩ := z29 h; obtain ⟨s, hs, rfl⟩ := zec h0; obtain ⟨l, hl, rfl⟩ := zsz h2; obtain ⟨t, ht, rfl⟩ := zec h4
  have q1 := z4k (by kernel_rfl) h1
  have q2 := zbb (by kernel_rfl) h3
  have q3 := z4k (by kernel_rfl) h5
  injection q2 with q2
  subst q1; subst q2; subst q3; exact zk6 s l t hl
end Go.Proofs.Ytjkjhgfiaodgmaa.V
namespace Go.Proofs.Ytjkjhgfiaodgmaa.planLeads
open Go Go.ChangeShapes Go.WideShapes Go.ChangeAt Go.RowKit Go.Proofs.Ytjkjhgfiaodgmaa.V
theorem own : ownKnob Try.prog.godebug = none := by kernel_rfl
set_option maxRecDepth 100000 in
theorem contract (H : Type) (enc : TypeId × Value → H) (W : World) (base : Nat) (args : Array Value) (ds gs : List (DataW H)) (before : List MemPlace)
    (hval : ∀ (j : Nat) t v, Try.f3.params[j]? = some t → args[j]? = some v → Value.okWide Try.prog W .any base t v)
    (hW : DataW.Whole enc Try.prog Try.f3.params.toList Rows.planLeadsSpec.vars false W args.toList ds gs before) (hk : (DataW.weightsEach Try.prog (Try.f3.params.toList ++ Rows.planLeadsSpec.plain.varTypes Try.prog) (ds ++ gs)).all (· ≤ reachBytes) = true) :
    Calls Try.prog 3 args W fun e W' => ∃ v, e = .returned v ∧ Rows.planLeadsSpec.post enc Try.prog Try.f3 false true false false W args v W' := by
  obtain ⟨p, q, hA, hV, hps, hfz, hnd⟩ := id hW; obtain ⟨rfl, rfl⟩ := trodVars_none hV; have hlen := z6w hA
  obtain ⟨d0, d1, d2, rfl⟩ : ∃ d0 d1 d2, ds = [d0, d1, d2] := by
    match ds, hlen with
    | [d0, d1, d2], _ => exact ⟨d0, d1, d2, rfl⟩
  refine (zo4 (E := E0) E0_ok (m := 9) (ts := Try.f3.params.toList) (by kernel_rfl) (fun j t v h1 h2 => hval j t v (by simpa using h1) (by simpa using h2)) hA (fun xs hf => zk7 d0 d1 d2 xs hf hk)).mono fun e W' ⟨he, bel⟩ => ?_
  subst he
  exact ⟨_, rfl, zqr (tb := 4) (by kernel_rfl) (by kernel_rfl) (by kernel_rfl) Try.underlying4 rfl rfl hW hA bel⟩
set_option maxRecDepth 100000 in
theorem lifted (os : Os) (started : os.Started) (H : Type) (enc : TypeId × Value → H) :
    ReturnsInHanded {} Try.checked os 3 .any (Rows.planLeadsSpec.pre6 enc Try.prog Try.f3 Rows.planLeadsRow.domain false) (Rows.planLeadsSpec.post enc Try.prog Try.f3 false true false false) := by
  refine returnsInHanded_of_change_sized (C := Try.checked) own started (by kernel_rfl) Try.func3
    (ChangeSpec.witness6 (enc := enc) (C := Try.checked) false ⟨#[], #[.agg #[.int .i64 0, .slice none 0 0], .slice none 0 0, .agg #[.int .i64 0, .slice none 0 0]], []⟩ 9 (by kernel_rfl) (by kernel_rfl) (by kernel_rfl) (by kernel_rfl)) ?_
  intro W base args ds gs before hval hW _ hk _; exact contract H enc W base args ds gs before hval hW hk
theorem proved : Rows.PlanLeadsSaid :=
  OpenClaim.holds_of_wide 3 Try.f3 rfl rfl rfl rfl rfl rfl rfl ⟨rfl, rfl, rfl, rfl, rfl⟩ rfl rfl rfl rfl rfl (by kernel_rfl) Try.func3 (by kernel_rfl)
    (of_decide_eq_true (by kernel_rfl)) (by unfold Func.isWrapper; first | (rw [if_pos (by decide +kernel)]; kernel_rfl) | (rw [if_neg (by decide +kernel)]; exact ⟨rfl, rfl⟩))
    (fun os started H enc _ => lifted os started H enc)
end Go.Proofs.Ytjkjhgfiaodgmaa.planLeads
namespace Go.Proofs.Ytjkjhgfiaodgmaa
theorem planLeads_holds : Rows.PlanLeadsSaid := planLeads.proved
end Go.Proofs.Ytjkjhgfiaodgmaa
