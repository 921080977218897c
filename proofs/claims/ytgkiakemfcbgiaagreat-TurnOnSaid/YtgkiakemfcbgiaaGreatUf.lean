/- What comes of any record by any step, and what is lost, is as the document says. -/
import Derived.Test.YtgkiakemfcbgiaaGreatRows
import Derived.JoinedCond
import Derived.SizedLaws
import Derived.Test.YtgkiakemfcbgiaaGreatUe
set_option linter.unusedVariables false
set_option linter.unusedSimpArgs false
namespace Go.Proofs.YtgkiakemfcbgiaaGreat.V
open Go
theorem zx2 (l : List Val) (n : Nat) (m : List Val) (hn : n ≤ l.length) (hl : l.length + m.length ≤ 1000000) : tbl E0 96 [valsU l, iV n, valsU m] [] = some ([valsU (l.take n ++ m ++ l.drop n)], []) := tbl_X (by
  have h1 : (0 : Int) ≤ n := by omega
  have h2 : (n : Int) ≤ l.length := by omega
  have h3 : (l.length + m.length) * 24 ≤ 211106232532992 := by omega
  have e : E0.X 96 [valsU l, iV n, valsU m] [] = insX 2 24 [valsU l, iV n, valsU m] [] := rfl; rw [e]; simp only [insX, valsU, List.length_map, h1, h2, h3, nbeq, decide_true, Bool.and_self, cond_true, Int.toNat_natCast, List.map_append, List.map_take, List.map_drop])
theorem zpr (l : List Val) (p : Int) : fitI (atO l p) = true := by
  have h1 := z1a l; simp only [fitI, fitC, AV.flat, AV.flat1, h1, List.all_cons, List.all_nil, Bool.and_self, Bool.and_true]; rfl
theorem oshV1 (q : Int) (a : List AV) : nodupN (List.map (fun x => x.fst) (oshOf T0 0 [AV.ref 0 0, iV q, AV.agg a] Tryz.f54.params.toList)) = true := by kernel_rfl
theorem oshV2 (q : Int) (a : List AV) : ((oshOf T0 0 [AV.ref 0 0, iV q, AV.agg a] Tryz.f54.params.toList).all fun p => p.fst.blt 64) = true := by kernel_rfl
theorem oshW1 (a b : List AV) : nodupN (List.map (fun x => x.fst) (oshOf T0 0 [AV.ref 0 0, AV.agg a, AV.agg b] Tryz.f20.params.toList)) = true := by kernel_rfl
theorem oshW2 (a b : List AV) : ((oshOf T0 0 [AV.ref 0 0, AV.agg a, AV.agg b] Tryz.f20.params.toList).all fun p => p.fst.blt 64) = true := by kernel_rfl
theorem c_vin (l : List Val) (p : Int) (k : Nat) (v : Val) (hk : k ≤ l.length) (hl : l.length ≤ 900000) : tbl E0 54 [.ref 0 0, iV k, valV v] (atO l p) = some ([], atO (putV l k v) p) := t_vin l p k v (by
  have c := zx2 l k [v] hk (by simp only [List.length_cons, List.length_nil]; omega)
  have q := z1a l; have q2 := z1a (l.take k ++ [v] ++ l.drop k); simp only [valsU, valV, List.map_cons, List.map_nil] at c q2; simp only [s_vin, zpr, oshV1, oshV2, List.all_cons, List.all_nil, fitA, fitC, AV.flat, AV.flat1, Bool.and_self, cond_true, z19, q, zr, c, Option.bind_some, u_asC, zj, u_asN, q2, putV])
theorem zj4 (l : List Val) (p : Nat) : ((l.map valV).take p ++ (l.map valV).drop (p + 1) ++ [AV.agg [iV 0, .str []]]).all AV.flat = true := by
  have := z1a (l.take p ++ l.drop (p + 1) ++ [val0])
  simpa [valV, val0] using this
theorem zj5 (l : List Val) (p : Nat) (hp : p < l.length) : ((l.map valV).take p ++ (l.map valV).drop (p + 1) ++ [AV.agg [iV 0, .str []]]).take (l.length - 1) = (cutV l p).map valV := by
  rw [List.take_append_of_le_length (by simp; omega), List.take_of_length_le (by simp; omega)]
  simp [cutV]
theorem z6w (l : List Val) (p : Nat) (hp : p < l.length) : (cutV l p).length = l.length - 1 := by simp [cutV]; omega
theorem zc5 (v : Val) (n : Int) {α : Type} {A : Alg α} (k : AV → α) : putC A (valV v) (setAt (valV v).cells 0 [iV n]) k = k (valV ⟨n, v.s⟩) := Eq.trans rfl rfl
theorem zer (l : List Val) (p : Nat) (v : Val) : (List.map valV l).set p (valV v) = (l.set p v).map valV := by rw [List.map_set]
theorem c_ton (f : Frm) (x : Stp) (l : List Val) (p : Nat) (hp : OnP x f.fields l p) (h9 : x.op ≠ 9) (h10 : x.op ≠ 10) (hl : l.length ≤ 1000) : tbl E0 20 [.ref 0 0, frmV f, stpV x] (atO l p) = some ([.str (lostV x f.fields l p).1, .bool (lostV x f.fields l p).2], atO (onV x l p) p) := t_ton f x l p (by
  have q := z1a l; have hlen := z1r hp.has; simp only [s_ton, zpr, oshW1, oshW2, List.all_cons, List.all_nil, fitA, fitC, AV.flat, AV.flat1, Bool.and_self, cond_true, q]
  by_cases o1 : x.op = 1
  · obtain ⟨k, hk, hkl⟩ := hp.one o1
    have c := c_vin l p k ⟨x.n, x.s⟩ hkl (by omega)
    have q2 := z1a (putV l k ⟨x.n, x.s⟩); simp only [valsU, valV] at c
    have t1 : (x.op == 1) = true := by simpa using o1
    simp only [t1, cond_true, hk, zr, c, Option.bind_some, z4r, u_asC, nbeq, decide_true, zj, u_asI, u_asN, q2, lostV, onV, o1, if_true, Int.toNat_natCast]; rfl
  have t1 := beq_f o1; have hlt := hp.lt o1
  have hlt2 : (p : Int) < l.length := by omega
  have hg := zc4 hlt
  have hgf : f.fields[p]? = some ((f.fields[p]?).getD fld0) := by rw [List.getElem?_eq_getElem (by omega)]; rfl
  by_cases o2 : x.op = 2
  · have t2 : (x.op == 2) = true := by simpa using o2
    have hh := z43 hp.has p _ _ hgf hg; have hr0 := z80 hh
    have e2 : laysV ((f.fields[p]?).getD fld0) (valAt l p) = (layV ((f.fields[p]?).getD fld0) (valAt l p), 0) := by simp [laysV, hr0, hh]
    have c := zov ((f.fields[p]?).getD fld0) (valAt l p); rw [e2] at c; simp only [fldV, fldC, valV] at c; have e3 := zj5 l p hlt; have e4 := zj4 l p; simp only [t1, t2, cond_true, cond_false, z19, z9, Int.natCast_nonneg, decide_true, nthE, Int.toNat_natCast, List.getElem?_map, hg, Option.map_some, u_asA, u_asC, u_asI, u_asS, u_asL, u_asN, za, orFail, z23, List.length_map, e3, e4, lostV, onV, o1, o2, if_true, if_false]
    rw [hgf]; simp only [Option.map_some, Option.getD_some, u_asA, u_asC, u_asI, u_asS, u_asL, u_asN, c, Option.bind_some, z23, e4, cond_true, e3, Int.reduceEq, if_false]; rfl
  have t2 := beq_f o2
  by_cases o7 : x.op = 7
  · have t7 : (x.op == 7) = true := by simpa using o7
    obtain ⟨k, hk, hkl⟩ := hp.sev o7; have hc := z6w l p hlt
    have c := c_vin (cutV l p) p k (valAt l p) (by omega) (by omega)
    have q2 := z1a (putV (cutV l p) k (valAt l p)); have e3 := zj5 l p hlt; have e4 := zj4 l p; simp only [valsU, valV] at c; simp only [t1, t2, t7, cond_true, cond_false, z19, z9, Int.natCast_nonneg, decide_true, nthE, Int.toNat_natCast, List.getElem?_map, hg, Option.map_some, u_asA, u_asC, u_asI, u_asS, u_asL, u_asN, e4, List.length_map, e3, hk, zr, c, Option.bind_some, z4r, nbeq, zj, q2, lostV, onV, o1, o2, o7, if_true, if_false]
    rfl
  have t7 := beq_f o7
  by_cases o4 : x.op = 4
  · have t4 : (x.op == 4) = true := by simpa using o4
    have hs := hp.num (.inl o4); have q2 := z1a (l.set p ⟨affS x.a x.b (valAt l p).n, []⟩); simp only [t1, t2, t7, t4, cond_true, cond_false, z19, z9, Int.natCast_nonneg, hlt2, decide_true, Bool.and_self, nthE, Int.toNat_natCast, List.getElem?_map, hg, Option.map_some, List.length_map, AV.cells, List.getElem?_cons_zero, u_asI, lostV, onV, o1, o2, o7, o4, if_true, if_false]; have e := zc5 (valAt l p) (affS x.a x.b (valAt l p).n) (A := OA (R := CR) (tbl E0) (ltbl E0 20 0))
    rw [hs] at e; simp only [valV, AV.cells, affS] at e q2 ⊢; simp only [List.length_cons, List.length_nil, setAt, hs] at e ⊢; rw [e]; have e5 := zer l p ⟨IntKind.i64.wrap (IntKind.i64.wrap (x.a * (valAt l p).n) + x.b), []⟩; simp only [valV] at e5; simp only [e5, q2, cond_true, AV.flat, List.all_cons, List.all_nil, AV.flat1, Bool.and_self]; rfl
  have t4 := beq_f o4
  by_cases o5 : x.op = 5
  · have t5 : (x.op == 5) = true := by simpa using o5
    have hs := hp.num (.inr (.inl o5)); obtain ⟨n0, n1⟩ := hp.five o5
    have ht : x.t[(valAt l p).n.toNat]? = some ((x.t[(valAt l p).n.toNat]?).getD 0) := by rw [List.getElem?_eq_getElem (by omega)]; rfl
    have q2 := z1a (l.set p ⟨(x.t[(valAt l p).n.toNat]?).getD 0, []⟩); simp only [t1, t2, t7, t4, t5, cond_true, cond_false, z19, z9, Int.natCast_nonneg, hlt2, decide_true, Bool.and_self, nthE, Int.toNat_natCast, List.getElem?_map, hg, Option.map_some, List.length_map, AV.cells, List.getElem?_cons_zero, u_asI, n0, lostV, onV, o1, o2, o7, o4, o5, if_true, if_false]; rw [ht]; simp only [Option.map_some, Option.getD_some, u_asI]
    generalize (x.t[(valAt l p).n.toNat]?).getD 0 = m at q2 ⊢; have e := zc5 (valAt l p) m (A := OA (R := CR) (tbl E0) (ltbl E0 20 0)); rw [hs] at e; simp only [valV, AV.cells] at e q2 ⊢; simp only [List.length_cons, List.length_nil, setAt, hs] at e ⊢; rw [e]; have e5 := zer l p ⟨m, []⟩; simp only [valV] at e5; simp only [e5, q2, cond_true, AV.flat, List.all_cons, List.all_nil, AV.flat1, Bool.and_self]
    rfl
  have t5 := beq_f o5
  by_cases o6 : x.op = 6
  · have t6 : (x.op == 6) = true := by simpa using o6
    have hs := hp.num (.inr (.inr o6)); obtain ⟨a2, n0⟩ := hp.six o6
    have ta : (x.a == 0) = false := beq_f (by omega)
    have e1 := zn (i := p) (by omega)
    have q2 := z1a (l.set p ⟨IntKind.i64.wrap ((valAt l p).n.tdiv x.a), []⟩); have hsl : (l.set p ⟨IntKind.i64.wrap ((valAt l p).n.tdiv x.a), []⟩).length = l.length := List.length_set ..
    have c := c_vin (l.set p ⟨IntKind.i64.wrap ((valAt l p).n.tdiv x.a), []⟩) p (p + 1) ⟨(valAt l p).n.tmod x.a, []⟩ (by omega) (by omega)
    have q3 := z1a (putV (l.set p ⟨IntKind.i64.wrap ((valAt l p).n.tdiv x.a), []⟩) (p + 1) ⟨(valAt l p).n.tmod x.a, []⟩); have e5 := zer l p ⟨IntKind.i64.wrap ((valAt l p).n.tdiv x.a), []⟩; simp only [t1, t2, t7, t4, t5, t6, cond_true, cond_false, z19, z9, Int.natCast_nonneg, hlt2, decide_true, Bool.and_self, nthE, Int.toNat_natCast, List.getElem?_map, hg, Option.map_some, List.length_map, AV.cells, List.getElem?_cons_zero, u_asI, ta, Bool.not_false, lostV, onV, o1, o2, o7, o4, o5, o6, if_true, if_false]
    have e := zc5 (valAt l p) (IntKind.i64.wrap ((valAt l p).n.tdiv x.a)) (A := OA (R := CR) (tbl E0) (ltbl E0 20 0)); rw [hs] at e; simp only [valV, AV.cells] at e q2 ⊢; simp only [List.length_cons, List.length_nil, setAt, hs] at e ⊢; rw [e]; simp only [valV] at e5; simp only [valsU, valV] at c; simp only [e5, q2, cond_true, AV.flat, List.all_cons, List.all_nil, AV.flat1, Bool.and_self, e1, zr, c, Option.bind_some, z4r, u_asC, nbeq, decide_true, zj, u_asI, u_asN, q3]
    rfl
  have t6 := beq_f o6; simp only [t1, t2, t7, t4, t5, t6, cond_false, cond_true, lostV, onV, o1, o2, o7, o4, o5, o6, if_false])
theorem c_tof (s : Sch) (x : Rec) (id : Int) (hs : Few s) (hx : x.vals.length ≤ 1000) : tbl E0 18 [schV s, recV x, iV id] [] =
    some (match formS s.forms x.form with
      | none => ([frmV ⟨0, []⟩, .agg [valsU [], iV 0], iV 16], [])
      | some g => if hasR g x then ([frmV g, .agg [valsU x.vals, iV (if atS g.fields id < 0 then 0 else atS g.fields id)], iV 0], []) else ([frmV g, .agg [valsU [], iV 0], iV 16], [])) := t_tof s x id (by
  have c1 := zei s x.form hs.sml
  have c2 := zrz x.vals (by omega)
  have q := z1a x.vals; simp only [schV, frmsV, valsV, valsU] at c1 c2
  rcases z41 s.forms x.form with ⟨j, g, h1, h2, h3⟩ | ⟨h1, h2⟩
  · rw [h1] at c1
    have hgl := hs.2 g (List.mem_of_getElem? h3)
    have c3 := c_sAt g id (by omega)
    have c4 := zox g x (by omega) (by omega)
    simp only [frmV, fldsV, recV, recC, valsV] at c1 c3 c4; simp only [s_tof, za, c1, Option.bind_some, u_asC, u_asA, u_asI, u_asB, u_asL, u_asN, zl, Bool.not_true, cond_false, c4, Tok.untok_tok, h1]
    rcases bor (hasR g x) with hb | hb
    · simp only [hb, Bool.not_true, cond_false, zr, c2, Option.bind_some, zj, u_asC, u_asN, c3, u_asI, q, cond_true, if_true]
    · simp only [hb, Bool.not_false, cond_true, Bool.false_eq_true, if_false, valsU, List.map_nil]
  · rw [h1] at c1
    simp only [frmV, fldsV, List.map_nil] at c1; simp only [s_tof, za, c1, Option.bind_some, u_asC, u_asA, u_asI, u_asB, u_asL, u_asN, zl, Bool.not_false, cond_true, Tok.untok_tok, h1, frmV, fldsV, valsU, List.map_nil])
theorem c_tOn (s : Sch) (x : Stp) (y : Rec) (hs : Few s) (hm : x.sml) (ho : x.ok) (hy : y.vals.length ≤ 1000) : tbl E0 7 [schV s, stpV x, recV y] [] = some ([donV (turnS s x y).1, iV (turnS s x y).2], []) := t_tOn s x y (by
  have c1 := c_gOn s x hs hm ho; have c2 := c_tof s y x.field hs hy; simp only [schV, frmsV, stpV, stpC, intsV, fldsV, recV, recC, valsV, valsU] at c1 c2; simp only [s_tOn, za, zr, c1, Option.bind_some, u_asC, u_asA, u_asI, u_asB, u_asL, u_asN, turnS]
  by_cases h0 : (onS s x).2 = 0
  · have t0 : ((onS s x).2 != 0) = false := by rw [h0]; rfl
    have n0 : ¬ ((onS s x).2 ≠ 0) := by simpa using h0
    simp only [t0, cond_false, c2, n0, if_false]
    rcases z41 s.forms y.form with ⟨j, g, h1, h2, h3⟩ | ⟨h1, h2⟩
    · have hgl := hs.2 g (List.mem_of_getElem? h3)
      simp only [h1]
      rcases bor (hasR g y) with hb | hb
      · have q := z1a y.vals
        simp only [hb, if_true, Option.bind_some, frmV, fldsV, u_asC, u_asA, u_asI, u_asL, u_asN, zj, Bool.true_eq_false, if_false]; have e0 : ((0 : Int) != 0) = false := rfl; simp only [e0, cond_false]
        by_cases he : y.form = x.form
        · have te : (y.form == x.form) = true := by simpa using he
          have ne : ¬ (y.form ≠ x.form) := by simpa using he
          simp only [te, cond_true, ne, if_false]
          by_cases o10 : x.op = 10
          · have t10 : (x.op == 10) = true := by simpa using o10
            have c3 := zwm g y (by omega) (by omega)
            have hf : fineS g = true := by simp only [hasR, Bool.and_eq_true] at hb; exact hb.1
            have e2 : laysR g y = (layR g.fields y.vals, 0) := by simp [laysR, hf, hb]
            rw [e2] at c3; simp only [frmV, fldsV, recV, recC, valsV] at c3; simp only [t10, cond_true, c3, Option.bind_some, u_asC, u_asL, u_asI, u_asN, orFail, z23, o10, beq_self_eq_true, cond_true, if_true, rec0, donV, donC, valsV, List.map_nil]
          · have t10 := beq_f o10
            obtain ⟨h9, hop, hfe, hp⟩ := on_p h0 h1 hb he o10
            have c3 := c_ton g x y.vals (plcS g x.field) hp h9 o10 (by omega)
            have e3 : (if atS g.fields x.field < 0 then 0 else atS g.fields x.field) = ((plcS g x.field : Nat) : Int) := by
              unfold plcS; split <;> omega
            have q2 := z1a (onV x y.vals (plcS g x.field)); simp only [frmV, fldsV, stpV, stpC, intsV, atO, valsU] at c3; simp only [t10, cond_false, q, cond_true, e3, c3, Option.bind_some, u_asC, nbeq, decide_true, zj, u_asI, u_asS, u_asB, u_asN, q2, o10, if_false, donV, donC, valsV]
        · have te := beq_f he
          simp only [te, cond_false, q, cond_true, he, ne_eq, not_false_eq_true, if_true, donV, donC, valsV]
      · have e0 : ((16 : Int) != 0) = true := rfl
        simp only [hb, Bool.false_eq_true, if_false, Option.bind_some, frmV, fldsV, u_asC, u_asA, u_asI, u_asL, u_asN, zj, e0, cond_true, if_true, don0, rec0, donV, donC, valsV, List.map_nil]
    · have e0 : ((16 : Int) != 0) = true := rfl
      simp only [h1, Option.bind_some, frmV, fldsV, u_asC, u_asA, u_asI, u_asL, u_asN, zj, e0, cond_true, don0, rec0, donV, donC, valsV, List.map_nil]
  · have t0 : ((onS s x).2 != 0) = true := bne_t h0
    simp only [t0, cond_true, h0, ne_eq, not_false_eq_true, if_true, don0, rec0, donV, donC, valsV, List.map_nil])
theorem zaf (l : List Val) (k : Nat) (v : Val) (hk : k ≤ l.length) (hl : l.length ≤ 900000) : tbl E0 23 [valsV l, iV k, valV v] [] = some ([valsV (putV l k v)], []) := zu3 l k v (by
  have h1 : (k : Int) ≤ (l.length : Int) := by omega
  have h2 : (0 + (List.take k (List.map valV l)).length) * 24 ≤ 211106232532992 := by rw [List.length_take, List.length_map]; omega
  have h3 : ((List.take k (List.map valV l)).length + 1) * 24 ≤ 211106232532992 := by rw [List.length_take, List.length_map]; omega
  have h4 : ((List.take k (List.map valV l) ++ [AV.agg [iV v.n, .str v.s]]).length + (List.drop k (List.map valV l)).length) * 24 ≤ 211106232532992 := by
    rw [List.length_append, List.length_take, List.length_drop, List.length_map]; simp; omega
  have h5 : List.take l.length (List.map valV l) = List.map valV l := List.take_of_length_le (by simp)
  simp only [zku, List.length_map, Int.le_refl, Int.natCast_nonneg, h1, decide_true, Bool.and_self, z9, cond_true, Int.toNat_natCast, List.drop_zero, h2, List.length_cons, List.length_nil, Nat.zero_add, h3, h5, h4, putV, valsV, List.map_append, List.map_take, List.map_drop, List.map_cons, List.map_nil]; simp only [Nat.zero_add] at h2; simp only [h2, decide_true, cond_true])
theorem zes (l : List Val) (k : Nat) (hk : k < l.length) (hl : l.length ≤ 900000) : tbl E0 25 [valsV l, iV k] [] = some ([valsV (cutV l k)], []) := zu4 l k (by
  have h1 : (k : Int) ≤ (l.length : Int) := by omega
  have e1 := zn (i := k) (by omega)
  have h0 : ((k + 1 : Nat) : Int) ≤ (l.length : Int) := by omega
  have h2 : (List.take k (List.map valV l)).length * 24 ≤ 211106232532992 := by rw [List.length_take, List.length_map]; omega
  have h3 : ((List.take k (List.map valV l)).length + (List.drop (k + 1) (List.map valV l)).length) * 24 ≤ 211106232532992 := by rw [List.length_take, List.length_drop, List.length_map]; omega
  have h5 : List.take l.length (List.map valV l) = List.map valV l := List.take_of_length_le (by simp)
  simp only [zkv, List.length_map, Int.le_refl, Int.natCast_nonneg, h1, e1, h0, decide_true, Bool.and_self, z9, cond_true, Int.toNat_natCast, List.drop_zero, Nat.zero_add, h2, h5, h3, cutV, valsV, List.map_append, List.map_take, List.map_drop])
theorem zet (l : List Val) (k : Nat) (n : Int) (hk : k < l.length) (hl : l.length ≤ 900000) : tbl E0 26 [valsV l, iV k, iV n] [] = some ([valsV (l.set k ⟨n, []⟩)], []) := zu5 l k n (by
  have c1 := zes l k hk hl; have hc := z6w l k hk
  have c2 := zaf (cutV l k) k ⟨n, []⟩ (by omega) (by omega)
  have e : putV (cutV l k) k ⟨n, []⟩ = l.set k ⟨n, []⟩ := by
    rw [List.set_eq_take_append_cons_drop, if_pos hk]; simp only [putV, cutV]
    rw [List.take_append_of_le_length (by rw [List.length_take]; omega), List.take_take, Nat.min_self, List.drop_append, List.drop_of_length_le (by rw [List.length_take]; omega), List.length_take, Nat.min_eq_left (by omega), Nat.sub_self, List.drop_zero, List.nil_append, List.append_assoc]
    rfl
  rw [e] at c2; simp only [valsV, valV] at c1 c2; simp only [zkw, za, c1, c2, Option.bind_some, u_asC, u_asL, u_asN])
theorem zc6 (y : Rec) (l : List Val) (b : Bool) (z : List UInt8) : ltbl E0 8 0 1000031 [valsV l] [recC y, [iV 0, valsV [], .bool false, .bool false, .str []], [iV 0, valsV [], .bool false, .bool b, .str z]] = some (0, [iV 0], [[iV y.form, valsV l, .bool false, .bool b, .str z]]) := zr7 y l b z (by
  simp only [zi6])
theorem z4j (s : Sch) (x : Stp) (y : Rec) (l : List Val) : z2t (OA (tbl E0) (ltbl E0 8 0)) s x y (fun r o => some (r, o)) [valsV l] = some ([donV ⟨⟨y.form, l⟩, false, false, []⟩, iV 0], []) := by
  have c := zc6 y l false []; simp only [valsV, recC, List.map_nil] at c; simp only [z2t, u_asC, u_asL, valsV, u_asN, zi, c, Option.bind_some, z3g, nbeq, decide_true, cond_true, u_asI, u_asB, u_asS, donV, donC]
theorem zuz (s : Sch) (x : Stp) (y : Rec) (hs : Few s) (hm : x.sml) (hy : y.vals.length ≤ 1000) : tbl E0 8 [schV s, stpV x, recV y] [] = some ([donV (turnS s x y).1, iV (turnS s x y).2], []) := zu6 s x y (by
  have c1 := c_zOn s x hs hm; have c2 := zeh s y.form hs.sml; simp only [schV, frmsV, stpV, stpC, intsV, fldsV] at c1 c2; simp only [zkx, za, c1, Option.bind_some, u_asC, u_asA, u_asI, u_asB, u_asL, u_asN, turnS]
  by_cases h0 : (onS s x).2 = 0
  · have t0 : ((onS s x).2 != 0) = false := by rw [h0]; rfl
    have n0 : ¬ ((onS s x).2 ≠ 0) := by simpa using h0
    simp only [t0, cond_false, c2, Option.bind_some, u_asC, u_asI, u_asN, n0, if_false]
    rcases z41 s.forms y.form with ⟨j, g, h1, h2, h3⟩ | ⟨h1, h2⟩
    · have hgl := hs.2 g (List.mem_of_getElem? h3)
      have nj : ¬ ((j : Int) < 0) := by omega
      have c3 := zs0 g y (by omega) (by omega)
      simp only [frmV, fldsV, recV, recC, valsV] at c3; simp only [h1, h2, nj, decide_false, cond_false, Int.natCast_nonneg, decide_true, z9, cond_true, nthE, Int.toNat_natCast, List.getElem?_map, h3, Option.map_some, frmV, fldsV, u_asA, u_asC, u_asI, u_asL, u_asN, c3, Option.bind_some, u_asB]
      rcases bor (hasR g y) with hb | hb
      · have h5 : (0 + y.vals.length) * 24 ≤ 211106232532992 := by omega
        simp only [hb, Bool.not_true, cond_false, List.length_map, h5, decide_true, cond_true, Bool.true_eq_false, if_false]
        by_cases he : y.form = x.form
        · have te : (y.form != x.form) = false := by simpa using he
          have ne : ¬ (y.form ≠ x.form) := by simpa using he
          have ha : allsV g.fields y.vals = true := by simp only [hasR, Bool.and_eq_true] at hb; exact hb.2.2
          simp only [te, cond_false, ne, if_false]
          by_cases o10 : x.op = 10
          · have t10 : (x.op == 10) = true := by simpa using o10
            have c4 := zs1 g y ha (by omega)
            simp only [frmV, fldsV, recV, recC, valsV] at c4; simp only [t10, cond_true, c4, Option.bind_some, u_asC, u_asL, u_asN, orFail, z23, o10, beq_self_eq_true, cond_true, if_true, rec0, donV, donC, valsV, List.map_nil]
          · have t10 := beq_f o10
            obtain ⟨h9, hop, hfe, hp⟩ := on_p h0 h1 hb he o10; have hlen := z1r ha
            have c4 := c_yAt g x.field (by omega)
            simp only [frmV, fldsV] at c4; simp only [t10, cond_false, c4, Option.bind_some, u_asC, u_asI, u_asN, o10, if_false]
            by_cases o1 : x.op = 1
            · have t1 : (x.op == 1) = true := by simpa using o1
              obtain ⟨k, hk, hkl⟩ := hp.one o1
              have c5 := zaf y.vals k ⟨x.n, x.s⟩ hkl (by omega)
              have c6 := z4j s x y (putV y.vals k ⟨x.n, x.s⟩); simp only [valsV, valV] at c5 c6; simp only [t1, cond_true, hk, c5, Option.bind_some, c6, lostV, onV, o1, if_true, Int.toNat_natCast]; rfl
            have t1 := beq_f o1; have hlt := hp.lt o1; obtain ⟨k, f, q1, q2, q3⟩ := zc3 h0 o1 h9 o10; rw [← hfe] at q1 q2
            have hpk : plcS g x.field = k := by
              have q3 : ¬ ((k : Int) < 0) := by omega
              simp only [plcS, q1, q3, if_false, Int.toNat_natCast]
            rw [hpk] at hp hlt ⊢; have hg := zc4 hlt
            by_cases o2 : x.op = 2
            · have t2 : (x.op == 2) = true := by simpa using o2
              have hh := z43 hp.has k f _ q2 hg; have c5 := zir f (valAt y.vals k) hh
              have c6 := zes y.vals k hlt (by omega)
              have c7 := zc6 y (cutV y.vals k) true (layV f (valAt y.vals k)); simp only [fldV, fldC, valsV, valV, recC, List.map_nil] at c5 c6 c7; simp only [t1, t2, cond_true, cond_false, q1, Int.natCast_nonneg, decide_true, Int.toNat_natCast, List.getElem?_map, q2, hg, Option.map_some, u_asA, u_asC, u_asI, u_asS, u_asL, u_asN, c5, Option.bind_some, orFail, z23, c6, zi, c7, z3g, nbeq, u_asB, lostV, onV, o1, o2, if_true, if_false, Option.getD_some, donV, donC, valsV]
              rfl
            have t2 := beq_f o2
            by_cases o4 : x.op = 4
            · have t4 : (x.op == 4) = true := by simpa using o4
              have c5 := zet y.vals k (affS x.a x.b (valAt y.vals k).n) hlt (by omega)
              have c6 := z4j s x y (y.vals.set k ⟨affS x.a x.b (valAt y.vals k).n, []⟩); simp only [valsV, affS] at c5 c6; simp only [t1, t2, t4, cond_true, cond_false, q1, Int.natCast_nonneg, decide_true, Int.toNat_natCast, List.getElem?_map, hg, Option.map_some, u_asA, u_asC, u_asI, u_asS, u_asN, c5, Option.bind_some, c6, lostV, onV, o1, o2, o4, if_true, if_false]; rfl
            have t4 := beq_f o4
            by_cases o5 : x.op = 5
            · have t5 : (x.op == 5) = true := by simpa using o5
              obtain ⟨n0, n1⟩ := hp.five o5
              have ht : x.t[(valAt y.vals k).n.toNat]? = some ((x.t[(valAt y.vals k).n.toNat]?).getD 0) := by rw [List.getElem?_eq_getElem (by omega)]; rfl
              simp only [t1, t2, t4, t5, cond_true, cond_false, q1, Int.natCast_nonneg, decide_true, Int.toNat_natCast, List.getElem?_map, hg, Option.map_some, u_asA, u_asC, u_asI, u_asS, u_asN, n0, lostV, onV, o1, o2, o4, o5, if_true, if_false]; rw [ht]; simp only [Option.map_some, Option.getD_some, u_asI]; generalize (x.t[(valAt y.vals k).n.toNat]?).getD 0 = m
              have c5 := zet y.vals k m hlt (by omega)
              have c6 := z4j s x y (y.vals.set k ⟨m, []⟩); simp only [valsV] at c5 c6; simp only [c5, Option.bind_some, c6]; rfl
            have t5 := beq_f o5
            by_cases o6 : x.op = 6
            · have t6 : (x.op == 6) = true := by simpa using o6
              obtain ⟨a2, n0⟩ := hp.six o6
              have ta : (x.a == 0) = false := beq_f (by omega)
              have e1 := zn (i := k) (by omega)
              have hsl : (y.vals.set k ⟨IntKind.i64.wrap ((valAt y.vals k).n.tdiv x.a), []⟩).length = y.vals.length := List.length_set ..
              have c5 := zet y.vals k (IntKind.i64.wrap ((valAt y.vals k).n.tdiv x.a)) hlt (by omega)
              have c6 := zaf (y.vals.set k ⟨IntKind.i64.wrap ((valAt y.vals k).n.tdiv x.a), []⟩) (k + 1) ⟨(valAt y.vals k).n.tmod x.a, []⟩ (by omega) (by omega)
              have c7 := z4j s x y (putV (y.vals.set k ⟨IntKind.i64.wrap ((valAt y.vals k).n.tdiv x.a), []⟩) (k + 1) ⟨(valAt y.vals k).n.tmod x.a, []⟩); simp only [valsV, valV] at c5 c6 c7; simp only [t1, t2, t4, t5, t6, cond_true, cond_false, q1, Int.natCast_nonneg, decide_true, Int.toNat_natCast, List.getElem?_map, hg, Option.map_some, u_asA, u_asC, u_asI, u_asS, u_asL, u_asN, ta, Bool.not_false, c5, Option.bind_some, e1, c6, c7, lostV, onV, o1, o2, o4, o5, o6, if_true, if_false]
              rfl
            have t6 := beq_f o6
            by_cases o7 : x.op = 7
            · have t7 : (x.op == 7) = true := by simpa using o7
              obtain ⟨m, hm2, hml⟩ := hp.sev o7; have hc := z6w y.vals k hlt
              have c5 := zes y.vals k hlt (by omega)
              have c6 := zaf (cutV y.vals k) m (valAt y.vals k) (by omega) (by omega)
              have c7 := z4j s x y (putV (cutV y.vals k) m (valAt y.vals k)); simp only [valsV, valV] at c5 c6 c7; simp only [t1, t2, t4, t5, t6, t7, cond_true, cond_false, q1, Int.natCast_nonneg, decide_true, Int.toNat_natCast, List.getElem?_map, hg, Option.map_some, u_asA, u_asC, u_asI, u_asS, u_asL, u_asN, c5, Option.bind_some, hm2, c6, c7, lostV, onV, o1, o2, o4, o5, o6, o7, if_true, if_false]
              rfl
            have t7 := beq_f o7; have c7 := zc6 y y.vals false []; simp only [valsV, recC, List.map_nil] at c7; simp only [t1, t2, t4, t5, t6, t7, cond_true, cond_false, zi, c7, Option.bind_some, z3g, nbeq, decide_true, u_asC, u_asI, u_asL, u_asB, u_asS, u_asN, lostV, onV, o1, o2, o4, o5, o6, o7, if_false, donV, donC, valsV]
        · have te : (y.form != x.form) = true := bne_t he
          simp only [te, cond_true, he, ne_eq, not_false_eq_true, if_true, donV, donC, valsV]
      · simp only [hb, Bool.not_false, cond_true, if_true, don0, rec0, donV, donC, valsV, List.map_nil]
    · have nj : ((-1 : Int) < 0) := by omega
      simp only [h1, h2, nj, decide_true, cond_true, don0, rec0, donV, donC, valsV, List.map_nil]
  · have t0 : ((onS s x).2 != 0) = true := bne_t h0
    simp only [t0, cond_true, h0, ne_eq, not_false_eq_true, if_true, don0, rec0, donV, donC, valsV, List.map_nil])
end Go.Proofs.YtgkiakemfcbgiaaGreat.V
namespace Go.Proofs.YtgkiakemfcbgiaaGreat.V
open Go
variable {H : Type}
theorem zmr {t : Nat} {d : DataW H} {m : Nat} {xs : List AV} (h : FitAll T0 m [t] [d] xs) : ∃ x ys, xs = [x] ∧ Fit T0 m t d ys ∧ ElemOf (T0.ty t) x ys := by
  obtain ⟨d', ds, x, xs', e1, rfl, ⟨ys, h0, h1⟩, h⟩ := ze h; obtain ⟨rfl, rfl⟩ := z2a h
  cases e1
  exact ⟨x, ys, rfl, h0, h1⟩
end Go.Proofs.YtgkiakemfcbgiaaGreat.V
namespace Go.Proofs.YtgkiakemfcbgiaaGreat.V
open Go
variable {H : Type}
theorem z87 {α β : Type} {q : β → Prop} : ∀ {l : List α} {r : List β}, Each (fun _ b => q b) l r → ∀ {b : β}, b ∈ r → q b := by
  intro l r h b hb; obtain ⟨i, hi, e⟩ := List.mem_iff_getElem.1 hb
  obtain ⟨a, _, h2⟩ := h.get i b (by rw [← e]; exact List.getElem?_eq_getElem hi)
  exact h2
theorem zla {n : Nat} {d : DataW H} {xs : List AV} (hf : Fit T0 (n + 2) 26 d xs) : ∃ f : Fld, f.ok ∧ xs = fldC f := by
  obtain ⟨ds, yss, rfl, rfl, h⟩ := z2s (fs := [(0, 3), (1, 3), (2, 3), (3, 3), (4, 3)]) (by kernel_rfl) hf
  obtain ⟨d0, ds, y0, yss, rfl, rfl, h0, h⟩ := ze h; obtain ⟨d1, ds, y1, yss, rfl, rfl, h1, h⟩ := ze h; obtain ⟨d2, ds, y2, yss, rfl, rfl, h2, h⟩ := ze h; obtain ⟨d3, ds, y3, yss, rfl, rfl, h3, h⟩ := ze h; obtain ⟨d4, ds, y4, yss, rfl, rfl, h4, h⟩ := ze h; obtain ⟨rfl, rfl⟩ := z2a h
  obtain ⟨a, ha, rfl, rfl⟩ := z1h (by kernel_rfl) h0
  obtain ⟨b, hb, rfl, rfl⟩ := z1h (by kernel_rfl) h1
  obtain ⟨c, hc, rfl, rfl⟩ := z1h (by kernel_rfl) h2
  obtain ⟨e, he, rfl, rfl⟩ := z1h (by kernel_rfl) h3
  obtain ⟨g, hg, rfl, rfl⟩ := z1h (by kernel_rfl) h4
  exact ⟨⟨a, b, c, e, g⟩, ⟨ha, hb, hc, he, hg⟩, rfl⟩
theorem zj6 {n : Nat} {d : DataW H} {xs : List AV} (hf : Fit T0 (n + 3) 30 d xs) : ∃ l : List Fld, (∀ f ∈ l, f.ok) ∧ xs = [fldsV l] := by
  obtain ⟨ds, sp, l, hd, rfl, h⟩ := z40 (e := 26) (by kernel_rfl) hf
  obtain ⟨cs, rfl, hq⟩ := z3p (f := fldV) (Q := fun d f => f.ok) (fun d x ⟨ys, h1, h2⟩ => by
    obtain ⟨f, hf, rfl⟩ := zla h1
    exact ⟨f, z5w (by kernel_rfl) h2, hf⟩) h
  exact ⟨cs, fun f hf => z87 hq hf, rfl⟩
theorem zv0 {n : Nat} {d : DataW H} {xs : List AV} (hf : Fit T0 (n + 4) 57 d xs) : ∃ f : Frm, f.ok ∧ xs = [iV f.id, fldsV f.fields] := by
  obtain ⟨ds, yss, rfl, rfl, h⟩ := z2s (fs := [(0, 3), (1, 30)]) (by kernel_rfl) hf
  obtain ⟨d0, ds, y0, yss, rfl, rfl, h0, h⟩ := ze h; obtain ⟨d1, ds, y1, yss, rfl, rfl, h1, h⟩ := ze h; obtain ⟨rfl, rfl⟩ := z2a h
  obtain ⟨a, ha, rfl, rfl⟩ := z1h (by kernel_rfl) h0
  obtain ⟨l, hl, rfl⟩ := zj6 h1; exact ⟨⟨a, l⟩, ⟨ha, hl⟩, rfl⟩
theorem zsn {n : Nat} {d : DataW H} {xs : List AV} (hf : Fit T0 (n + 5) 22 d xs) : ∃ l : List Frm, (∀ f ∈ l, f.ok) ∧ xs = [frmsV l] := by
  obtain ⟨ds, sp, l, hd, rfl, h⟩ := z40 (e := 57) (by kernel_rfl) hf
  obtain ⟨cs, rfl, hq⟩ := z3p (f := frmV) (Q := fun d f => f.ok) (fun d x ⟨ys, h1, h2⟩ => by
    obtain ⟨f, hf, rfl⟩ := zv0 h1
    exact ⟨f, z5w (by kernel_rfl) h2, hf⟩) h
  exact ⟨cs, fun f hf => z87 hq hf, rfl⟩
theorem zv1 {n : Nat} {d : DataW H} {xs : List AV} (hf : Fit T0 (n + 6) 24 d xs) : ∃ s : Sch, s.ok ∧ xs = [iV s.ver, frmsV s.forms] := by
  obtain ⟨ds, yss, rfl, rfl, h⟩ := z2s (fs := [(0, 3), (1, 22)]) (by kernel_rfl) hf
  obtain ⟨d0, ds, y0, yss, rfl, rfl, h0, h⟩ := ze h; obtain ⟨d1, ds, y1, yss, rfl, rfl, h1, h⟩ := ze h; obtain ⟨rfl, rfl⟩ := z2a h
  obtain ⟨a, ha, rfl, rfl⟩ := z1h (by kernel_rfl) h0
  obtain ⟨l, hl, rfl⟩ := zsn h1; exact ⟨⟨a, l⟩, ⟨ha, hl⟩, rfl⟩
end Go.Proofs.YtgkiakemfcbgiaaGreat.V
namespace Go.Proofs.YtgkiakemfcbgiaaGreat.V
open Go
variable {H : Type}
theorem zso {n : Nat} {d : DataW H} {xs : List AV} (hf : Fit T0 (n + 2) 29 d xs) : ∃ l : List Int, (∀ n ∈ l, i64 n) ∧ xs = [intsV l] := by
  obtain ⟨ds, sp, l, hd, rfl, h⟩ := z40 (e := 3) (by kernel_rfl) hf
  obtain ⟨cs, rfl, hq⟩ := z3p (f := fun n => iV n) (Q := fun d n => i64 n) (fun d x ⟨ys, h1, h2⟩ => by
    obtain ⟨a, ha, rfl, rfl⟩ := z1h (by kernel_rfl) h1
    have q := zhh (by kernel_rfl) h2
    injection q with q; exact ⟨a, q.symm, ha⟩) h
  exact ⟨cs, fun f hf => z87 hq hf, rfl⟩
theorem zlb {n : Nat} {d : DataW H} {xs : List AV} (hf : Fit T0 (n + 2) 28 d xs) : ∃ (a : Int) (s : List UInt8), i64 a ∧ xs = [iV a, .str s] := by
  obtain ⟨ds, yss, rfl, rfl, h⟩ := z2s (fs := [(0, 3), (1, 9)]) (by kernel_rfl) hf
  obtain ⟨d0, ds, y0, yss, rfl, rfl, h0, h⟩ := ze h; obtain ⟨d1, ds, y1, yss, rfl, rfl, h1, h⟩ := ze h; obtain ⟨rfl, rfl⟩ := z2a h
  obtain ⟨a, ha, rfl, rfl⟩ := z1h (by kernel_rfl) h0
  obtain ⟨s, rfl, rfl⟩ := zte (by kernel_rfl) h1
  exact ⟨a, s, ha, rfl⟩
theorem zlc {n : Nat} {d : DataW H} {xs : List AV} (hf : Fit T0 (n + 4) 32 d xs) : ∃ x : Stp, x.ok ∧ xs = stpC x := by
  obtain ⟨ds, yss, rfl, rfl, h⟩ := z2s (fs := [(0, 3), (1, 3), (2, 3), (3, 3), (4, 3), (5, 3), (6, 3), (7, 26), (12, 28), (14, 29), (15, 30)]) (by kernel_rfl) hf
  obtain ⟨d0, ds, y0, yss, rfl, rfl, h0, h⟩ := ze h; obtain ⟨d1, ds, y1, yss, rfl, rfl, h1, h⟩ := ze h; obtain ⟨d2, ds, y2, yss, rfl, rfl, h2, h⟩ := ze h; obtain ⟨d3, ds, y3, yss, rfl, rfl, h3, h⟩ := ze h; obtain ⟨d4, ds, y4, yss, rfl, rfl, h4, h⟩ := ze h; obtain ⟨d5, ds, y5, yss, rfl, rfl, h5, h⟩ := ze h; obtain ⟨d6, ds, y6, yss, rfl, rfl, h6, h⟩ := ze h; obtain ⟨d7, ds, y7, yss, rfl, rfl, h7, h⟩ := ze h
  obtain ⟨d8, ds, y8, yss, rfl, rfl, h8, h⟩ := ze h; obtain ⟨d9, ds, y9, yss, rfl, rfl, h9, h⟩ := ze h; obtain ⟨dA, ds, yA, yss, rfl, rfl, hA, h⟩ := ze h; obtain ⟨rfl, rfl⟩ := z2a h
  obtain ⟨a0, i0, rfl, rfl⟩ := z1h (by kernel_rfl) h0
  obtain ⟨a1, i1, rfl, rfl⟩ := z1h (by kernel_rfl) h1
  obtain ⟨a2, i2, rfl, rfl⟩ := z1h (by kernel_rfl) h2
  obtain ⟨a3, i3, rfl, rfl⟩ := z1h (by kernel_rfl) h3
  obtain ⟨a4, i4, rfl, rfl⟩ := z1h (by kernel_rfl) h4
  obtain ⟨a5, i5, rfl, rfl⟩ := z1h (by kernel_rfl) h5
  obtain ⟨a6, i6, rfl, rfl⟩ := z1h (by kernel_rfl) h6
  obtain ⟨f, i7, rfl⟩ := zla h7; obtain ⟨a8, s, i8, rfl⟩ := zlb h8; obtain ⟨t, i9, rfl⟩ := zso h9; obtain ⟨fs, iA, rfl⟩ := zj6 hA; exact ⟨⟨a0, a1, a2, a3, a4, a5, a6, f, a8, s, t, fs⟩, ⟨i0, i1, i2, i3, i4, i5, i6, i7, i8, i9, iA⟩, rfl⟩
end Go.Proofs.YtgkiakemfcbgiaaGreat.V
namespace Go.Proofs.YtgkiakemfcbgiaaGreat.V
open Go
variable {H : Type}
set_option maxRecDepth 1000000 in
theorem zg3 : tbl E0 6 [] [] = some ([.bool true], []) := z3z.2 ⟨60, by kernel_rfl⟩
def grt19 (s : Sch) (x : Stp) (y : Rec) : Bool := (s.forms.take 41).any big || (decide (40 < s.forms.length) || (greatT [x] || decide (40 < y.vals.length)))
theorem zjq (s : Sch) (x : Stp) (y : Rec) : ∀ (r : List Frm) (i : Nat), s.forms.drop i = r → i ≤ 41 →
    ltbl E0 5 0 2 [iV i] [caseC s x y] = some (if (r.take (41 - i)).any big then (0, [.bool true], []) else (1, [], [caseC s x y])) := by
  intro r
  induction r with
  | nil =>
    intro i hr hi
    have h : s.forms.length ≤ i := by simpa using hr
    refine zat _ _ _ _ ?_
    have : ¬ ((i : Int) < s.forms.length) := by omega
    simp [z4y, this]
  | cons f r ih =>
    intro i hr hi; obtain ⟨hlt, hget, hr2⟩ := zw hr
    have h2 : (i : Int) < s.forms.length := by omega
    have e1 := zn (i := i) (by omega)
    refine zat _ _ _ _ ?_
    by_cases h41 : i < 41
    · have h := ih (i + 1) hr2 (by omega)
      have h3 : (i : Int) < 41 := by omega
      have e2 : 41 - i = (41 - (i + 1)) + 1 := by omega
      rw [e2, List.take_succ_cons, List.any_cons]; simp only [caseC, stpC, recC, fldsV, intsV, frmsV, valsV, List.cons_append, List.nil_append] at h; simp only [z4y, zl, zo, List.length_map, h2, h3, decide_true, cond_true, Option.bind_some, Tok.untok_tok, z9, Int.natCast_nonneg, nthE, Int.toNat_natCast, List.getElem?_map, hget, Option.map_some, u_asA, u_asC, u_asI, u_asB, u_asL, u_asN, e1, h]
      by_cases b : 40 < f.fields.length
      · have b' : (f.fields.length : Int) > 40 := by omega
        simp [big, b, b']
      · have b' : ¬ ((f.fields.length : Int) > 40) := by omega
        simp [big, b, b']
    · have h3 : ¬ ((i : Int) < 41) := by omega
      have e2 : 41 - i = 0 := by omega
      simp [z4y, h2, h3, e2]
theorem zmt (s : Sch) (x : Stp) (y : Rec) : tbl E0 5 [.agg (caseC s x y)] [] = some ([.bool (grt19 s x y)], []) := zmb s x y (by
  have e := zjq s x y s.forms 0 rfl (by omega)
  have g := zrx [x]; simp only [Int.natCast_zero, Nat.sub_zero, caseC, stpC, recC, fldsV, intsV, frmsV, valsV, List.cons_append, List.nil_append] at e; simp only [stpsV, stpV, stpC, intsV, fldsV, List.map_cons, List.map_nil] at g; simp only [zd4, zi, e, grt19]
  by_cases b : ((s.forms.take 41).any big) = true
  · simp [b]
  · have b : ((s.forms.take 41).any big) = false := by simpa using b
    simp only [b, Bool.false_eq_true, if_false, Option.bind_some, nbeq, u_asN, u_asC, u_asI, u_asS, u_asL, List.length_map]
    by_cases c : 40 < s.forms.length
    · have c' : (s.forms.length : Int) > 40 := by omega
      simp [c, c']
    · have c' : ¬ ((s.forms.length : Int) > 40) := by omega
      simp only [c, c', decide_false, cond_false, za, g, Option.bind_some, u_asC, u_asB, u_asN, Bool.false_or]
      rcases bor (greatT [x]) with d | d
      · simp [d]
      · by_cases v : 40 < y.vals.length
        · have v' : (y.vals.length : Int) > 40 := by omega
          simp [d, v, v']
        · have v' : ¬ ((y.vals.length : Int) > 40) := by omega
          simp [d, v, v'])
theorem zpt {s : Sch} {x : Stp} {y : Rec} (h : grt19 s x y = false) : Few s ∧ x.sml ∧ y.vals.length ≤ 40 := by
  unfold grt19 at h; simp only [greatT, Bool.or_eq_false_iff, decide_eq_false_iff_not, List.any_eq_false, big, decide_eq_true_eq] at h
  refine ⟨⟨by omega, fun f hf => ?_⟩, ?_, by omega⟩
  · have := h.1 f (by rw [List.take_of_length_le (by omega)]; exact hf)
    omega
  · have := h.2.2.1.1 x (by simp)
    simp only [bigT, Bool.or_eq_true, decide_eq_true_eq, not_or] at this
    exact ⟨by omega, by omega⟩
theorem zpu (a b : Don) (hl : a.rcd.vals.length ≤ 1000000) (hab : a = b) : tbl E0 9 [donV a, donV b] [] = some ([.bool true], []) := zo9 a b (by
  subst hab; have c := zoz a.rcd a.rcd hl; simp only [recV, recC, valsV, decide_true] at c; simp only [zfk, zl, za, c, Option.bind_some, u_asC, u_asB, u_asN, cond_true, beq_self_eq_true, Tok.untok_tok])
theorem zmu {s : Sch} {x : Stp} {y : Rec} (hy : y.vals.length ≤ 40) : (turnS s x y).1.rcd.vals.length ≤ 1000 := by
  unfold turnS
  split
  · simp [don0, rec0]
  split
  · simp [don0, rec0]
  split
  · simp [don0, rec0]
  split
  · simp; omega
  split
  · simp [rec0]
  · simp only [onV, putV, cutV]
    repeat' split
    all_goals first | omega | (simp; done) | (simp; omega)
theorem zsp (s : Sch) (x : Stp) (y : Rec) (ho : x.ok) : tbl E0 3 [.agg (caseC s x y)] [] = some ([.bool true], []) := zr8 s x y (by
  have c0 := zmt s x y; simp only [caseC, stpC, recC, fldsV, intsV, frmsV, valsV, List.cons_append, List.nil_append] at c0; simp only [zi7, za, c0, Option.bind_some, u_asC, u_asB, u_asN]
  rcases bor (grt19 s x y) with hb | hb
  · simp only [hb, cond_true, zg3, Option.bind_some, u_asC, u_asB, u_asN]
  · obtain ⟨hs, hm, hy⟩ := zpt hb
    have c1 := c_tOn s x y hs hm ho (by omega)
    have c2 := zuz s x y hs hm (by omega)
    have c3 := zpu (turnS s x y).1 (turnS s x y).1 (by have := zmu (s := s) (x := x) hy; omega) rfl
    simp only [schV, frmsV, stpV, stpC, intsV, fldsV, recV, recC, valsV, donV, donC] at c1 c2 c3; simp only [hb, cond_false, c1, c2, Option.bind_some, u_asC, u_asA, u_asI, u_asB, u_asL, u_asS, u_asN, zl, c3, cond_true, beq_self_eq_true, zg3, Tok.untok_tok])
theorem zsq {n : Nat} {d : DataW H} {xs : List AV} (hf : Fit T0 (n + 3) 33 d xs) : ∃ l : List Val, xs = [valsV l] := by
  obtain ⟨ds, sp, l, hd, rfl, h⟩ := z40 (e := 28) (by kernel_rfl) hf
  obtain ⟨cs, rfl, hq⟩ := z3p (f := valV) (Q := fun d f => True) (fun d x ⟨ys, h1, h2⟩ => by
    obtain ⟨a, s, ha, rfl⟩ := zlb h1
    exact ⟨⟨a, s⟩, z5w (by kernel_rfl) h2, trivial⟩) h
  exact ⟨cs, rfl⟩
theorem zv2 {n : Nat} {d : DataW H} {xs : List AV} (hf : Fit T0 (n + 4) 35 d xs) : ∃ y : Rec, i64 y.form ∧ xs = recC y := by
  obtain ⟨ds, yss, rfl, rfl, h⟩ := z2s (fs := [(0, 3), (1, 33)]) (by kernel_rfl) hf
  obtain ⟨d0, ds, y0, yss, rfl, rfl, h0, h⟩ := ze h; obtain ⟨d1, ds, y1, yss, rfl, rfl, h1, h⟩ := ze h; obtain ⟨rfl, rfl⟩ := z2a h
  obtain ⟨a, ha, rfl, rfl⟩ := z1h (by kernel_rfl) h0
  obtain ⟨l, rfl⟩ := zsq h1; exact ⟨⟨a, l⟩, ha, rfl⟩
theorem zsr {n : Nat} {d : DataW H} {xs : List AV} (hf : Fit T0 (n + 7) 37 d xs) : ∃ (s : Sch) (x : Stp) (y : Rec), s.ok ∧ x.ok ∧ xs = caseC s x y := by
  obtain ⟨ds, yss, rfl, rfl, h⟩ := z2s (fs := [(0, 24), (2, 32), (18, 35)]) (by kernel_rfl) hf
  obtain ⟨d0, ds, y0, yss, rfl, rfl, h0, h⟩ := ze h; obtain ⟨d1, ds, y1, yss, rfl, rfl, h1, h⟩ := ze h; obtain ⟨d2, ds, y2, yss, rfl, rfl, h2, h⟩ := ze h; obtain ⟨rfl, rfl⟩ := z2a h; obtain ⟨s, hs, rfl⟩ := zv1 h0; obtain ⟨x, hx, rfl⟩ := zlc h1; obtain ⟨y, hy, rfl⟩ := zv2 h2
  exact ⟨s, x, y, hs, hx, by simp [caseC]⟩
theorem zss (d0 : DataW H) (xs : List AV) (hf : FitAll T0 9 Tryz.f3.params.toList [d0] xs) (hk : (DataW.weightsEach Tryz.prog (Tryz.f3.params.toList ++ Rows.turnOnSpec.plain.varTypes Tryz.prog) ([d0] ++ [])).all (· ≤ reachBytes) = true) :
    tbl E0 3 xs [] = some ([.bool true], []) := by
  obtain ⟨x, ys, rfl, h1, h2⟩ := zmr (t := 37) hf; obtain ⟨s, t, y, hs, ht, rfl⟩ := zsr h1
  have e1 := z5w (by kernel_rfl) h2
  subst e1; exact zsp s t y ht
end Go.Proofs.YtgkiakemfcbgiaaGreat.V
namespace Go.Proofs.YtgkiakemfcbgiaaGreat.turnOn
open Go Go.ChangeShapes Go.WideShapes Go.ChangeAt Go.RowKit Go.Proofs.YtgkiakemfcbgiaaGreat.V
theorem own : ownKnob Tryz.prog.godebug = none := by kernel_rfl
set_option maxRecDepth 100000 in
theorem contract (H : Type) (enc : TypeId × Value → H) (W : World) (base : Nat) (args : Array Value) (ds gs : List (DataW H)) (before : List MemPlace)
    (hval : ∀ (j : Nat) t v, Tryz.f3.params[j]? = some t → args[j]? = some v → Value.okWide Tryz.prog W .any base t v)
    (hW : DataW.Whole enc Tryz.prog Tryz.f3.params.toList Rows.turnOnSpec.vars false W args.toList ds gs before) (hk : (DataW.weightsEach Tryz.prog (Tryz.f3.params.toList ++ Rows.turnOnSpec.plain.varTypes Tryz.prog) (ds ++ gs)).all (· ≤ reachBytes) = true) :
    Calls Tryz.prog 3 args W fun e W' => ∃ v, e = .returned v ∧ Rows.turnOnSpec.post enc Tryz.prog Tryz.f3 false true false false W args v W' := by
  obtain ⟨p, q, hA, hV, hps, hfz, hnd⟩ := id hW; obtain ⟨rfl, rfl⟩ := trodVars_none hV; have hlen := z74 hA
  obtain ⟨d0, rfl⟩ : ∃ d0, ds = [d0] := by
    match ds, hlen with
    | [d0], _ => exact ⟨d0, rfl⟩
  refine (znj (E := E0) E0_ok (m := 9) (ts := Tryz.f3.params.toList) (by kernel_rfl) (fun j t v h1 h2 => hval j t v (by simpa using h1) (by simpa using h2)) hA (fun xs hf => zss d0 xs hf hk)).mono fun e W' ⟨he, bel⟩ => ?_
  subst he
  exact ⟨_, rfl, zqa (tb := 4) (by kernel_rfl) (by kernel_rfl) (by kernel_rfl) Tryz.underlying4 rfl rfl hW hA bel⟩
set_option maxRecDepth 100000 in
theorem lifted (os : Os) (started : os.Started) (H : Type) (enc : TypeId × Value → H) :
    ReturnsInHanded {} Tryz.checked os 3 .any (Rows.turnOnSpec.pre6 enc Tryz.prog Tryz.f3 Rows.turnOnRow.domain false) (Rows.turnOnSpec.post enc Tryz.prog Tryz.f3 false true false false) := by
  refine returnsInHanded_of_change_sized (C := Tryz.checked) own started (by kernel_rfl) Tryz.func3
    (ChangeSpec.witness6 (enc := enc) (C := Tryz.checked) false ⟨#[], #[.agg #[.int .i64 0, .slice none 0 0, .int .i64 0, .int .i64 0, .int .i64 0, .int .i64 0, .int .i64 0, .int .i64 0, .int .i64 0, .int .i64 0, .int .i64 0, .int .i64 0, .int .i64 0, .int .i64 0, .int .i64 0, .string ⟨#[]⟩, .slice none 0 0, .slice none 0 0, .int .i64 0, .slice none 0 0]], []⟩ 9 (by kernel_rfl) (by kernel_rfl) (by kernel_rfl) (by kernel_rfl)) ?_
  intro W base args ds gs before hval hW _ hk _; exact contract H enc W base args ds gs before hval hW hk
theorem proved : Rows.TurnOnSaid :=
  OpenClaim.holds_of_wide 3 Tryz.f3 rfl rfl rfl rfl rfl rfl rfl ⟨rfl, rfl, rfl, rfl, rfl⟩ rfl rfl rfl rfl rfl (by kernel_rfl) Tryz.func3 (by kernel_rfl)
    (of_decide_eq_true (by kernel_rfl)) (by unfold Func.isWrapper; first | (rw [if_pos (by decide +kernel)]; kernel_rfl) | (rw [if_neg (by decide +kernel)]; exact ⟨rfl, rfl⟩))
    (fun os started H enc _ => lifted os started H enc)
end Go.Proofs.YtgkiakemfcbgiaaGreat.turnOn
namespace Go.Proofs.YtgkiakemfcbgiaaGreat
theorem turnOn_holds : Rows.TurnOnSaid := turnOn.proved
end Go.Proofs.YtgkiakemfcbgiaaGreat
