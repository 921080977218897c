/- Contracts of links: right, the same, printed. -/
import Derived.Test.YthmocicjocjdoaaP8
import Derived.Test.YthmocicjocjdoaaC16
import Derived.Test.YthmocicjocjdoaaC23
set_option linter.unusedVariables false
set_option linter.unusedSimpArgs false
namespace Go.Proofs.Ythmocicjocjdoaa.V
open Go
theorem c_lGreatL (x : Lnk) : ∀ (r : List Frm) (i : Nat), x.to.forms.drop i = r → i ≤ 41 →
    ltbl E0 10 0 2 [.int .i64 i] [lnkC x] = some (if (r.take (41 - i)).any big then (0, [.bool true], []) else (1, [], [lnkC x])) := by
  intro r
  induction r with
  | nil =>
    intro i hr hi
    have h : x.to.forms.length ≤ i := by simpa using hr
    refine t_lGreatL _ _ ?_
    have : ¬ ((i : Int) < x.to.forms.length) := by omega
    simp [s_lGreatL, this]
  | cons f r ih =>
    intro i hr hi
    obtain ⟨hlt, hget, hr2⟩ := drop_c hr
    have h2 : (i : Int) < x.to.forms.length := by omega
    have e1 := i64_succ (i := i) (by omega)
    refine t_lGreatL _ _ ?_
    by_cases h41 : i < 41
    · have h := ih (i + 1) hr2 (by omega)
      have h3 : (i : Int) < 41 := by omega
      have e2 : 41 - i = (41 - (i + 1)) + 1 := by omega
      rw [e2, List.take_succ_cons, List.any_cons]
      simp only [s_lGreatL, OA_join, OA_asm, List.length_map, h2, h3, decide_true, cond_true, Option.bind_some, Tok.untok_tok, OA_chk, Int.natCast_nonneg, nthE, Int.toNat_natCast, List.getElem?_map, hget, Option.map_some, u_asA, u_asC, u_asI, u_asB, u_asL, u_asN, e1, h]
      by_cases b : 40 < f.fields.length
      · have b' : (f.fields.length : Int) > 40 := by omega
        simp [big, b, b']
      · have b' : ¬ ((f.fields.length : Int) > 40) := by omega
        simp [big, b, b']
    · have h3 : ¬ ((i : Int) < 41) := by omega
      have e2 : 41 - i = 0 := by omega
      simp [s_lGreatL, h2, h3, e2]
def greatK (x : Lnk) : Bool := greatS x.to || (greatT x.on || greatT x.back)
theorem c_lGreat (x : Lnk) : tbl E0 10 [lnkV x] [] = some ([.bool (greatK x)], []) :=
  t_lGreat x (by
    have e := c_lGreatL x x.to.forms 0 rfl (by omega)
    have g1 := c_yGreat x.on
    have g2 := c_yGreat x.back
    simp only [Int.natCast_zero, Nat.sub_zero, lnkC] at e
    simp only [stpsV] at g1 g2
    simp only [s_lGreat, OA_chk, cond_true, OA_loop, e, greatK, greatS]
    by_cases b : ((x.to.forms.take 41).any big) = true
    · simp [b]
    · have b : ((x.to.forms.take 41).any big) = false := by simpa using b
      by_cases c : 40 < x.to.forms.length
      · have c' : (x.to.forms.length : Int) > 40 := by omega
        simp [b, c, c']
      · have c' : ¬ ((x.to.forms.length : Int) > 40) := by omega
        rcases bor (greatT x.on) with q | q
        · simp [b, c, c', g1, q]
        · simp [b, c, c', g1, g2, q])
def Lnk.sml (x : Lnk) : Prop := Sml x.to ∧ (x.on.length ≤ 60 ∧ ∀ s ∈ x.on, s.sml) ∧ x.back.length ≤ 60 ∧ ∀ s ∈ x.back, s.sml
theorem greatK_sml {x : Lnk} (h : greatK x = false) : x.sml := by
  simp only [greatK, Bool.or_eq_false_iff] at h
  exact ⟨sml_of h.1, great_sml h.2.1, great_sml h.2.2⟩
def txtsB (l : List (List UInt8)) : List UInt8 := (l.map txtB).flatten
theorem c_lPrintL (l : List (List UInt8)) (hl : l.length ≤ 3) (hok : ∀ s ∈ l, s.length ≤ 140737488355328) : ∀ (r : List (List UInt8)) (i : Nat) (b : List AV) (e : Int), l.drop i = r → b.length + (txtsB r).length + 10 ≤ 140737488355328 →
    ltbl E0 22 0 10 [.lst .ro 1 (l.map bytesV), .int .i64 l.length, .int .i64 i] [[.lst (.own (.O 1061 0)) 1 b, .int .i64 e]] = some (1, [], [[.lst (.own (.O 1061 0)) 1 (b ++ encB (txtsB r)), .int .i64 e]]) := by
  intro r
  induction r with
  | nil =>
    intro i b e hr hb
    have h : l.length ≤ i := by simpa using hr
    refine t_lPrintL _ _ _ _ _ ?_
    have : ¬ ((i : Int) < l.length) := by omega
    simp [s_lPrintL, this, txtsB, encB_nil]
  | cons s r ih =>
    intro i b e hr hb
    obtain ⟨hlt, hget, hr2⟩ := drop_c hr
    have h2 : (i : Int) < l.length := by omega
    have e1 := i64_succ (i := i) (by omega)
    have hs := hok s (mem_drop hr)
    have et : (txtsB (s :: r)).length = (cnt s.length).length + s.length + (txtsB r).length := by simp [txtsB, txtB, Nat.add_assoc]
    have h := ih (i + 1) (b ++ encB (txtB s)) e hr2 (by rw [List.length_append, encB_length]; unfold txtB; rw [List.length_append]; omega)
    have c := c_PText b s e (by omega)
    simp only [penA] at c
    have eb : b ++ encB (txtsB (s :: r)) = b ++ encB (txtB s) ++ encB (txtsB r) := by simp [txtsB, encB_append]
    refine t_lPrintL _ _ _ _ _ ?_
    rw [eb]
    simp only [s_lPrintL, h2, Int.natCast_nonneg, nthE, Int.toNat_natCast, List.getElem?_map, hget, Option.map_some, orFail, bytesOf_encB, OA_asm, OA_chk, OA_call, OA_callx, OA_loop, OA_both_id, u_asA, u_asC, u_asI, u_asB, u_asS, u_asL, u_asOwn, u_asN, u_asRef0, Option.bind_some, nbeq, Nm_beq_self, decide_true, cond_true, cond_false, c, e1]
    exact h
theorem rights_iff (l : List Stp) : (if 40 < l.length then (7 : Int) else if l.all tRightS = true then 0 else 2) = 0 ↔ rightsS l = true := by
  unfold rightsS
  by_cases h : 40 < l.length
  · have : ¬ (l.length ≤ 40) := by omega
    simp [h, this]
  · have h' : l.length ≤ 40 := by omega
    rcases bor (l.all tRightS) with q | q <;> simp [h, h', q]
theorem rights_beq (l : List Stp) : ((if 40 < l.length then (7 : Int) else if l.all tRightS = true then 0 else 2) == 0) = rightsS l := by
  rw [Bool.eq_iff_iff, beq_iff_eq]
  exact rights_iff l
theorem lstB_len {l : List Stp} (hl : l.length ≤ 60) (h : ∀ x ∈ l, x.ok ∧ tRightS x = true) : (lstB l).length ≤ 400000 := by
  have h7 : (cnt l.length).length ≤ 10 := cnt_len10 (by omega)
  have := stpsB_len l h
  unfold lstB
  rw [List.length_append]
  omega
theorem rights_ok {l : List Stp} (hok : ∀ s ∈ l, s.ok) (h : rightsS l = true) : l.length ≤ 40 ∧ l.all tRightS = true ∧ (∀ x ∈ l, x.ok ∧ tRightS x = true) := by
  simp only [rightsS, Bool.and_eq_true, decide_eq_true_eq] at h
  exact ⟨h.1, h.2, fun x hx => ⟨hok x hx, List.all_eq_true.1 h.2 x hx⟩⟩
theorem lnkB_len {x : Lnk} (hx : x.ok) (hs : x.sml) (h : lnkS x = true) : (lnkB x).length ≤ 2000000 := by
  obtain ⟨h1, h2, h3, h4⟩ := hx
  simp only [lnkS, Bool.and_eq_true, decide_eq_true_eq] at h
  obtain ⟨g1, g2, g3, _, g4, g5⟩ := h
  obtain ⟨p1, p2, p3⟩ := rights_ok h3 g4
  obtain ⟨q1, q2, q3⟩ := rights_ok h4 g5
  have a1 := schB_len h2 g3
  have a2 := lstB_len (by omega) p3
  have a3 := lstB_len (by omega) q3
  have c0 : (cnt x.fr.toNat).length ≤ 10 := cnt_len10 (by omega)
  have c1 : (cnt (schB x.to).length).length ≤ 10 := cnt_len10 (by omega)
  have c2 : (cnt (lstB x.on).length).length ≤ 10 := cnt_len10 (by omega)
  have c3 : (cnt (lstB x.back).length).length ≤ 10 := cnt_len10 (by omega)
  unfold lnkB txtB
  simp only [List.length_append]
  omega
theorem c_lPrint (x : Lnk) (hx : x.ok) (hs : x.sml) : tbl E0 22 [lnkV x] [] = some ([.lst .ro 1 (if lnkS x = true then encB (lnkB x) else []), .int .i64 (if lnkS x = true then 0 else 2)], []) :=
  t_lPrint x (by
    have hx0 := hx
    obtain ⟨h1, h2, h3, h4⟩ := hx
    obtain ⟨s1, s2, s3⟩ := hs
    have c1 := c_sPrint x.to h2 s1
    have c2 := c_tPrint x.on (fun y hy => ⟨h3 y hy, s2.2 y hy⟩)
    have c3 := c_tPrint x.back (fun y hy => ⟨h4 y hy, s3.2 y hy⟩)
    simp only [schV, stpsV] at c1 c2 c3
    have e0 : ((if schS x.to = true then (0 : Int) else 2) == 0) = schS x.to := by rcases bor (schS x.to) with q | q <;> simp [q]
    have er : (bif (if schS x.to = true then (0 : Int) else 2) != 0 then true else bif (if 40 < x.on.length then (7 : Int) else if x.on.all tRightS = true then 0 else 2) != 0 then true else bif (if 40 < x.back.length then (7 : Int) else if x.back.all tRightS = true then 0 else 2) != 0 then true else bif decide (x.fr < 1) then true else bif decide (x.fr > 65535) then true else (x.fr == x.to.ver)) = !lnkS x := by
      simp only [bne, e0, rights_beq, lnkS]
      have k1 : decide (x.fr < 1) = !decide (1 ≤ x.fr) := by rw [← decide_not]; exact decide_eq_decide.2 (by omega)
      have k2 : decide (x.fr > 65535) = !decide (x.fr ≤ 65535) := by rw [← decide_not]; exact decide_eq_decide.2 (by omega)
      have k3 : (x.fr == x.to.ver) = (x.to.ver == x.fr) := by rw [Bool.eq_iff_iff, beq_iff_eq, beq_iff_eq]; exact eq_comm
      rw [k1, k2, k3]
      cases schS x.to <;> cases rightsS x.on <;> cases rightsS x.back <;> cases decide (1 ≤ x.fr) <;> cases decide (x.fr ≤ 65535) <;> cases (x.to.ver == x.fr) <;> rfl
    simp only [s_lPrint, OA_asm, OA_chk, OA_call, OA_callx, OA_loop, OA_both_id, u_asA, u_asC, u_asI, u_asB, u_asS, u_asL, u_asOwn, u_asN, u_asRef0, Option.bind_some, nbeq, Nm_beq_self, decide_true, cond_true, cond_false, OA_join, c1, c2, c3]
    simp only [tok_cond, Option.bind_some, Tok.untok_tok, er]
    rcases bor (lnkS x) with q | q
    · have hlen := lnkB_len hx0 ⟨s1, s2, s3⟩ q
      have q0 := q
      simp only [lnkS, Bool.and_eq_true, decide_eq_true_eq] at q0
      obtain ⟨g1, g2, g3, _, g4, g5⟩ := q0
      obtain ⟨p1, p2, p3⟩ := rights_ok h3 g4
      obtain ⟨q1, q2, q3⟩ := rights_ok h4 g5
      have a1 := schB_len h2 g3
      have a2 := lstB_len (by omega) p3
      have a3 := lstB_len (by omega) q3
      have hc : (cnt x.fr.toNat).length ≤ 10 := cnt_len10 (by omega)
      have d1 := p_Count [] x.fr 0 (by simp) (by omega) h1.2
      simp only [List.nil_append] at d1
      have et : cnt x.fr.toNat ++ txtsB [schB x.to, lstB x.on, lstB x.back] = lnkB x := by simp [txtsB, lnkB]
      have k := c_lPrintL [schB x.to, lstB x.on, lstB x.back] (by simp) (by intro s hs; simp at hs; rcases hs with rfl | rfl | rfl <;> omega) _ 0 (encB (cnt x.fr.toNat)) 0 rfl (by rw [List.drop_zero, encB_length, ← List.length_append, et]; omega)
      rw [← encB_append, List.drop_zero, et] at k
      have d := c_PDone (lnkB x) 0 (by omega)
      simp only [penV, penA, if_true] at d
      simp only [List.map_cons, List.map_nil, bytesV, Int.natCast_zero, List.length_cons, List.length_nil] at k
      simp only [q, g3, p1, p2, q1, q2, and_self, if_true, Bool.not_true, OA_asm, OA_chk, OA_call, OA_callx, OA_loop, OA_both_id, u_asA, u_asC, u_asI, u_asB, u_asS, u_asL, u_asOwn, u_asN, u_asRef0, Option.bind_some, nbeq, Nm_beq_self, decide_true, cond_true, cond_false, List.length_cons, List.length_nil, c_New, d1, k, d, Nat.one_ne_zero]
    · simp only [q, Bool.not_false, cond_true, Bool.false_eq_true, if_false])
theorem c_lRight (x : Lnk) (hx : x.ok) (hs : x.sml) : tbl E0 12 [lnkV x] [] = some ([.bool (lnkS x)], []) :=
  t_lRight x (by
    have c := c_lPrint x hx hs
    simp only [lnkV, lnkC] at c
    simp only [s_lRight, OA_asm, OA_chk, OA_call, OA_callx, OA_loop, OA_both_id, u_asA, u_asC, u_asI, u_asB, u_asS, u_asL, u_asOwn, u_asN, u_asRef0, Option.bind_some, nbeq, Nm_beq_self, decide_true, cond_true, cond_false, OA_join, c]
    simp only [tok_cond, Option.bind_some, Tok.untok_tok]
    have e : ((if lnkS x = true then (0 : Int) else 2) == 0) = lnkS x := by rcases bor (lnkS x) with q | q <;> simp [q]
    simp only [e]
    have k : (bif decide (x.fr < 1) then true else bif decide (x.fr > 65535) then true else (x.fr == x.to.ver)) = true → lnkS x = false := by
      intro h
      unfold lnkS
      by_cases h1 : x.fr < 1
      · have : ¬ (1 ≤ x.fr) := by omega
        simp [this]
      · by_cases h2 : x.fr > 65535
        · have : ¬ (x.fr ≤ 65535) := by omega
          simp [this]
        · simp only [h1, h2, decide_false, cond_false, beq_iff_eq] at h
          simp [h]
    rcases bor (bif decide (x.fr < 1) then true else bif decide (x.fr > 65535) then true else (x.fr == x.to.ver)) with h | h
    · rw [h, k h]; rfl
    · rw [h]; rfl)
theorem c_ylRight (x : Lnk) (hs : x.sml) : tbl E0 13 [lnkV x] [] = some ([.bool (lnkS x)], []) :=
  t_ylRight x (by
    obtain ⟨s1, s2, s3⟩ := hs
    have c1 := c_ysRight x.to s1
    have c2 := r_Rights15 x.on s2.2
    have c3 := r_Rights15 x.back s3.2
    simp only [schV, stpsV] at c1 c2 c3
    simp only [s_ylRight, OA_asm, OA_chk, OA_call, OA_callx, OA_loop, OA_both_id, u_asA, u_asC, u_asI, u_asB, u_asS, u_asL, u_asOwn, u_asN, u_asRef0, Option.bind_some, nbeq, Nm_beq_self, decide_true, cond_true, cond_false, OA_join, c1, c2, c3, rights_beq]
    simp only [tok_cond, Option.bind_some, Tok.untok_tok, cond_ff, lnkS])
theorem c_EqFSL (x y : List Stp) (hl : x.length ≤ 60) (he : x.length = y.length) (hx : ∀ a ∈ x, a.ok ∧ a.sml) (hy : ∀ a ∈ y, a.ok) : ∀ (r r' : List Stp) (i : Nat), x.drop i = r → y.drop i = r' →
    ltbl E0 44 0 4 [stpsV y, .clo 45 [], stpsV x, .int .i64 x.length, .int .i64 i] [] = some (if r = r' then (1, [], []) else (0, [.bool false], [])) := by
  intro r
  induction r with
  | nil =>
    intro r' i hr hr'
    have h : x.length ≤ i := by simpa using hr
    have h3 : r' = [] := by rw [← hr', List.drop_eq_nil_iff]; omega
    have : ¬ ((i : Int) < x.length) := by omega
    subst h3
    exact t_EqFSL _ _ _ _ (by simp [s_EqFSL, this])
  | cons a r ih =>
    intro r' i hr hr'
    obtain ⟨hlt, hget, hr2⟩ := drop_c hr
    have hlt' : i < y.length := by omega
    rw [List.drop_eq_getElem_cons hlt'] at hr'
    subst hr'
    have hg2 : y[i]? = some y[i] := List.getElem?_eq_getElem hlt'
    have hyi := hy y[i] (List.getElem_mem hlt')
    generalize y[i] = g at *
    have h2 : (i : Int) < x.length := by omega
    have e1 := i64_succ (i := i) (by omega)
    have h := ih _ (i + 1) hr2 rfl
    have c := c_tSame a g (hx a (mem_drop hr)).1 hyi (hx a (mem_drop hr)).2
    simp only [stpV, stpC, intsV, fldsV] at c
    refine t_EqFSL _ _ _ _ ?_
    simp only [s_EqFSL, List.length_map, h2, Int.natCast_nonneg, nthE, Int.toNat_natCast, List.getElem?_map, hget, hg2, Option.map_some, OA_asm, OA_chk, OA_call, OA_callx, OA_loop, OA_both_id, u_asA, u_asC, u_asI, u_asB, u_asS, u_asL, u_asOwn, u_asN, u_asRef0, Option.bind_some, nbeq, Nm_beq_self, decide_true, cond_true, cond_false, c, e1]
    by_cases e : a = g
    · simp only [e, decide_true, Bool.not_true, cond_false, h, List.cons.injEq, true_and]
    · simp [e]
theorem c_EqFS (x y : List Stp) (hl : x.length ≤ 60) (hx : ∀ a ∈ x, a.ok ∧ a.sml) (hy : ∀ a ∈ y, a.ok) : tbl E0 44 [stpsV x, stpsV y, .clo 45 []] [] = some ([.bool (decide (x = y))], []) :=
  t_EqFS x y (by
    by_cases he : x.length = y.length
    · have k := c_EqFSL x y hl he hx hy x y 0 rfl rfl
      simp only [Int.natCast_zero] at k
      have h' : ((x.length : Int) != (y.length : Int)) = false := by rw [he]; simp
      simp only [s_EqFS, List.length_map, OA_asm, OA_chk, OA_call, OA_callx, OA_loop, OA_both_id, u_asA, u_asC, u_asI, u_asB, u_asS, u_asL, u_asOwn, u_asN, u_asRef0, Option.bind_some, nbeq, Nm_beq_self, decide_true, cond_true, cond_false, h', k]
      by_cases e2 : x = y <;> simp [e2]
    · have : ¬ (x = y) := fun e => he (by rw [e])
      have h' : ((x.length : Int) != (y.length : Int)) = true := bne_t (by omega)
      simp only [s_EqFS, List.length_map, OA_asm, OA_chk, OA_call, OA_callx, OA_loop, OA_both_id, u_asA, u_asC, u_asI, u_asB, u_asS, u_asL, u_asOwn, u_asN, u_asRef0, Option.bind_some, nbeq, Nm_beq_self, decide_true, cond_true, cond_false, h']
      simp [this])
theorem lnk_eq (x y : Lnk) : decide (x = y) = (x.fr == y.fr && (decide (x.to = y.to) && (decide (x.on = y.on) && decide (x.back = y.back)))) := by
  obtain ⟨a, b, c, d⟩ := x
  obtain ⟨a', b', c', d'⟩ := y
  rw [Bool.eq_iff_iff]
  simp
theorem c_lSame (x y : Lnk) (hx : x.ok) (hy : y.ok) (hs : x.sml) : tbl E0 14 [lnkV x, lnkV y] [] = some ([.bool (decide (x = y))], []) :=
  t_lSame x y (by
    obtain ⟨h1, h2, h3, h4⟩ := hx
    obtain ⟨g1, g2, g3, g4⟩ := hy
    obtain ⟨s1, s2, s3⟩ := hs
    have c1 := c_sSame x.to y.to s1
    have c2 := c_EqFS x.on y.on s2.1 (fun a ha => ⟨h3 a ha, s2.2 a ha⟩) g3
    have c3 := c_EqFS x.back y.back s3.1 (fun a ha => ⟨h4 a ha, s3.2 a ha⟩) g4
    simp only [schV, stpsV] at c1 c2 c3
    simp only [s_lSame, OA_asm, OA_chk, OA_call, OA_callx, OA_loop, OA_both_id, u_asA, u_asC, u_asI, u_asB, u_asS, u_asL, u_asOwn, u_asN, u_asRef0, Option.bind_some, nbeq, Nm_beq_self, decide_true, cond_true, cond_false, OA_join, c1, c2, c3]
    simp only [tok_cond, Option.bind_some, Tok.untok_tok, cond_ff, lnk_eq])
theorem c_ylSame (x y : Lnk) (hs : x.sml) : tbl E0 15 [lnkV x, lnkV y] [] = some ([.bool (decide (x = y))], []) :=
  t_ylSame x y (by
    obtain ⟨s1, s2, s3⟩ := hs
    have c1 := c_ySame x.to y.to s1
    have c2 := c_SameListT x.on y.on (by omega) s2.2
    have c3 := c_SameListT x.back y.back (by omega) s3.2
    simp only [schV, stpsV] at c1 c2 c3
    simp only [s_ylSame, OA_asm, OA_chk, OA_call, OA_callx, OA_loop, OA_both_id, u_asA, u_asC, u_asI, u_asB, u_asS, u_asL, u_asOwn, u_asN, u_asRef0, Option.bind_some, nbeq, Nm_beq_self, decide_true, cond_true, cond_false, OA_join, c1, c2, c3]
    simp only [tok_cond, Option.bind_some, Tok.untok_tok, cond_ff, lnk_eq])
theorem awake21 : tbl E0 11 [] [] = some ([.bool true], []) := tbl_iff.2 ⟨300, by kernel_rfl⟩
theorem c_LinkRight (x y : Lnk) (hx : x.ok) (hy : y.ok) : tbl E0 3 [lnkV x, lnkV y] [] = some ([.bool true], []) :=
  t_LinkRight x y (by
    have g1 := c_lGreat x
    have g2 := c_lGreat y
    simp only [lnkV, lnkC] at g1 g2
    rcases bor (greatK x) with h | h
    · rw [h] at g1
      simp only [s_LinkRight, OA_asm, OA_chk, OA_call, OA_callx, OA_loop, OA_both_id, u_asA, u_asC, u_asI, u_asB, u_asS, u_asL, u_asOwn, u_asN, u_asRef0, Option.bind_some, nbeq, Nm_beq_self, decide_true, cond_true, cond_false, OA_join, g1, awake21, Tok.untok_tok]
    · rw [h] at g1
      rcases bor (greatK y) with h' | h'
      · rw [h'] at g2
        simp only [s_LinkRight, OA_asm, OA_chk, OA_call, OA_callx, OA_loop, OA_both_id, u_asA, u_asC, u_asI, u_asB, u_asS, u_asL, u_asOwn, u_asN, u_asRef0, Option.bind_some, nbeq, Nm_beq_self, decide_true, cond_true, cond_false, OA_join, g1, g2, awake21, Tok.untok_tok]
      · rw [h'] at g2
        have sx := greatK_sml h
        have c1 := c_lRight x hx sx
        have c2 := c_ylRight x sx
        have c3 := c_lSame x y hx hy sx
        have c4 := c_ylSame x y sx
        have c5 := c_lSame x x hx hx sx
        simp only [lnkV, lnkC] at c1 c2 c3 c4 c5
        simp only [s_LinkRight, OA_asm, OA_chk, OA_call, OA_callx, OA_loop, OA_both_id, u_asA, u_asC, u_asI, u_asB, u_asS, u_asL, u_asOwn, u_asN, u_asRef0, Option.bind_some, nbeq, Nm_beq_self, decide_true, cond_true, cond_false, OA_join, g1, g2, c1, c2, c3, c4, c5, beq_self_eq_true, awake21, Tok.untok_tok])
end Go.Proofs.Ythmocicjocjdoaa.V
