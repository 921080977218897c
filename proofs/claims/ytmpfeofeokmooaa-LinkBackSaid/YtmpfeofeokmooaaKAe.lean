/- Links' bytes are as the document says: LinkBack. -/
import Derived.Test.YtmpfeofeokmooaaRows
import Derived.JoinedCond
import Derived.SizedLaws
import Derived.Test.YtmpfeofeokmooaaKAd
set_option linter.unusedVariables false
set_option linter.unusedSimpArgs false
namespace Go.Proofs.Ytmpfeofeokmooaa.V
open Go
theorem c_lGreatL (x : Lnk) : ∀ (r : List Frm) (i : Nat), x.to.forms.drop i = r → i ≤ 41 →
    ltbl E0 13 0 2 [.int .i64 i] [lnkC x] = some (if (r.take (41 - i)).any big then (0, [.bool true], []) else (1, [], [lnkC x])) := by
  intro r
  induction r with
  | nil =>
    intro i hr hi
    have h : x.to.forms.length ≤ i := by simpa using hr
    refine t_lGreatL _ _ ?_
    have : ¬ ((i : Int) < x.to.forms.length) := by omega
    simp [s_lGreatL, this]
  | cons f r ih =>
    intro i hr hi
    obtain ⟨hlt, hget, hr2⟩ := drop_c hr
    have h2 : (i : Int) < x.to.forms.length := by omega
    have e1 := i64_succ (i := i) (by omega)
    refine t_lGreatL _ _ ?_
    by_cases h41 : i < 41
    · have h := ih (i + 1) hr2 (by omega)
      have h3 : (i : Int) < 41 := by omega
      have e2 : 41 - i = (41 - (i + 1)) + 1 := by omega
      rw [e2, List.take_succ_cons, List.any_cons]
      simp only [s_lGreatL, OA_join, OA_asm, List.length_map, h2, h3, decide_true, cond_true, Option.bind_some, Tok.untok_tok, OA_chk, Int.natCast_nonneg, nthE, Int.toNat_natCast, List.getElem?_map, hget, Option.map_some, u_asA, u_asC, u_asI, u_asB, u_asL, u_asN, e1, h]
      by_cases b : 40 < f.fields.length
      · have b' : (f.fields.length : Int) > 40 := by omega
        simp [big, b, b']
      · have b' : ¬ ((f.fields.length : Int) > 40) := by omega
        simp [big, b, b']
    · have h3 : ¬ ((i : Int) < 41) := by omega
      have e2 : 41 - i = 0 := by omega
      simp [s_lGreatL, h2, h3, e2]
def greatK (x : Lnk) : Bool := greatS x.to || (greatT x.on || greatT x.back)
theorem c_lGreat (x : Lnk) : tbl E0 13 [lnkV x] [] = some ([.bool (greatK x)], []) :=
  t_lGreat x (by
    have e := c_lGreatL x x.to.forms 0 rfl (by omega)
    have g1 := c_yGreat x.on
    have g2 := c_yGreat x.back
    simp only [Int.natCast_zero, Nat.sub_zero, lnkC] at e
    simp only [stpsV] at g1 g2
    simp only [s_lGreat, OA_chk, cond_true, OA_loop, e, greatK, greatS]
    by_cases b : ((x.to.forms.take 41).any big) = true
    · simp [b]
    · have b : ((x.to.forms.take 41).any big) = false := by simpa using b
      by_cases c : 40 < x.to.forms.length
      · have c' : (x.to.forms.length : Int) > 40 := by omega
        simp [b, c, c']
      · have c' : ¬ ((x.to.forms.length : Int) > 40) := by omega
        rcases bor (greatT x.on) with q | q
        · simp [b, c, c', g1, q]
        · simp [b, c, c', g1, g2, q])
def Lnk.sml (x : Lnk) : Prop := Sml x.to ∧ (x.on.length ≤ 60 ∧ ∀ s ∈ x.on, s.sml) ∧ x.back.length ≤ 60 ∧ ∀ s ∈ x.back, s.sml
theorem greatK_sml {x : Lnk} (h : greatK x = false) : x.sml := by
  simp only [greatK, Bool.or_eq_false_iff] at h
  exact ⟨sml_of h.1, great_sml h.2.1, great_sml h.2.2⟩
def txtsB (l : List (List UInt8)) : List UInt8 := (l.map txtB).flatten
theorem c_lPrintL (l : List (List UInt8)) (hl : l.length ≤ 3) (hok : ∀ s ∈ l, s.length ≤ 140737488355328) : ∀ (r : List (List UInt8)) (i : Nat) (b : List AV) (e : Int), l.drop i = r → b.length + (txtsB r).length + 10 ≤ 140737488355328 →
    ltbl E0 25 0 10 [.lst .ro 1 (l.map bytesV), .int .i64 l.length, .int .i64 i] [[.lst (.own (.O 1061 0)) 1 b, .int .i64 e]] = some (1, [], [[.lst (.own (.O 1061 0)) 1 (b ++ encB (txtsB r)), .int .i64 e]]) := by
  intro r
  induction r with
  | nil =>
    intro i b e hr hb
    have h : l.length ≤ i := by simpa using hr
    refine t_lPrintL _ _ _ _ _ ?_
    have : ¬ ((i : Int) < l.length) := by omega
    simp [s_lPrintL, this, txtsB, encB_nil]
  | cons s r ih =>
    intro i b e hr hb
    obtain ⟨hlt, hget, hr2⟩ := drop_c hr
    have h2 : (i : Int) < l.length := by omega
    have e1 := i64_succ (i := i) (by omega)
    have hs := hok s (mem_drop hr)
    have et : (txtsB (s :: r)).length = (cnt s.length).length + s.length + (txtsB r).length := by simp [txtsB, txtB, Nat.add_assoc]
    have h := ih (i + 1) (b ++ encB (txtB s)) e hr2 (by rw [List.length_append, encB_length]; unfold txtB; rw [List.length_append]; omega)
    have c := c_PText b s e (by omega)
    simp only [penA] at c
    have eb : b ++ encB (txtsB (s :: r)) = b ++ encB (txtB s) ++ encB (txtsB r) := by simp [txtsB, encB_append]
    refine t_lPrintL _ _ _ _ _ ?_
    rw [eb]
    simp only [s_lPrintL, h2, Int.natCast_nonneg, nthE, Int.toNat_natCast, List.getElem?_map, hget, Option.map_some, orFail, bytesOf_encB, OA_asm, OA_chk, OA_call, OA_callx, OA_loop, OA_both_id, u_asA, u_asC, u_asI, u_asB, u_asS, u_asL, u_asOwn, u_asN, u_asRef0, Option.bind_some, nbeq, Nm_beq_self, decide_true, cond_true, cond_false, c, e1]
    exact h
theorem rights_iff (l : List Stp) : (if 40 < l.length then (7 : Int) else if l.all tRightS = true then 0 else 2) = 0 ↔ rightsS l = true := by
  unfold rightsS
  by_cases h : 40 < l.length
  · have : ¬ (l.length ≤ 40) := by omega
    simp [h, this]
  · have h' : l.length ≤ 40 := by omega
    rcases bor (l.all tRightS) with q | q <;> simp [h, h', q]
theorem rights_beq (l : List Stp) : ((if 40 < l.length then (7 : Int) else if l.all tRightS = true then 0 else 2) == 0) = rightsS l := by
  rw [Bool.eq_iff_iff, beq_iff_eq]
  exact rights_iff l
theorem lstB_len {l : List Stp} (hl : l.length ≤ 60) (h : ∀ x ∈ l, x.ok ∧ tRightS x = true) : (lstB l).length ≤ 400000 := by
  have h7 : (cnt l.length).length ≤ 10 := cnt_len10 (by omega)
  have := stpsB_len l h
  unfold lstB
  rw [List.length_append]
  omega
theorem rights_ok {l : List Stp} (hok : ∀ s ∈ l, s.ok) (h : rightsS l = true) : l.length ≤ 40 ∧ l.all tRightS = true ∧ (∀ x ∈ l, x.ok ∧ tRightS x = true) := by
  simp only [rightsS, Bool.and_eq_true, decide_eq_true_eq] at h
  exact ⟨h.1, h.2, fun x hx => ⟨hok x hx, List.all_eq_true.1 h.2 x hx⟩⟩
theorem lnkB_len {x : Lnk} (hx : x.ok) (hs : x.sml) (h : lnkS x = true) : (lnkB x).length ≤ 2000000 := by
  obtain ⟨h1, h2, h3, h4⟩ := hx
  simp only [lnkS, Bool.and_eq_true, decide_eq_true_eq] at h
  obtain ⟨g1, g2, g3, _, g4, g5⟩ := h
  obtain ⟨p1, p2, p3⟩ := rights_ok h3 g4
  obtain ⟨q1, q2, q3⟩ := rights_ok h4 g5
  have a1 := schB_len h2 g3
  have a2 := lstB_len (by omega) p3
  have a3 := lstB_len (by omega) q3
  have c0 : (cnt x.fr.toNat).length ≤ 10 := cnt_len10 (by omega)
  have c1 : (cnt (schB x.to).length).length ≤ 10 := cnt_len10 (by omega)
  have c2 : (cnt (lstB x.on).length).length ≤ 10 := cnt_len10 (by omega)
  have c3 : (cnt (lstB x.back).length).length ≤ 10 := cnt_len10 (by omega)
  unfold lnkB txtB
  simp only [List.length_append]
  omega
theorem c_lPrint (x : Lnk) (hx : x.ok) (hs : x.sml) : tbl E0 25 [lnkV x] [] = some ([.lst .ro 1 (if lnkS x = true then encB (lnkB x) else []), .int .i64 (if lnkS x = true then 0 else 2)], []) :=
  t_lPrint x (by
    have hx0 := hx
    obtain ⟨h1, h2, h3, h4⟩ := hx
    obtain ⟨s1, s2, s3⟩ := hs
    have c1 := c_sPrint x.to h2 s1
    have c2 := c_tPrint x.on (fun y hy => ⟨h3 y hy, s2.2 y hy⟩)
    have c3 := c_tPrint x.back (fun y hy => ⟨h4 y hy, s3.2 y hy⟩)
    simp only [schV, stpsV] at c1 c2 c3
    have e0 : ((if schS x.to = true then (0 : Int) else 2) == 0) = schS x.to := by rcases bor (schS x.to) with q | q <;> simp [q]
    have er : (bif (if schS x.to = true then (0 : Int) else 2) != 0 then true else bif (if 40 < x.on.length then (7 : Int) else if x.on.all tRightS = true then 0 else 2) != 0 then true else bif (if 40 < x.back.length then (7 : Int) else if x.back.all tRightS = true then 0 else 2) != 0 then true else bif decide (x.fr < 1) then true else bif decide (x.fr > 65535) then true else (x.fr == x.to.ver)) = !lnkS x := by
      simp only [bne, e0, rights_beq, lnkS]
      have k1 : decide (x.fr < 1) = !decide (1 ≤ x.fr) := by rw [← decide_not]; exact decide_eq_decide.2 (by omega)
      have k2 : decide (x.fr > 65535) = !decide (x.fr ≤ 65535) := by rw [← decide_not]; exact decide_eq_decide.2 (by omega)
      have k3 : (x.fr == x.to.ver) = (x.to.ver == x.fr) := by rw [Bool.eq_iff_iff, beq_iff_eq, beq_iff_eq]; exact eq_comm
      rw [k1, k2, k3]
      cases schS x.to <;> cases rightsS x.on <;> cases rightsS x.back <;> cases decide (1 ≤ x.fr) <;> cases decide (x.fr ≤ 65535) <;> cases (x.to.ver == x.fr) <;> rfl
    simp only [s_lPrint, OA_asm, OA_chk, OA_call, OA_callx, OA_loop, OA_both_id, u_asA, u_asC, u_asI, u_asB, u_asS, u_asL, u_asOwn, u_asN, u_asRef0, Option.bind_some, nbeq, Nm_beq_self, decide_true, cond_true, cond_false, OA_join, c1, c2, c3]
    simp only [tok_cond, Option.bind_some, Tok.untok_tok, er]
    rcases bor (lnkS x) with q | q
    · have hlen := lnkB_len hx0 ⟨s1, s2, s3⟩ q
      have q0 := q
      simp only [lnkS, Bool.and_eq_true, decide_eq_true_eq] at q0
      obtain ⟨g1, g2, g3, _, g4, g5⟩ := q0
      obtain ⟨p1, p2, p3⟩ := rights_ok h3 g4
      obtain ⟨q1, q2, q3⟩ := rights_ok h4 g5
      have a1 := schB_len h2 g3
      have a2 := lstB_len (by omega) p3
      have a3 := lstB_len (by omega) q3
      have hc : (cnt x.fr.toNat).length ≤ 10 := cnt_len10 (by omega)
      have d1 := p_Count [] x.fr 0 (by simp) (by omega) h1.2
      simp only [List.nil_append] at d1
      have et : cnt x.fr.toNat ++ txtsB [schB x.to, lstB x.on, lstB x.back] = lnkB x := by simp [txtsB, lnkB]
      have k := c_lPrintL [schB x.to, lstB x.on, lstB x.back] (by simp) (by intro s hs; simp at hs; rcases hs with rfl | rfl | rfl <;> omega) _ 0 (encB (cnt x.fr.toNat)) 0 rfl (by rw [List.drop_zero, encB_length, ← List.length_append, et]; omega)
      rw [← encB_append, List.drop_zero, et] at k
      have d := c_PDone (lnkB x) 0 (by omega)
      simp only [penV, penA, if_true] at d
      simp only [List.map_cons, List.map_nil, bytesV, Int.natCast_zero, List.length_cons, List.length_nil] at k
      simp only [q, g3, p1, p2, q1, q2, and_self, if_true, Bool.not_true, OA_asm, OA_chk, OA_call, OA_callx, OA_loop, OA_both_id, u_asA, u_asC, u_asI, u_asB, u_asS, u_asL, u_asOwn, u_asN, u_asRef0, Option.bind_some, nbeq, Nm_beq_self, decide_true, cond_true, cond_false, List.length_cons, List.length_nil, c_New, d1, k, d, Nat.one_ne_zero]
    · simp only [q, Bool.not_false, cond_true, Bool.false_eq_true, if_false])
theorem c_lRight (x : Lnk) (hx : x.ok) (hs : x.sml) : tbl E0 15 [lnkV x] [] = some ([.bool (lnkS x)], []) :=
  t_lRight x (by
    have c := c_lPrint x hx hs
    simp only [lnkV, lnkC] at c
    simp only [s_lRight, OA_asm, OA_chk, OA_call, OA_callx, OA_loop, OA_both_id, u_asA, u_asC, u_asI, u_asB, u_asS, u_asL, u_asOwn, u_asN, u_asRef0, Option.bind_some, nbeq, Nm_beq_self, decide_true, cond_true, cond_false, OA_join, c]
    simp only [tok_cond, Option.bind_some, Tok.untok_tok]
    have e : ((if lnkS x = true then (0 : Int) else 2) == 0) = lnkS x := by rcases bor (lnkS x) with q | q <;> simp [q]
    simp only [e]
    have k : (bif decide (x.fr < 1) then true else bif decide (x.fr > 65535) then true else (x.fr == x.to.ver)) = true → lnkS x = false := by
      intro h
      unfold lnkS
      by_cases h1 : x.fr < 1
      · have : ¬ (1 ≤ x.fr) := by omega
        simp [this]
      · by_cases h2 : x.fr > 65535
        · have : ¬ (x.fr ≤ 65535) := by omega
          simp [this]
        · simp only [h1, h2, decide_false, cond_false, beq_iff_eq] at h
          simp [h]
    rcases bor (bif decide (x.fr < 1) then true else bif decide (x.fr > 65535) then true else (x.fr == x.to.ver)) with h | h
    · rw [h, k h]; rfl
    · rw [h]; rfl)
theorem lnk_eq (x y : Lnk) : decide (x = y) = (x.fr == y.fr && (decide (x.to = y.to) && (decide (x.on = y.on) && decide (x.back = y.back)))) := by
  obtain ⟨a, b, c, d⟩ := x
  obtain ⟨a', b', c', d'⟩ := y
  rw [Bool.eq_iff_iff]
  simp
theorem c_ylSame (x y : Lnk) (hs : x.sml) : tbl E0 18 [lnkV x, lnkV y] [] = some ([.bool (decide (x = y))], []) :=
  t_ylSame x y (by
    obtain ⟨s1, s2, s3⟩ := hs
    have c1 := c_ySame x.to y.to s1
    have c2 := c_SameListT x.on y.on (by omega) s2.2
    have c3 := c_SameListT x.back y.back (by omega) s3.2
    simp only [schV, stpsV] at c1 c2 c3
    simp only [s_ylSame, OA_asm, OA_chk, OA_call, OA_callx, OA_loop, OA_both_id, u_asA, u_asC, u_asI, u_asB, u_asS, u_asL, u_asOwn, u_asN, u_asRef0, Option.bind_some, nbeq, Nm_beq_self, decide_true, cond_true, cond_false, OA_join, c1, c2, c3]
    simp only [tok_cond, Option.bind_some, Tok.untok_tok, cond_ff, lnk_eq])
theorem awake21 : tbl E0 14 [] [] = some ([.bool true], []) := tbl_iff.2 ⟨300, by kernel_rfl⟩
end Go.Proofs.Ytmpfeofeokmooaa.V
namespace Go.Proofs.Ytmpfeofeokmooaa.V
open Go
def Man.sml (x : Man) : Prop := Sml x.sch ∧ x.links.length ≤ 12 ∧ ∀ l ∈ x.links, l.sml
end Go.Proofs.Ytmpfeofeokmooaa.V
namespace Go.Proofs.Ytmpfeofeokmooaa.V
open Go
theorem cnt_le2 {u : Nat} (h : u < 16384) : (cnt u).length ≤ 2 := cnt_len 1 u (by omega)
theorem fldW_len2 {x : Fld} (hx : x.ok) (hr : rgtS x = true) : (fldW x).length ≤ 26 := by
  have r := rgt_rng hr
  obtain ⟨_, ⟨_, _⟩, ⟨_, _⟩, ⟨_, _⟩, ⟨_, _⟩⟩ := hx
  have h1 : (cnt x.id.toNat).length ≤ 2 := cnt_le2 (by omega)
  have h2 : (cnt x.kind.toNat).length ≤ 2 := cnt_le2 (by omega)
  have h3 : (cnt (zz x.lo)).length ≤ 10 := cnt_len10 (zz_lt (by omega) (by omega))
  have h4 : (cnt (zz x.hi)).length ≤ 10 := cnt_len10 (zz_lt (by omega) (by omega))
  have h5 : (cnt x.most.toNat).length ≤ 2 := cnt_le2 (by omega)
  unfold fldW
  simp only [List.length_append]
  omega
theorem intsB_len2 : ∀ (l : List Int), (∀ n ∈ l, 0 ≤ n ∧ n ≤ 1000) → (intsB l).length ≤ 2 * l.length
  | [], _ => by simp [intsB]
  | n :: l, h => by
    have h1 : (cnt n.toNat).length ≤ 2 := cnt_le2 (by have := h n (by simp); omega)
    have h2 := intsB_len2 l (fun g hg => h g (by simp [hg]))
    have e : intsB (n :: l) = cnt n.toNat ++ intsB l := by simp [intsB]
    rw [e, List.length_append, List.length_cons]
    omega
theorem fldsW_len2 : ∀ (l : List Fld), FldsOK l → (fldsW l).length ≤ 26 * l.length
  | [], _ => by simp [fldsW]
  | n :: l, h => by
    have h1 := fldW_len2 (h n (by simp)).1 (h n (by simp)).2
    have h2 := fldsW_len2 l (fun g hg => h g (by simp [hg]))
    have e : fldsW (n :: l) = fldW n ++ fldsW l := by simp [fldsW]
    rw [e, List.length_append, List.length_cons]
    omega
theorem prtB_len2 {x : Stp} (hx : x.ok) {p : Int} (hp : Fits x p) : (prtB x p).length ≤ 220 := by
  have hx0 := hx
  obtain ⟨h1, h2, h3, h4, h5, h6, h7, h8, h9, h10, h11⟩ := hx
  have hp0 := hp
  obtain ⟨hr, hf, hb⟩ := hp
  rcases pr_cases hr with rfl | rfl | rfl | rfl | rfl | rfl | rfl | rfl | rfl | rfl <;> simp only [prtB, if_true, Int.reduceEq, if_false, List.length_append]
  · have := cnt10 h2.2; omega
  · have := cnt10 h3.2; omega
  · have := cnt10 h4.2; omega
  · have := cnt10 h5.2; omega
  · have := cnt10 h6.2; omega
  · have := zz_l h6; have := zz_l h7; omega
  · simp [fitsS] at hf
    have := fldW_len2 h8 hf.1; omega
  · have := fits_s hf
    have := zz_l h9
    have : (cnt x.s.length).length ≤ 10 := cnt_len10 (by omega)
    omega
  · obtain ⟨g1, g2⟩ := fits_t hp0
    have := intsB_len2 x.t g1
    have : (cnt x.t.length).length ≤ 10 := cnt_len10 (by omega)
    omega
  · obtain ⟨g1, g2⟩ := fits_flds hx0 hf
    have := fldsW_len2 x.fields g2
    have : (cnt x.fields.length).length ≤ 2 := cnt_le2 (by omega)
    omega
theorem prtsB_len2 {x : Stp} (hx : x.ok) : ∀ (l : List Int), (∀ p ∈ l, Fits x p) → (prtsB x l).length ≤ 220 * l.length
  | [], _ => by simp [prtsB]
  | p :: l, h => by
    have h1 := prtB_len2 hx (h p (by simp))
    have h2 := prtsB_len2 hx l (fun g hg => h g (by simp [hg]))
    have e : prtsB x (p :: l) = prtB x p ++ prtsB x l := by simp [prtsB]
    rw [e, List.length_append, List.length_cons]
    omega
theorem stpB_len2 {x : Stp} (hx : x.ok) (hr : tRightS x = true) : (stpB x).length ≤ 1110 := by
  obtain ⟨h1, h2, _⟩ := right_fits hr
  have h3 := prtsB_len2 hx _ h1
  have h4 := uses_len x.op
  have h5 := ops_rng h2
  have h6 : (cnt x.op.toNat).length ≤ 10 := cnt_len10 (by omega)
  unfold stpB
  rw [List.length_append]
  omega
theorem stpsB_len2 : ∀ (l : List Stp), (∀ x ∈ l, x.ok ∧ tRightS x = true) → (stpsB l).length ≤ 1110 * l.length
  | [], _ => by simp [stpsB]
  | x :: l, h => by
    have h1 := stpB_len2 (h x (by simp)).1 (h x (by simp)).2
    have h2 := stpsB_len2 l (fun g hg => h g (by simp [hg]))
    rw [stpsB_cons, List.length_append, List.length_cons]
    omega
theorem lstB_len2 {l : List Stp} (hl : l.length ≤ 40) (h : ∀ x ∈ l, x.ok ∧ tRightS x = true) : (lstB l).length ≤ 44410 := by
  have h7 : (cnt l.length).length ≤ 10 := cnt_len10 (by omega)
  have := stpsB_len2 l h
  unfold lstB
  rw [List.length_append]
  omega
theorem lnkS_parts {x : Lnk} (hx : x.ok) (h : lnkS x = true) : (1 ≤ x.fr ∧ x.fr ≤ 65535) ∧ schS x.to = true ∧ (x.on.length ≤ 40 ∧ ∀ s ∈ x.on, s.ok ∧ tRightS s = true) ∧ (x.back.length ≤ 40 ∧ ∀ s ∈ x.back, s.ok ∧ tRightS s = true) := by
  obtain ⟨h1, h2, h3, h4⟩ := hx
  simp only [lnkS, Bool.and_eq_true, decide_eq_true_eq] at h
  obtain ⟨g1, g2, g3, _, g4, g5⟩ := h
  obtain ⟨p1, p2, p3⟩ := rights_ok h3 g4
  obtain ⟨q1, q2, q3⟩ := rights_ok h4 g5
  exact ⟨⟨g1, g2⟩, g3, ⟨p1, p3⟩, ⟨q1, q3⟩⟩
theorem lnkB_len2 {x : Lnk} (hx : x.ok) (h : lnkS x = true) : (lnkB x).length ≤ 93000 := by
  obtain ⟨⟨g1, g2⟩, g3, ⟨p1, p2⟩, ⟨q1, q2⟩⟩ := lnkS_parts hx h
  have a1 := schB_len hx.2.1 g3
  have a2 := lstB_len2 p1 p2
  have a3 := lstB_len2 q1 q2
  have c0 : (cnt x.fr.toNat).length ≤ 10 := cnt_len10 (by omega)
  have c1 : (cnt (schB x.to).length).length ≤ 10 := cnt_len10 (by omega)
  have c2 : (cnt (lstB x.on).length).length ≤ 10 := cnt_len10 (by omega)
  have c3 : (cnt (lstB x.back).length).length ≤ 10 := cnt_len10 (by omega)
  unfold lnkB txtB
  simp only [List.length_append]
  omega
def lnk0 : Lnk := ⟨0, ⟨0, []⟩, [], []⟩
def qK (b : List UInt8) : St := (cS (b, 0) 65535).2
def qK1 (b : List UInt8) : St := (xS (qK b) 131072).2
def qK2 (b : List UInt8) : St := (xS (qK1 b) 131072).2
def qK3 (b : List UInt8) : St := (xS (qK2 b) 131072).2
def txK1 (b : List UInt8) : List UInt8 := (xS (qK b) 131072).1
def txK2 (b : List UInt8) : List UInt8 := (xS (qK1 b) 131072).1
def txK3 (b : List UInt8) : List UInt8 := (xS (qK2 b) 131072).1
def tkLnk (b : List UInt8) : Lnk := ⟨(cS (b, 0) 65535).1, (parS (txK1 b)).1, (parT (txK2 b)).1, (parT (txK3 b)).1⟩
def errK (b : List UInt8) : Int :=
  if endS (qK3 b).1 (qK3 b).2 ≠ 0 then endS (qK3 b).1 (qK3 b).2
  else if (parS (txK1 b)).2 ≠ 0 then (parS (txK1 b)).2
  else if (parT (txK2 b)).2 ≠ 0 then (parT (txK2 b)).2
  else if (parT (txK3 b)).2 ≠ 0 then (parT (txK3 b)).2
  else if lnkS (tkLnk b) = true then 0 else 2
def parK (b : List UInt8) : Lnk × Int := if errK b = 0 then (tkLnk b, 0) else (lnk0, errK b)
theorem endS_eq0 {b : List UInt8} {e : Int} (h : endS b e = 0) : e = 0 ∧ b = [] := by
  unfold endS at h
  split at h
  · rename_i he; exact absurd h (by simpa using he)
  · split at h
    · rename_i he hb; exact ⟨by simpa using he, hb⟩
    · cases h
theorem parK_lnkB (x : Lnk) (hx : x.ok) (h : lnkS x = true) : parK (lnkB x) = (x, 0) := by
  obtain ⟨⟨g1, g2⟩, g3, ⟨p1, p2⟩, ⟨q1, q2⟩⟩ := lnkS_parts hx h
  have a1 := schB_len hx.2.1 g3
  have a2 := lstB_len2 p1 p2
  have a3 := lstB_len2 q1 q2
  have e0 : cS (lnkB x, 0) 65535 = (x.fr, (txtB (schB x.to) ++ (txtB (lstB x.on) ++ txtB (lstB x.back)), 0)) := by
    unfold lnkB
    exact cS_cnt (by omega) (by omega) (by omega) _
  have e1 : xS (txtB (schB x.to) ++ (txtB (lstB x.on) ++ txtB (lstB x.back)), 0) 131072 = (schB x.to, (txtB (lstB x.on) ++ txtB (lstB x.back), 0)) := by
    have := xS_cnt (s := schB x.to) (m := 131072) (by omega) (by omega) (txtB (lstB x.on) ++ txtB (lstB x.back))
    simpa [txtB] using this
  have e2 : xS (txtB (lstB x.on) ++ txtB (lstB x.back), 0) 131072 = (lstB x.on, (txtB (lstB x.back), 0)) := by
    have := xS_cnt (s := lstB x.on) (m := 131072) (by omega) (by omega) (txtB (lstB x.back))
    simpa [txtB] using this
  have e3 : xS (txtB (lstB x.back), 0) 131072 = (lstB x.back, ([], 0)) := by
    have := xS_cnt (s := lstB x.back) (m := 131072) (by omega) (by omega) []
    simpa [txtB] using this
  have f0 : qK (lnkB x) = (txtB (schB x.to) ++ (txtB (lstB x.on) ++ txtB (lstB x.back)), 0) := by unfold qK; rw [e0]
  have f1 : txK1 (lnkB x) = schB x.to := by unfold txK1; rw [f0, e1]
  have f2 : qK1 (lnkB x) = (txtB (lstB x.on) ++ txtB (lstB x.back), 0) := by unfold qK1; rw [f0, e1]
  have f3 : txK2 (lnkB x) = lstB x.on := by unfold txK2; rw [f2, e2]
  have f4 : qK2 (lnkB x) = (txtB (lstB x.back), 0) := by unfold qK2; rw [f2, e2]
  have f5 : txK3 (lnkB x) = lstB x.back := by unfold txK3; rw [f4, e3]
  have f6 : qK3 (lnkB x) = ([], 0) := by unfold qK3; rw [f4, e3]
  have k1 := parS_schB x.to hx.2.1 g3
  have k2 := parT_lstB x.on p1 p2
  have k3 := parT_lstB x.back q1 q2
  have k4 : tkLnk (lnkB x) = x := by unfold tkLnk; rw [e0, f1, f3, f5, k1, k2, k3]
  have k5 : errK (lnkB x) = 0 := by unfold errK; rw [f6, f1, f3, f5, k1, k2, k3, k4, h]; simp [endS]
  unfold parK
  rw [k5, k4]
  rfl
theorem errK_0 {b : List UInt8} (h : errK b = 0) : endS (qK3 b).1 (qK3 b).2 = 0 ∧ (parS (txK1 b)).2 = 0 ∧ (parT (txK2 b)).2 = 0 ∧ (parT (txK3 b)).2 = 0 ∧ lnkS (tkLnk b) = true := by
  unfold errK at h
  by_cases h1 : endS (qK3 b).1 (qK3 b).2 = 0
  · rw [if_neg (by simpa using h1)] at h
    by_cases h2 : (parS (txK1 b)).2 = 0
    · rw [if_neg (by simpa using h2)] at h
      by_cases h3 : (parT (txK2 b)).2 = 0
      · rw [if_neg (by simpa using h3)] at h
        by_cases h4 : (parT (txK3 b)).2 = 0
        · rw [if_neg (by simpa using h4)] at h
          by_cases h5 : lnkS (tkLnk b) = true
          · exact ⟨h1, h2, h3, h4, h5⟩
          · rw [if_neg h5] at h; cases h
        · rw [if_pos h4] at h; exact absurd h h4
      · rw [if_pos h3] at h; exact absurd h h3
    · rw [if_pos h2] at h; exact absurd h h2
  · rw [if_pos h1] at h; exact absurd h h1
theorem parK_err (b : List UInt8) : (parK b).2 = errK b := by
  unfold parK
  by_cases h : errK b = 0 <;> simp [h]
theorem parK_inv {b : List UInt8} (h : (parK b).2 = 0) : lnkS (parK b).1 = true ∧ lnkB (parK b).1 = b := by
  rw [parK_err] at h
  obtain ⟨h1, h2, h3, h4, h5⟩ := errK_0 h
  unfold parK
  rw [if_pos h]
  refine ⟨h5, ?_⟩
  obtain ⟨s1, s2⟩ := endS_eq0 h1
  obtain ⟨a1, a2⟩ := xS_inv (q := qK2 b) s1
  obtain ⟨b1, b2⟩ := xS_inv (q := qK1 b) a1
  obtain ⟨c1, c2⟩ := xS_inv (q := qK b) b1
  obtain ⟨d1, d2⟩ := cS_inv (q := (b, 0)) c1
  obtain ⟨_, u1⟩ := parS_inv h2
  obtain ⟨_, _, u2⟩ := parT_inv h3
  obtain ⟨_, _, u3⟩ := parT_inv h4
  have a3 : (qK2 b).1 = txtB (txK3 b) := by
    rw [a2]
    change cnt (txK3 b).length ++ (txK3 b ++ (qK3 b).1) = _
    rw [s2, List.append_nil]
    rfl
  have b3 : (qK1 b).1 = txtB (txK2 b) ++ txtB (txK3 b) := by
    rw [b2]
    change cnt (txK2 b).length ++ (txK2 b ++ (qK2 b).1) = _
    rw [a3, ← List.append_assoc]
    rfl
  have c3 : (qK b).1 = txtB (txK1 b) ++ (txtB (txK2 b) ++ txtB (txK3 b)) := by
    rw [c2]
    change cnt (txK1 b).length ++ (txK1 b ++ (qK1 b).1) = _
    rw [b3, ← List.append_assoc]
    rfl
  have d3 : b = cnt (cS (b, 0) 65535).1.toNat ++ (txtB (txK1 b) ++ (txtB (txK2 b) ++ txtB (txK3 b))) := by
    rw [← c3]
    exact d2
  conv => rhs; rw [d3]
  unfold lnkB tkLnk
  simp only
  rw [u1, u2, u3]
theorem xS_ok (q : St) (m : Int) (h : q.1.length ≤ 140737488355328) : (xS q m).1.length ≤ 140737488355328 := by
  have h1 := countS_len q.1 q.2 m
  unfold xS textS takeS
  dsimp only
  split
  · simp
  · split
    · simp
    · rw [List.length_take]; omega
theorem tkLnk_ok (b : List UInt8) : (tkLnk b).ok ∧ (tkLnk b).sml := by
  have h1 := parS_ok (txK1 b)
  have h2 := parT_ok (txK2 b)
  have h3 := parT_ok (txK3 b)
  have h4 := parS_sml (txK1 b)
  have r := cS_rng (b, 0) (m := 65535) (by omega)
  refine ⟨⟨?_, h1, fun s hs => (h2.1 s hs).1, fun s hs => (h3.1 s hs).1⟩, h4, ⟨?_, fun s hs => (h2.1 s hs).2⟩, ?_, fun s hs => (h3.1 s hs).2⟩
  · change i64 (cS (b, 0) 65535).1
    unfold i64
    omega
  · change (parT (txK2 b)).1.length ≤ 60
    omega
  · change (parT (txK3 b)).1.length ≤ 60
    omega
theorem parK_ok (b : List UInt8) : (parK b).1.ok ∧ (parK b).1.sml := by
  unfold parK
  split
  · exact tkLnk_ok b
  · refine ⟨⟨by simp [lnk0, i64], ⟨by simp [lnk0, i64], by simp [lnk0]⟩, by simp [lnk0], by simp [lnk0]⟩, ?_⟩
    refine ⟨by simp [lnk0, Sml], by simp [lnk0], by simp [lnk0]⟩
end Go.Proofs.Ytmpfeofeokmooaa.V
namespace Go.Proofs.Ytmpfeofeokmooaa.V
open Go
open AV (int lst agg str bool ref clo)
open List (map)
def s_lParse {α : Type} (A : Alg α) (b : List UInt8) (kc : List AV → List (Nat × List AV) → α) : α :=
  A.call 62 [lst .ro 1 (encB b)] [] fun l0 l1 => asC A l0 fun v2 l3 => asRef0 A v2 fun o4 => bif (o4.beq 64) then (asC A l1 fun x5 l6 => bif (x5.1.beq 64) then (asC A x5.2 fun v7 l8 => asL A 1 v7 fun l9 => asC A l8 fun v10 l11 => asI A .i64 v10 fun n12 => asN A l11 (asN A l3 (asN A l6 (A.call 63 [ref 0 0, int .i64 65535] [(0, [lst .ro 1 l9, int .i64 n12])] fun l13 l14 => asC A l14 fun x15 l16 => bif (x15.1.beq 0) then (asC A x15.2 fun v17 l18 => asL A 1 v17 fun l19 => asC A l18 fun v20 l21 => asI A .i64 v20 fun n22 => asN A l21 (asC A l13 fun v23 l24 => asI A .i64 v23 fun n25 => asN A l24 (asN A l16 (A.chk true (A.chk true (A.chk true (A.call 64 [ref 0 0, int .i64 131072] [(0, [lst .ro 1 l19, int .i64 n22])] fun l26 l27 => asC A l27 fun x28 l29 => bif (x28.1.beq 0) then (asC A x28.2 fun v30 l31 => asL A 1 v30 fun l32 => asC A l31 fun v33 l34 => asI A .i64 v33 fun n35 => asN A l34 (asC A l26 fun v36 l37 => asS A v36 fun l38 => asN A l37 (asN A l29 (A.chk true (A.chk true (A.call 64 [ref 0 0, int .i64 131072] [(0, [lst .ro 1 l32, int .i64 n35])] fun l39 l40 => asC A l40 fun x41 l42 => bif (x41.1.beq 0) then (asC A x41.2 fun v43 l44 => asL A 1 v43 fun l45 => asC A l44 fun v46 l47 => asI A .i64 v46 fun n48 => asN A l47 (asC A l39 fun v49 l50 => asS A v49 fun l51 => asN A l50 (asN A l42 (A.chk true (A.chk true (A.call 64 [ref 0 0, int .i64 131072] [(0, [lst .ro 1 l45, int .i64 n48])] fun l52 l53 => asC A l53 fun x54 l55 => bif (x54.1.beq 0) then (asC A x54.2 fun v56 l57 => asL A 1 v56 fun l58 => asC A l57 fun v59 l60 => asI A .i64 v59 fun n61 => asN A l60 (asC A l52 fun v62 l63 => asS A v62 fun l64 => asN A l63 (asN A l55 (A.chk true (A.chk true (A.call 65 [ref 0 0] [(0, [lst .ro 1 l58, int .i64 n61])] fun l65 l66 => asC A l66 fun x67 l68 => bif (x67.1.beq 0) then (asC A x67.2 fun v69 l70 => asL A 1 v69 fun l71 => asC A l70 fun v72 l73 => asI A .i64 v72 fun n74 => asN A l73 (asC A l65 fun v75 l76 => asI A .i64 v75 fun n77 => asN A l76 (asN A l68 (bif (n77 == (0 : Int)) then (A.chk true (A.callx 66 [lst .ro 1 (encB l38)] fun l78 => asC A l78 fun v79 l80 => asA A v79 fun l81 => asC A l81 fun v82 l83 => asI A .i64 v82 fun n84 => asC A l83 fun v85 l86 => asL A 2 v85 fun l87 => asN A l86 (asC A l80 fun v88 l89 => asI A .i64 v88 fun n90 => asN A l89 (A.chk true (A.chk true (A.asm ((2 : Nat) ≤ maxL) (A.chk true (bif (n90 == (0 : Int)) then (A.chk true (A.callx 67 [lst .ro 1 (encB l51)] fun l91 => asC A l91 fun v92 l93 => asL A 16 v92 fun l94 => asC A l93 fun v95 l96 => asI A .i64 v95 fun n97 => asN A l96 (A.chk true (A.chk true (bif (n97 == (0 : Int)) then (A.chk true (A.callx 67 [lst .ro 1 (encB l64)] fun l98 => asC A l98 fun v99 l100 => asL A 16 v99 fun l101 => asC A l100 fun v102 l103 => asI A .i64 v102 fun n104 => asN A l103 (A.chk true (A.join (fun x105 => bif (n104 == (0 : Int)) then (A.chk true (A.callx 15 [agg [int .i64 n25, int .i64 n84, lst .ro 2 l87, lst .ro 16 l94, lst .ro 16 l101]] fun l106 => asC A l106 fun v107 l108 => asB A v107 fun b109 => asN A l108 (x105 (!b109)))) else (x105 false)) fun b110 => bif b110 then (A.chk true (A.chk true (A.chk true (kc [agg [int .i64 0, int .i64 0, lst .ro 2 [], lst .ro 16 [], lst .ro 16 []], int .i64 2] [])))) else (bif (n104 != (0 : Int)) then (A.chk true (A.chk true (A.chk true (kc [agg [int .i64 0, int .i64 0, lst .ro 2 [], lst .ro 16 [], lst .ro 16 []], int .i64 n104] [])))) else (A.chk true (A.chk true (A.chk true (A.chk true (kc [agg [int .i64 n25, int .i64 n84, lst .ro 2 l87, lst .ro 16 l94, lst .ro 16 l101], int .i64 0] [])))))))))) else (A.join (fun x111 => bif (n97 == (0 : Int)) then (A.chk true (A.callx 15 [agg [int .i64 n25, int .i64 n84, lst .ro 2 l87, lst .ro 16 l94, lst .ro 16 []]] fun l112 => asC A l112 fun v113 l114 => asB A v113 fun b115 => asN A l114 (x111 (!b115)))) else (x111 false)) fun b116 => bif b116 then (A.chk true (A.chk true (A.chk true (kc [agg [int .i64 0, int .i64 0, lst .ro 2 [], lst .ro 16 [], lst .ro 16 []], int .i64 2] [])))) else (bif (n97 != (0 : Int)) then (A.chk true (A.chk true (A.chk true (kc [agg [int .i64 0, int .i64 0, lst .ro 2 [], lst .ro 16 [], lst .ro 16 []], int .i64 n97] [])))) else (A.chk true (A.chk true (A.chk true (A.chk true (kc [agg [int .i64 n25, int .i64 n84, lst .ro 2 l87, lst .ro 16 l94, lst .ro 16 []], int .i64 0] [])))))))))))) else (A.chk true (bif (n90 == (0 : Int)) then (A.chk true (A.callx 67 [lst .ro 1 (encB l64)] fun l117 => asC A l117 fun v118 l119 => asL A 16 v118 fun l120 => asC A l119 fun v121 l122 => asI A .i64 v121 fun n123 => asN A l122 (A.chk true (A.join (fun x124 => bif (n123 == (0 : Int)) then (A.chk true (A.callx 15 [agg [int .i64 n25, int .i64 n84, lst .ro 2 l87, lst .ro 16 [], lst .ro 16 l120]] fun l125 => asC A l125 fun v126 l127 => asB A v126 fun b128 => asN A l127 (x124 (!b128)))) else (x124 false)) fun b129 => bif b129 then (A.chk true (A.chk true (A.chk true (kc [agg [int .i64 0, int .i64 0, lst .ro 2 [], lst .ro 16 [], lst .ro 16 []], int .i64 2] [])))) else (bif (n123 != (0 : Int)) then (A.chk true (A.chk true (A.chk true (kc [agg [int .i64 0, int .i64 0, lst .ro 2 [], lst .ro 16 [], lst .ro 16 []], int .i64 n123] [])))) else (A.chk true (A.chk true (A.chk true (A.chk true (kc [agg [int .i64 n25, int .i64 n84, lst .ro 2 l87, lst .ro 16 [], lst .ro 16 l120], int .i64 0] [])))))))))) else (A.join (fun x130 => bif (n90 == (0 : Int)) then (A.chk true (A.callx 15 [agg [int .i64 n25, int .i64 n84, lst .ro 2 l87, lst .ro 16 [], lst .ro 16 []]] fun l131 => asC A l131 fun v132 l133 => asB A v132 fun b134 => asN A l133 (x130 (!b134)))) else (x130 false)) fun b135 => bif b135 then (A.chk true (A.chk true (A.chk true (kc [agg [int .i64 0, int .i64 0, lst .ro 2 [], lst .ro 16 [], lst .ro 16 []], int .i64 2] [])))) else (bif (n90 != (0 : Int)) then (A.chk true (A.chk true (A.chk true (kc [agg [int .i64 0, int .i64 0, lst .ro 2 [], lst .ro 16 [], lst .ro 16 []], int .i64 n90] [])))) else (A.chk true (A.chk true (A.chk true (A.chk true (kc [agg [int .i64 n25, int .i64 n84, lst .ro 2 l87, lst .ro 16 [], lst .ro 16 []], int .i64 0] []))))))))))))))))) else (A.asm ((2 : Nat) ≤ maxL) (A.chk true (bif (n77 == (0 : Int)) then (A.chk true (A.callx 67 [lst .ro 1 (encB l51)] fun l136 => asC A l136 fun v137 l138 => asL A 16 v137 fun l139 => asC A l138 fun v140 l141 => asI A .i64 v140 fun n142 => asN A l141 (A.chk true (A.chk true (bif (n142 == (0 : Int)) then (A.chk true (A.callx 67 [lst .ro 1 (encB l64)] fun l143 => asC A l143 fun v144 l145 => asL A 16 v144 fun l146 => asC A l145 fun v147 l148 => asI A .i64 v147 fun n149 => asN A l148 (A.chk true (A.join (fun x150 => bif (n149 == (0 : Int)) then (A.chk true (A.callx 15 [agg [int .i64 n25, int .i64 0, lst .ro 2 [], lst .ro 16 l139, lst .ro 16 l146]] fun l151 => asC A l151 fun v152 l153 => asB A v152 fun b154 => asN A l153 (x150 (!b154)))) else (x150 false)) fun b155 => bif b155 then (A.chk true (A.chk true (A.chk true (kc [agg [int .i64 0, int .i64 0, lst .ro 2 [], lst .ro 16 [], lst .ro 16 []], int .i64 2] [])))) else (bif (n149 != (0 : Int)) then (A.chk true (A.chk true (A.chk true (kc [agg [int .i64 0, int .i64 0, lst .ro 2 [], lst .ro 16 [], lst .ro 16 []], int .i64 n149] [])))) else (A.chk true (A.chk true (A.chk true (A.chk true (kc [agg [int .i64 n25, int .i64 0, lst .ro 2 [], lst .ro 16 l139, lst .ro 16 l146], int .i64 0] [])))))))))) else (A.join (fun x156 => bif (n142 == (0 : Int)) then (A.chk true (A.callx 15 [agg [int .i64 n25, int .i64 0, lst .ro 2 [], lst .ro 16 l139, lst .ro 16 []]] fun l157 => asC A l157 fun v158 l159 => asB A v158 fun b160 => asN A l159 (x156 (!b160)))) else (x156 false)) fun b161 => bif b161 then (A.chk true (A.chk true (A.chk true (kc [agg [int .i64 0, int .i64 0, lst .ro 2 [], lst .ro 16 [], lst .ro 16 []], int .i64 2] [])))) else (bif (n142 != (0 : Int)) then (A.chk true (A.chk true (A.chk true (kc [agg [int .i64 0, int .i64 0, lst .ro 2 [], lst .ro 16 [], lst .ro 16 []], int .i64 n142] [])))) else (A.chk true (A.chk true (A.chk true (A.chk true (kc [agg [int .i64 n25, int .i64 0, lst .ro 2 [], lst .ro 16 l139, lst .ro 16 []], int .i64 0] [])))))))))))) else (A.chk true (bif (n77 == (0 : Int)) then (A.chk true (A.callx 67 [lst .ro 1 (encB l64)] fun l162 => asC A l162 fun v163 l164 => asL A 16 v163 fun l165 => asC A l164 fun v166 l167 => asI A .i64 v166 fun n168 => asN A l167 (A.chk true (A.join (fun x169 => bif (n168 == (0 : Int)) then (A.chk true (A.callx 15 [agg [int .i64 n25, int .i64 0, lst .ro 2 [], lst .ro 16 [], lst .ro 16 l165]] fun l170 => asC A l170 fun v171 l172 => asB A v171 fun b173 => asN A l172 (x169 (!b173)))) else (x169 false)) fun b174 => bif b174 then (A.chk true (A.chk true (A.chk true (kc [agg [int .i64 0, int .i64 0, lst .ro 2 [], lst .ro 16 [], lst .ro 16 []], int .i64 2] [])))) else (bif (n168 != (0 : Int)) then (A.chk true (A.chk true (A.chk true (kc [agg [int .i64 0, int .i64 0, lst .ro 2 [], lst .ro 16 [], lst .ro 16 []], int .i64 n168] [])))) else (A.chk true (A.chk true (A.chk true (A.chk true (kc [agg [int .i64 n25, int .i64 0, lst .ro 2 [], lst .ro 16 [], lst .ro 16 l165], int .i64 0] [])))))))))) else (A.join (fun x175 => bif (n77 == (0 : Int)) then (A.chk true (A.callx 15 [agg [int .i64 n25, int .i64 0, lst .ro 2 [], lst .ro 16 [], lst .ro 16 []]] fun l176 => asC A l176 fun v177 l178 => asB A v177 fun b179 => asN A l178 (x175 (!b179)))) else (x175 false)) fun b180 => bif b180 then (A.chk true (A.chk true (A.chk true (kc [agg [int .i64 0, int .i64 0, lst .ro 2 [], lst .ro 16 [], lst .ro 16 []], int .i64 2] [])))) else (bif (n77 != (0 : Int)) then (A.chk true (A.chk true (A.chk true (kc [agg [int .i64 0, int .i64 0, lst .ro 2 [], lst .ro 16 [], lst .ro 16 []], int .i64 n77] [])))) else (A.chk true (A.chk true (A.chk true (A.chk true (kc [agg [int .i64 n25, int .i64 0, lst .ro 2 [], lst .ro 16 [], lst .ro 16 []], int .i64 0] [])))))))))))))))) else A.fail)))))) else A.fail)))))) else A.fail)))))) else A.fail))))))) else A.fail)))) else A.fail) else A.fail
def s_LinkBack {α : Type} (A : Alg α) (x : Lnk) (b : List UInt8) (kc : List AV → List (Nat × List AV) → α) : α :=
  A.chk true (A.chk true (A.callx 13 [agg [int .i64 x.fr, int .i64 x.to.ver, lst .ro 2 (map frmV x.to.forms), lst .ro 16 (map stpV x.on), lst .ro 16 (map stpV x.back)]] fun l0 => asC A l0 fun v1 l2 => asB A v1 fun b3 => asN A l2 (bif b3 then (A.callx 14 [] fun l4 => asC A l4 fun v5 l6 => asB A v5 fun b7 => asN A l6 (kc [bool b7] [])) else (A.chk true (A.callx 25 [agg [int .i64 x.fr, int .i64 x.to.ver, lst .ro 2 (map frmV x.to.forms), lst .ro 16 (map stpV x.on), lst .ro 16 (map stpV x.back)]] fun l8 => asC A l8 fun v9 l10 => asL A 1 v9 fun l11 => asC A l10 fun v12 l13 => asI A .i64 v12 fun n14 => asN A l13 (bif (n14 == (0 : Int)) then (A.callx 26 [lst .ro 1 l11] fun l15 => asC A l15 fun v16 l17 => asA A v16 fun l18 => asC A l18 fun v19 l20 => asI A .i64 v19 fun n21 => asC A l20 fun v22 l23 => asI A .i64 v22 fun n24 => asC A l23 fun v25 l26 => asL A 2 v25 fun l27 => asC A l26 fun v28 l29 => asL A 16 v28 fun l30 => asC A l29 fun v31 l32 => asL A 16 v31 fun l33 => asN A l32 (asC A l17 fun v34 l35 => asI A .i64 v34 fun n36 => asN A l35 (A.chk true (A.chk true (A.join (fun x37 => A.chk true (A.chk true (A.callx 18 [agg [int .i64 x.fr, int .i64 x.to.ver, lst .ro 2 (map frmV x.to.forms), lst .ro 16 (map stpV x.on), lst .ro 16 (map stpV x.back)], agg [int .i64 n21, int .i64 n24, lst .ro 2 l27, lst .ro 16 l30, lst .ro 16 l33]] fun l38 => asC A l38 fun v39 l40 => asB A v39 fun b41 => asN A l40 (bif (!b41) then (x37 true) else (x37 (n36 != (0 : Int))))))) fun b42 => bif b42 then (kc [bool false] []) else (A.callx 26 [lst .ro 1 (encB b)] fun l43 => asC A l43 fun v44 l45 => asA A v44 fun l46 => asC A l46 fun v47 l48 => asI A .i64 v47 fun n49 => asC A l48 fun v50 l51 => asI A .i64 v50 fun n52 => asC A l51 fun v53 l54 => asL A 2 v53 fun l55 => asC A l54 fun v56 l57 => asL A 16 v56 fun l58 => asC A l57 fun v59 l60 => asL A 16 v59 fun l61 => asN A l60 (asC A l45 fun v62 l63 => asI A .i64 v62 fun n64 => asN A l63 (A.chk true (A.chk true (bif (n64 == (0 : Int)) then (A.chk true (A.callx 25 [agg [int .i64 n49, int .i64 n52, lst .ro 2 l55, lst .ro 16 l58, lst .ro 16 l61]] fun l65 => asC A l65 fun v66 l67 => asL A 1 v66 fun l68 => asC A l67 fun v69 l70 => asI A .i64 v69 fun n71 => asN A l70 (A.join (fun x72 => orFail A (bytesOf l68) fun l73 => orFail A (bytesOf (encB b)) fun l74 => bif (!l73 == l74) then (x72 true) else (x72 (n71 != (0 : Int)))) fun b75 => bif b75 then (kc [bool false] []) else (A.callx 14 [] fun l76 => asC A l76 fun v77 l78 => asB A v77 fun b79 => asN A l78 (kc [bool b79] []))))) else (A.callx 14 [] fun l80 => asC A l80 fun v81 l82 => asB A v81 fun b83 => asN A l82 (kc [bool b83] [])))))))))))) else (A.callx 26 [lst .ro 1 (encB b)] fun l84 => asC A l84 fun v85 l86 => asA A v85 fun l87 => asC A l87 fun v88 l89 => asI A .i64 v88 fun n90 => asC A l89 fun v91 l92 => asI A .i64 v91 fun n93 => asC A l92 fun v94 l95 => asL A 2 v94 fun l96 => asC A l95 fun v97 l98 => asL A 16 v97 fun l99 => asC A l98 fun v100 l101 => asL A 16 v100 fun l102 => asN A l101 (asC A l86 fun v103 l104 => asI A .i64 v103 fun n105 => asN A l104 (A.chk true (A.chk true (bif (n105 == (0 : Int)) then (A.chk true (A.callx 25 [agg [int .i64 n90, int .i64 n93, lst .ro 2 l96, lst .ro 16 l99, lst .ro 16 l102]] fun l106 => asC A l106 fun v107 l108 => asL A 1 v107 fun l109 => asC A l108 fun v110 l111 => asI A .i64 v110 fun n112 => asN A l111 (A.join (fun x113 => orFail A (bytesOf l109) fun l114 => orFail A (bytesOf (encB b)) fun l115 => bif (!l114 == l115) then (x113 true) else (x113 (n112 != (0 : Int)))) fun b116 => bif b116 then (kc [bool false] []) else (A.callx 14 [] fun l117 => asC A l117 fun v118 l119 => asB A v118 fun b120 => asN A l119 (kc [bool b120] []))))) else (A.callx 14 [] fun l121 => asC A l121 fun v122 l123 => asB A v122 fun b124 => asN A l123 (kc [bool b124] [])))))))))))))
theorem t_lParse (b : List UInt8) {r : CR} (h : s_lParse (OA (tbl E0) (ltbl E0 26 0)) b (fun r o => some (r, o)) = some r) : tbl E0 26 [.lst .ro 1 (encB b)] [] = some r :=
  tbl_of (body := bodyOf Try.f26) Try.func26 (by kernel_rfl) (by kernel_rfl) (by kernel_rfl) (Eq.trans (by kernel_rfl) h)
theorem t_LinkBack (x : Lnk) (b : List UInt8) {r : CR} (h : s_LinkBack (OA (tbl E0) (ltbl E0 5 0)) x b (fun r o => some (r, o)) = some r) : tbl E0 5 [lnkV x, .lst .ro 1 (encB b)] [] = some r :=
  tbl_of (body := bodyOf Try.f5) Try.func5 (by kernel_rfl) (by kernel_rfl) (by kernel_rfl) (Eq.trans (by kernel_rfl) h)
end Go.Proofs.Ytmpfeofeokmooaa.V
namespace Go.Proofs.Ytmpfeofeokmooaa.V
open Go
theorem qK_len (b : List UInt8) : (qK b).1.length ≤ b.length := cS_len _ _
theorem qK1_len (b : List UInt8) : (qK1 b).1.length ≤ b.length := Nat.le_trans (xS_len _ _) (qK_len b)
theorem qK2_len (b : List UInt8) : (qK2 b).1.length ≤ b.length := Nat.le_trans (xS_len _ _) (qK1_len b)
theorem e_text0 (q q' : St) (s : List UInt8) (m : Int) (h : q.1.length ≤ 140737488355328) (e : xS q m = (s, q')) : tbl E0 64 [.ref 0 0, .int .i64 m] [(0, [.lst .ro 1 (encB q.1), .int .i64 q.2])] = some ([.str s], [(0, [.lst .ro 1 (encB q'.1), .int .i64 q'.2])]) := by
  have c := e_Text q m h
  rw [e] at c
  exact c
theorem c_lParse (b : List UInt8) (hb : b.length ≤ 140737488355328) : tbl E0 26 [.lst .ro 1 (encB b)] [] = some ([lnkV (parK b).1, .int .i64 (parK b).2], []) :=
  t_lParse b (by
    have l0 := qK_len b
    have l1 := qK1_len b
    have l2 := qK2_len b
    have c0 := c_Of b hb
    have c1 := e_Count (b, 0) 65535 hb
    have c2 := e_text0 (qK b) (qK1 b) (txK1 b) 131072 (by omega) rfl
    have c3 := e_text0 (qK1 b) (qK2 b) (txK2 b) 131072 (by omega) rfl
    have c4 := e_text0 (qK2 b) (qK3 b) (txK3 b) 131072 (by omega) rfl
    have c5 := c_End (qK3 b).1 (qK3 b).2
    have t1 : (txK1 b).length ≤ 140737488355328 := xS_ok _ _ (by omega)
    have t2 : (txK2 b).length ≤ 140737488355328 := xS_ok _ _ (by omega)
    have t3 : (txK3 b).length ≤ 140737488355328 := xS_ok _ _ (by omega)
    have d1 := c_sParse (txK1 b) t1
    have d2 := c_tParse (txK2 b) t2
    have d3 := c_tParse (txK3 b) t3
    have ok := tkLnk_ok b
    have d4 := c_lRight (tkLnk b) ok.1 ok.2
    have ev : (cS (b, 0) 65535).2 = qK b := rfl
    simp only [ev] at c1
    simp only [eyeV] at c5
    simp only [lnkV, lnkC, stpsV, schV, tkLnk] at d1 d2 d3 d4 ⊢
    unfold parK errK
    simp only [tkLnk]
    clear ok
    obtain ⟨S, hS⟩ : ∃ S, parS (txK1 b) = S := ⟨_, rfl⟩
    obtain ⟨T, hT⟩ : ∃ T, parT (txK2 b) = T := ⟨_, rfl⟩
    obtain ⟨U, hU⟩ : ∃ U, parT (txK3 b) = U := ⟨_, rfl⟩
    obtain ⟨e5, hE⟩ : ∃ e5, endS (qK3 b).1 (qK3 b).2 = e5 := ⟨_, rfl⟩
    obtain ⟨L, hL⟩ : ∃ L, lnkS ⟨(cS (b, 0) 65535).1, S.1, T.1, U.1⟩ = L := ⟨_, rfl⟩
    simp only [hS, hT, hU, hE, hL] at d1 d2 d3 d4 c5 ⊢
    simp only [s_lParse, OA_asm, OA_chk, OA_call, OA_callx, OA_loop, OA_both_id, OA_join, u_asA, u_asC, u_asI, u_asB, u_asS, u_asL, u_asOwn, u_asN, u_asRef0, Option.bind_some, nbeq, Nm_beq_self, decide_true, cond_true, cond_false, c0, c1, c2, c3, c4, c5]
    by_cases h5 : e5 = 0
    · subst h5
      simp only [beq_self_eq_true, cond_true, OA_call, OA_callx, d1, Option.bind_some, u_asA, u_asC, u_asI, u_asL, u_asN]
      by_cases h1 : S.2 = 0
      · simp only [h1, beq_self_eq_true, cond_true, OA_call, OA_callx, d2, Option.bind_some, u_asA, u_asC, u_asI, u_asL, u_asN]
        by_cases h2 : T.2 = 0
        · simp only [h2, beq_self_eq_true, cond_true, OA_call, OA_callx, d3, Option.bind_some, u_asA, u_asC, u_asI, u_asL, u_asN]
          by_cases h3 : U.2 = 0
          · cases L <;> simp [h1, h2, h3, d4, lnk0]
          · simp [h1, h2, h3, lnk0]
        · simp [h1, h2, lnk0]
      · simp [h1, lnk0]
    · simp [h5, lnk0])
theorem c_LinkBack (x : Lnk) (b : List UInt8) (hx : x.ok) (hb : b.length ≤ 140737488355328) : tbl E0 5 [lnkV x, .lst .ro 1 (encB b)] [] = some ([.bool true], []) :=
  t_LinkBack x b (by
    have g1 := c_lGreat x
    simp only [lnkV, lnkC] at g1
    rcases bor (greatK x) with h | h
    · rw [h] at g1
      simp only [s_LinkBack, OA_asm, OA_chk, OA_call, OA_callx, OA_loop, OA_both_id, OA_join, u_asA, u_asC, u_asI, u_asB, u_asS, u_asL, u_asOwn, u_asN, u_asRef0, Option.bind_some, nbeq, Nm_beq_self, decide_true, cond_true, cond_false, g1, awake21]
    · rw [h] at g1
      have sx := greatK_sml h
      have c1 := c_lPrint x hx sx
      have hp := parK_ok b
      have m1 := c_lParse b hb
      have m2 : (parK b).2 = 0 → tbl E0 25 [lnkV (parK b).1] [] = some ([.lst .ro 1 (encB b), .int .i64 0], []) := fun e => by
        have c := c_lPrint (parK b).1 hp.1 hp.2
        obtain ⟨p1, p2⟩ := parK_inv e
        simp only [p1, p2, if_true] at c
        exact c
      simp only [lnkV, lnkC] at c1 m1 m2
      generalize hpe : (parK b).2 = pe at *
      have fin : pe = 0 ∨ pe ≠ 0 := by omega
      rcases bor (lnkS x) with q | q
      · have hlb := lnkB_len2 hx q
        have c3 := c_lParse (lnkB x) (by omega)
        rw [parK_lnkB x hx q] at c3
        have c4 := c_ylSame x x sx
        simp only [decide_true, lnkV, lnkC] at c3 c4
        simp only [q, if_true] at c1
        rcases fin with f | f
        · simp only [s_LinkBack, OA_asm, OA_chk, OA_call, OA_callx, OA_loop, OA_both_id, OA_join, u_asA, u_asC, u_asI, u_asB, u_asS, u_asL, u_asOwn, u_asN, u_asRef0, Option.bind_some, nbeq, Nm_beq_self, decide_true, cond_true, cond_false, g1, c1, c3, c4, m1, m2 f, f, bne_self_eq_false, beq_self_eq_true, orFail, bytesOf_encB, Bool.not_true, awake21, Tok.untok_tok]
        · simp only [s_LinkBack, OA_asm, OA_chk, OA_call, OA_callx, OA_loop, OA_both_id, OA_join, u_asA, u_asC, u_asI, u_asB, u_asS, u_asL, u_asOwn, u_asN, u_asRef0, Option.bind_some, nbeq, Nm_beq_self, decide_true, cond_true, cond_false, g1, c1, c3, c4, m1, beq_f f, bne_self_eq_false, beq_self_eq_true, Bool.not_true, awake21, Tok.untok_tok]
      · simp only [q, Bool.false_eq_true, if_false] at c1
        rcases fin with f | f
        · simp only [s_LinkBack, OA_asm, OA_chk, OA_call, OA_callx, OA_loop, OA_both_id, OA_join, u_asA, u_asC, u_asI, u_asB, u_asS, u_asL, u_asOwn, u_asN, u_asRef0, Option.bind_some, nbeq, Nm_beq_self, decide_true, cond_true, cond_false, g1, c1, m1, m2 f, f, bne_self_eq_false, beq_self_eq_true, show ((2 : Int) == 0) = false from rfl, orFail, bytesOf_encB, Bool.not_true, awake21, Tok.untok_tok]
        · simp only [s_LinkBack, OA_asm, OA_chk, OA_call, OA_callx, OA_loop, OA_both_id, OA_join, u_asA, u_asC, u_asI, u_asB, u_asS, u_asL, u_asOwn, u_asN, u_asRef0, Option.bind_some, nbeq, Nm_beq_self, decide_true, cond_true, cond_false, g1, c1, m1, beq_f f, show ((2 : Int) == 0) = false from rfl, awake21, Tok.untok_tok])
end Go.Proofs.Ytmpfeofeokmooaa.V
namespace Go.Proofs.Ytmpfeofeokmooaa.V
open Go
variable {H : Type}
theorem fit_bytes {n : Nat} {d : DataW H} {xs : List AV} (hf : Fit T0 (n + 2) 39 d xs) : ∃ (ds sp : List (DataW H)) (b : List UInt8), (d = .slice ds sp ∨ (d = .nil ∧ ds = [])) ∧ xs = [.lst .ro 1 (encB b)] ∧ ds.length = b.length := by
  obtain ⟨ds, sp, l, hd, rfl, h⟩ := fit_slice (e := 5) (by kernel_rfl) hf
  obtain ⟨cs, rfl, hq⟩ := each_map (f := fun c : UInt8 => AV.int .u8 (c.toNat : Int)) (Q := fun d c => d = .lit (.int .u8 (c.toNat : Int))) (fun d x ⟨ys, h1, h2⟩ => by
    obtain ⟨c, rfl, rfl⟩ := fit_u8 (by kernel_rfl) h1
    have := elem_one (by kernel_rfl) h2
    injection this with this
    exact ⟨c, this.symm, rfl⟩) h
  exact ⟨ds, sp, cs, hd, rfl, hq.length⟩
theorem fitAll_two {t u : Nat} {d e : DataW H} {m : Nat} {xs : List AV} (h : FitAll T0 m [t, u] [d, e] xs) : ∃ x ys y zs, xs = [x, y] ∧ Fit T0 m t d ys ∧ ElemOf (T0.ty t) x ys ∧ Fit T0 m u e zs ∧ ElemOf (T0.ty u) y zs := by
  obtain ⟨d', ds, x, xs', e1, rfl, ⟨ys, h0, h1⟩, h⟩ := each3_cons h
  cases e1
  obtain ⟨d', ds, y, xs', e1, rfl, ⟨zs, h2, h3⟩, h⟩ := each3_cons h
  obtain ⟨rfl, rfl⟩ := each3_nil h
  cases e1
  exact ⟨x, ys, y, zs, rfl, h0, h1, h2, h3⟩
theorem slice_len {P : Program} {t e : Nat} {ds sp d : _} (hu : P.underlying t = some (.slice e)) (hb : Nat.blt 0 (P.bytesOf e) = true) (hd : d = DataW.slice ds sp ∨ (d = .nil ∧ ds = ([] : List (DataW H)))) (hk : (d.weights P t).all (· ≤ reachBytes) = true) : ds.length ≤ reachBytes := by
  rcases hd with rfl | ⟨rfl, rfl⟩
  · simp only [DataW.weights, hu, List.all_cons, Bool.and_eq_true, decide_eq_true_eq] at hk
    rw [Nat.blt_eq] at hb
    have h1 : (ds.length + sp.length) * 1 ≤ (ds.length + sp.length) * P.bytesOf e := Nat.mul_le_mul_left _ hb
    omega
  · simp
end Go.Proofs.Ytmpfeofeokmooaa.V
namespace Go.Proofs.Ytmpfeofeokmooaa.V
open Go
variable {H : Type}
theorem each_all {α β : Type} {q : β → Prop} : ∀ {l : List α} {r : List β}, Each (fun _ b => q b) l r → ∀ {b : β}, b ∈ r → q b := by
  intro l r h b hb
  obtain ⟨i, hi, e⟩ := List.mem_iff_getElem.1 hb
  obtain ⟨a, _, h2⟩ := h.get i b (by rw [← e]; exact List.getElem?_eq_getElem hi)
  exact h2
theorem fit_fld {n : Nat} {d : DataW H} {xs : List AV} (hf : Fit T0 (n + 2) 47 d xs) : ∃ f : Fld, f.ok ∧ xs = fldC f := by
  obtain ⟨ds, yss, rfl, rfl, h⟩ := fit_struct (fs := [(0, 3), (1, 3), (2, 3), (3, 3), (4, 3)]) (by kernel_rfl) hf
  obtain ⟨d0, ds, y0, yss, rfl, rfl, h0, h⟩ := each3_cons h
  obtain ⟨d1, ds, y1, yss, rfl, rfl, h1, h⟩ := each3_cons h
  obtain ⟨d2, ds, y2, yss, rfl, rfl, h2, h⟩ := each3_cons h
  obtain ⟨d3, ds, y3, yss, rfl, rfl, h3, h⟩ := each3_cons h
  obtain ⟨d4, ds, y4, yss, rfl, rfl, h4, h⟩ := each3_cons h
  obtain ⟨rfl, rfl⟩ := each3_nil h
  obtain ⟨a, ha, rfl, rfl⟩ := fit_i64 (by kernel_rfl) h0
  obtain ⟨b, hb, rfl, rfl⟩ := fit_i64 (by kernel_rfl) h1
  obtain ⟨c, hc, rfl, rfl⟩ := fit_i64 (by kernel_rfl) h2
  obtain ⟨e, he, rfl, rfl⟩ := fit_i64 (by kernel_rfl) h3
  obtain ⟨g, hg, rfl, rfl⟩ := fit_i64 (by kernel_rfl) h4
  exact ⟨⟨a, b, c, e, g⟩, ⟨ha, hb, hc, he, hg⟩, rfl⟩
theorem fit_flds {n : Nat} {d : DataW H} {xs : List AV} (hf : Fit T0 (n + 3) 51 d xs) : ∃ l : List Fld, (∀ f ∈ l, f.ok) ∧ xs = [fldsV l] := by
  obtain ⟨ds, sp, l, hd, rfl, h⟩ := fit_slice (e := 47) (by kernel_rfl) hf
  obtain ⟨cs, rfl, hq⟩ := each_map (f := fldV) (Q := fun d f => f.ok) (fun d x ⟨ys, h1, h2⟩ => by
    obtain ⟨f, hf, rfl⟩ := fit_fld h1
    exact ⟨f, elem_agg (by kernel_rfl) h2, hf⟩) h
  exact ⟨cs, fun f hf => each_all hq hf, rfl⟩
theorem fit_frm {n : Nat} {d : DataW H} {xs : List AV} (hf : Fit T0 (n + 4) 72 d xs) : ∃ f : Frm, f.ok ∧ xs = [.int .i64 f.id, fldsV f.fields] := by
  obtain ⟨ds, yss, rfl, rfl, h⟩ := fit_struct (fs := [(0, 3), (1, 51)]) (by kernel_rfl) hf
  obtain ⟨d0, ds, y0, yss, rfl, rfl, h0, h⟩ := each3_cons h
  obtain ⟨d1, ds, y1, yss, rfl, rfl, h1, h⟩ := each3_cons h
  obtain ⟨rfl, rfl⟩ := each3_nil h
  obtain ⟨a, ha, rfl, rfl⟩ := fit_i64 (by kernel_rfl) h0
  obtain ⟨l, hl, rfl⟩ := fit_flds h1
  exact ⟨⟨a, l⟩, ⟨ha, hl⟩, rfl⟩
theorem fit_frms {n : Nat} {d : DataW H} {xs : List AV} (hf : Fit T0 (n + 5) 22 d xs) : ∃ l : List Frm, (∀ f ∈ l, f.ok) ∧ xs = [frmsV l] := by
  obtain ⟨ds, sp, l, hd, rfl, h⟩ := fit_slice (e := 72) (by kernel_rfl) hf
  obtain ⟨cs, rfl, hq⟩ := each_map (f := frmV) (Q := fun d f => f.ok) (fun d x ⟨ys, h1, h2⟩ => by
    obtain ⟨f, hf, rfl⟩ := fit_frm h1
    exact ⟨f, elem_agg (by kernel_rfl) h2, hf⟩) h
  exact ⟨cs, fun f hf => each_all hq hf, rfl⟩
theorem fit_sch {n : Nat} {d : DataW H} {xs : List AV} (hf : Fit T0 (n + 6) 24 d xs) : ∃ s : Sch, s.ok ∧ xs = [.int .i64 s.ver, frmsV s.forms] := by
  obtain ⟨ds, yss, rfl, rfl, h⟩ := fit_struct (fs := [(0, 3), (1, 22)]) (by kernel_rfl) hf
  obtain ⟨d0, ds, y0, yss, rfl, rfl, h0, h⟩ := each3_cons h
  obtain ⟨d1, ds, y1, yss, rfl, rfl, h1, h⟩ := each3_cons h
  obtain ⟨rfl, rfl⟩ := each3_nil h
  obtain ⟨a, ha, rfl, rfl⟩ := fit_i64 (by kernel_rfl) h0
  obtain ⟨l, hl, rfl⟩ := fit_frms h1
  exact ⟨⟨a, l⟩, ⟨ha, hl⟩, rfl⟩
end Go.Proofs.Ytmpfeofeokmooaa.V
namespace Go.Proofs.Ytmpfeofeokmooaa.V
open Go
variable {H : Type}
theorem fit_ints {n : Nat} {d : DataW H} {xs : List AV} (hf : Fit T0 (n + 2) 50 d xs) : ∃ l : List Int, (∀ n ∈ l, i64 n) ∧ xs = [intsV l] := by
  obtain ⟨ds, sp, l, hd, rfl, h⟩ := fit_slice (e := 3) (by kernel_rfl) hf
  obtain ⟨cs, rfl, hq⟩ := each_map (f := fun n => AV.int .i64 n) (Q := fun d n => i64 n) (fun d x ⟨ys, h1, h2⟩ => by
    obtain ⟨a, ha, rfl, rfl⟩ := fit_i64 (by kernel_rfl) h1
    have q := elem_one (by kernel_rfl) h2
    injection q with q
    exact ⟨a, q.symm, ha⟩) h
  exact ⟨cs, fun f hf => each_all hq hf, rfl⟩
theorem fit_val {n : Nat} {d : DataW H} {xs : List AV} (hf : Fit T0 (n + 2) 49 d xs) : ∃ (a : Int) (s : List UInt8), i64 a ∧ xs = [.int .i64 a, .str s] := by
  obtain ⟨ds, yss, rfl, rfl, h⟩ := fit_struct (fs := [(0, 3), (1, 9)]) (by kernel_rfl) hf
  obtain ⟨d0, ds, y0, yss, rfl, rfl, h0, h⟩ := each3_cons h
  obtain ⟨d1, ds, y1, yss, rfl, rfl, h1, h⟩ := each3_cons h
  obtain ⟨rfl, rfl⟩ := each3_nil h
  obtain ⟨a, ha, rfl, rfl⟩ := fit_i64 (by kernel_rfl) h0
  obtain ⟨s, rfl, rfl⟩ := fit_str (by kernel_rfl) h1
  exact ⟨a, s, ha, rfl⟩
theorem fit_stp {n : Nat} {d : DataW H} {xs : List AV} (hf : Fit T0 (n + 4) 53 d xs) : ∃ x : Stp, x.ok ∧ xs = stpC x := by
  obtain ⟨ds, yss, rfl, rfl, h⟩ := fit_struct (fs := [(0, 3), (1, 3), (2, 3), (3, 3), (4, 3), (5, 3), (6, 3), (7, 47), (12, 49), (14, 50), (15, 51)]) (by kernel_rfl) hf
  obtain ⟨d0, ds, y0, yss, rfl, rfl, h0, h⟩ := each3_cons h
  obtain ⟨d1, ds, y1, yss, rfl, rfl, h1, h⟩ := each3_cons h
  obtain ⟨d2, ds, y2, yss, rfl, rfl, h2, h⟩ := each3_cons h
  obtain ⟨d3, ds, y3, yss, rfl, rfl, h3, h⟩ := each3_cons h
  obtain ⟨d4, ds, y4, yss, rfl, rfl, h4, h⟩ := each3_cons h
  obtain ⟨d5, ds, y5, yss, rfl, rfl, h5, h⟩ := each3_cons h
  obtain ⟨d6, ds, y6, yss, rfl, rfl, h6, h⟩ := each3_cons h
  obtain ⟨d7, ds, y7, yss, rfl, rfl, h7, h⟩ := each3_cons h
  obtain ⟨d8, ds, y8, yss, rfl, rfl, h8, h⟩ := each3_cons h
  obtain ⟨d9, ds, y9, yss, rfl, rfl, h9, h⟩ := each3_cons h
  obtain ⟨dA, ds, yA, yss, rfl, rfl, hA, h⟩ := each3_cons h
  obtain ⟨rfl, rfl⟩ := each3_nil h
  obtain ⟨a0, i0, rfl, rfl⟩ := fit_i64 (by kernel_rfl) h0
  obtain ⟨a1, i1, rfl, rfl⟩ := fit_i64 (by kernel_rfl) h1
  obtain ⟨a2, i2, rfl, rfl⟩ := fit_i64 (by kernel_rfl) h2
  obtain ⟨a3, i3, rfl, rfl⟩ := fit_i64 (by kernel_rfl) h3
  obtain ⟨a4, i4, rfl, rfl⟩ := fit_i64 (by kernel_rfl) h4
  obtain ⟨a5, i5, rfl, rfl⟩ := fit_i64 (by kernel_rfl) h5
  obtain ⟨a6, i6, rfl, rfl⟩ := fit_i64 (by kernel_rfl) h6
  obtain ⟨f, i7, rfl⟩ := fit_fld h7
  obtain ⟨a8, s, i8, rfl⟩ := fit_val h8
  obtain ⟨t, i9, rfl⟩ := fit_ints h9
  obtain ⟨fs, iA, rfl⟩ := fit_flds hA
  exact ⟨⟨a0, a1, a2, a3, a4, a5, a6, f, a8, s, t, fs⟩, ⟨i0, i1, i2, i3, i4, i5, i6, i7, i8, i9, iA⟩, rfl⟩
theorem fit_stps {n : Nat} {d : DataW H} {xs : List AV} (hf : Fit T0 (n + 5) 25 d xs) : ∃ l : List Stp, (∀ f ∈ l, f.ok) ∧ xs = [stpsV l] := by
  obtain ⟨ds, sp, l, hd, rfl, h⟩ := fit_slice (e := 53) (by kernel_rfl) hf
  obtain ⟨cs, rfl, hq⟩ := each_map (f := stpV) (Q := fun d f => f.ok) (fun d x ⟨ys, h1, h2⟩ => by
    obtain ⟨f, hf, rfl⟩ := fit_stp h1
    exact ⟨f, elem_agg (by kernel_rfl) h2, hf⟩) h
  exact ⟨cs, fun f hf => each_all hq hf, rfl⟩
end Go.Proofs.Ytmpfeofeokmooaa.V
namespace Go.Proofs.Ytmpfeofeokmooaa.V
open Go
variable {H : Type}
theorem fit_lnk {n : Nat} {d : DataW H} {xs : List AV} (hf : Fit T0 (n + 7) 27 d xs) : ∃ x : Lnk, x.ok ∧ xs = lnkC x := by
  obtain ⟨ds, yss, rfl, rfl, h⟩ := fit_struct (fs := [(0, 3), (1, 24), (3, 25), (4, 25)]) (by kernel_rfl) hf
  obtain ⟨d0, ds, y0, yss, rfl, rfl, h0, h⟩ := each3_cons h
  obtain ⟨d1, ds, y1, yss, rfl, rfl, h1, h⟩ := each3_cons h
  obtain ⟨d2, ds, y2, yss, rfl, rfl, h2, h⟩ := each3_cons h
  obtain ⟨d3, ds, y3, yss, rfl, rfl, h3, h⟩ := each3_cons h
  obtain ⟨rfl, rfl⟩ := each3_nil h
  obtain ⟨a, ha, rfl, rfl⟩ := fit_i64 (by kernel_rfl) h0
  obtain ⟨s, hs, rfl⟩ := fit_sch h1
  obtain ⟨l, hl, rfl⟩ := fit_stps h2
  obtain ⟨m, hm, rfl⟩ := fit_stps h3
  exact ⟨⟨a, s, l, m⟩, ⟨ha, hs, hl, hm⟩, rfl⟩
end Go.Proofs.Ytmpfeofeokmooaa.V
namespace Go.Proofs.Ytmpfeofeokmooaa.V
open Go
variable {H : Type}
end Go.Proofs.Ytmpfeofeokmooaa.V
namespace Go.Proofs.Ytmpfeofeokmooaa.V
open Go
variable {H : Type}
theorem l_LinkBack (d0 d1 : DataW H) (xs : List AV) (hf : FitAll T0 9 Try.f5.params.toList [d0, d1] xs) (hk : (DataW.weightsEach Try.prog (Try.f5.params.toList ++ Rows.linkBackSpec.plain.varTypes Try.prog) ([d0, d1] ++ [])).all (· ≤ reachBytes) = true) :
    tbl E0 5 xs [] = some ([.bool true], []) := by
  obtain ⟨x, ys, y, zs, rfl, h1, h2, h3, h4⟩ := fitAll_two (t := 27) (u := 39) hf
  obtain ⟨l, hl, rfl⟩ := fit_lnk h1
  obtain ⟨ds, sp, b, hd, rfl, hlb⟩ := fit_bytes h3
  have e1 := elem_agg (by kernel_rfl) h2
  have e2 := elem_one (by kernel_rfl) h4
  injection e2 with e2
  subst e1; subst e2
  have hw : (DataW.weightsEach Try.prog ([27, 39] ++ []) ([d0, d1] ++ [])).all (· ≤ reachBytes) = true := hk
  simp only [List.cons_append, List.nil_append, DataW.weightsEach, List.all_append, List.append_nil, Bool.and_eq_true] at hw
  have g2 := slice_len Try.underlying39 (by kernel_rfl) hd hw.2
  have hr : reachBytes ≤ 140737488355328 := by decide
  exact c_LinkBack l b hl (by rw [← hlb]; omega)
end Go.Proofs.Ytmpfeofeokmooaa.V
namespace Go.Proofs.Ytmpfeofeokmooaa.linkBack
open Go Go.ChangeShapes Go.WideShapes Go.ChangeAt Go.RowKit Go.Proofs.Ytmpfeofeokmooaa.V
theorem own : ownKnob Try.prog.godebug = none := by kernel_rfl
set_option maxRecDepth 100000 in
theorem contract (H : Type) (enc : TypeId × Value → H) (W : World) (base : Nat) (args : Array Value) (ds gs : List (DataW H)) (before : List MemPlace)
    (hval : ∀ (j : Nat) t v, Try.f5.params[j]? = some t → args[j]? = some v → Value.okWide Try.prog W .any base t v)
    (hW : DataW.Whole enc Try.prog Try.f5.params.toList Rows.linkBackSpec.vars false W args.toList ds gs before) (hk : (DataW.weightsEach Try.prog (Try.f5.params.toList ++ Rows.linkBackSpec.plain.varTypes Try.prog) (ds ++ gs)).all (· ≤ reachBytes) = true) :
    Calls Try.prog 5 args W fun e W' => ∃ v, e = .returned v ∧ Rows.linkBackSpec.post enc Try.prog Try.f5 false true false false W args v W' := by
  obtain ⟨p, q, hA, hV, hps, hfz, hnd⟩ := id hW
  obtain ⟨rfl, rfl⟩ := trodVars_none hV
  have hlen := trodAll_length hA
  obtain ⟨d0, d1, rfl⟩ : ∃ d0 d1, ds = [d0, d1] := by
    match ds, hlen with
    | [d0, d1], _ => exact ⟨d0, d1, rfl⟩
  refine (law_calls (E := E0) E0_ok (m := 9) (ts := Try.f5.params.toList) (by kernel_rfl) (fun j t v h1 h2 => hval j t v (by simpa using h1) (by simpa using h2)) hA (fun xs hf => l_LinkBack d0 d1 xs hf hk)).mono fun e W' ⟨he, bel⟩ => ?_
  subst he
  exact ⟨_, rfl, law_post (tb := 4) (by kernel_rfl) (by kernel_rfl) (by kernel_rfl) Try.underlying4 rfl rfl hW hA bel⟩
set_option maxRecDepth 100000 in
theorem lifted (os : Os) (started : os.Started) (H : Type) (enc : TypeId × Value → H) :
    ReturnsInHanded {} Try.checked os 5 .any (Rows.linkBackSpec.pre6 enc Try.prog Try.f5 Rows.linkBackRow.domain false) (Rows.linkBackSpec.post enc Try.prog Try.f5 false true false false) := by
  refine returnsInHanded_of_change_sized (C := Try.checked) own started (by kernel_rfl) Try.func5
    (ChangeSpec.witness6 (enc := enc) (C := Try.checked) false ⟨#[], #[.agg #[.int .i64 0, .int .i64 0, .slice none 0 0, .slice none 0 0, .slice none 0 0], .slice none 0 0], []⟩ 9 (by kernel_rfl) (by kernel_rfl) (by kernel_rfl) (by kernel_rfl)) ?_
  intro W base args ds gs before hval hW _ hk _
  exact contract H enc W base args ds gs before hval hW hk
theorem proved : Rows.LinkBackSaid :=
  OpenClaim.holds_of_wide 5 Try.f5 rfl rfl rfl rfl rfl rfl rfl ⟨rfl, rfl, rfl, rfl, rfl⟩ rfl rfl rfl rfl rfl (by kernel_rfl) Try.func5 (by kernel_rfl)
    (of_decide_eq_true (by kernel_rfl)) (by unfold Func.isWrapper; first | (rw [if_pos (by decide +kernel)]; kernel_rfl) | (rw [if_neg (by decide +kernel)]; exact ⟨rfl, rfl⟩))
    (fun os started H enc _ => lifted os started H enc)
end Go.Proofs.Ytmpfeofeokmooaa.linkBack
namespace Go.Proofs.Ytmpfeofeokmooaa
theorem linkBack_holds : Rows.LinkBackSaid := linkBack.proved
end Go.Proofs.Ytmpfeofeokmooaa
