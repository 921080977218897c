/- Manifests' bytes are as the document says: ManifestBack. -/
import Derived.Test.YtmpfeofeokmooaaRows
import Derived.JoinedCond
import Derived.SizedLaws
import Derived.Test.YtmpfeofeokmooaaKCd
set_option linter.unusedVariables false
set_option linter.unusedSimpArgs false
namespace Go.Proofs.Ytmpfeofeokmooaa.V
open Go
theorem fldW_len {x : Fld} (hx : x.ok) (hr : rgtS x = true) : (fldW x).length ≤ 50 := by
  have r := rgt_rng hr
  obtain ⟨_, ⟨_, _⟩, ⟨_, _⟩, ⟨_, _⟩, ⟨_, _⟩⟩ := hx
  have h1 : (cnt x.id.toNat).length ≤ 10 := cnt_len10 (by omega)
  have h2 : (cnt x.kind.toNat).length ≤ 10 := cnt_len10 (by omega)
  have h3 : (cnt (zz x.lo)).length ≤ 10 := cnt_len10 (zz_lt (by omega) (by omega))
  have h4 : (cnt (zz x.hi)).length ≤ 10 := cnt_len10 (zz_lt (by omega) (by omega))
  have h5 : (cnt x.most.toNat).length ≤ 10 := cnt_len10 (by omega)
  unfold fldW
  simp only [List.length_append]
  omega
theorem p_Count (b : List AV) (n e : Int) (hb : b.length + 10 ≤ 211106232532992) (h0 : 0 ≤ n) (hn : n ≤ 9223372036854775807) : tbl E0 59 [.ref 0 0, .int .i64 n] [(0, [.lst (.own (.E 0 0)) 1 b, .int .i64 e])] = some ([], [(0, [.lst (.own (.E 0 0)) 1 (b ++ encB (cnt n.toNat)), .int .i64 e])]) := by
  have c := c_PCount b n e hb hn
  rw [if_neg (by omega)] at c
  exact c
theorem p_Num (b : List AV) (n e : Int) (hb : b.length + 10 ≤ 211106232532992) (h : i64 n) : tbl E0 133 [.ref 0 0, .int .i64 n] [(0, [.lst (.own (.E 0 0)) 1 b, .int .i64 e])] = some ([], [(0, [.lst (.own (.E 0 0)) 1 (b ++ encB (cnt (zz n))), .int .i64 e])]) := c_PNum b n e hb h.1 h.2
theorem zz_l {n : Int} (h : i64 n) : (cnt (zz n)).length ≤ 10 := cnt_len10 (zz_lt h.1 h.2)
theorem c_writeField (b : List AV) (x : Fld) (e : Int) (hx : x.ok) (hr : rgtS x = true) (hb : b.length + 50 ≤ 211106232532992) : tbl E0 137 [.ref 0 0, fldV x] [(0, [.lst (.own (.E 0 0)) 1 b, .int .i64 e])] = some ([], [(0, [.lst (.own (.E 0 0)) 1 (b ++ encB (fldW x)), .int .i64 e])]) :=
  t_writeField b x e (by
    have r := rgt_rng hr
    obtain ⟨_, ⟨_, _⟩, g1, g2, ⟨_, _⟩⟩ := hx
    have h1 : (cnt x.id.toNat).length ≤ 10 := cnt_len10 (by omega)
    have h2 : (cnt x.kind.toNat).length ≤ 10 := cnt_len10 (by omega)
    have h3 := zz_l g1
    have h4 := zz_l g2
    have c1 := p_Count b x.id e (by omega) (by omega) (by omega)
    have c2 := p_Count (b ++ encB (cnt x.id.toNat)) x.kind e (by simp; omega) (by omega) (by omega)
    have c3 := p_Num (b ++ encB (cnt x.id.toNat) ++ encB (cnt x.kind.toNat)) x.lo e (by simp; omega) g1
    have c4 := p_Num (b ++ encB (cnt x.id.toNat) ++ encB (cnt x.kind.toNat) ++ encB (cnt (zz x.lo))) x.hi e (by simp; omega) g2
    have c5 := p_Count (b ++ encB (cnt x.id.toNat) ++ encB (cnt x.kind.toNat) ++ encB (cnt (zz x.lo)) ++ encB (cnt (zz x.hi))) x.most e (by simp; omega) (by omega) (by omega)
    have eb : b ++ encB (fldW x) = b ++ encB (cnt x.id.toNat) ++ encB (cnt x.kind.toNat) ++ encB (cnt (zz x.lo)) ++ encB (cnt (zz x.hi)) ++ encB (cnt x.most.toNat) := by unfold fldW; simp only [encB_append, List.append_assoc]
    rw [eb]
    simp only [s_writeField, OA_chk, cond_true, OA_call, c1, c2, c3, c4, c5, u_asC, u_asI, u_asOwn, u_asN, Option.bind_some, nbeq, decide_true])
theorem c_twriteT (l : List Int) (hl : l.length ≤ 64) (hok : ∀ n ∈ l, 0 ≤ n ∧ n ≤ 1000) : ∀ (r : List Int) (i : Nat) (b : List AV) (e : Int), l.drop i = r → b.length + 10 * r.length + 10 ≤ 211106232532992 →
    ltbl E0 106 0 23 [intsV l, .int .i64 l.length, .int .i64 i] [[.lst (.own (.O 0 0)) 1 b, .int .i64 e]] = some (2, [], [[.lst (.own (.O 0 0)) 1 (b ++ encB (intsB r)), .int .i64 e]]) := by
  intro r
  induction r with
  | nil =>
    intro i b e hr hb
    have h : l.length ≤ i := by simpa using hr
    refine t_twriteT _ _ _ _ _ ?_
    have : ¬ ((i : Int) < l.length) := by omega
    simp [s_twriteT, this, intsB, encB_nil]
  | cons n r ih =>
    intro i b e hr hb
    obtain ⟨hlt, hget, hr2⟩ := drop_c hr
    have h2 : (i : Int) < l.length := by omega
    have e1 := i64_succ (i := i) (by omega)
    obtain ⟨g1, g2⟩ := hok n (mem_drop hr)
    have hx : (cnt n.toNat).length ≤ 10 := cnt_len10 (by omega)
    simp only [List.length_cons] at hb
    have h := ih (i + 1) (b ++ encB (cnt n.toNat)) e hr2 (by simp; omega)
    have c := p_Count b n e (by omega) g1 (by omega)
    have eb : b ++ encB (intsB (n :: r)) = b ++ encB (cnt n.toNat) ++ encB (intsB r) := by simp [intsB, encB_append]
    refine t_twriteT _ _ _ _ _ ?_
    rw [eb, ← h]
    simp only [s_twriteT, h2, decide_true, cond_true, OA_chk, Int.natCast_nonneg, nthE, Int.toNat_natCast, List.getElem?_map, hget, Option.map_some, u_asC, u_asI, u_asOwn, u_asN, OA_call, c, Option.bind_some, nbeq, e1]
theorem c_twriteF (l : List Fld) (hl : l.length ≤ 8) (hok : FldsOK l) : ∀ (r : List Fld) (i : Nat) (b : List AV) (e : Int), l.drop i = r → b.length + 50 * r.length + 50 ≤ 211106232532992 →
    ltbl E0 106 0 30 [fldsV l, .int .i64 l.length, .int .i64 i] [[.lst (.own (.O 0 0)) 1 b, .int .i64 e]] = some (4, [], [[.lst (.own (.O 0 0)) 1 (b ++ encB (fldsW r)), .int .i64 e]]) := by
  intro r
  induction r with
  | nil =>
    intro i b e hr hb
    have h : l.length ≤ i := by simpa using hr
    refine t_twriteF _ _ _ _ _ ?_
    have : ¬ ((i : Int) < l.length) := by omega
    simp [s_twriteF, this, fldsW, encB_nil]
  | cons n r ih =>
    intro i b e hr hb
    obtain ⟨hlt, hget, hr2⟩ := drop_c hr
    have h2 : (i : Int) < l.length := by omega
    have e1 := i64_succ (i := i) (by omega)
    obtain ⟨g1, g2⟩ := hok n (mem_drop hr)
    have hx := fldW_len g1 g2
    simp only [List.length_cons] at hb
    have h := ih (i + 1) (b ++ encB (fldW n)) e hr2 (by simp; omega)
    have c := c_writeField b n e g1 g2 (by omega)
    have eb : b ++ encB (fldsW (n :: r)) = b ++ encB (fldW n) ++ encB (fldsW r) := by simp [fldsW, encB_append]
    refine t_twriteF _ _ _ _ _ ?_
    rw [eb, ← h]
    simp only [s_twriteF, h2, decide_true, cond_true, OA_chk, Int.natCast_nonneg, nthE, Int.toNat_natCast, List.getElem?_map, hget, Option.map_some, u_asA, u_asC, u_asI, u_asOwn, u_asN, OA_call, c, Option.bind_some, nbeq, e1]
theorem intsB_len : ∀ (l : List Int), (∀ n ∈ l, 0 ≤ n ∧ n ≤ 1000) → (intsB l).length ≤ 10 * l.length
  | [], _ => by simp [intsB]
  | n :: l, h => by
    have h1 : (cnt n.toNat).length ≤ 10 := cnt_len10 (by have := h n (by simp); omega)
    have h2 := intsB_len l (fun g hg => h g (by simp [hg]))
    have e : intsB (n :: l) = cnt n.toNat ++ intsB l := by simp [intsB]
    rw [e, List.length_append, List.length_cons]
    omega
theorem fldsW_len : ∀ (l : List Fld), FldsOK l → (fldsW l).length ≤ 50 * l.length
  | [], _ => by simp [fldsW]
  | n :: l, h => by
    have h1 := fldW_len (h n (by simp)).1 (h n (by simp)).2
    have h2 := fldsW_len l (fun g hg => h g (by simp [hg]))
    have e : fldsW (n :: l) = fldW n ++ fldsW l := by simp [fldsW]
    rw [e, List.length_append, List.length_cons]
    omega
theorem fits_flds {x : Stp} (hx : x.ok) (h : fitsS x 9 = true) : x.fields.length ≤ 8 ∧ FldsOK x.fields := by
  obtain ⟨h1, h2⟩ := fits_l h
  exact ⟨h1, fun f hf => ⟨hx.2.2.2.2.2.2.2.2.2.2 f hf, h2 f hf⟩⟩
theorem cnt10 {n : Int} (h : n ≤ 9223372036854775807) : (cnt n.toNat).length ≤ 10 := cnt_len10 (by omega)
theorem prtB_len {x : Stp} (hx : x.ok) {p : Int} (hp : Fits x p) : (prtB x p).length ≤ 650 := by
  have hx0 := hx
  obtain ⟨h1, h2, h3, h4, h5, h6, h7, h8, h9, h10, h11⟩ := hx
  have hp0 := hp
  obtain ⟨hr, hf, hb⟩ := hp
  rcases pr_cases hr with rfl | rfl | rfl | rfl | rfl | rfl | rfl | rfl | rfl | rfl <;> simp only [prtB, if_true, Int.reduceEq, if_false, List.length_append]
  · have := cnt10 h2.2; omega
  · have := cnt10 h3.2; omega
  · have := cnt10 h4.2; omega
  · have := cnt10 h5.2; omega
  · have := cnt10 h6.2; omega
  · have := zz_l h6; have := zz_l h7; omega
  · simp [fitsS] at hf
    have := fldW_len h8 hf.1; omega
  · have := fits_s hf
    have := zz_l h9
    have : (cnt x.s.length).length ≤ 10 := cnt_len10 (by omega)
    omega
  · obtain ⟨g1, g2⟩ := fits_t hp0
    have := intsB_len x.t g1
    have : (cnt x.t.length).length ≤ 10 := cnt_len10 (by omega)
    omega
  · obtain ⟨g1, g2⟩ := fits_flds hx0 hf
    have := fldsW_len x.fields g2
    have : (cnt x.fields.length).length ≤ 10 := cnt_len10 (by omega)
    omega
theorem c_twrite (b : List AV) (x : Stp) (p e : Int) (hx : x.ok) (hp : Fits x p) (hb : b.length + 700 ≤ 211106232532992) : tbl E0 106 [.ref 0 0, stpV x, .int .i64 p] [(0, [.lst (.own (.E 0 0)) 1 b, .int .i64 e])] = some ([], [(0, [.lst (.own (.E 0 0)) 1 (b ++ encB (prtB x p)), .int .i64 e])]) := by
  have hx0 := hx
  obtain ⟨h1, h2, h3, h4, h5, h6, h7, h8, h9, h10, h11⟩ := hx
  have hp0 := hp
  obtain ⟨hr, hf, hbb⟩ := hp
  refine t_twrite b x p e ?_
  rcases pr_cases hr with rfl | rfl | rfl | rfl | rfl | rfl | rfl | rfl | rfl | rfl <;> simp only [prtB, if_true, Int.reduceEq, if_false, s_twrite, OA_chk, cond_true, cond_false, OA_call, OA_asm, OA_loop, Int.reduceBEq, beq_self_eq_true]
  · simp [fitsS, inS] at hf
    have c := p_Count b x.form e (by omega) (by omega) h2.2
    simp only [c, u_asC, u_asI, u_asOwn, u_asN, Option.bind_some, nbeq, decide_true, cond_true]
  · simp [fitsS, inS] at hf
    have c := p_Count b x.field e (by omega) (by omega) h3.2
    simp only [c, u_asC, u_asI, u_asOwn, u_asN, Option.bind_some, nbeq, decide_true, cond_true]
  · simp [fitsS, inS] at hf
    have c := p_Count b x.place e (by omega) (by omega) h4.2
    simp only [c, u_asC, u_asI, u_asOwn, u_asN, Option.bind_some, nbeq, decide_true, cond_true]
  · simp [fitsS, inS] at hf
    have c := p_Count b x.to e (by omega) (by omega) h5.2
    simp only [c, u_asC, u_asI, u_asOwn, u_asN, Option.bind_some, nbeq, decide_true, cond_true]
  · simp [fitsS, inS] at hf
    have c := p_Count b x.a e (by omega) (by split at hf <;> omega) h6.2
    simp only [c, u_asC, u_asI, u_asOwn, u_asN, Option.bind_some, nbeq, decide_true, cond_true]
  · have g1 := zz_l h6
    have c := p_Num b x.a e (by omega) h6
    have c2 := p_Num (b ++ encB (cnt (zz x.a))) x.b e (by simp; omega) h7
    simp only [c, c2, u_asC, u_asI, u_asOwn, u_asN, Option.bind_some, nbeq, decide_true, cond_true, OA_call, encB_append, List.append_assoc]
  · simp [fitsS] at hf
    have c := c_writeField b x.f e h8 hf.1 (by omega)
    simp only [c, u_asC, u_asI, u_asOwn, u_asN, Option.bind_some, nbeq, decide_true, cond_true]
  · have g1 := zz_l h9
    have g2 := fits_s hf
    have c := p_Num b x.n e (by omega) h9
    have c2 := c_PText (b ++ encB (cnt (zz x.n))) x.s e (by simp; omega)
    simp only [penA] at c2
    simp only [c, c2, u_asC, u_asI, u_asOwn, u_asN, Option.bind_some, nbeq, decide_true, cond_true, OA_call, encB_append, List.append_assoc]
  · obtain ⟨g1, g2⟩ := fits_t hp0
    have g3 : (cnt x.t.length).length ≤ 10 := cnt_len10 (by omega)
    have c := p_Count b x.t.length e (by omega) (by omega) (by omega)
    have c2 := c_twriteT x.t g2 g1 x.t 0 (b ++ encB (cnt x.t.length)) e rfl (by simp; omega)
    simp only [Int.toNat_natCast, Int.natCast_zero] at c c2
    simp only [List.length_map, c, c2, u_asC, u_asI, u_asL, u_asOwn, u_asN, Option.bind_some, nbeq, decide_true, cond_true, cond_false, OA_call, OA_asm, OA_loop, encB_append, List.append_assoc, Nm_beq_self]
  · obtain ⟨g1, g2⟩ := fits_flds hx0 hf
    have g3 : (cnt x.fields.length).length ≤ 10 := cnt_len10 (by omega)
    have c := p_Count b x.fields.length e (by omega) (by omega) (by omega)
    have c2 := c_twriteF x.fields g1 g2 x.fields 0 (b ++ encB (cnt x.fields.length)) e rfl (by simp; omega)
    simp only [Int.toNat_natCast, Int.natCast_zero] at c c2
    simp only [List.length_map, c, c2, u_asC, u_asI, u_asL, u_asOwn, u_asN, Option.bind_some, nbeq, decide_true, cond_true, cond_false, OA_call, OA_asm, OA_loop, encB_append, List.append_assoc, Nm_beq_self]
end Go.Proofs.Ytmpfeofeokmooaa.V
namespace Go.Proofs.Ytmpfeofeokmooaa.V
open Go
theorem prtsB_cons (x : Stp) (p : Int) (l : List Int) : prtsB x (p :: l) = prtB x p ++ prtsB x l := by simp [prtsB]
theorem stpsB_cons (x : Stp) (l : List Stp) : stpsB (x :: l) = stpB x ++ stpsB l := by simp [stpsB]
theorem prtsB_len {x : Stp} (hx : x.ok) : ∀ (l : List Int), (∀ p ∈ l, Fits x p) → (prtsB x l).length ≤ 650 * l.length
  | [], _ => by simp [prtsB]
  | p :: l, h => by
    have h1 := prtB_len hx (h p (by simp))
    have h2 := prtsB_len hx l (fun g hg => h g (by simp [hg]))
    rw [prtsB_cons, List.length_append, List.length_cons]
    omega
theorem stpB_len {x : Stp} (hx : x.ok) (hr : tRightS x = true) : (stpB x).length ≤ 3300 := by
  obtain ⟨h1, h2, _⟩ := right_fits hr
  have h3 := prtsB_len hx _ h1
  have h4 := uses_len x.op
  have h5 := ops_rng h2
  have h6 : (cnt x.op.toNat).length ≤ 10 := cnt_len10 (by omega)
  unfold stpB
  rw [List.length_append]
  omega
theorem stpsB_len : ∀ (l : List Stp), (∀ x ∈ l, x.ok ∧ tRightS x = true) → (stpsB l).length ≤ 3300 * l.length
  | [], _ => by simp [stpsB]
  | x :: l, h => by
    have h1 := stpB_len (h x (by simp)).1 (h x (by simp)).2
    have h2 := stpsB_len l (fun g hg => h g (by simp [hg]))
    rw [stpsB_cons, List.length_append, List.length_cons]
    omega
theorem c_tPrintK (l : List Stp) (x : Stp) (hx : x.ok) (u : List Int) (m i : Int) (hu : u.length ≤ 5) (hf : ∀ p ∈ u, Fits x p) : ∀ (r : List Int) (k : Nat) (b : List AV) (e : Int), u.drop k = r → b.length + 700 * r.length + 700 ≤ 211106232532992 →
    ltbl E0 57 0 12 [stpsV l, .int .i64 m, .int .i64 i, intsV u, .int .i64 u.length, .int .i64 k] [stpC x, [.lst (.own (.O 1012 0)) 1 b, .int .i64 e]] = some (3, [stpsV l, .int .i64 m, .int .i64 i], [[.lst (.own (.O 1012 0)) 1 (b ++ encB (prtsB x r)), .int .i64 e]]) := by
  intro r
  induction r with
  | nil =>
    intro k b e hr hb
    have h : u.length ≤ k := by simpa using hr
    refine t_tPrintK _ _ _ _ _ _ _ _ _ ?_
    have : ¬ ((k : Int) < u.length) := by omega
    simp [s_tPrintK, this, prtsB, encB_nil]
  | cons p r ih =>
    intro k b e hr hb
    obtain ⟨hlt, hget, hr2⟩ := drop_c hr
    have h2 : (k : Int) < u.length := by omega
    have e1 := i64_succ (i := k) (by omega)
    have g1 := hf p (mem_drop hr)
    have hl := prtB_len hx g1
    simp only [List.length_cons] at hb
    have h := ih (k + 1) (b ++ encB (prtB x p)) e hr2 (by simp; omega)
    have c := c_twrite b x p e hx g1 (by omega)
    simp only [stpV, stpC, intsV, fldsV] at c h
    have eb : b ++ encB (prtsB x (p :: r)) = b ++ encB (prtB x p) ++ encB (prtsB x r) := by rw [prtsB_cons, encB_append, List.append_assoc]
    refine t_tPrintK _ _ _ _ _ _ _ _ _ ?_
    rw [eb, ← h]
    simp only [s_tPrintK, h2, decide_true, cond_true, OA_chk, Int.natCast_nonneg, nthE, Int.toNat_natCast, List.getElem?_map, hget, Option.map_some, u_asC, u_asI, u_asOwn, u_asN, OA_call, c, Option.bind_some, nbeq, e1]
theorem c_tPrintL (l : List Stp) (hl : l.length ≤ 40) (hok : ∀ x ∈ l, x.ok ∧ x.sml) : ∀ (r : List Stp) (i : Nat) (b : List AV) (e : Int), l.drop i = r → b.length + 4000 * r.length + 4000 ≤ 211106232532992 →
    ltbl E0 57 0 6 [stpsV l, .int .i64 l.length, .int .i64 i] [[.lst (.own (.O 1012 0)) 1 b, .int .i64 e]] = some (if r.all tRightS then (1, [], [[.lst (.own (.O 1012 0)) 1 (b ++ encB (stpsB r)), .int .i64 e]]) else (0, [.lst .ro 1 [], .int .i64 2], [])) := by
  intro r
  induction r with
  | nil =>
    intro i b e hr hb
    have h : l.length ≤ i := by simpa using hr
    refine t_tPrintL _ _ _ _ _ ?_
    have : ¬ ((i : Int) < l.length) := by omega
    simp [s_tPrintL, this, stpsB, encB_nil]
  | cons x r ih =>
    intro i b e hr hb
    obtain ⟨hlt, hget, hr2⟩ := drop_c hr
    have h2 : (i : Int) < l.length := by omega
    have e1 := i64_succ (i := i) (by omega)
    obtain ⟨x1, x2⟩ := hok x (mem_drop hr)
    have c0 := c_tRight x x1 x2
    simp only [stpV, stpC, intsV, fldsV] at c0
    refine t_tPrintL _ _ _ _ _ ?_
    simp only [s_tPrintL, OA_asm, h2, decide_true, cond_true, OA_chk, Int.natCast_nonneg, nthE, Int.toNat_natCast, List.getElem?_map, hget, Option.map_some, u_asA, u_asC, u_asI, u_asB, u_asS, u_asL, u_asN, OA_callx, c0, Option.bind_some]
    rcases bor (tRightS x) with hq | hq
    · obtain ⟨g1, g2, g3⟩ := right_fits hq
      have g4 := ops_rng g2
      have hxl := stpB_len x1 hq
      have h6 : (cnt x.op.toNat).length ≤ 10 := cnt_len10 (by omega)
      simp only [List.length_cons] at hb
      have h := ih (i + 1) (b ++ encB (stpB x)) e hr2 (by simp; omega)
      have c1 := p_Count b x.op e (by omega) (by omega) x1.1.2
      have c2 := c_tuses x.op
      have k := c_tPrintK l x x1 (usesS x.op) (l.length : Int) (i : Int) (uses_len _) g1 (usesS x.op) 0 (b ++ encB (cnt x.op.toNat)) e rfl (by have := uses_len x.op; simp; omega)
      simp only [Int.natCast_zero, stpC, intsV, fldsV] at k
      have ek : b ++ encB (cnt x.op.toNat) ++ encB (prtsB x (usesS x.op)) = b ++ encB (stpB x) := by unfold stpB; simp only [encB_append, List.append_assoc]
      rw [ek] at k
      have eb : b ++ encB (stpsB (x :: r)) = b ++ encB (stpB x) ++ encB (stpsB r) := by rw [stpsB_cons, encB_append, List.append_assoc]
      simp only [hq, Bool.not_true, cond_false, OA_call, c1, u_asC, u_asI, u_asB, u_asL, u_asOwn, u_asN, Option.bind_some, OA_callx, c2, OA_asm, OA_loop, List.length_map, k, nbeq, decide_true, cond_true, Nm_beq_self, e1, List.all_cons, Bool.true_and, eb]
      exact h
    · simp [hq]
theorem c_tPrint (l : List Stp) (hok : ∀ x ∈ l, x.ok ∧ x.sml) : tbl E0 57 [stpsV l] [] = some ([.lst .ro 1 (if l.length ≤ 40 ∧ l.all tRightS = true then encB (lstB l) else []), .int .i64 (if 40 < l.length then 7 else if l.all tRightS = true then 0 else 2)], []) :=
  t_tPrint l (by
    by_cases hl : 40 < l.length
    · have h1 : (l.length : Int) > 40 := by omega
      have h2 : ¬ (l.length ≤ 40) := by omega
      simp [s_tPrint, h1, h2, hl]
    · have h1 : ¬ ((l.length : Int) > 40) := by omega
      have hl2 : l.length ≤ 40 := by omega
      have h7 : (cnt l.length).length ≤ 10 := cnt_len10 (by omega)
      have c1 := p_Count [] l.length 0 (by simp) (by omega) (by omega)
      simp only [Int.toNat_natCast, List.nil_append] at c1
      have k := c_tPrintL l hl2 hok l 0 (encB (cnt l.length)) 0 rfl (by simp; omega)
      simp only [Int.natCast_zero, ← encB_append] at k
      rcases bor (l.all tRightS) with hq | hq
      · have hs := stpsB_len l (fun x hx => ⟨(hok x hx).1, List.all_eq_true.1 hq x hx⟩)
        have d := c_PDone (lstB l) 0 (by unfold lstB; rw [List.length_append]; omega)
        simp only [penV, penA, if_true] at d
        simp only [hq, if_true] at k
        have ek : cnt l.length ++ stpsB l = lstB l := rfl
        rw [ek] at k
        simp only [s_tPrint, hq, hl, hl2, h1, OA_asm, List.length_map, decide_true, decide_false, cond_true, cond_false, OA_chk, u_asC, u_asI, u_asB, u_asL, u_asOwn, u_asN, u_asRef0, OA_call, OA_callx, OA_loop, c_New, c1, k, d, Option.bind_some, nbeq, Nm_beq_self, if_true, if_false, and_self, Nat.one_ne_zero]
      · simp only [hq, Bool.false_eq_true, if_false] at k
        simp only [s_tPrint, hq, hl, hl2, h1, OA_asm, List.length_map, decide_true, decide_false, cond_true, cond_false, OA_chk, u_asC, u_asI, u_asB, u_asL, u_asOwn, u_asN, u_asRef0, OA_call, OA_callx, OA_loop, c_New, c1, k, Option.bind_some, nbeq, Nm_beq_self, if_false, Bool.false_eq_true, and_false])
end Go.Proofs.Ytmpfeofeokmooaa.V
namespace Go.Proofs.Ytmpfeofeokmooaa.V
open Go
end Go.Proofs.Ytmpfeofeokmooaa.V
namespace Go.Proofs.Ytmpfeofeokmooaa.V
open Go
theorem e_Count (q : St) (m : Int) (h : q.1.length ≤ 211106232532992) : tbl E0 63 [.ref 0 0, .int .i64 m] [(0, [.lst .ro 1 (encB q.1), .int .i64 q.2])] = some ([.int .i64 (cS q m).1], [(0, [.lst .ro 1 (encB (cS q m).2.1), .int .i64 (cS q m).2.2])]) := c_ECount q.1 q.2 m h
theorem e_Num (q : St) (h : q.1.length ≤ 211106232532992) : tbl E0 138 [.ref 0 0] [(0, [.lst .ro 1 (encB q.1), .int .i64 q.2])] = some ([.int .i64 (nS q).1], [(0, [.lst .ro 1 (encB (nS q).2.1), .int .i64 (nS q).2.2])]) := c_ENum q.1 q.2 h
theorem e_Text (q : St) (m : Int) (h : q.1.length ≤ 211106232532992) : tbl E0 64 [.ref 0 0, .int .i64 m] [(0, [.lst .ro 1 (encB q.1), .int .i64 q.2])] = some ([.str (xS q m).1], [(0, [.lst .ro 1 (encB (xS q m).2.1), .int .i64 (xS q m).2.2])]) := c_EText q.1 q.2 m h
theorem c_readField (q : St) (h : q.1.length ≤ 211106232532992) : tbl E0 139 [.ref 0 0] [(0, [.lst .ro 1 (encB q.1), .int .i64 q.2])] = some ([fldV (tkFldW q).1], [(0, [.lst .ro 1 (encB (tkFldW q).2.1), .int .i64 (tkFldW q).2.2])]) :=
  t_readField q.1 q.2 (by
    have h1 := cS_len q 255
    have h2 := cS_len (cS q 255).2 4
    have h3 := nS_len (cS (cS q 255).2 4).2
    have h4 := nS_len (nS (cS (cS q 255).2 4).2).2
    have c1 := e_Count q 255 h
    have c2 := e_Count (cS q 255).2 4 (by omega)
    have c3 := e_Num (cS (cS q 255).2 4).2 (by omega)
    have c4 := e_Num (nS (cS (cS q 255).2 4).2).2 (by omega)
    have c5 := e_Count (nS (nS (cS (cS q 255).2 4).2).2).2 1000 (by omega)
    simp only [s_readField, OA_asm, OA_chk, OA_call, OA_callx, OA_loop, OA_both_id, u_asA, u_asC, u_asI, u_asB, u_asS, u_asL, u_asOwn, u_asN, u_asRef0, Option.bind_some, nbeq, Nm_beq_self, decide_true, cond_true, cond_false, c1, c2, c3, c4, c5, tkFldW])
theorem c_treadT  : ∀ (j k : Nat) (x : Stp) (q : St), q.1.length ≤ 211106232532992 → x.t.length + j ≤ 1000 → k + j ≤ 1000 →
    ltbl E0 115 0 21 [.int .i64 ((k + j : Nat) : Int), .int .i64 k] [[.lst .ro 1 (encB q.1), .int .i64 q.2], stpO x (.O 1 14) (.O 1 15)] = some (2, [], [[.lst .ro 1 (encB (tkInts j q).2.1), .int .i64 (tkInts j q).2.2], stpO { x with t := x.t ++ (tkInts j q).1 } (.O 1 14) (.O 1 15)]) := by
  intro j
  induction j with
  | zero =>
    intro k x q hq hx hk
    refine t_treadT _ _ _ _ _ ?_
    have : ¬ ((k : Int) < ((k + 0 : Nat) : Int)) := by omega
    simp only [s_treadT, this, decide_false, cond_false, tkInts, List.append_nil]
  | succ j ih =>
    intro k x q hq hx hk
    have h2 : (k : Int) < ((k + (j + 1) : Nat) : Int) := by omega
    have e1 := i64_succ (i := k) (by omega)
    have hl := cS_len q 1000
    have h := ih (k + 1) { x with t := x.t ++ [(cS q 1000).1] } (cS q 1000).2 (Nat.le_trans hl hq) (by simp; omega) (by omega)
    have c := e_Count q 1000 hq
    rw [show k + 1 + j = k + (j + 1) by omega] at h
    simp only [List.map_append, List.map_cons, List.map_nil, List.append_assoc, List.singleton_append, stpO, stpC, intsV, fldsV] at h
    refine t_treadT _ _ _ _ _ ?_
    have q1 : (x.t.length + 1) * 8 ≤ 211106232532992 := by omega
    simp only [s_treadT, h2, OA_asm, OA_chk, OA_call, OA_callx, OA_loop, OA_both_id, u_asA, u_asC, u_asI, u_asB, u_asS, u_asL, u_asOwn, u_asN, u_asRef0, Option.bind_some, nbeq, Nm_beq_self, decide_true, cond_true, cond_false, c, List.length_map, List.length_cons, List.length_nil, Nat.zero_add, q1, e1, tkInts, stpO, List.map_append, List.map_cons]
    exact h
theorem c_treadF  : ∀ (j k : Nat) (x : Stp) (q : St), q.1.length ≤ 211106232532992 → x.fields.length + j ≤ 1000 → k + j ≤ 1000 →
    ltbl E0 115 0 26 [.int .i64 ((k + j : Nat) : Int), .int .i64 k] [[.lst .ro 1 (encB q.1), .int .i64 q.2], stpO x (.O 1 14) (.O 1 15)] = some (4, [], [[.lst .ro 1 (encB (tkFldsW j q).2.1), .int .i64 (tkFldsW j q).2.2], stpO { x with fields := x.fields ++ (tkFldsW j q).1 } (.O 1 14) (.O 1 15)]) := by
  intro j
  induction j with
  | zero =>
    intro k x q hq hx hk
    refine t_treadF _ _ _ _ _ ?_
    have : ¬ ((k : Int) < ((k + 0 : Nat) : Int)) := by omega
    simp only [s_treadF, this, decide_false, cond_false, tkFldsW, List.append_nil]
  | succ j ih =>
    intro k x q hq hx hk
    have h2 : (k : Int) < ((k + (j + 1) : Nat) : Int) := by omega
    have e1 := i64_succ (i := k) (by omega)
    have hl := tkFldW_len q
    have h := ih (k + 1) { x with fields := x.fields ++ [(tkFldW q).1] } (tkFldW q).2 (Nat.le_trans hl hq) (by simp; omega) (by omega)
    have c := c_readField q hq
    rw [show k + 1 + j = k + (j + 1) by omega] at h
    simp only [List.map_append, List.map_cons, List.map_nil, List.append_assoc, List.singleton_append, stpO, stpC, intsV, fldsV] at h
    refine t_treadF _ _ _ _ _ ?_
    have q1 : (x.fields.length + 1) * 40 ≤ 211106232532992 := by omega
    simp only [s_treadF, h2, OA_asm, OA_chk, OA_call, OA_callx, OA_loop, OA_both_id, u_asA, u_asC, u_asI, u_asB, u_asS, u_asL, u_asOwn, u_asN, u_asRef0, Option.bind_some, nbeq, Nm_beq_self, decide_true, cond_true, cond_false, c, List.length_map, List.length_cons, List.length_nil, Nat.zero_add, q1, e1, tkFldsW, stpO, List.map_append, List.map_cons]
    exact h
end Go.Proofs.Ytmpfeofeokmooaa.V
namespace Go.Proofs.Ytmpfeofeokmooaa.V
open Go
theorem cnt64 (q : St) (m : Int) (hm : 0 ≤ m) (hm2 : m ≤ 64) : (cS q m).1.toNat ≤ 64 := by have := cS_rng q hm; omega
theorem setP_tlen (x : Stp) (p : Int) (q : St) : (setP x p q).1.t.length ≤ x.t.length + 64 ∧ (setP x p q).1.fields.length ≤ x.fields.length + 64 := by
  have h1 := cnt64 q 64 (by omega) (by omega)
  have h2 := cnt64 q 8 (by omega) (by omega)
  unfold setP
  repeat' split
  all_goals simp [tkInts_n, tkFldsW_n] <;> omega
theorem c_tread (x : Stp) (p : Int) (hp : 0 ≤ p ∧ p ≤ 9) (q : St) (hq : q.1.length ≤ 211106232532992) (ht : x.t.length ≤ 900) (hf : x.fields.length ≤ 900) : tbl E0 115 [.ref 0 0, .ref 1 0, .int .i64 p] [(0, [.lst .ro 1 (encB q.1), .int .i64 q.2]), (1, stpO x (.E 1 14) (.E 1 15))] = some ([], [(0, [.lst .ro 1 (encB (setP x p q).2.1), .int .i64 (setP x p q).2.2]), (1, stpO (setP x p q).1 (.E 1 14) (.E 1 15))]) := by
  refine t_tread q.1 x p q.2 ?_
  rcases pr_cases hp with rfl | rfl | rfl | rfl | rfl | rfl | rfl | rfl | rfl | rfl <;> simp only [setP, s_tread, if_true, Int.reduceEq, if_false, cond_true, cond_false, Int.reduceBEq, beq_self_eq_true, OA_call, stpO]
  · have c := e_Count q 200 hq
    simp only [c, OA_asm, OA_chk, OA_call, OA_callx, OA_loop, OA_both_id, u_asA, u_asC, u_asI, u_asB, u_asS, u_asL, u_asOwn, u_asN, u_asRef0, Option.bind_some, nbeq, Nm_beq_self, decide_true, cond_true, cond_false]
  · have c := e_Count q 255 hq
    simp only [c, OA_asm, OA_chk, OA_call, OA_callx, OA_loop, OA_both_id, u_asA, u_asC, u_asI, u_asB, u_asS, u_asL, u_asOwn, u_asN, u_asRef0, Option.bind_some, nbeq, Nm_beq_self, decide_true, cond_true, cond_false]
  · have c := e_Count q 8 hq
    simp only [c, OA_asm, OA_chk, OA_call, OA_callx, OA_loop, OA_both_id, u_asA, u_asC, u_asI, u_asB, u_asS, u_asL, u_asOwn, u_asN, u_asRef0, Option.bind_some, nbeq, Nm_beq_self, decide_true, cond_true, cond_false]
  · have c := e_Count q 255 hq
    simp only [c, OA_asm, OA_chk, OA_call, OA_callx, OA_loop, OA_both_id, u_asA, u_asC, u_asI, u_asB, u_asS, u_asL, u_asOwn, u_asN, u_asRef0, Option.bind_some, nbeq, Nm_beq_self, decide_true, cond_true, cond_false]
  · have c := e_Count q 1048576 hq
    simp only [c, OA_asm, OA_chk, OA_call, OA_callx, OA_loop, OA_both_id, u_asA, u_asC, u_asI, u_asB, u_asS, u_asL, u_asOwn, u_asN, u_asRef0, Option.bind_some, nbeq, Nm_beq_self, decide_true, cond_true, cond_false]
  · have l1 := nS_len q
    have c := e_Num q hq
    have c2 := e_Num (nS q).2 (by omega)
    simp only [c, c2, OA_asm, OA_chk, OA_call, OA_callx, OA_loop, OA_both_id, u_asA, u_asC, u_asI, u_asB, u_asS, u_asL, u_asOwn, u_asN, u_asRef0, Option.bind_some, nbeq, Nm_beq_self, decide_true, cond_true, cond_false]
  · have c := c_readField q hq
    simp only [c, OA_asm, OA_chk, OA_call, OA_callx, OA_loop, OA_both_id, u_asA, u_asC, u_asI, u_asB, u_asS, u_asL, u_asOwn, u_asN, u_asRef0, Option.bind_some, nbeq, Nm_beq_self, decide_true, cond_true, cond_false]
  · have l1 := nS_len q
    have c := e_Num q hq
    have c2 := e_Text (nS q).2 32 (by omega)
    simp only [c, c2, OA_asm, OA_chk, OA_call, OA_callx, OA_loop, OA_both_id, u_asA, u_asC, u_asI, u_asB, u_asS, u_asL, u_asOwn, u_asN, u_asRef0, Option.bind_some, nbeq, Nm_beq_self, decide_true, cond_true, cond_false]
  · have l1 := cS_len q 64
    have g1 := cS_rng q (m := 64) (by omega)
    have c := e_Count q 64 hq
    have k := c_treadT (cS q 64).1.toNat 0 x (cS q 64).2 (by omega) (by omega) (by omega)
    rw [Nat.zero_add, Int.toNat_of_nonneg g1.1] at k
    simp only [Int.natCast_zero, stpO] at k
    simp only [c, k, OA_asm, OA_chk, OA_call, OA_callx, OA_loop, OA_both_id, u_asA, u_asC, u_asI, u_asB, u_asS, u_asL, u_asOwn, u_asN, u_asRef0, Option.bind_some, nbeq, Nm_beq_self, decide_true, cond_true, cond_false]
  · have l1 := cS_len q 8
    have g1 := cS_rng q (m := 8) (by omega)
    have c := e_Count q 8 hq
    have k := c_treadF (cS q 8).1.toNat 0 x (cS q 8).2 (by omega) (by omega) (by omega)
    rw [Nat.zero_add, Int.toNat_of_nonneg g1.1] at k
    simp only [Int.natCast_zero, stpO] at k
    simp only [c, k, OA_asm, OA_chk, OA_call, OA_callx, OA_loop, OA_both_id, u_asA, u_asC, u_asI, u_asB, u_asS, u_asL, u_asOwn, u_asN, u_asRef0, Option.bind_some, nbeq, Nm_beq_self, decide_true, cond_true, cond_false]
theorem c_tParseK (l : List Stp) (n i : Int) (u : List Int) (hu : u.length ≤ 5) (hok : ∀ p ∈ u, 0 ≤ p ∧ p ≤ 9) : ∀ (r : List Int) (k : Nat) (x : Stp) (q : St), u.drop k = r → q.1.length ≤ 211106232532992 → x.t.length + 64 * r.length ≤ 900 → x.fields.length + 64 * r.length ≤ 900 →
    ltbl E0 67 0 7 [.lst (.own (.L 5)) 16 (l.map stpV), .int .i64 n, .int .i64 i, intsV u, .int .i64 u.length, .int .i64 k] [stpO x (.O 1006 14) (.O 1006 15), [.lst .ro 1 (encB q.1), .int .i64 q.2]] = some (3, [.lst (.own (.L 5)) 16 (l.map stpV), .int .i64 n, .int .i64 i], [stpO (rdPs r x q).1 (.O 1006 14) (.O 1006 15), [.lst .ro 1 (encB (rdPs r x q).2.1), .int .i64 (rdPs r x q).2.2]]) := by
  intro r
  induction r with
  | nil =>
    intro k x q hr hq hx hf
    have h : u.length ≤ k := by simpa using hr
    refine t_tParseK _ _ _ _ _ _ _ _ _ ?_
    have : ¬ ((k : Int) < u.length) := by omega
    simp only [s_tParseK, this, decide_false, cond_false, rdPs]
  | cons p r ih =>
    intro k x q hr hq hx hf
    obtain ⟨hlt, hget, hr2⟩ := drop_c hr
    have h2 : (k : Int) < u.length := by omega
    have e1 := i64_succ (i := k) (by omega)
    have hl := setP_len x p q
    have g := setP_tlen x p q
    simp only [List.length_cons] at hx hf
    have c := c_tread x p (hok p (mem_drop hr)) q hq (by omega) (by omega)
    have h := ih (k + 1) (setP x p q).1 (setP x p q).2 hr2 (by omega) (by omega) (by omega)
    simp only [stpO, intsV] at c h
    refine t_tParseK _ _ _ _ _ _ _ _ _ ?_
    simp only [s_tParseK, h2, Int.natCast_nonneg, nthE, Int.toNat_natCast, List.getElem?_map, hget, Option.map_some, OA_asm, OA_chk, OA_call, OA_callx, OA_loop, OA_both_id, u_asA, u_asC, u_asI, u_asB, u_asS, u_asL, u_asOwn, u_asN, u_asRef0, Option.bind_some, nbeq, Nm_beq_self, decide_true, cond_true, cond_false, c, e1, rdPs, stpO]
    exact h
theorem c_tParseL : ∀ (j i : Nat) (l : List Stp) (q : St), q.1.length ≤ 211106232532992 → l.length + j ≤ 1000 → i + j ≤ 1000 →
    ltbl E0 67 0 4 [.lst (.own (.L 5)) 16 (l.map stpV), .int .i64 ((i + j : Nat) : Int), .int .i64 i] [[.lst .ro 1 (encB q.1), .int .i64 q.2]] = some (1, [.lst (.own (.L 5)) 16 ((l ++ (tkStps j q).1).map stpV)], [[.lst .ro 1 (encB (tkStps j q).2.1), .int .i64 (tkStps j q).2.2]]) := by
  intro j
  induction j with
  | zero =>
    intro i l q hq hl hk
    refine t_tParseL _ _ _ _ _ ?_
    have : ¬ ((i : Int) < ((i + 0 : Nat) : Int)) := by omega
    simp only [s_tParseL, this, decide_false, cond_false, tkStps, List.append_nil]
  | succ j ih =>
    intro i l q hq hl hk
    have h2 : (i : Int) < ((i + (j + 1) : Nat) : Int) := by omega
    have e1 := i64_succ (i := i) (by omega)
    have l1 := cS_len q 30
    have l2 := tkStp_len q
    have c := e_Count q 30 hq
    have c2 := c_tuses (cS q 30).1
    have hul := uses_len (cS q 30).1
    have k := c_tParseK l ((i + (j + 1) : Nat) : Int) (i : Int) (usesS (cS q 30).1) hul (uses_rng _) (usesS (cS q 30).1) 0 (stp0 (cS q 30).1) (cS q 30).2 rfl (by omega) (by simp [stp0]; omega) (by simp [stp0]; omega)
    have h := ih (i + 1) (l ++ [(tkStp q).1]) (tkStp q).2 (by omega) (by simp; omega) (by omega)
    rw [show i + 1 + j = i + (j + 1) by omega] at h
    simp only [List.map_append, List.map_cons, List.map_nil, List.append_assoc, List.singleton_append, tkStp, stpV, stpC, intsV, fldsV] at h
    simp only [Int.natCast_zero, stpO, stp0, intsV, List.map_nil, fld0] at k
    refine t_tParseL _ _ _ _ _ ?_
    have q1 : (l.length + 1) * 168 ≤ 211106232532992 := by omega
    simp only [s_tParseL, h2, OA_asm, OA_chk, OA_call, OA_callx, OA_loop, OA_both_id, u_asA, u_asC, u_asI, u_asB, u_asS, u_asL, u_asOwn, u_asN, u_asRef0, Option.bind_some, nbeq, Nm_beq_self, decide_true, cond_true, cond_false, c, c2, k, List.length_map, List.length_cons, List.length_nil, Nat.zero_add, q1, e1, tkStps, List.map_append, List.map_cons, tkStp, stp0, fld0] at h ⊢
    exact h
theorem c_Parse1 (x : Stp) (hx : x.ok) (hs : x.sml) : tbl E0 117 [stpV x] [] = some ([.bool (!tRightS x)], []) :=
  t_Parse1 x (by
    have c := c_tRight x hx hs
    simp only [stpV, stpC, intsV, fldsV] at c
    simp only [s_Parse1, OA_asm, OA_chk, OA_call, OA_callx, OA_loop, OA_both_id, u_asA, u_asC, u_asI, u_asB, u_asS, u_asL, u_asOwn, u_asN, u_asRef0, Option.bind_some, nbeq, Nm_beq_self, decide_true, cond_true, cond_false, c])
theorem c_IndexSL (l : List Stp) (hl : l.length ≤ 1000) (hok : ∀ x ∈ l, x.ok ∧ x.sml) : ∀ (r : List Stp) (i : Nat), l.drop i = r →
    ∃ z : Int, (if r.all tRightS then ltbl E0 140 0 2 [stpsV l, .clo 117 [], .int .i64 l.length, .int .i64 i] [] = some (1, [], []) else 0 ≤ z ∧ ltbl E0 140 0 2 [stpsV l, .clo 117 [], .int .i64 l.length, .int .i64 i] [] = some (0, [.int .i64 z], [])) := by
  intro r
  induction r with
  | nil =>
    intro i hr
    have h : l.length ≤ i := by simpa using hr
    refine ⟨0, ?_⟩
    simp only [List.all_nil, if_true]
    refine t_IndexSL _ _ _ ?_
    have : ¬ ((i : Int) < l.length) := by omega
    simp [s_IndexSL, this]
  | cons x r ih =>
    intro i hr
    obtain ⟨hlt, hget, hr2⟩ := drop_c hr
    have h2 : (i : Int) < l.length := by omega
    have e1 := i64_succ (i := i) (by omega)
    obtain ⟨x1, x2⟩ := hok x (mem_drop hr)
    have c := c_Parse1 x x1 x2
    simp only [stpV, stpC, intsV, fldsV] at c
    obtain ⟨z, h⟩ := ih (i + 1) hr2
    rcases bor (tRightS x) with hq | hq
    · have e : ∀ {y}, ltbl E0 140 0 2 [stpsV l, .clo 117 [], .int .i64 l.length, .int .i64 ((i + 1 : Nat) : Int)] [] = some y → ltbl E0 140 0 2 [stpsV l, .clo 117 [], .int .i64 l.length, .int .i64 i] [] = some y := fun {y} hy => by
        refine t_IndexSL _ _ _ ?_
        simp only [s_IndexSL, h2, Int.natCast_nonneg, nthE, Int.toNat_natCast, List.getElem?_map, hget, Option.map_some, OA_asm, OA_chk, OA_call, OA_callx, OA_loop, OA_both_id, u_asA, u_asC, u_asI, u_asB, u_asS, u_asL, u_asOwn, u_asN, u_asRef0, Option.bind_some, nbeq, Nm_beq_self, decide_true, cond_true, cond_false, c, e1, hq, Bool.not_true]
        exact hy
      refine ⟨z, ?_⟩
      simp only [List.all_cons, hq, Bool.true_and]
      rcases bor (r.all tRightS) with hb | hb
      · simp only [hb, if_true] at h ⊢
        exact e h
      · simp only [hb, Bool.false_eq_true, if_false] at h ⊢
        exact ⟨h.1, e h.2⟩
    · refine ⟨(i : Int), ?_⟩
      simp only [List.all_cons, hq, Bool.false_and, Bool.false_eq_true, if_false]
      refine ⟨by omega, t_IndexSL _ _ _ ?_⟩
      simp only [s_IndexSL, h2, Int.natCast_nonneg, nthE, Int.toNat_natCast, List.getElem?_map, hget, Option.map_some, OA_asm, OA_chk, OA_call, OA_callx, OA_loop, OA_both_id, u_asA, u_asC, u_asI, u_asB, u_asS, u_asL, u_asOwn, u_asN, u_asRef0, Option.bind_some, nbeq, Nm_beq_self, decide_true, cond_true, cond_false, c, e1, hq, Bool.not_false]
theorem c_ContainsS (l : List Stp) (hl : l.length ≤ 1000) (hok : ∀ x ∈ l, x.ok ∧ x.sml) : tbl E0 116 [stpsV l, .clo 117 []] [] = some ([.bool (!l.all tRightS)], []) := by
  obtain ⟨z, h⟩ := c_IndexSL l hl hok l 0 rfl
  simp only [Int.natCast_zero] at h
  refine t_ContainsS l ?_
  rcases bor (l.all tRightS) with hb | hb
  · simp only [hb, if_true] at h ⊢
    have c : tbl E0 140 [stpsV l, .clo 117 []] [] = some ([.int .i64 (-1)], []) := t_IndexS l (by simp only [s_IndexS, List.length_map, OA_asm, OA_chk, OA_call, OA_callx, OA_loop, OA_both_id, u_asA, u_asC, u_asI, u_asB, u_asS, u_asL, u_asOwn, u_asN, u_asRef0, Option.bind_some, nbeq, Nm_beq_self, decide_true, cond_true, cond_false, h]; rfl)
    simp only [s_ContainsS, OA_asm, OA_chk, OA_call, OA_callx, OA_loop, OA_both_id, u_asA, u_asC, u_asI, u_asB, u_asS, u_asL, u_asOwn, u_asN, u_asRef0, Option.bind_some, nbeq, Nm_beq_self, decide_true, cond_true, cond_false, c]
    rfl
  · simp only [hb, Bool.false_eq_true, if_false] at h ⊢
    have c : tbl E0 140 [stpsV l, .clo 117 []] [] = some ([.int .i64 z], []) := t_IndexS l (by simp only [s_IndexS, List.length_map, OA_asm, OA_chk, OA_call, OA_callx, OA_loop, OA_both_id, u_asA, u_asC, u_asI, u_asB, u_asS, u_asL, u_asOwn, u_asN, u_asRef0, Option.bind_some, nbeq, Nm_beq_self, decide_true, cond_true, cond_false, h.2])
    have hz : z ≥ 0 := h.1
    simp only [s_ContainsS, OA_asm, OA_chk, OA_call, OA_callx, OA_loop, OA_both_id, u_asA, u_asC, u_asI, u_asB, u_asS, u_asL, u_asOwn, u_asN, u_asRef0, Option.bind_some, nbeq, Nm_beq_self, decide_true, cond_true, cond_false, c, hz]
    rfl
end Go.Proofs.Ytmpfeofeokmooaa.V
namespace Go.Proofs.Ytmpfeofeokmooaa.V
open Go
theorem cS_i64 (q : St) (m : Int) (hm : 0 ≤ m) (hm2 : m ≤ 1048576) : i64 (cS q m).1 := by
  have := cS_rng q hm
  unfold i64; omega
theorem nS_i64 (q : St) : i64 (nS q).1 := unz_range (grpS_bound q.1 q.2)
theorem tkFldW_ok (q : St) : (tkFldW q).1.ok := ⟨cS_i64 _ _ (by omega) (by omega), cS_i64 _ _ (by omega) (by omega), nS_i64 _, nS_i64 _, cS_i64 _ _ (by omega) (by omega)⟩
theorem tkFldsW_ok : ∀ (n : Nat) (q : St), ∀ f ∈ (tkFldsW n q).1, f.ok
  | 0, q, f, h => by cases h
  | n + 1, q, f, h => by
    simp only [tkFldsW, List.mem_cons] at h
    rcases h with rfl | h
    · exact tkFldW_ok q
    · exact tkFldsW_ok n _ f h
theorem tkInts_ok : ∀ (n : Nat) (q : St), ∀ f ∈ (tkInts n q).1, i64 f
  | 0, q, f, h => by cases h
  | n + 1, q, f, h => by
    simp only [tkInts, List.mem_cons] at h
    rcases h with rfl | h
    · exact cS_i64 _ _ (by omega) (by omega)
    · exact tkInts_ok n _ f h
theorem setP_ok {x : Stp} (hx : x.ok) (p : Int) (q : St) : (setP x p q).1.ok := by
  obtain ⟨h1, h2, h3, h4, h5, h6, h7, h8, h9, h10, h11⟩ := hx
  have g0 := cS_i64 q 200 (by omega) (by omega)
  have g1 := cS_i64 q 255 (by omega) (by omega)
  have g2 := cS_i64 q 8 (by omega) (by omega)
  have g3 := cS_i64 q 1048576 (by omega) (by omega)
  have g4 := nS_i64 q
  have g5 := nS_i64 (nS q).2
  have g6 := tkFldW_ok q
  unfold setP
  repeat' split
  · exact ⟨h1, g0, h3, h4, h5, h6, h7, h8, h9, h10, h11⟩
  · exact ⟨h1, h2, g1, h4, h5, h6, h7, h8, h9, h10, h11⟩
  · exact ⟨h1, h2, h3, g2, h5, h6, h7, h8, h9, h10, h11⟩
  · exact ⟨h1, h2, h3, h4, g1, h6, h7, h8, h9, h10, h11⟩
  · exact ⟨h1, h2, h3, h4, h5, g3, h7, h8, h9, h10, h11⟩
  · exact ⟨h1, h2, h3, h4, h5, g4, g5, h8, h9, h10, h11⟩
  · exact ⟨h1, h2, h3, h4, h5, h6, h7, g6, h9, h10, h11⟩
  · exact ⟨h1, h2, h3, h4, h5, h6, h7, h8, g4, h10, h11⟩
  · exact ⟨h1, h2, h3, h4, h5, h6, h7, h8, h9, fun n hn => (List.mem_append.1 hn).elim (h10 n) (tkInts_ok _ _ n), h11⟩
  · exact ⟨h1, h2, h3, h4, h5, h6, h7, h8, h9, h10, fun n hn => (List.mem_append.1 hn).elim (h11 n) (tkFldsW_ok _ _ n)⟩
theorem rdPs_ok : ∀ (l : List Int) (x : Stp) (q : St), x.ok → (rdPs l x q).1.ok
  | [], x, q, h => h
  | p :: l, x, q, h => rdPs_ok l _ _ (setP_ok h p q)
theorem rdPs_tlen : ∀ (l : List Int) (x : Stp) (q : St), (rdPs l x q).1.t.length ≤ x.t.length + 64 * l.length ∧ (rdPs l x q).1.fields.length ≤ x.fields.length + 64 * l.length
  | [], x, q => ⟨Nat.le_refl _, Nat.le_refl _⟩
  | p :: l, x, q => by
    have h1 := rdPs_tlen l (setP x p q).1 (setP x p q).2
    have h2 := setP_tlen x p q
    rw [rdPs, List.length_cons]
    omega
theorem tkStp_ok (q : St) : (tkStp q).1.ok ∧ (tkStp q).1.sml := by
  have z : i64 0 := by unfold i64; omega
  have h1 := rdPs_tlen (usesS (cS q 30).1) (stp0 (cS q 30).1) (cS q 30).2
  have h2 := uses_len (cS q 30).1
  simp only [stp0, List.length_nil] at h1
  refine ⟨rdPs_ok _ _ _ ⟨cS_i64 _ _ (by omega) (by omega), z, z, z, z, z, z, ⟨z, z, z, z, z⟩, z, by simp [stp0], by simp [stp0]⟩, ?_, ?_⟩
  · show (rdPs _ _ _).1.t.length ≤ _
    unfold stp0; omega
  · show (rdPs _ _ _).1.fields.length ≤ _
    unfold stp0; omega
theorem tkStps_ok : ∀ (n : Nat) (q : St), ∀ f ∈ (tkStps n q).1, f.ok ∧ f.sml
  | 0, q, f, h => by cases h
  | n + 1, q, f, h => by
    simp only [tkStps, List.mem_cons] at h
    rcases h with rfl | h
    · exact tkStp_ok q
    · exact tkStps_ok n _ f h
theorem tkLst_ok (b : List UInt8) : (∀ f ∈ (tkLst b).1, f.ok ∧ f.sml) ∧ (tkLst b).1.length ≤ 40 := by
  refine ⟨tkStps_ok _ _, ?_⟩
  have := cS_rng (b, 0) (m := 40) (by omega)
  unfold tkLst
  rw [tkStps_n]
  omega
theorem parT_ok (b : List UInt8) : (∀ f ∈ (parT b).1, f.ok ∧ f.sml) ∧ (parT b).1.length ≤ 40 := by
  have h := tkLst_ok b
  unfold parT
  repeat' split
  · simp
  · exact h
  · simp
theorem c_tParse (b : List UInt8) (hb : b.length ≤ 211106232532992) : tbl E0 67 [.lst .ro 1 (encB b)] [] = some ([stpsV (parT b).1, .int .i64 (parT b).2], []) :=
  t_tParse b (by
    have l1 := cS_len (b, 0) 40
    have l2 := cS_rng (b, 0) (m := 40) (by omega)
    have c0 := c_Of b hb
    have c1 := e_Count (b, 0) 40 hb
    have k := c_tParseL (cS (b, 0) 40).1.toNat 0 [] (cS (b, 0) 40).2 (Nat.le_trans l1 hb) (by simp; omega) (by omega)
    rw [Nat.zero_add, Int.toNat_of_nonneg l2.1] at k
    simp only [Int.natCast_zero, List.map_nil, List.nil_append] at k
    have d := c_End (tkLst b).2.1 (tkLst b).2.2
    simp only [eyeV] at d
    have hk := tkLst_ok b
    have r := c_ContainsS (tkLst b).1 (by omega) hk.1
    simp only [stpsV] at r
    obtain ⟨en, hen⟩ : ∃ en, endS (tkLst b).2.1 (tkLst b).2.2 = en := ⟨_, rfl⟩
    obtain ⟨q, hq⟩ : ∃ q, (tkLst b).1.all tRightS = q := ⟨_, rfl⟩
    unfold parT
    simp only [hen, hq] at d r ⊢
    simp only [tkLst] at d r ⊢
    simp only [s_tParse, OA_asm, OA_chk, OA_call, OA_callx, OA_loop, OA_both_id, u_asA, u_asC, u_asI, u_asB, u_asS, u_asL, u_asOwn, u_asN, u_asRef0, Option.bind_some, nbeq, Nm_beq_self, decide_true, cond_true, cond_false, c0, c1, k, d]
    by_cases he : en = 0
    · subst he
      rcases bor q with h | h
      · subst h
        simp [r]
      · subst h
        simp [r]
    · simp [he])
end Go.Proofs.Ytmpfeofeokmooaa.V
namespace Go.Proofs.Ytmpfeofeokmooaa.V
open Go
theorem c_SameListTL (x y : List Stp) (hl : x.length ≤ 1000) (he : x.length = y.length) (hok : ∀ a ∈ x, a.sml) : ∀ (r r' : List Stp) (i : Nat), x.drop i = r → y.drop i = r' →
    ltbl E0 48 0 4 [stpsV x, stpsV y, .int .i64 i] [] = some (if r = r' then (1, [], []) else (0, [.bool false], [])) := by
  intro r
  induction r with
  | nil =>
    intro r' i hr hr'
    have h : x.length ≤ i := by simpa using hr
    have h3 : r' = [] := by rw [← hr', List.drop_eq_nil_iff]; omega
    have : ¬ ((i : Int) < x.length) := by omega
    subst h3
    exact t_SameListTL _ _ _ (by simp [s_SameListTL, this])
  | cons a r ih =>
    intro r' i hr hr'
    obtain ⟨hlt, hget, hr2⟩ := drop_c hr
    have hlt' : i < y.length := by omega
    rw [List.drop_eq_getElem_cons hlt'] at hr'
    subst hr'
    have hg2 : y[i]? = some y[i] := List.getElem?_eq_getElem hlt'
    generalize y[i] = g at *
    have h2 : (i : Int) < x.length := by omega
    have e1 := i64_succ (i := i) (by omega)
    have h := ih _ (i + 1) hr2 rfl
    have c := c_ytSame a g (hok a (mem_drop hr))
    simp only [stpV, stpC, intsV, fldsV] at c
    refine t_SameListTL _ _ _ ?_
    simp only [s_SameListTL, List.length_map, h2, Int.natCast_nonneg, nthE, Int.toNat_natCast, List.getElem?_map, hget, hg2, Option.map_some, OA_asm, OA_chk, OA_call, OA_callx, OA_loop, OA_both_id, u_asA, u_asC, u_asI, u_asB, u_asS, u_asL, u_asOwn, u_asN, u_asRef0, Option.bind_some, nbeq, Nm_beq_self, decide_true, cond_true, cond_false, c, e1]
    by_cases e : a = g
    · simp only [e, decide_true, Bool.not_true, cond_false, h, List.cons.injEq, true_and]
    · simp [e]
theorem c_SameListT (x y : List Stp) (hl : x.length ≤ 1000) (hok : ∀ a ∈ x, a.sml) : tbl E0 48 [stpsV x, stpsV y] [] = some ([.bool (decide (x = y))], []) :=
  t_SameListT x y (by
    by_cases he : x.length = y.length
    · have k := c_SameListTL x y hl he hok x y 0 rfl rfl
      simp only [Int.natCast_zero] at k
      have h' : ((x.length : Int) != (y.length : Int)) = false := by rw [he]; simp
      simp only [s_SameListT, List.length_map, OA_asm, OA_chk, OA_call, OA_callx, OA_loop, OA_both_id, u_asA, u_asC, u_asI, u_asB, u_asS, u_asL, u_asOwn, u_asN, u_asRef0, Option.bind_some, nbeq, Nm_beq_self, decide_true, cond_true, cond_false, h', k]
      by_cases e2 : x = y <;> simp [e2]
    · have : ¬ (x = y) := fun e => he (by rw [e])
      have h' : ((x.length : Int) != (y.length : Int)) = true := bne_t (by omega)
      simp only [s_SameListT, List.length_map, OA_asm, OA_chk, OA_call, OA_callx, OA_loop, OA_both_id, u_asA, u_asC, u_asI, u_asB, u_asS, u_asL, u_asOwn, u_asN, u_asRef0, Option.bind_some, nbeq, Nm_beq_self, decide_true, cond_true, cond_false, h']
      simp [this])
theorem great_sml {l : List Stp} (h : greatT l = false) : l.length ≤ 60 ∧ ∀ x ∈ l, x.sml := by
  simp only [greatT, Bool.or_eq_false_iff, decide_eq_false_iff_not, List.any_eq_false] at h
  obtain ⟨h1, h2⟩ := h
  rw [List.take_of_length_le (by omega)] at h1
  exact ⟨by omega, fun x hx => bigT_sml (by simpa using h1 x hx)⟩
end Go.Proofs.Ytmpfeofeokmooaa.V
namespace Go.Proofs.Ytmpfeofeokmooaa.V
open Go
open AV (int lst agg str bool ref clo)
open List (map)
def s_mGreat {α : Type} (A : Alg α) (x : Man) (kc : List AV → List (Nat × List AV) → α) : α :=
  A.chk true (A.loop 2 [int .i64 0] [[int .i64 x.ver, int .i64 x.sch.ver, lst .ro 2 (map frmV x.sch.forms), lst .ro 5 (map lnkV x.links), int .i64 x.img]] fun j0 l1 l2 => bif (j0.beq 0) then (asC A l1 fun v3 l4 => asB A v3 fun b5 => asN A l4 (asN A l2 (kc [bool b5] []))) else (bif (j0.beq 1) then (asN A l1 (asC A l2 fun l6 l7 => asC A l6 fun v8 l9 => asI A .i64 v8 fun n10 => asC A l9 fun v11 l12 => asI A .i64 v11 fun n13 => asC A l12 fun v14 l15 => asL A 2 v14 fun l16 => asC A l15 fun v17 l18 => asL A 5 v17 fun l19 => asC A l18 fun v20 l21 => asI A .i64 v20 fun n22 => asN A l21 (asN A l7 (A.join (fun x23 => A.asm (l19.length ≤ maxL) (bif (decide ((↑l19.length : Int) > (12 : Int))) then (x23 true) else (A.chk true (A.chk true (A.chk true (A.callx 13 [agg [int .i64 0, int .i64 n13, lst .ro 2 l16, lst .ro 16 [], lst .ro 16 []]] fun l24 => asC A l24 fun v25 l26 => asB A v25 fun b27 => asN A l26 (x23 b27))))))) fun b28 => kc [bool b28] [])))) else A.fail))
def s_mGreatL {α : Type} (A : Alg α) (x : Man) (i : Int) (next : List AV → List (List AV) → α) (kc : Nat → List AV → List (List AV) → α) : α :=
  A.join (fun x0 => A.asm ((map lnkV x.links).length ≤ maxL) (bif (decide (i < (↑(map lnkV x.links).length : Int))) then (x0 (decide (i < (13 : Int)))) else (x0 false))) fun b1 => bif b1 then (A.chk (decide ((0 : Int) ≤ i)) (nthE A (map lnkV x.links) i.toNat fun v2 => asA A v2 fun l3 => asC A l3 fun v4 l5 => asI A .i64 v4 fun n6 => asC A l5 fun v7 l8 => asI A .i64 v7 fun n9 => asC A l8 fun v10 l11 => asL A 2 v10 fun l12 => asC A l11 fun v13 l14 => asL A 16 v13 fun l15 => asC A l14 fun v16 l17 => asL A 16 v16 fun l18 => asN A l17 (A.chk true (A.callx 13 [agg [int .i64 n6, int .i64 n9, lst .ro 2 l12, lst .ro 16 l15, lst .ro 16 l18]] fun l19 => asC A l19 fun v20 l21 => asB A v20 fun b22 => asN A l21 (bif b22 then (kc 0 [bool true] []) else (next [int .i64 (IntKind.i64.wrap (i + (1 : Int)))] [[int .i64 x.ver, int .i64 x.sch.ver, lst .ro 2 (map frmV x.sch.forms), lst .ro 5 (map lnkV x.links), int .i64 x.img]])))))) else (kc 1 [] [[int .i64 x.ver, int .i64 x.sch.ver, lst .ro 2 (map frmV x.sch.forms), lst .ro 5 (map lnkV x.links), int .i64 x.img]])
def s_mRight {α : Type} (A : Alg α) (x : Man) (kc : List AV → List (Nat × List AV) → α) : α :=
  A.chk true (A.chk true (A.callx 34 [agg [int .i64 x.ver, int .i64 x.sch.ver, lst .ro 2 (map frmV x.sch.forms), lst .ro 5 (map lnkV x.links), int .i64 x.img]] fun l0 => asC A l0 fun v1 l2 => asL A 1 v1 fun l3 => asC A l2 fun v4 l5 => asI A .i64 v4 fun n6 => asN A l5 (kc [bool (n6 == (0 : Int))] [])))
def s_ymSame {α : Type} (A : Alg α) (x : Man) (y : Man) (kc : List AV → List (Nat × List AV) → α) : α :=
  A.chk true (A.chk true (A.join (fun x0 => bif (x.ver != y.ver) then (x0 true) else (bif (x.img != y.img) then (x0 true) else (A.chk true (A.chk true (A.callx 31 [agg [int .i64 x.sch.ver, lst .ro 2 (map frmV x.sch.forms)], agg [int .i64 y.sch.ver, lst .ro 2 (map frmV y.sch.forms)]] fun l1 => asC A l1 fun v2 l3 => asB A v2 fun b4 => asN A l3 (bif (!b4) then (x0 true) else (A.asm ((map lnkV x.links).length ≤ maxL) (A.asm ((map lnkV y.links).length ≤ maxL) (x0 ((↑(map lnkV x.links).length : Int) != (↑(map lnkV y.links).length : Int))))))))))) fun b5 => bif b5 then (kc [bool false] []) else (A.loop 4 [int .i64 0] [[int .i64 x.ver, int .i64 x.sch.ver, lst .ro 2 (map frmV x.sch.forms), lst .ro 5 (map lnkV x.links), int .i64 x.img], [int .i64 y.ver, int .i64 y.sch.ver, lst .ro 2 (map frmV y.sch.forms), lst .ro 5 (map lnkV y.links), int .i64 y.img]] fun j6 l7 l8 => bif (j6.beq 0) then (asC A l7 fun v9 l10 => asB A v9 fun b11 => asN A l10 (asN A l8 (kc [bool b11] []))) else (bif (j6.beq 1) then (asN A l7 (asN A l8 (kc [bool true] []))) else A.fail))))
def s_ymSameL {α : Type} (A : Alg α) (x : Man) (y : Man) (i : Int) (next : List AV → List (List AV) → α) (kc : Nat → List AV → List (List AV) → α) : α :=
  A.asm ((map lnkV x.links).length ≤ maxL) (bif (decide (i < (↑(map lnkV x.links).length : Int))) then (A.chk (decide ((0 : Int) ≤ i)) (nthE A (map lnkV x.links) i.toNat fun v0 => asA A v0 fun l1 => asC A l1 fun v2 l3 => asI A .i64 v2 fun n4 => asC A l3 fun v5 l6 => asI A .i64 v5 fun n7 => asC A l6 fun v8 l9 => asL A 2 v8 fun l10 => asC A l9 fun v11 l12 => asL A 16 v11 fun l13 => asC A l12 fun v14 l15 => asL A 16 v14 fun l16 => asN A l15 (A.chk true (A.chk (decide ((0 : Int) ≤ i)) (nthE A (map lnkV y.links) i.toNat fun v17 => asA A v17 fun l18 => asC A l18 fun v19 l20 => asI A .i64 v19 fun n21 => asC A l20 fun v22 l23 => asI A .i64 v22 fun n24 => asC A l23 fun v25 l26 => asL A 2 v25 fun l27 => asC A l26 fun v28 l29 => asL A 16 v28 fun l30 => asC A l29 fun v31 l32 => asL A 16 v31 fun l33 => asN A l32 (A.chk true (A.callx 18 [agg [int .i64 n4, int .i64 n7, lst .ro 2 l10, lst .ro 16 l13, lst .ro 16 l16], agg [int .i64 n21, int .i64 n24, lst .ro 2 l27, lst .ro 16 l30, lst .ro 16 l33]] fun l34 => asC A l34 fun v35 l36 => asB A v35 fun b37 => asN A l36 (bif (!b37) then (kc 0 [bool false] []) else (next [int .i64 (IntKind.i64.wrap (i + (1 : Int)))] [[int .i64 x.ver, int .i64 x.sch.ver, lst .ro 2 (map frmV x.sch.forms), lst .ro 5 (map lnkV x.links), int .i64 x.img], [int .i64 y.ver, int .i64 y.sch.ver, lst .ro 2 (map frmV y.sch.forms), lst .ro 5 (map lnkV y.links), int .i64 y.img]]))))))))) else (kc 1 [] []))
def s_mPrint {α : Type} (A : Alg α) (x : Man) (kc : List AV → List (Nat × List AV) → α) : α :=
  A.chk true (A.chk true (A.callx 36 [agg [int .i64 x.sch.ver, lst .ro 2 (map frmV x.sch.forms)]] fun l0 => asC A l0 fun v1 l2 => asL A 1 v1 fun l3 => asC A l2 fun v4 l5 => asI A .i64 v4 fun n6 => asN A l5 (A.join (fun x7 => bif (n6 != (0 : Int)) then (x7 true) else (bif (decide (x.ver < (1 : Int))) then (x7 true) else (bif (decide (x.ver > (65535 : Int))) then (x7 true) else (A.asm ((map lnkV x.links).length ≤ maxL) (bif (decide ((↑(map lnkV x.links).length : Int) > (8 : Int))) then (x7 true) else (bif (decide (x.img < (0 : Int))) then (x7 true) else (x7 (decide (x.img > (131072 : Int)))))))))) fun b8 => bif b8 then (kc [lst .ro 1 [], int .i64 2] []) else (A.call 58 [] [] fun l9 l10 => asC A l9 fun v11 l12 => asRef0 A v11 fun o13 => bif (o13.beq 64) then (asC A l10 fun x14 l15 => bif (x14.1.beq 64) then (asC A x14.2 fun v16 l17 => asOwn A 1 v16 fun x18 l19 => asC A l17 fun v20 l21 => asI A .i64 v20 fun n22 => asN A l21 (asN A l12 (asN A l15 (A.call 82 [ref 0 0, int .u32 1230197842] [(0, [lst (.own (.E 0 0)) 1 l19, int .i64 n22])] fun l23 l24 => asC A l24 fun x25 l26 => bif (x25.1.beq 0) then (asC A x25.2 fun v27 l28 => asOwn A 1 v27 fun x29 l30 => asC A l28 fun v31 l32 => asI A .i64 v31 fun n33 => asN A l32 (asN A l23 (asN A l26 (A.call 59 [ref 0 0, int .i64 x.ver] [(0, [lst (.own (.E 0 0)) 1 l30, int .i64 n33])] fun l34 l35 => asC A l35 fun x36 l37 => bif (x36.1.beq 0) then (asC A x36.2 fun v38 l39 => asOwn A 1 v38 fun x40 l41 => asC A l39 fun v42 l43 => asI A .i64 v42 fun n44 => asN A l43 (asN A l34 (asN A l37 (orFail A (bytesOf l3) fun l45 => A.call 60 [ref 0 0, str l45] [(0, [lst (.own (.E 0 0)) 1 l41, int .i64 n44])] fun l46 l47 => asC A l47 fun x48 l49 => bif (x48.1.beq 0) then (asC A x48.2 fun v50 l51 => asOwn A 1 v50 fun x52 l53 => asC A l51 fun v54 l55 => asI A .i64 v54 fun n56 => asN A l55 (asN A l46 (asN A l49 (A.asm ((map lnkV x.links).length ≤ maxL) (A.call 59 [ref 0 0, int .i64 (↑(map lnkV x.links).length : Int)] [(0, [lst (.own (.E 0 0)) 1 l53, int .i64 n56])] fun l57 l58 => asC A l58 fun x59 l60 => bif (x59.1.beq 0) then (asC A x59.2 fun v61 l62 => asOwn A 1 v61 fun x63 l64 => asC A l62 fun v65 l66 => asI A .i64 v65 fun n67 => asN A l66 (asN A l57 (asN A l60 (A.asm ((map lnkV x.links).length ≤ maxL) (A.loop 10 [lst .ro 5 (map lnkV x.links), int .i64 (↑(map lnkV x.links).length : Int), int .i64 0] [[int .i64 x.ver, int .i64 x.sch.ver, lst .ro 2 (map frmV x.sch.forms), lst .ro 5 (map lnkV x.links), int .i64 x.img], [lst (.own (.O 1045 0)) 1 l64, int .i64 n67]] fun j68 l69 l70 => bif (j68.beq 0) then (asC A l69 fun v71 l72 => asL A 1 v71 fun l73 => asC A l72 fun v74 l75 => asI A .i64 v74 fun n76 => asN A l75 (asN A l70 (kc [lst .ro 1 l73, int .i64 n76] []))) else (bif (j68.beq 1) then (asN A l69 (asC A l70 fun l77 l78 => asC A l77 fun v79 l80 => asI A .i64 v79 fun n81 => asC A l80 fun v82 l83 => asI A .i64 v82 fun n84 => asC A l83 fun v85 l86 => asL A 2 v85 fun l87 => asC A l86 fun v88 l89 => asL A 5 v88 fun l90 => asC A l89 fun v91 l92 => asI A .i64 v91 fun n93 => asN A l92 (asC A l78 fun l94 l95 => asC A l94 fun v96 l97 => asOwn A 1 v96 fun x98 l99 => bif (x98.beq (.O (1045 : Nat) (0 : Nat))) then (asC A l97 fun v100 l101 => asI A .i64 v100 fun n102 => asN A l101 (asN A l95 (A.call 59 [ref 0 0, int .i64 n93] [(0, [lst (.own (.E 0 0)) 1 l99, int .i64 n102])] fun l103 l104 => asC A l104 fun x105 l106 => bif (x105.1.beq 0) then (asC A x105.2 fun v107 l108 => asOwn A 1 v107 fun x109 l110 => asC A l108 fun v111 l112 => asI A .i64 v111 fun n113 => asN A l112 (asN A l103 (asN A l106 (A.call 61 [ref 0 0] [(0, [lst (.own (.E 0 0)) 1 l110, int .i64 n113])] fun l114 l115 => asC A l115 fun x116 l117 => bif (x116.1.beq 0) then (asC A x116.2 fun v118 l119 => asOwn A 1 v118 fun x120 l121 => asC A l119 fun v122 l123 => asI A .i64 v122 fun n124 => asN A l123 (asC A l114 fun v125 l126 => asL A 1 v125 fun l127 => asC A l126 fun v128 l129 => asI A .i64 v128 fun n130 => asN A l129 (asN A l117 (kc [lst .ro 1 l127, int .i64 n130] [])))) else A.fail)))) else A.fail))) else A.fail))) else A.fail)))))) else A.fail))))) else A.fail)))) else A.fail)))) else A.fail)))) else A.fail) else A.fail))))
def s_mPrintL {α : Type} (A : Alg α) (x : Man) (l : List Lnk) (b : List AV) (m : Int) (i : Int) (e : Int) (next : List AV → List (List AV) → α) (kc : Nat → List AV → List (List AV) → α) : α :=
  bif (decide (i < m)) then (A.chk (decide ((0 : Int) ≤ i)) (nthE A (map lnkV l) i.toNat fun v0 => asA A v0 fun l1 => asC A l1 fun v2 l3 => asI A .i64 v2 fun n4 => asC A l3 fun v5 l6 => asI A .i64 v5 fun n7 => asC A l6 fun v8 l9 => asL A 2 v8 fun l10 => asC A l9 fun v11 l12 => asL A 16 v11 fun l13 => asC A l12 fun v14 l15 => asL A 16 v14 fun l16 => asN A l15 (A.chk true (A.chk true (A.chk true (A.chk true (A.callx 25 [agg [int .i64 n4, int .i64 n7, lst .ro 2 l10, lst .ro 16 l13, lst .ro 16 l16]] fun l17 => asC A l17 fun v18 l19 => asL A 1 v18 fun l20 => asC A l19 fun v21 l22 => asI A .i64 v21 fun n23 => asN A l22 (bif (n23 != (0 : Int)) then (kc 0 [lst .ro 1 [], int .i64 2] []) else (orFail A (bytesOf l20) fun l24 => A.call 60 [ref 0 0, str l24] [(0, [lst (.own (.E 0 0)) 1 b, int .i64 e])] fun l25 l26 => asC A l26 fun x27 l28 => bif (x27.1.beq 0) then (asC A x27.2 fun v29 l30 => asOwn A 1 v29 fun x31 l32 => asC A l30 fun v33 l34 => asI A .i64 v33 fun n35 => asN A l34 (asN A l25 (asN A l28 (next [lst .ro 5 (map lnkV l), int .i64 m, int .i64 (IntKind.i64.wrap (i + (1 : Int)))] [[int .i64 x.ver, int .i64 x.sch.ver, lst .ro 2 (map frmV x.sch.forms), lst .ro 5 (map lnkV x.links), int .i64 x.img], [lst (.own (.O 1045 0)) 1 l32, int .i64 n35]])))) else A.fail))))))))) else (kc 1 [] [[int .i64 x.ver, int .i64 x.sch.ver, lst .ro 2 (map frmV x.sch.forms), lst .ro 5 (map lnkV x.links), int .i64 x.img], [lst (.own (.O 1045 0)) 1 b, int .i64 e]])
theorem t_mGreat (x : Man) {r : CR} (h : s_mGreat (OA (tbl E0) (ltbl E0 19 0)) x (fun r o => some (r, o)) = some r) : tbl E0 19 [manV x] [] = some r :=
  tbl_of (body := bodyOf Try.f19) Try.func19 (by kernel_rfl) (by kernel_rfl) (by kernel_rfl) (Eq.trans (by kernel_rfl) h)
theorem t_mGreatL (x : Man) (i : Int) {r : LR} (h : s_mGreatL (OA (tbl E0) (ltbl E0 19 0)) x i (fun vs os => ltbl E0 19 0 2 vs os) (fun j vs os => some (j, vs, os)) = some r) : ltbl E0 19 0 2 [.int .i64 i] [manC x] = some r :=
  ltbl_of (body := bodyOf Try.f19) Try.func19 (by kernel_rfl) (by kernel_rfl) (Eq.trans (by kernel_rfl) h)
theorem t_mRight (x : Man) {r : CR} (h : s_mRight (OA (tbl E0) (ltbl E0 21 0)) x (fun r o => some (r, o)) = some r) : tbl E0 21 [manV x] [] = some r :=
  tbl_of (body := bodyOf Try.f21) Try.func21 (by kernel_rfl) (by kernel_rfl) (by kernel_rfl) (Eq.trans (by kernel_rfl) h)
theorem t_ymSame (x y : Man) {r : CR} (h : s_ymSame (OA (tbl E0) (ltbl E0 24 0)) x y (fun r o => some (r, o)) = some r) : tbl E0 24 [manV x, manV y] [] = some r :=
  tbl_of (body := bodyOf Try.f24) Try.func24 (by kernel_rfl) (by kernel_rfl) (by kernel_rfl) (Eq.trans (by kernel_rfl) h)
theorem t_ymSameL (x y : Man) (i : Int) {r : LR} (h : s_ymSameL (OA (tbl E0) (ltbl E0 24 0)) x y i (fun vs os => ltbl E0 24 0 4 vs os) (fun j vs os => some (j, vs, os)) = some r) : ltbl E0 24 0 4 [.int .i64 i] [manC x, manC y] = some r :=
  ltbl_of (body := bodyOf Try.f24) Try.func24 (by kernel_rfl) (by kernel_rfl) (Eq.trans (by kernel_rfl) h)
theorem t_mPrint (x : Man) {r : CR} (h : s_mPrint (OA (tbl E0) (ltbl E0 34 0)) x (fun r o => some (r, o)) = some r) : tbl E0 34 [manV x] [] = some r :=
  tbl_of (body := bodyOf Try.f34) Try.func34 (by kernel_rfl) (by kernel_rfl) (by kernel_rfl) (Eq.trans (by kernel_rfl) h)
theorem t_mPrintL (x : Man) (l : List Lnk) (b : List AV) (m i e : Int) {r : LR} (h : s_mPrintL (OA (tbl E0) (ltbl E0 34 0)) x l b m i e (fun vs os => ltbl E0 34 0 10 vs os) (fun j vs os => some (j, vs, os)) = some r) : ltbl E0 34 0 10 [lnksV l, .int .i64 m, .int .i64 i] [manC x, [.lst (.own (.O 1045 0)) 1 b, .int .i64 e]] = some r :=
  ltbl_of (body := bodyOf Try.f34) Try.func34 (by kernel_rfl) (by kernel_rfl) (Eq.trans (by kernel_rfl) h)
end Go.Proofs.Ytmpfeofeokmooaa.V
namespace Go.Proofs.Ytmpfeofeokmooaa.V
open Go
theorem c_lGreatL (x : Lnk) : ∀ (r : List Frm) (i : Nat), x.to.forms.drop i = r → i ≤ 41 →
    ltbl E0 13 0 2 [.int .i64 i] [lnkC x] = some (if (r.take (41 - i)).any big then (0, [.bool true], []) else (1, [], [lnkC x])) := by
  intro r
  induction r with
  | nil =>
    intro i hr hi
    have h : x.to.forms.length ≤ i := by simpa using hr
    refine t_lGreatL _ _ ?_
    have : ¬ ((i : Int) < x.to.forms.length) := by omega
    simp [s_lGreatL, this]
  | cons f r ih =>
    intro i hr hi
    obtain ⟨hlt, hget, hr2⟩ := drop_c hr
    have h2 : (i : Int) < x.to.forms.length := by omega
    have e1 := i64_succ (i := i) (by omega)
    refine t_lGreatL _ _ ?_
    by_cases h41 : i < 41
    · have h := ih (i + 1) hr2 (by omega)
      have h3 : (i : Int) < 41 := by omega
      have e2 : 41 - i = (41 - (i + 1)) + 1 := by omega
      rw [e2, List.take_succ_cons, List.any_cons]
      simp only [s_lGreatL, OA_join, OA_asm, List.length_map, h2, h3, decide_true, cond_true, Option.bind_some, Tok.untok_tok, OA_chk, Int.natCast_nonneg, nthE, Int.toNat_natCast, List.getElem?_map, hget, Option.map_some, u_asA, u_asC, u_asI, u_asB, u_asL, u_asN, e1, h]
      by_cases b : 40 < f.fields.length
      · have b' : (f.fields.length : Int) > 40 := by omega
        simp [big, b, b']
      · have b' : ¬ ((f.fields.length : Int) > 40) := by omega
        simp [big, b, b']
    · have h3 : ¬ ((i : Int) < 41) := by omega
      have e2 : 41 - i = 0 := by omega
      simp [s_lGreatL, h2, h3, e2]
def greatK (x : Lnk) : Bool := greatS x.to || (greatT x.on || greatT x.back)
theorem c_lGreat (x : Lnk) : tbl E0 13 [lnkV x] [] = some ([.bool (greatK x)], []) :=
  t_lGreat x (by
    have e := c_lGreatL x x.to.forms 0 rfl (by omega)
    have g1 := c_yGreat x.on
    have g2 := c_yGreat x.back
    simp only [Int.natCast_zero, Nat.sub_zero, lnkC] at e
    simp only [stpsV] at g1 g2
    simp only [s_lGreat, OA_chk, cond_true, OA_loop, e, greatK, greatS]
    by_cases b : ((x.to.forms.take 41).any big) = true
    · simp [b]
    · have b : ((x.to.forms.take 41).any big) = false := by simpa using b
      by_cases c : 40 < x.to.forms.length
      · have c' : (x.to.forms.length : Int) > 40 := by omega
        simp [b, c, c']
      · have c' : ¬ ((x.to.forms.length : Int) > 40) := by omega
        rcases bor (greatT x.on) with q | q
        · simp [b, c, c', g1, q]
        · simp [b, c, c', g1, g2, q])
def Lnk.sml (x : Lnk) : Prop := Sml x.to ∧ (x.on.length ≤ 60 ∧ ∀ s ∈ x.on, s.sml) ∧ x.back.length ≤ 60 ∧ ∀ s ∈ x.back, s.sml
theorem greatK_sml {x : Lnk} (h : greatK x = false) : x.sml := by
  simp only [greatK, Bool.or_eq_false_iff] at h
  exact ⟨sml_of h.1, great_sml h.2.1, great_sml h.2.2⟩
def txtsB (l : List (List UInt8)) : List UInt8 := (l.map txtB).flatten
theorem c_lPrintL (l : List (List UInt8)) (hl : l.length ≤ 3) (hok : ∀ s ∈ l, s.length ≤ 211106232532992) : ∀ (r : List (List UInt8)) (i : Nat) (b : List AV) (e : Int), l.drop i = r → b.length + (txtsB r).length + 10 ≤ 211106232532992 →
    ltbl E0 25 0 10 [.lst .ro 1 (l.map bytesV), .int .i64 l.length, .int .i64 i] [[.lst (.own (.O 1061 0)) 1 b, .int .i64 e]] = some (1, [], [[.lst (.own (.O 1061 0)) 1 (b ++ encB (txtsB r)), .int .i64 e]]) := by
  intro r
  induction r with
  | nil =>
    intro i b e hr hb
    have h : l.length ≤ i := by simpa using hr
    refine t_lPrintL _ _ _ _ _ ?_
    have : ¬ ((i : Int) < l.length) := by omega
    simp [s_lPrintL, this, txtsB, encB_nil]
  | cons s r ih =>
    intro i b e hr hb
    obtain ⟨hlt, hget, hr2⟩ := drop_c hr
    have h2 : (i : Int) < l.length := by omega
    have e1 := i64_succ (i := i) (by omega)
    have hs := hok s (mem_drop hr)
    have et : (txtsB (s :: r)).length = (cnt s.length).length + s.length + (txtsB r).length := by simp [txtsB, txtB, Nat.add_assoc]
    have h := ih (i + 1) (b ++ encB (txtB s)) e hr2 (by rw [List.length_append, encB_length]; unfold txtB; rw [List.length_append]; omega)
    have c := c_PText b s e (by omega)
    simp only [penA] at c
    have eb : b ++ encB (txtsB (s :: r)) = b ++ encB (txtB s) ++ encB (txtsB r) := by simp [txtsB, encB_append]
    refine t_lPrintL _ _ _ _ _ ?_
    rw [eb]
    simp only [s_lPrintL, h2, Int.natCast_nonneg, nthE, Int.toNat_natCast, List.getElem?_map, hget, Option.map_some, orFail, bytesOf_encB, OA_asm, OA_chk, OA_call, OA_callx, OA_loop, OA_both_id, u_asA, u_asC, u_asI, u_asB, u_asS, u_asL, u_asOwn, u_asN, u_asRef0, Option.bind_some, nbeq, Nm_beq_self, decide_true, cond_true, cond_false, c, e1]
    exact h
theorem rights_iff (l : List Stp) : (if 40 < l.length then (7 : Int) else if l.all tRightS = true then 0 else 2) = 0 ↔ rightsS l = true := by
  unfold rightsS
  by_cases h : 40 < l.length
  · have : ¬ (l.length ≤ 40) := by omega
    simp [h, this]
  · have h' : l.length ≤ 40 := by omega
    rcases bor (l.all tRightS) with q | q <;> simp [h, h', q]
theorem rights_beq (l : List Stp) : ((if 40 < l.length then (7 : Int) else if l.all tRightS = true then 0 else 2) == 0) = rightsS l := by
  rw [Bool.eq_iff_iff, beq_iff_eq]
  exact rights_iff l
theorem lstB_len {l : List Stp} (hl : l.length ≤ 60) (h : ∀ x ∈ l, x.ok ∧ tRightS x = true) : (lstB l).length ≤ 400000 := by
  have h7 : (cnt l.length).length ≤ 10 := cnt_len10 (by omega)
  have := stpsB_len l h
  unfold lstB
  rw [List.length_append]
  omega
theorem rights_ok {l : List Stp} (hok : ∀ s ∈ l, s.ok) (h : rightsS l = true) : l.length ≤ 40 ∧ l.all tRightS = true ∧ (∀ x ∈ l, x.ok ∧ tRightS x = true) := by
  simp only [rightsS, Bool.and_eq_true, decide_eq_true_eq] at h
  exact ⟨h.1, h.2, fun x hx => ⟨hok x hx, List.all_eq_true.1 h.2 x hx⟩⟩
theorem lnkB_len {x : Lnk} (hx : x.ok) (hs : x.sml) (h : lnkS x = true) : (lnkB x).length ≤ 2000000 := by
  obtain ⟨h1, h2, h3, h4⟩ := hx
  simp only [lnkS, Bool.and_eq_true, decide_eq_true_eq] at h
  obtain ⟨g1, g2, g3, _, g4, g5⟩ := h
  obtain ⟨p1, p2, p3⟩ := rights_ok h3 g4
  obtain ⟨q1, q2, q3⟩ := rights_ok h4 g5
  have a1 := schB_len h2 g3
  have a2 := lstB_len (by omega) p3
  have a3 := lstB_len (by omega) q3
  have c0 : (cnt x.fr.toNat).length ≤ 10 := cnt_len10 (by omega)
  have c1 : (cnt (schB x.to).length).length ≤ 10 := cnt_len10 (by omega)
  have c2 : (cnt (lstB x.on).length).length ≤ 10 := cnt_len10 (by omega)
  have c3 : (cnt (lstB x.back).length).length ≤ 10 := cnt_len10 (by omega)
  unfold lnkB txtB
  simp only [List.length_append]
  omega
theorem c_lPrint (x : Lnk) (hx : x.ok) (hs : x.sml) : tbl E0 25 [lnkV x] [] = some ([.lst .ro 1 (if lnkS x = true then encB (lnkB x) else []), .int .i64 (if lnkS x = true then 0 else 2)], []) :=
  t_lPrint x (by
    have hx0 := hx
    obtain ⟨h1, h2, h3, h4⟩ := hx
    obtain ⟨s1, s2, s3⟩ := hs
    have c1 := c_sPrint x.to h2 s1
    have c2 := c_tPrint x.on (fun y hy => ⟨h3 y hy, s2.2 y hy⟩)
    have c3 := c_tPrint x.back (fun y hy => ⟨h4 y hy, s3.2 y hy⟩)
    simp only [schV, stpsV] at c1 c2 c3
    have e0 : ((if schS x.to = true then (0 : Int) else 2) == 0) = schS x.to := by rcases bor (schS x.to) with q | q <;> simp [q]
    have er : (bif (if schS x.to = true then (0 : Int) else 2) != 0 then true else bif (if 40 < x.on.length then (7 : Int) else if x.on.all tRightS = true then 0 else 2) != 0 then true else bif (if 40 < x.back.length then (7 : Int) else if x.back.all tRightS = true then 0 else 2) != 0 then true else bif decide (x.fr < 1) then true else bif decide (x.fr > 65535) then true else (x.fr == x.to.ver)) = !lnkS x := by
      simp only [bne, e0, rights_beq, lnkS]
      have k1 : decide (x.fr < 1) = !decide (1 ≤ x.fr) := by rw [← decide_not]; exact decide_eq_decide.2 (by omega)
      have k2 : decide (x.fr > 65535) = !decide (x.fr ≤ 65535) := by rw [← decide_not]; exact decide_eq_decide.2 (by omega)
      have k3 : (x.fr == x.to.ver) = (x.to.ver == x.fr) := by rw [Bool.eq_iff_iff, beq_iff_eq, beq_iff_eq]; exact eq_comm
      rw [k1, k2, k3]
      cases schS x.to <;> cases rightsS x.on <;> cases rightsS x.back <;> cases decide (1 ≤ x.fr) <;> cases decide (x.fr ≤ 65535) <;> cases (x.to.ver == x.fr) <;> rfl
    simp only [s_lPrint, OA_asm, OA_chk, OA_call, OA_callx, OA_loop, OA_both_id, u_asA, u_asC, u_asI, u_asB, u_asS, u_asL, u_asOwn, u_asN, u_asRef0, Option.bind_some, nbeq, Nm_beq_self, decide_true, cond_true, cond_false, OA_join, c1, c2, c3]
    simp only [tok_cond, Option.bind_some, Tok.untok_tok, er]
    rcases bor (lnkS x) with q | q
    · have hlen := lnkB_len hx0 ⟨s1, s2, s3⟩ q
      have q0 := q
      simp only [lnkS, Bool.and_eq_true, decide_eq_true_eq] at q0
      obtain ⟨g1, g2, g3, _, g4, g5⟩ := q0
      obtain ⟨p1, p2, p3⟩ := rights_ok h3 g4
      obtain ⟨q1, q2, q3⟩ := rights_ok h4 g5
      have a1 := schB_len h2 g3
      have a2 := lstB_len (by omega) p3
      have a3 := lstB_len (by omega) q3
      have hc : (cnt x.fr.toNat).length ≤ 10 := cnt_len10 (by omega)
      have d1 := p_Count [] x.fr 0 (by simp) (by omega) h1.2
      simp only [List.nil_append] at d1
      have et : cnt x.fr.toNat ++ txtsB [schB x.to, lstB x.on, lstB x.back] = lnkB x := by simp [txtsB, lnkB]
      have k := c_lPrintL [schB x.to, lstB x.on, lstB x.back] (by simp) (by intro s hs; simp at hs; rcases hs with rfl | rfl | rfl <;> omega) _ 0 (encB (cnt x.fr.toNat)) 0 rfl (by rw [List.drop_zero, encB_length, ← List.length_append, et]; omega)
      rw [← encB_append, List.drop_zero, et] at k
      have d := c_PDone (lnkB x) 0 (by omega)
      simp only [penV, penA, if_true] at d
      simp only [List.map_cons, List.map_nil, bytesV, Int.natCast_zero, List.length_cons, List.length_nil] at k
      simp only [q, g3, p1, p2, q1, q2, and_self, if_true, Bool.not_true, OA_asm, OA_chk, OA_call, OA_callx, OA_loop, OA_both_id, u_asA, u_asC, u_asI, u_asB, u_asS, u_asL, u_asOwn, u_asN, u_asRef0, Option.bind_some, nbeq, Nm_beq_self, decide_true, cond_true, cond_false, List.length_cons, List.length_nil, c_New, d1, k, d, Nat.one_ne_zero]
    · simp only [q, Bool.not_false, cond_true, Bool.false_eq_true, if_false])
theorem c_lRight (x : Lnk) (hx : x.ok) (hs : x.sml) : tbl E0 15 [lnkV x] [] = some ([.bool (lnkS x)], []) :=
  t_lRight x (by
    have c := c_lPrint x hx hs
    simp only [lnkV, lnkC] at c
    simp only [s_lRight, OA_asm, OA_chk, OA_call, OA_callx, OA_loop, OA_both_id, u_asA, u_asC, u_asI, u_asB, u_asS, u_asL, u_asOwn, u_asN, u_asRef0, Option.bind_some, nbeq, Nm_beq_self, decide_true, cond_true, cond_false, OA_join, c]
    simp only [tok_cond, Option.bind_some, Tok.untok_tok]
    have e : ((if lnkS x = true then (0 : Int) else 2) == 0) = lnkS x := by rcases bor (lnkS x) with q | q <;> simp [q]
    simp only [e]
    have k : (bif decide (x.fr < 1) then true else bif decide (x.fr > 65535) then true else (x.fr == x.to.ver)) = true → lnkS x = false := by
      intro h
      unfold lnkS
      by_cases h1 : x.fr < 1
      · have : ¬ (1 ≤ x.fr) := by omega
        simp [this]
      · by_cases h2 : x.fr > 65535
        · have : ¬ (x.fr ≤ 65535) := by omega
          simp [this]
        · simp only [h1, h2, decide_false, cond_false, beq_iff_eq] at h
          simp [h]
    rcases bor (bif decide (x.fr < 1) then true else bif decide (x.fr > 65535) then true else (x.fr == x.to.ver)) with h | h
    · rw [h, k h]; rfl
    · rw [h]; rfl)
theorem lnk_eq (x y : Lnk) : decide (x = y) = (x.fr == y.fr && (decide (x.to = y.to) && (decide (x.on = y.on) && decide (x.back = y.back)))) := by
  obtain ⟨a, b, c, d⟩ := x
  obtain ⟨a', b', c', d'⟩ := y
  rw [Bool.eq_iff_iff]
  simp
theorem c_ylSame (x y : Lnk) (hs : x.sml) : tbl E0 18 [lnkV x, lnkV y] [] = some ([.bool (decide (x = y))], []) :=
  t_ylSame x y (by
    obtain ⟨s1, s2, s3⟩ := hs
    have c1 := c_ySame x.to y.to s1
    have c2 := c_SameListT x.on y.on (by omega) s2.2
    have c3 := c_SameListT x.back y.back (by omega) s3.2
    simp only [schV, stpsV] at c1 c2 c3
    simp only [s_ylSame, OA_asm, OA_chk, OA_call, OA_callx, OA_loop, OA_both_id, u_asA, u_asC, u_asI, u_asB, u_asS, u_asL, u_asOwn, u_asN, u_asRef0, Option.bind_some, nbeq, Nm_beq_self, decide_true, cond_true, cond_false, OA_join, c1, c2, c3]
    simp only [tok_cond, Option.bind_some, Tok.untok_tok, cond_ff, lnk_eq])
end Go.Proofs.Ytmpfeofeokmooaa.V
namespace Go.Proofs.Ytmpfeofeokmooaa.V
open Go
theorem c_mGreatL (x : Man) : ∀ (r : List Lnk) (i : Nat), x.links.drop i = r → i ≤ 13 →
    ltbl E0 19 0 2 [.int .i64 i] [manC x] = some (if (r.take (13 - i)).any greatK then (0, [.bool true], []) else (1, [], [manC x])) := by
  intro r
  induction r with
  | nil =>
    intro i hr hi
    have h : x.links.length ≤ i := by simpa using hr
    refine t_mGreatL _ _ ?_
    have : ¬ ((i : Int) < x.links.length) := by omega
    simp [s_mGreatL, this]
  | cons f r ih =>
    intro i hr hi
    obtain ⟨hlt, hget, hr2⟩ := drop_c hr
    have h2 : (i : Int) < x.links.length := by omega
    have e1 := i64_succ (i := i) (by omega)
    have c := c_lGreat f
    simp only [lnkV, lnkC] at c
    refine t_mGreatL _ _ ?_
    by_cases h41 : i < 13
    · have h := ih (i + 1) hr2 (by omega)
      have h3 : (i : Int) < 13 := by omega
      have e2 : 13 - i = (13 - (i + 1)) + 1 := by omega
      rw [e2, List.take_succ_cons, List.any_cons]
      simp only [s_mGreatL, OA_join, List.length_map, h2, h3, Tok.untok_tok, Int.natCast_nonneg, nthE, Int.toNat_natCast, List.getElem?_map, hget, Option.map_some, OA_asm, OA_chk, OA_call, OA_callx, OA_loop, OA_both_id, u_asA, u_asC, u_asI, u_asB, u_asS, u_asL, u_asOwn, u_asN, u_asRef0, Option.bind_some, nbeq, Nm_beq_self, decide_true, cond_true, cond_false, c, e1]
      rcases bor (greatK f) with b | b
      · simp [b]
      · simp only [b, cond_false, Bool.false_or]
        exact h
    · have h3 : ¬ ((i : Int) < 13) := by omega
      have e2 : 13 - i = 0 := by omega
      simp [s_mGreatL, h2, h3, e2]
def greatM (x : Man) : Bool := (x.links.take 13).any greatK || (decide (12 < x.links.length) || greatK ⟨0, x.sch, [], []⟩)
theorem c_mGreat (x : Man) : tbl E0 19 [manV x] [] = some ([.bool (greatM x)], []) :=
  t_mGreat x (by
    have e := c_mGreatL x x.links 0 rfl (by omega)
    have g := c_lGreat ⟨0, x.sch, [], []⟩
    simp only [Int.natCast_zero, Nat.sub_zero, manC] at e
    simp only [lnkV, lnkC, stpsV, List.map_nil] at g
    simp only [s_mGreat, OA_asm, OA_chk, OA_call, OA_callx, OA_loop, OA_both_id, u_asA, u_asC, u_asI, u_asB, u_asS, u_asL, u_asOwn, u_asN, u_asRef0, Option.bind_some, nbeq, Nm_beq_self, decide_true, cond_true, cond_false, e, greatM]
    rcases bor ((x.links.take 13).any greatK) with b | b
    · simp [b]
    · by_cases c : 12 < x.links.length
      · have c' : (x.links.length : Int) > 12 := by omega
        simp [b, c, c']
      · have c' : ¬ ((x.links.length : Int) > 12) := by omega
        simp [b, c, c', g])
def Man.sml (x : Man) : Prop := Sml x.sch ∧ x.links.length ≤ 12 ∧ ∀ l ∈ x.links, l.sml
theorem greatM_sml {x : Man} (h : greatM x = false) : x.sml := by
  simp only [greatM, Bool.or_eq_false_iff, decide_eq_false_iff_not, List.any_eq_false] at h
  obtain ⟨h1, h2, h3⟩ := h
  rw [List.take_of_length_le (by omega)] at h1
  exact ⟨(greatK_sml h3).1, by omega, fun l hl => greatK_sml (by simpa using h1 l hl)⟩
theorem lnksB_cons (x : Lnk) (l : List Lnk) : lnksB (x :: l) = txtB (lnkB x) ++ lnksB l := by simp [lnksB]
theorem c_mPrintL (x : Man) (l : List Lnk) (hl : l.length ≤ 8) (hok : ∀ y ∈ l, y.ok ∧ y.sml) (B : Nat) (hB : ∀ y ∈ l, lnkS y = true → (txtB (lnkB y)).length ≤ B) : ∀ (r : List Lnk) (i : Nat) (b : List AV) (e : Int), l.drop i = r → b.length + B * r.length + 10 ≤ 211106232532992 →
    ltbl E0 34 0 10 [lnksV l, .int .i64 l.length, .int .i64 i] [manC x, [.lst (.own (.O 1045 0)) 1 b, .int .i64 e]] = some (if r.all lnkS then (1, [], [manC x, [.lst (.own (.O 1045 0)) 1 (b ++ encB (lnksB r)), .int .i64 e]]) else (0, [.lst .ro 1 [], .int .i64 2], [])) := by
  intro r
  induction r with
  | nil =>
    intro i b e hr hb
    have h : l.length ≤ i := by simpa using hr
    refine t_mPrintL _ _ _ _ _ _ ?_
    have : ¬ ((i : Int) < l.length) := by omega
    simp [s_mPrintL, this, lnksB, encB_nil]
  | cons y r ih =>
    intro i b e hr hb
    obtain ⟨hlt, hget, hr2⟩ := drop_c hr
    have h2 : (i : Int) < l.length := by omega
    have e1 := i64_succ (i := i) (by omega)
    obtain ⟨y1, y2⟩ := hok y (mem_drop hr)
    have c := c_lPrint y y1 y2
    simp only [lnkV, lnkC] at c
    rw [List.length_cons, Nat.mul_succ] at hb
    refine t_mPrintL _ _ _ _ _ _ ?_
    simp only [s_mPrintL, h2, Int.natCast_nonneg, nthE, Int.toNat_natCast, List.getElem?_map, hget, Option.map_some, OA_asm, OA_chk, OA_call, OA_callx, OA_loop, OA_both_id, u_asA, u_asC, u_asI, u_asB, u_asS, u_asL, u_asOwn, u_asN, u_asRef0, Option.bind_some, nbeq, Nm_beq_self, decide_true, cond_true, cond_false, c, List.all_cons]
    rcases bor (lnkS y) with q | q
    · have hlen := hB y (mem_drop hr) q; have hlen2 := lnkB_len y1 y2 q
      have et : (txtB (lnkB y)).length = (cnt (lnkB y).length).length + (lnkB y).length := by simp [txtB]
      have h := ih (i + 1) (b ++ encB (txtB (lnkB y))) e hr2 (by rw [List.length_append, encB_length]; omega)
      have c2 := c_PText b (lnkB y) e (by omega)
      simp only [penA] at c2
      have eb : b ++ encB (lnksB (y :: r)) = b ++ encB (txtB (lnkB y)) ++ encB (lnksB r) := by rw [lnksB_cons, encB_append, List.append_assoc]
      simp only [manC] at h
      simp only [q, if_true, bne_self_eq_false, orFail, bytesOf_encB, OA_asm, OA_chk, OA_call, OA_callx, OA_loop, OA_both_id, u_asA, u_asC, u_asI, u_asB, u_asS, u_asL, u_asOwn, u_asN, u_asRef0, Option.bind_some, nbeq, Nm_beq_self, decide_true, cond_true, cond_false, c2, e1, Bool.true_and, eb]
      exact h
    · simp only [q, Bool.false_eq_true, if_false, Bool.false_and]
      rfl
theorem b_Count (p : List UInt8) (n e : Int) (hb : p.length + 10 ≤ 211106232532992) (h0 : 0 ≤ n) (hn : n ≤ 9223372036854775807) : tbl E0 59 [.ref 0 0, .int .i64 n] [(0, [.lst (.own (.E 0 0)) 1 (encB p), .int .i64 e])] = some ([], [(0, [.lst (.own (.E 0 0)) 1 (encB (p ++ cnt n.toNat)), .int .i64 e])]) := by
  rw [encB_append]
  exact p_Count (encB p) n e (by rw [encB_length]; exact hb) h0 hn
theorem b_Text (p s : List UInt8) (e : Int) (hb : p.length + 10 + s.length ≤ 211106232532992) : tbl E0 60 [.ref 0 0, .str s] [(0, [.lst (.own (.E 0 0)) 1 (encB p), .int .i64 e])] = some ([], [(0, [.lst (.own (.E 0 0)) 1 (encB (p ++ txtB s)), .int .i64 e])]) := by
  have c := c_PText (encB p) s e (by rw [encB_length]; exact hb)
  rw [← encB_append] at c
  exact c
theorem lnksB_len : ∀ (l : List Lnk), (∀ y ∈ l, y.ok ∧ y.sml) → l.all lnkS = true → (lnksB l).length ≤ 2000010 * l.length
  | [], _, _ => by simp [lnksB]
  | y :: l, h, hq => by
    simp only [List.all_cons, Bool.and_eq_true] at hq
    have h1 := lnkB_len (h y (by simp)).1 (h y (by simp)).2 hq.1
    have h2 := lnksB_len l (fun g hg => h g (by simp [hg])) hq.2
    have h3 : (cnt (lnkB y).length).length ≤ 10 := cnt_len10 (by omega)
    have et : (txtB (lnkB y)).length = (cnt (lnkB y).length).length + (lnkB y).length := by simp [txtB]
    rw [lnksB_cons, List.length_append, List.length_cons]
    omega
theorem manB_len {x : Man} (hx : x.ok) (hs : x.sml) (h : manS x = true) : (manB x).length ≤ 17000000 := by
  obtain ⟨h1, h2, h3, h4⟩ := hx
  obtain ⟨s1, s2, s3⟩ := hs
  simp only [manS, Bool.and_eq_true, decide_eq_true_eq] at h
  obtain ⟨g0, g1, g2, g3, g4, g5, g6⟩ := h
  have a1 := schB_len h2 g3
  have a2 := lnksB_len x.links (fun y hy => ⟨h3 y hy, s3 y hy⟩) g0
  have hc1 : (cnt x.ver.toNat).length ≤ 10 := cnt_len10 (by omega)
  have hc2 : (cnt (schB x.sch).length).length ≤ 10 := cnt_len10 (by omega)
  have hc3 : (cnt x.links.length).length ≤ 10 := cnt_len10 (by omega)
  have hc4 : (cnt x.img.toNat).length ≤ 10 := cnt_len10 (by omega)
  have hw : (word4 1230197842).length = 4 := rfl
  unfold manB txtB
  simp only [List.length_append]
  omega
theorem c_mPrint (x : Man) (hx : x.ok) (hs : x.sml) : tbl E0 34 [manV x] [] = some ([.lst .ro 1 (if manS x = true then encB (manB x) else []), .int .i64 (if manS x = true then 0 else 2)], []) :=
  t_mPrint x (by
    have hx0 := hx
    have hs0 := hs
    obtain ⟨h1, h2, h3, h4⟩ := hx
    obtain ⟨s1, s2, s3⟩ := hs
    have c1 := c_sPrint x.sch h2 s1
    simp only [schV] at c1
    have e0 : ((if schS x.sch = true then (0 : Int) else 2) == 0) = schS x.sch := by rcases bor (schS x.sch) with q | q <;> simp [q]
    obtain ⟨ck, hck⟩ : ∃ ck, (decide (1 ≤ x.ver) && (decide (x.ver ≤ 65535) && (schS x.sch && (decide (x.links.length ≤ 8) && (decide (0 ≤ x.img) && decide (x.img ≤ 131072)))))) = ck := ⟨_, rfl⟩
    have er : (bif (if schS x.sch = true then (0 : Int) else 2) != 0 then true else bif decide (x.ver < 1) then true else bif decide (x.ver > 65535) then true else bif decide ((x.links.length : Int) > 8) then true else bif decide (x.img < 0) then true else decide (x.img > 131072)) = !ck := by
      rw [← hck]
      simp only [bne, e0]
      have k1 : decide (x.ver < 1) = !decide (1 ≤ x.ver) := by rw [← decide_not]; exact decide_eq_decide.2 (by omega)
      have k2 : decide (x.ver > 65535) = !decide (x.ver ≤ 65535) := by rw [← decide_not]; exact decide_eq_decide.2 (by omega)
      have k3 : decide ((x.links.length : Int) > 8) = !decide (x.links.length ≤ 8) := by rw [← decide_not]; exact decide_eq_decide.2 (by omega)
      have k4 : decide (x.img < 0) = !decide (0 ≤ x.img) := by rw [← decide_not]; exact decide_eq_decide.2 (by omega)
      have k5 : decide (x.img > 131072) = !decide (x.img ≤ 131072) := by rw [← decide_not]; exact decide_eq_decide.2 (by omega)
      rw [k1, k2, k3, k4, k5]
      cases schS x.sch <;> cases decide (1 ≤ x.ver) <;> cases decide (x.ver ≤ 65535) <;> cases decide (x.links.length ≤ 8) <;> cases decide (0 ≤ x.img) <;> cases decide (x.img ≤ 131072) <;> rfl
    have em : manS x = (x.links.all lnkS && ck) := by rw [← hck]; rfl
    simp only [s_mPrint, OA_asm, OA_chk, OA_call, OA_callx, OA_loop, OA_both_id, u_asA, u_asC, u_asI, u_asB, u_asS, u_asL, u_asOwn, u_asN, u_asRef0, Option.bind_some, nbeq, Nm_beq_self, decide_true, cond_true, cond_false, OA_join, c1, List.length_map]
    simp only [tok_cond, Option.bind_some, Tok.untok_tok, er]
    rcases bor ck with q | q
    · have q0 := hck.trans q
      simp only [Bool.and_eq_true, decide_eq_true_eq] at q0
      obtain ⟨g1, g2, g3, g4, g5, g6⟩ := q0
      have a1 := schB_len h2 g3
      have hc1 : (cnt x.ver.toNat).length ≤ 10 := cnt_len10 (by omega)
      have hc2 : (cnt (schB x.sch).length).length ≤ 10 := cnt_len10 (by omega)
      have hc3 : (cnt x.links.length).length ≤ 10 := cnt_len10 (by omega)
      have hw : (word4 1230197842).length = 4 := rfl
      have d0 := c_PWord [] 1230197842 0 (by simp) (by omega)
      simp only [penA, List.nil_append] at d0
      rw [show ((1230197842 : Nat) : Int) = 1230197842 from rfl] at d0
      have d1 := b_Count (word4 1230197842) x.ver 0 (by omega) (by omega) h1.2
      have d2 := b_Text (word4 1230197842 ++ cnt x.ver.toNat) (schB x.sch) 0 (by rw [List.length_append]; omega)
      have ht : (txtB (schB x.sch)).length = (cnt (schB x.sch).length).length + (schB x.sch).length := by simp [txtB]
      have d3 := b_Count (word4 1230197842 ++ cnt x.ver.toNat ++ txtB (schB x.sch)) x.links.length 0 (by rw [List.length_append, List.length_append]; omega) (by omega) (by omega)
      simp only [Int.toNat_natCast] at d3
      have k := c_mPrintL x x.links g4 (fun y hy => ⟨h3 y hy, s3 y hy⟩) 2000010 (fun y hy hq => by have h5 := lnkB_len (h3 y hy) (s3 y hy) hq; have h6 : (cnt (lnkB y).length).length ≤ 10 := cnt_len10 (by omega); unfold txtB; rw [List.length_append]; omega) x.links 0 (encB (word4 1230197842 ++ cnt x.ver.toNat ++ txtB (schB x.sch) ++ cnt x.links.length)) 0 rfl (by rw [encB_length, List.length_append, List.length_append, List.length_append]; omega)
      simp only [Int.natCast_zero, ← encB_append, manC] at k
      simp only [q, g3, if_true, orFail, bytesOf_encB, Bool.not_true, OA_asm, OA_chk, OA_call, OA_callx, OA_loop, OA_both_id, u_asA, u_asC, u_asI, u_asB, u_asS, u_asL, u_asOwn, u_asN, u_asRef0, Option.bind_some, nbeq, Nm_beq_self, decide_true, cond_true, cond_false, c_New, d0, d1, d2, d3, k, em, Bool.and_true]
      rcases bor (x.links.all lnkS) with w | w
      · have hb := manB_len hx0 hs0 (by rw [em, w, q]; rfl)
        have ep : manB x = word4 1230197842 ++ cnt x.ver.toNat ++ txtB (schB x.sch) ++ cnt x.links.length ++ lnksB x.links ++ cnt x.img.toNat := by unfold manB; simp only [List.append_assoc]
        have epl := congrArg List.length ep
        simp only [List.length_append] at epl
        have d4 := b_Count (word4 1230197842 ++ cnt x.ver.toNat ++ txtB (schB x.sch) ++ cnt x.links.length ++ lnksB x.links) x.img 0 (by rw [List.length_append, List.length_append, List.length_append, List.length_append]; omega) (by omega) h4.2
        rw [← ep] at d4
        have d5 := c_PDone (manB x) 0 (by omega)
        simp only [penV, penA, if_true] at d5
        simp only [w, if_true, g3, OA_asm, OA_chk, OA_call, OA_callx, OA_loop, OA_both_id, u_asA, u_asC, u_asI, u_asB, u_asS, u_asL, u_asOwn, u_asN, u_asRef0, Option.bind_some, nbeq, Nm_beq_self, decide_true, cond_true, cond_false, d4, d5, Nat.one_ne_zero]
        rfl
      · simp only [w, Bool.false_eq_true, if_false, OA_asm, OA_chk, OA_call, OA_callx, OA_loop, OA_both_id, u_asA, u_asC, u_asI, u_asB, u_asS, u_asL, u_asOwn, u_asN, u_asRef0, Option.bind_some, nbeq, Nm_beq_self, decide_true, cond_true, cond_false]
    · simp only [em, q, Bool.not_false, cond_true, Bool.and_false, Bool.false_eq_true, if_false])
theorem man_eq (x y : Man) : decide (x = y) = ((x.ver == y.ver && x.img == y.img) && (decide (x.sch = y.sch) && decide (x.links = y.links))) := by
  obtain ⟨a, b, c, d⟩ := x
  obtain ⟨a', b', c', d'⟩ := y
  rw [Bool.eq_iff_iff]
  simp only [decide_eq_true_eq, Bool.and_eq_true, beq_iff_eq, Man.mk.injEq]
  constructor
  · rintro ⟨rfl, rfl, rfl, rfl⟩; simp
  · rintro ⟨⟨rfl, rfl⟩, rfl, rfl⟩; simp
theorem c_ymSameL (x y : Man) (hs : x.sml) (he : x.links.length = y.links.length) : ∀ (r r' : List Lnk) (i : Nat), x.links.drop i = r → y.links.drop i = r' →
    ltbl E0 24 0 4 [.int .i64 i] [manC x, manC y] = some (if r = r' then (1, [], []) else (0, [.bool false], [])) := by
  have hl := hs.2.1
  intro r
  induction r with
  | nil =>
    intro r' i hr hr'
    have h : x.links.length ≤ i := by simpa using hr
    have h3 : r' = [] := by rw [← hr', List.drop_eq_nil_iff]; omega
    have : ¬ ((i : Int) < x.links.length) := by omega
    subst h3
    exact t_ymSameL _ _ _ (by simp [s_ymSameL, this])
  | cons a r ih =>
    intro r' i hr hr'
    obtain ⟨hlt, hget, hr2⟩ := drop_c hr
    have hlt' : i < y.links.length := by omega
    rw [List.drop_eq_getElem_cons hlt'] at hr'
    subst hr'
    have hg2 : y.links[i]? = some y.links[i] := List.getElem?_eq_getElem hlt'
    generalize y.links[i] = g at *
    have h2 : (i : Int) < x.links.length := by omega
    have e1 := i64_succ (i := i) (by omega)
    have h := ih _ (i + 1) hr2 rfl
    have c := c_ylSame a g (hs.2.2 a (mem_drop hr))
    simp only [lnkV, lnkC] at c
    simp only [manC] at h
    refine t_ymSameL _ _ _ ?_
    simp only [s_ymSameL, List.length_map, h2, Int.natCast_nonneg, nthE, Int.toNat_natCast, List.getElem?_map, hget, hg2, Option.map_some, OA_asm, OA_chk, OA_call, OA_callx, OA_loop, OA_both_id, u_asA, u_asC, u_asI, u_asB, u_asS, u_asL, u_asOwn, u_asN, u_asRef0, Option.bind_some, nbeq, Nm_beq_self, decide_true, cond_true, cond_false, c, e1]
    by_cases e : a = g
    · simp only [e, decide_true, Bool.not_true, cond_false, h, List.cons.injEq, true_and]
    · simp [e]
theorem c_ymSame (x y : Man) (hs : x.sml) : tbl E0 24 [manV x, manV y] [] = some ([.bool (decide (x = y))], []) :=
  t_ymSame x y (by
    have c1 := c_ySame x.sch y.sch hs.1
    simp only [schV] at c1
    simp only [s_ymSame, OA_asm, OA_chk, OA_call, OA_callx, OA_loop, OA_both_id, u_asA, u_asC, u_asI, u_asB, u_asS, u_asL, u_asOwn, u_asN, u_asRef0, Option.bind_some, nbeq, Nm_beq_self, decide_true, cond_true, cond_false, OA_join, c1, List.length_map]
    simp only [tok_cond, Option.bind_some, Tok.untok_tok, cond_tt, man_eq]
    generalize hq : (x.ver != y.ver || (x.img != y.img || (!decide (x.sch = y.sch) || ((x.links.length : Int) != y.links.length)))) = q
    rcases bor q with hb | hb
    · subst hb
      have : ((x.ver == y.ver && x.img == y.img) && (decide (x.sch = y.sch) && decide (x.links = y.links))) = false := by
        rw [Bool.eq_false_iff]
        intro h
        simp only [Bool.and_eq_true, beq_iff_eq, decide_eq_true_eq] at h
        obtain ⟨⟨a1, a2⟩, a3, a4⟩ := h
        simp [a1, a2, a3, a4] at hq
      rw [this]
      rfl
    · rw [hb] at hq
      simp only [Bool.or_eq_false_iff, bne_eq_false_iff_eq, Bool.not_eq_false', decide_eq_true_eq] at hq
      obtain ⟨a1, a2, a3, a4⟩ := hq
      have k := c_ymSameL x y hs (by omega) x.links y.links 0 rfl rfl
      simp only [Int.natCast_zero, manC] at k
      have hR : ((x.ver == y.ver && x.img == y.img) && (decide (x.sch = y.sch) && decide (x.links = y.links))) = decide (x.links = y.links) := by simp [a1, a2, a3]
      rw [hR]
      simp only [hb, cond_false, OA_loop, k]
      by_cases e : x.links = y.links <;> simp [e])
theorem awake30 : tbl E0 20 [] [] = some ([.bool true], []) := tbl_iff.2 ⟨300, by kernel_rfl⟩
theorem c_mRight (x : Man) (hx : x.ok) (hs : x.sml) : tbl E0 21 [manV x] [] = some ([.bool (manS x)], []) :=
  t_mRight x (by
    have c := c_mPrint x hx hs
    simp only [manV, manC] at c
    have e : ((if manS x = true then (0 : Int) else 2) == 0) = manS x := by rcases bor (manS x) with q | q <;> simp [q]
    simp only [s_mRight, OA_asm, OA_chk, OA_call, OA_callx, OA_loop, OA_both_id, u_asA, u_asC, u_asI, u_asB, u_asS, u_asL, u_asOwn, u_asN, u_asRef0, Option.bind_some, nbeq, Nm_beq_self, decide_true, cond_true, cond_false, c, e])
end Go.Proofs.Ytmpfeofeokmooaa.V
namespace Go.Proofs.Ytmpfeofeokmooaa.V
open Go
theorem cnt_le2 {u : Nat} (h : u < 16384) : (cnt u).length ≤ 2 := cnt_len 1 u (by omega)
theorem fldW_len2 {x : Fld} (hx : x.ok) (hr : rgtS x = true) : (fldW x).length ≤ 26 := by
  have r := rgt_rng hr
  obtain ⟨_, ⟨_, _⟩, ⟨_, _⟩, ⟨_, _⟩, ⟨_, _⟩⟩ := hx
  have h1 : (cnt x.id.toNat).length ≤ 2 := cnt_le2 (by omega)
  have h2 : (cnt x.kind.toNat).length ≤ 2 := cnt_le2 (by omega)
  have h3 : (cnt (zz x.lo)).length ≤ 10 := cnt_len10 (zz_lt (by omega) (by omega))
  have h4 : (cnt (zz x.hi)).length ≤ 10 := cnt_len10 (zz_lt (by omega) (by omega))
  have h5 : (cnt x.most.toNat).length ≤ 2 := cnt_le2 (by omega)
  unfold fldW
  simp only [List.length_append]
  omega
theorem intsB_len2 : ∀ (l : List Int), (∀ n ∈ l, 0 ≤ n ∧ n ≤ 1000) → (intsB l).length ≤ 2 * l.length
  | [], _ => by simp [intsB]
  | n :: l, h => by
    have h1 : (cnt n.toNat).length ≤ 2 := cnt_le2 (by have := h n (by simp); omega)
    have h2 := intsB_len2 l (fun g hg => h g (by simp [hg]))
    have e : intsB (n :: l) = cnt n.toNat ++ intsB l := by simp [intsB]
    rw [e, List.length_append, List.length_cons]
    omega
theorem fldsW_len2 : ∀ (l : List Fld), FldsOK l → (fldsW l).length ≤ 26 * l.length
  | [], _ => by simp [fldsW]
  | n :: l, h => by
    have h1 := fldW_len2 (h n (by simp)).1 (h n (by simp)).2
    have h2 := fldsW_len2 l (fun g hg => h g (by simp [hg]))
    have e : fldsW (n :: l) = fldW n ++ fldsW l := by simp [fldsW]
    rw [e, List.length_append, List.length_cons]
    omega
theorem prtB_len2 {x : Stp} (hx : x.ok) {p : Int} (hp : Fits x p) : (prtB x p).length ≤ 220 := by
  have hx0 := hx
  obtain ⟨h1, h2, h3, h4, h5, h6, h7, h8, h9, h10, h11⟩ := hx
  have hp0 := hp
  obtain ⟨hr, hf, hb⟩ := hp
  rcases pr_cases hr with rfl | rfl | rfl | rfl | rfl | rfl | rfl | rfl | rfl | rfl <;> simp only [prtB, if_true, Int.reduceEq, if_false, List.length_append]
  · have := cnt10 h2.2; omega
  · have := cnt10 h3.2; omega
  · have := cnt10 h4.2; omega
  · have := cnt10 h5.2; omega
  · have := cnt10 h6.2; omega
  · have := zz_l h6; have := zz_l h7; omega
  · simp [fitsS] at hf
    have := fldW_len2 h8 hf.1; omega
  · have := fits_s hf
    have := zz_l h9
    have : (cnt x.s.length).length ≤ 10 := cnt_len10 (by omega)
    omega
  · obtain ⟨g1, g2⟩ := fits_t hp0
    have := intsB_len2 x.t g1
    have : (cnt x.t.length).length ≤ 10 := cnt_len10 (by omega)
    omega
  · obtain ⟨g1, g2⟩ := fits_flds hx0 hf
    have := fldsW_len2 x.fields g2
    have : (cnt x.fields.length).length ≤ 2 := cnt_le2 (by omega)
    omega
theorem prtsB_len2 {x : Stp} (hx : x.ok) : ∀ (l : List Int), (∀ p ∈ l, Fits x p) → (prtsB x l).length ≤ 220 * l.length
  | [], _ => by simp [prtsB]
  | p :: l, h => by
    have h1 := prtB_len2 hx (h p (by simp))
    have h2 := prtsB_len2 hx l (fun g hg => h g (by simp [hg]))
    have e : prtsB x (p :: l) = prtB x p ++ prtsB x l := by simp [prtsB]
    rw [e, List.length_append, List.length_cons]
    omega
theorem stpB_len2 {x : Stp} (hx : x.ok) (hr : tRightS x = true) : (stpB x).length ≤ 1110 := by
  obtain ⟨h1, h2, _⟩ := right_fits hr
  have h3 := prtsB_len2 hx _ h1
  have h4 := uses_len x.op
  have h5 := ops_rng h2
  have h6 : (cnt x.op.toNat).length ≤ 10 := cnt_len10 (by omega)
  unfold stpB
  rw [List.length_append]
  omega
theorem stpsB_len2 : ∀ (l : List Stp), (∀ x ∈ l, x.ok ∧ tRightS x = true) → (stpsB l).length ≤ 1110 * l.length
  | [], _ => by simp [stpsB]
  | x :: l, h => by
    have h1 := stpB_len2 (h x (by simp)).1 (h x (by simp)).2
    have h2 := stpsB_len2 l (fun g hg => h g (by simp [hg]))
    rw [stpsB_cons, List.length_append, List.length_cons]
    omega
theorem lstB_len2 {l : List Stp} (hl : l.length ≤ 40) (h : ∀ x ∈ l, x.ok ∧ tRightS x = true) : (lstB l).length ≤ 44410 := by
  have h7 : (cnt l.length).length ≤ 10 := cnt_len10 (by omega)
  have := stpsB_len2 l h
  unfold lstB
  rw [List.length_append]
  omega
theorem lnkS_parts {x : Lnk} (hx : x.ok) (h : lnkS x = true) : (1 ≤ x.fr ∧ x.fr ≤ 65535) ∧ schS x.to = true ∧ (x.on.length ≤ 40 ∧ ∀ s ∈ x.on, s.ok ∧ tRightS s = true) ∧ (x.back.length ≤ 40 ∧ ∀ s ∈ x.back, s.ok ∧ tRightS s = true) := by
  obtain ⟨h1, h2, h3, h4⟩ := hx
  simp only [lnkS, Bool.and_eq_true, decide_eq_true_eq] at h
  obtain ⟨g1, g2, g3, _, g4, g5⟩ := h
  obtain ⟨p1, p2, p3⟩ := rights_ok h3 g4
  obtain ⟨q1, q2, q3⟩ := rights_ok h4 g5
  exact ⟨⟨g1, g2⟩, g3, ⟨p1, p3⟩, ⟨q1, q3⟩⟩
theorem lnkB_len2 {x : Lnk} (hx : x.ok) (h : lnkS x = true) : (lnkB x).length ≤ 93000 := by
  obtain ⟨⟨g1, g2⟩, g3, ⟨p1, p2⟩, ⟨q1, q2⟩⟩ := lnkS_parts hx h
  have a1 := schB_len hx.2.1 g3
  have a2 := lstB_len2 p1 p2
  have a3 := lstB_len2 q1 q2
  have c0 : (cnt x.fr.toNat).length ≤ 10 := cnt_len10 (by omega)
  have c1 : (cnt (schB x.to).length).length ≤ 10 := cnt_len10 (by omega)
  have c2 : (cnt (lstB x.on).length).length ≤ 10 := cnt_len10 (by omega)
  have c3 : (cnt (lstB x.back).length).length ≤ 10 := cnt_len10 (by omega)
  unfold lnkB txtB
  simp only [List.length_append]
  omega
def lnk0 : Lnk := ⟨0, ⟨0, []⟩, [], []⟩
def qK (b : List UInt8) : St := (cS (b, 0) 65535).2
def qK1 (b : List UInt8) : St := (xS (qK b) 131072).2
def qK2 (b : List UInt8) : St := (xS (qK1 b) 131072).2
def qK3 (b : List UInt8) : St := (xS (qK2 b) 131072).2
def txK1 (b : List UInt8) : List UInt8 := (xS (qK b) 131072).1
def txK2 (b : List UInt8) : List UInt8 := (xS (qK1 b) 131072).1
def txK3 (b : List UInt8) : List UInt8 := (xS (qK2 b) 131072).1
def tkLnk (b : List UInt8) : Lnk := ⟨(cS (b, 0) 65535).1, (parS (txK1 b)).1, (parT (txK2 b)).1, (parT (txK3 b)).1⟩
def errK (b : List UInt8) : Int :=
  if endS (qK3 b).1 (qK3 b).2 ≠ 0 then endS (qK3 b).1 (qK3 b).2
  else if (parS (txK1 b)).2 ≠ 0 then (parS (txK1 b)).2
  else if (parT (txK2 b)).2 ≠ 0 then (parT (txK2 b)).2
  else if (parT (txK3 b)).2 ≠ 0 then (parT (txK3 b)).2
  else if lnkS (tkLnk b) = true then 0 else 2
def parK (b : List UInt8) : Lnk × Int := if errK b = 0 then (tkLnk b, 0) else (lnk0, errK b)
theorem endS_eq0 {b : List UInt8} {e : Int} (h : endS b e = 0) : e = 0 ∧ b = [] := by
  unfold endS at h
  split at h
  · rename_i he; exact absurd h (by simpa using he)
  · split at h
    · rename_i he hb; exact ⟨by simpa using he, hb⟩
    · cases h
theorem parK_lnkB (x : Lnk) (hx : x.ok) (h : lnkS x = true) : parK (lnkB x) = (x, 0) := by
  obtain ⟨⟨g1, g2⟩, g3, ⟨p1, p2⟩, ⟨q1, q2⟩⟩ := lnkS_parts hx h
  have a1 := schB_len hx.2.1 g3
  have a2 := lstB_len2 p1 p2
  have a3 := lstB_len2 q1 q2
  have e0 : cS (lnkB x, 0) 65535 = (x.fr, (txtB (schB x.to) ++ (txtB (lstB x.on) ++ txtB (lstB x.back)), 0)) := by
    unfold lnkB
    exact cS_cnt (by omega) (by omega) (by omega) _
  have e1 : xS (txtB (schB x.to) ++ (txtB (lstB x.on) ++ txtB (lstB x.back)), 0) 131072 = (schB x.to, (txtB (lstB x.on) ++ txtB (lstB x.back), 0)) := by
    have := xS_cnt (s := schB x.to) (m := 131072) (by omega) (by omega) (txtB (lstB x.on) ++ txtB (lstB x.back))
    simpa [txtB] using this
  have e2 : xS (txtB (lstB x.on) ++ txtB (lstB x.back), 0) 131072 = (lstB x.on, (txtB (lstB x.back), 0)) := by
    have := xS_cnt (s := lstB x.on) (m := 131072) (by omega) (by omega) (txtB (lstB x.back))
    simpa [txtB] using this
  have e3 : xS (txtB (lstB x.back), 0) 131072 = (lstB x.back, ([], 0)) := by
    have := xS_cnt (s := lstB x.back) (m := 131072) (by omega) (by omega) []
    simpa [txtB] using this
  have f0 : qK (lnkB x) = (txtB (schB x.to) ++ (txtB (lstB x.on) ++ txtB (lstB x.back)), 0) := by unfold qK; rw [e0]
  have f1 : txK1 (lnkB x) = schB x.to := by unfold txK1; rw [f0, e1]
  have f2 : qK1 (lnkB x) = (txtB (lstB x.on) ++ txtB (lstB x.back), 0) := by unfold qK1; rw [f0, e1]
  have f3 : txK2 (lnkB x) = lstB x.on := by unfold txK2; rw [f2, e2]
  have f4 : qK2 (lnkB x) = (txtB (lstB x.back), 0) := by unfold qK2; rw [f2, e2]
  have f5 : txK3 (lnkB x) = lstB x.back := by unfold txK3; rw [f4, e3]
  have f6 : qK3 (lnkB x) = ([], 0) := by unfold qK3; rw [f4, e3]
  have k1 := parS_schB x.to hx.2.1 g3
  have k2 := parT_lstB x.on p1 p2
  have k3 := parT_lstB x.back q1 q2
  have k4 : tkLnk (lnkB x) = x := by unfold tkLnk; rw [e0, f1, f3, f5, k1, k2, k3]
  have k5 : errK (lnkB x) = 0 := by unfold errK; rw [f6, f1, f3, f5, k1, k2, k3, k4, h]; simp [endS]
  unfold parK
  rw [k5, k4]
  rfl
theorem errK_0 {b : List UInt8} (h : errK b = 0) : endS (qK3 b).1 (qK3 b).2 = 0 ∧ (parS (txK1 b)).2 = 0 ∧ (parT (txK2 b)).2 = 0 ∧ (parT (txK3 b)).2 = 0 ∧ lnkS (tkLnk b) = true := by
  unfold errK at h
  by_cases h1 : endS (qK3 b).1 (qK3 b).2 = 0
  · rw [if_neg (by simpa using h1)] at h
    by_cases h2 : (parS (txK1 b)).2 = 0
    · rw [if_neg (by simpa using h2)] at h
      by_cases h3 : (parT (txK2 b)).2 = 0
      · rw [if_neg (by simpa using h3)] at h
        by_cases h4 : (parT (txK3 b)).2 = 0
        · rw [if_neg (by simpa using h4)] at h
          by_cases h5 : lnkS (tkLnk b) = true
          · exact ⟨h1, h2, h3, h4, h5⟩
          · rw [if_neg h5] at h; cases h
        · rw [if_pos h4] at h; exact absurd h h4
      · rw [if_pos h3] at h; exact absurd h h3
    · rw [if_pos h2] at h; exact absurd h h2
  · rw [if_pos h1] at h; exact absurd h h1
theorem parK_err (b : List UInt8) : (parK b).2 = errK b := by
  unfold parK
  by_cases h : errK b = 0 <;> simp [h]
theorem parK_inv {b : List UInt8} (h : (parK b).2 = 0) : lnkS (parK b).1 = true ∧ lnkB (parK b).1 = b := by
  rw [parK_err] at h
  obtain ⟨h1, h2, h3, h4, h5⟩ := errK_0 h
  unfold parK
  rw [if_pos h]
  refine ⟨h5, ?_⟩
  obtain ⟨s1, s2⟩ := endS_eq0 h1
  obtain ⟨a1, a2⟩ := xS_inv (q := qK2 b) s1
  obtain ⟨b1, b2⟩ := xS_inv (q := qK1 b) a1
  obtain ⟨c1, c2⟩ := xS_inv (q := qK b) b1
  obtain ⟨d1, d2⟩ := cS_inv (q := (b, 0)) c1
  obtain ⟨_, u1⟩ := parS_inv h2
  obtain ⟨_, _, u2⟩ := parT_inv h3
  obtain ⟨_, _, u3⟩ := parT_inv h4
  have a3 : (qK2 b).1 = txtB (txK3 b) := by
    rw [a2]
    change cnt (txK3 b).length ++ (txK3 b ++ (qK3 b).1) = _
    rw [s2, List.append_nil]
    rfl
  have b3 : (qK1 b).1 = txtB (txK2 b) ++ txtB (txK3 b) := by
    rw [b2]
    change cnt (txK2 b).length ++ (txK2 b ++ (qK2 b).1) = _
    rw [a3, ← List.append_assoc]
    rfl
  have c3 : (qK b).1 = txtB (txK1 b) ++ (txtB (txK2 b) ++ txtB (txK3 b)) := by
    rw [c2]
    change cnt (txK1 b).length ++ (txK1 b ++ (qK1 b).1) = _
    rw [b3, ← List.append_assoc]
    rfl
  have d3 : b = cnt (cS (b, 0) 65535).1.toNat ++ (txtB (txK1 b) ++ (txtB (txK2 b) ++ txtB (txK3 b))) := by
    rw [← c3]
    exact d2
  conv => rhs; rw [d3]
  unfold lnkB tkLnk
  simp only
  rw [u1, u2, u3]
theorem xS_ok (q : St) (m : Int) (h : q.1.length ≤ 211106232532992) : (xS q m).1.length ≤ 211106232532992 := by
  have h1 := countS_len q.1 q.2 m
  unfold xS textS takeS
  dsimp only
  split
  · simp
  · split
    · simp
    · rw [List.length_take]; omega
theorem tkLnk_ok (b : List UInt8) : (tkLnk b).ok ∧ (tkLnk b).sml := by
  have h1 := parS_ok (txK1 b)
  have h2 := parT_ok (txK2 b)
  have h3 := parT_ok (txK3 b)
  have h4 := parS_sml (txK1 b)
  have r := cS_rng (b, 0) (m := 65535) (by omega)
  refine ⟨⟨?_, h1, fun s hs => (h2.1 s hs).1, fun s hs => (h3.1 s hs).1⟩, h4, ⟨?_, fun s hs => (h2.1 s hs).2⟩, ?_, fun s hs => (h3.1 s hs).2⟩
  · change i64 (cS (b, 0) 65535).1
    unfold i64
    omega
  · change (parT (txK2 b)).1.length ≤ 60
    omega
  · change (parT (txK3 b)).1.length ≤ 60
    omega
theorem parK_ok (b : List UInt8) : (parK b).1.ok ∧ (parK b).1.sml := by
  unfold parK
  split
  · exact tkLnk_ok b
  · refine ⟨⟨by simp [lnk0, i64], ⟨by simp [lnk0, i64], by simp [lnk0]⟩, by simp [lnk0], by simp [lnk0]⟩, ?_⟩
    refine ⟨by simp [lnk0, Sml], by simp [lnk0], by simp [lnk0]⟩
end Go.Proofs.Ytmpfeofeokmooaa.V
namespace Go.Proofs.Ytmpfeofeokmooaa.V
open Go
def wM (b : List UInt8) : Nat := (wordS b 0).1
def qM0 (b : List UInt8) : St := (wordS b 0).2
def qM1 (b : List UInt8) : St := (cS (qM0 b) 65535).2
def verM (b : List UInt8) : Int := (cS (qM0 b) 65535).1
def qM2 (b : List UInt8) : St := (xS (qM1 b) 131072).2
def txM (b : List UInt8) : List UInt8 := (xS (qM1 b) 131072).1
def qM3 (b : List UInt8) : St := (cS (qM2 b) 8).2
def nM (b : List UInt8) : Int := (cS (qM2 b) 8).1
def tkTxts : Nat → St → List (List UInt8) × St
  | 0, q => ([], q)
  | n + 1, q => ((xS q 131072).1 :: (tkTxts n (xS q 131072).2).1, (tkTxts n (xS q 131072).2).2)
def qM4 (b : List UInt8) : St := (tkTxts (nM b).toNat (qM3 b)).2
def lM (b : List UInt8) : List (List UInt8) := (tkTxts (nM b).toNat (qM3 b)).1
def qM5 (b : List UInt8) : St := (cS (qM4 b) 131072).2
def imgM (b : List UInt8) : Int := (cS (qM4 b) 131072).1
def parKs : List (List UInt8) → List Lnk × Int
  | [] => ([], 0)
  | s :: l => if (parK s).2 ≠ 0 then ([], (parK s).2) else ((parK s).1 :: (parKs l).1, (parKs l).2)
def tkMan (b : List UInt8) : Man := ⟨verM b, (parS (txM b)).1, (parKs (lM b)).1, imgM b⟩
def badM (b : List UInt8) : Bool := decide (wM b ≠ 1230197842) && decide (4 ≤ b.length)
def errM (b : List UInt8) : Int :=
  if badM b = true then 4
  else if (qM5 b).2 ≠ 0 then (qM5 b).2
  else if (parS (txM b)).2 ≠ 0 then (parS (txM b)).2
  else if (parKs (lM b)).2 ≠ 0 then (parKs (lM b)).2
  else if manS (tkMan b) = true then 0 else 2
def parM (b : List UInt8) : Man × Int × Int := if errM b = 0 then (tkMan b, (b.length : Int) - (qM5 b).1.length, 0) else (man0, 0, errM b)
theorem word_len (b : List UInt8) (e : Int) : (wordS b e).2.1.length ≤ b.length := takeS_len2 b e 4
theorem qM0_len (b : List UInt8) : (qM0 b).1.length ≤ b.length := word_len b 0
theorem qM1_len (b : List UInt8) : (qM1 b).1.length ≤ b.length := Nat.le_trans (cS_len _ _) (qM0_len b)
theorem qM2_len (b : List UInt8) : (qM2 b).1.length ≤ b.length := Nat.le_trans (xS_len _ _) (qM1_len b)
theorem qM3_len (b : List UInt8) : (qM3 b).1.length ≤ b.length := Nat.le_trans (cS_len _ _) (qM2_len b)
theorem tkTxts_len : ∀ (n : Nat) (q : St), (tkTxts n q).2.1.length ≤ q.1.length
  | 0, q => Nat.le_refl _
  | n + 1, q => Nat.le_trans (tkTxts_len n _) (xS_len q _)
theorem tkTxts_n : ∀ (n : Nat) (q : St), (tkTxts n q).1.length = n
  | 0, q => rfl
  | n + 1, q => by simp [tkTxts, tkTxts_n n]
theorem tkTxts_ok : ∀ (n : Nat) (q : St), q.1.length ≤ 211106232532992 → ∀ s ∈ (tkTxts n q).1, s.length ≤ 211106232532992
  | 0, q, _, s, hs => by cases hs
  | n + 1, q, h, s, hs => by
    rcases List.mem_cons.1 hs with rfl | hs
    · exact xS_ok q _ h
    · exact tkTxts_ok n _ (Nat.le_trans (xS_len q _) h) s hs
theorem qM4_len (b : List UInt8) : (qM4 b).1.length ≤ b.length := Nat.le_trans (tkTxts_len _ _) (qM3_len b)
theorem qM5_len (b : List UInt8) : (qM5 b).1.length ≤ b.length := Nat.le_trans (cS_len _ _) (qM4_len b)
theorem nM_rng (b : List UInt8) : 0 ≤ nM b ∧ nM b ≤ 8 := cS_rng (qM2 b) (m := 8) (by omega)
theorem lM_n (b : List UInt8) : (lM b).length ≤ 8 := by
  have h := nM_rng b
  unfold lM
  rw [tkTxts_n]
  omega
theorem parKs_len : ∀ (l : List (List UInt8)), (parKs l).1.length ≤ l.length
  | [] => Nat.le_refl _
  | s :: l => by
    unfold parKs
    split
    · simp
    · have := parKs_len l
      simp; omega
theorem parKs_ok : ∀ (l : List (List UInt8)), ∀ x ∈ (parKs l).1, x.ok ∧ x.sml
  | [], x, hx => by cases hx
  | s :: l, x, hx => by
    unfold parKs at hx
    split at hx
    · cases hx
    · rcases List.mem_cons.1 hx with rfl | hx
      · exact parK_ok s
      · exact parKs_ok l x hx
theorem tkMan_ok (b : List UInt8) : (tkMan b).ok ∧ (tkMan b).sml := by
  have h1 := cS_rng (qM0 b) (m := 65535) (by omega)
  have h2 := cS_rng (qM4 b) (m := 131072) (by omega)
  have h3 := parKs_len (lM b)
  have h4 := lM_n b
  refine ⟨⟨?_, parS_ok _, fun l hl => (parKs_ok _ l hl).1, ?_⟩, parS_sml _, ?_, fun l hl => (parKs_ok _ l hl).2⟩
  · change i64 (cS (qM0 b) 65535).1
    unfold i64; omega
  · change i64 (cS (qM4 b) 131072).1
    unfold i64; omega
  · change (parKs (lM b)).1.length ≤ 12
    omega
theorem man0_ok : man0.ok ∧ man0.sml := by
  refine ⟨⟨by simp [man0, i64], ⟨by simp [man0, i64], by simp [man0]⟩, by simp [man0], by simp [man0, i64]⟩, by simp [man0, Sml], by simp [man0], by simp [man0]⟩
theorem parM_ok (b : List UInt8) : (parM b).1.ok ∧ (parM b).1.sml := by
  unfold parM
  split
  · exact tkMan_ok b
  · exact man0_ok
theorem parM_err (b : List UInt8) : (parM b).2.2 = errM b := by
  unfold parM
  by_cases h : errM b = 0 <;> simp [h]
theorem wordOf_w4 {n : Nat} (h : n < 4294967296) : wordOf 0 (word4 n) = n := by
  unfold word4 wordOf
  simp only [List.foldl]
  rw [byt_toNat (by omega), byt_toNat (by omega), byt_toNat (by omega), byt_toNat (by omega)]
  omega
theorem wordS_w4 {n : Nat} (h : n < 4294967296) (t : List UInt8) : wordS (word4 n ++ t) 0 = (n, (t, 0)) := by
  have hl : (word4 n).length = 4 := rfl
  unfold wordS takeS
  have h1 : ¬ ((0 : Int) ≠ 0) := by simp
  have h2 : ¬ ((word4 n ++ t).length < 4) := by rw [List.length_append, hl]; omega
  simp only [if_neg h1, if_neg h2]
  rw [List.take_append_of_le_length (by rw [hl]; omega), List.drop_append_of_le_length (by rw [hl]; omega), List.take_of_length_le (by rw [hl]; omega), List.drop_of_length_le (by rw [hl]; omega), wordOf_w4 h]
  rfl
theorem manS_parts {x : Man} (h : manS x = true) : (∀ l ∈ x.links, lnkS l = true) ∧ (1 ≤ x.ver ∧ x.ver ≤ 65535) ∧ schS x.sch = true ∧ x.links.length ≤ 8 ∧ (0 ≤ x.img ∧ x.img ≤ 131072) := by
  simp only [manS, Bool.and_eq_true, decide_eq_true_eq, List.all_eq_true] at h
  obtain ⟨h1, h2, h3, h4, h5, h6, h7⟩ := h
  exact ⟨h1, ⟨h2, h3⟩, h4, h5, ⟨h6, h7⟩⟩
theorem txtB_app (s t : List UInt8) : txtB s ++ t = cnt s.length ++ (s ++ t) := by unfold txtB; rw [List.append_assoc]
theorem tkTxts_lnksB : ∀ (l : List Lnk), (∀ x ∈ l, x.ok ∧ lnkS x = true) → ∀ rest, tkTxts l.length (lnksB l ++ rest, 0) = (l.map lnkB, (rest, 0))
  | [], _, rest => rfl
  | x :: l, h, rest => by
    have h1 := lnkB_len2 (h x (by simp)).1 (h x (by simp)).2
    have h2 := tkTxts_lnksB l (fun y hy => h y (by simp [hy])) rest
    have h3 := xS_cnt (s := lnkB x) (m := 131072) (by omega) (by omega) (lnksB l ++ rest)
    have e : lnksB (x :: l) ++ rest = cnt (lnkB x).length ++ (lnkB x ++ (lnksB l ++ rest)) := by simp [lnksB, txtB]
    rw [e, List.length_cons, tkTxts, h3, h2]
    rfl
theorem parKs_lnkB : ∀ (l : List Lnk), (∀ x ∈ l, x.ok ∧ lnkS x = true) → parKs (l.map lnkB) = (l, 0)
  | [], _ => rfl
  | x :: l, h => by
    have h1 := parK_lnkB x (h x (by simp)).1 (h x (by simp)).2
    have h2 := parKs_lnkB l (fun y hy => h y (by simp [hy]))
    rw [List.map_cons, parKs, h1, h2]
    simp
theorem parM_manB (x : Man) (hx : x.ok) (h : manS x = true) (rest : List UInt8) : parM (manB x ++ rest) = (x, ((manB x).length : Int), 0) := by
  obtain ⟨g1, ⟨g2, g3⟩, g4, g5, ⟨g6, g7⟩⟩ := manS_parts h
  have hl : ∀ y ∈ x.links, y.ok ∧ lnkS y = true := fun y hy => ⟨hx.2.2.1 y hy, g1 y hy⟩
  have a1 := schB_len hx.2.1 g4
  generalize hb : manB x ++ rest = b
  have eb : b = word4 1230197842 ++ (cnt x.ver.toNat ++ (cnt (schB x.sch).length ++ (schB x.sch ++ (cnt x.links.length ++ (lnksB x.links ++ (cnt x.img.toNat ++ rest)))))) := by
    rw [← hb]; simp [manB, txtB]
  have e0 : wordS b 0 = (1230197842, (cnt x.ver.toNat ++ (cnt (schB x.sch).length ++ (schB x.sch ++ (cnt x.links.length ++ (lnksB x.links ++ (cnt x.img.toNat ++ rest))))), 0)) := by
    rw [eb]; exact wordS_w4 (by omega) _
  have f0 : qM0 b = (cnt x.ver.toNat ++ (cnt (schB x.sch).length ++ (schB x.sch ++ (cnt x.links.length ++ (lnksB x.links ++ (cnt x.img.toNat ++ rest))))), 0) := by unfold qM0; rw [e0]
  have fw : wM b = 1230197842 := by unfold wM; rw [e0]
  have e1 := cS_cnt (n := x.ver) (m := 65535) (by omega) (by omega) (by omega) (cnt (schB x.sch).length ++ (schB x.sch ++ (cnt x.links.length ++ (lnksB x.links ++ (cnt x.img.toNat ++ rest)))))
  have f1 : qM1 b = (cnt (schB x.sch).length ++ (schB x.sch ++ (cnt x.links.length ++ (lnksB x.links ++ (cnt x.img.toNat ++ rest)))), 0) := by unfold qM1; rw [f0, e1]
  have f1' : verM b = x.ver := by unfold verM; rw [f0, e1]
  have e2 := xS_cnt (s := schB x.sch) (m := 131072) (by omega) (by omega) (cnt x.links.length ++ (lnksB x.links ++ (cnt x.img.toNat ++ rest)))
  have f2 : qM2 b = (cnt x.links.length ++ (lnksB x.links ++ (cnt x.img.toNat ++ rest)), 0) := by unfold qM2; rw [f1, e2]
  have f2' : txM b = schB x.sch := by unfold txM; rw [f1, e2]
  have e3 := cS_cnt (n := (x.links.length : Int)) (m := 8) (by omega) (by omega) (by omega) (lnksB x.links ++ (cnt x.img.toNat ++ rest))
  rw [Int.toNat_natCast] at e3
  have f3 : qM3 b = (lnksB x.links ++ (cnt x.img.toNat ++ rest), 0) := by unfold qM3; rw [f2, e3]
  have f3' : nM b = x.links.length := by unfold nM; rw [f2, e3]
  have e4 := tkTxts_lnksB x.links hl (cnt x.img.toNat ++ rest)
  have f4 : qM4 b = (cnt x.img.toNat ++ rest, 0) := by unfold qM4; rw [f3, f3', Int.toNat_natCast, e4]
  have f4' : lM b = x.links.map lnkB := by unfold lM; rw [f3, f3', Int.toNat_natCast, e4]
  have e5 := cS_cnt (n := x.img) (m := 131072) (by omega) (by omega) (by omega) rest
  have f5 : qM5 b = (rest, 0) := by unfold qM5; rw [f4, e5]
  have f5' : imgM b = x.img := by unfold imgM; rw [f4, e5]
  have k1 := parS_schB x.sch hx.2.1 g4
  have k2 := parKs_lnkB x.links hl
  have k3 : tkMan b = x := by unfold tkMan; rw [f1', f2', f4', f5', k1, k2]
  have k4 : errM b = 0 := by unfold errM badM; rw [fw, f5, f2', f4', k1, k2, k3, h]; simp
  unfold parM
  rw [k4, k3, f5]
  rw [← hb]
  simp only [if_true, List.length_append]
  have : (((manB x).length + rest.length : Nat) : Int) - (rest.length : Int) = ((manB x).length : Int) := by omega
  rw [this]
theorem wordS_inv {b : List UInt8} (h : (wordS b 0).2.2 = 0) : 4 ≤ b.length ∧ b = word4 (wordS b 0).1 ++ (wordS b 0).2.1 := by
  unfold wordS takeS at h ⊢
  by_cases hl : b.length < 4
  · simp [hl] at h
  · refine ⟨by omega, ?_⟩
    match b, hl with
    | a :: c :: d :: e :: t, _ =>
      have ha := a.toNat_lt; have hc := c.toNat_lt; have hd := d.toNat_lt; have he := e.toNat_lt
      have hl2 : ¬ ((a :: c :: d :: e :: t).length < 4) := by simp
      simp only [ne_eq, not_true_eq_false, if_false, hl2]
      have e1 : wordOf 0 [a, c, d, e] = ((a.toNat * 256 + c.toNat) * 256 + d.toNat) * 256 + e.toNat := by
        simp only [wordOf, List.foldl]; omega
      have e2 : (List.take 4 (a :: c :: d :: e :: t)) = [a, c, d, e] := rfl
      have e3 : (List.drop 4 (a :: c :: d :: e :: t)) = t := rfl
      rw [e2, e3, e1]
      unfold word4
      have k1 : (((a.toNat * 256 + c.toNat) * 256 + d.toNat) * 256 + e.toNat) / 16777216 = a.toNat := by omega
      have k2 : (((a.toNat * 256 + c.toNat) * 256 + d.toNat) * 256 + e.toNat) / 65536 % 256 = c.toNat := by omega
      have k3 : (((a.toNat * 256 + c.toNat) * 256 + d.toNat) * 256 + e.toNat) / 256 % 256 = d.toNat := by omega
      have k4 : (((a.toNat * 256 + c.toNat) * 256 + d.toNat) * 256 + e.toNat) % 256 = e.toNat := by omega
      rw [k1, k2, k3, k4, byt_self, byt_self, byt_self, byt_self]
      rfl
    | [], hl => exact absurd (by simp) hl
    | [_], hl => exact absurd (by simp) hl
    | [_, _], hl => exact absurd (by simp) hl
    | [_, _, _], hl => exact absurd (by simp) hl
theorem tkTxts_inv : ∀ (n : Nat) (q : St), (tkTxts n q).2.2 = 0 → q.2 = 0 ∧ q.1 = ((tkTxts n q).1.map txtB).flatten ++ (tkTxts n q).2.1
  | 0, q, h => ⟨h, rfl⟩
  | n + 1, q, h => by
    obtain ⟨h1, h2⟩ := tkTxts_inv n _ h
    obtain ⟨h3, h4⟩ := xS_inv h1
    refine ⟨h3, ?_⟩
    simp only [tkTxts, List.map_cons, List.flatten_cons, List.append_assoc] at h2 ⊢
    rw [← h2, txtB_app]
    exact h4
theorem parKs_inv : ∀ (l : List (List UInt8)), (parKs l).2 = 0 → (∀ x ∈ (parKs l).1, lnkS x = true) ∧ (parKs l).1.map lnkB = l
  | [], _ => ⟨fun x hx => (by cases hx), rfl⟩
  | s :: l, h => by
    unfold parKs at h ⊢
    by_cases hs : (parK s).2 = 0
    · rw [if_neg (by simpa using hs)] at h ⊢
      obtain ⟨h1, h2⟩ := parKs_inv l h
      obtain ⟨h3, h4⟩ := parK_inv hs
      refine ⟨fun x hx => ?_, by rw [List.map_cons, h4, h2]⟩
      rcases List.mem_cons.1 hx with rfl | hx
      · exact h3
      · exact h1 x hx
    · rw [if_pos hs] at h
      exact absurd h hs
theorem errM_0 {b : List UInt8} (h : errM b = 0) : badM b = false ∧ (qM5 b).2 = 0 ∧ (parS (txM b)).2 = 0 ∧ (parKs (lM b)).2 = 0 ∧ manS (tkMan b) = true := by
  unfold errM at h
  by_cases h0 : badM b = true
  · rw [if_pos h0] at h; cases h
  · rw [if_neg h0] at h
    by_cases h1 : (qM5 b).2 = 0
    · rw [if_neg (by simpa using h1)] at h
      by_cases h2 : (parS (txM b)).2 = 0
      · rw [if_neg (by simpa using h2)] at h
        by_cases h3 : (parKs (lM b)).2 = 0
        · rw [if_neg (by simpa using h3)] at h
          by_cases h4 : manS (tkMan b) = true
          · exact ⟨by simpa using h0, h1, h2, h3, h4⟩
          · rw [if_neg h4] at h; cases h
        · rw [if_pos h3] at h; exact absurd h h3
      · rw [if_pos h2] at h; exact absurd h h2
    · rw [if_pos h1] at h; exact absurd h h1
theorem parM_inv {b : List UInt8} (h : (parM b).2.2 = 0) : manS (parM b).1 = true ∧ 0 ≤ (parM b).2.1 ∧ (parM b).2.1 ≤ b.length ∧ manB (parM b).1 = b.take (parM b).2.1.toNat := by
  rw [parM_err] at h
  obtain ⟨h0, h1, h2, h3, h4⟩ := errM_0 h
  unfold parM
  rw [if_pos h]
  have hl := qM5_len b
  refine ⟨h4, by simp only; omega, by simp only; omega, ?_⟩
  obtain ⟨a1, a2⟩ := cS_inv (q := qM4 b) h1
  obtain ⟨b1, b2⟩ := tkTxts_inv _ _ a1
  obtain ⟨c1, c2⟩ := cS_inv (q := qM2 b) b1
  obtain ⟨d1, d2⟩ := xS_inv (q := qM1 b) c1
  obtain ⟨e1, e2⟩ := cS_inv (q := qM0 b) d1
  obtain ⟨f1, f2⟩ := wordS_inv (b := b) e1
  obtain ⟨_, u1⟩ := parS_inv h2
  obtain ⟨_, u2⟩ := parKs_inv _ h3
  have hn := tkTxts_n (nM b).toNat (qM3 b)
  have hnr := nM_rng b
  have hw : wM b = 1230197842 := by
    unfold badM at h0
    simp only [f1, decide_true, Bool.and_true, decide_eq_false_iff_not, ne_eq, Classical.not_not] at h0
    exact h0
  have e3 : (qM4 b).1 = cnt (imgM b).toNat ++ (qM5 b).1 := a2
  have e4 : (qM3 b).1 = ((lM b).map txtB).flatten ++ (qM4 b).1 := b2
  have e5 : (qM2 b).1 = cnt (nM b).toNat ++ (qM3 b).1 := c2
  have e6 : (qM1 b).1 = cnt (txM b).length ++ (txM b ++ (qM2 b).1) := d2
  have e7 : (qM0 b).1 = cnt (verM b).toNat ++ (qM1 b).1 := e2
  have e8 : b = word4 1230197842 ++ (qM0 b).1 := by rw [← hw]; exact f2
  have hlk : lnksB (parKs (lM b)).1 = ((lM b).map txtB).flatten := by
    unfold lnksB
    conv => rhs; rw [← u2, List.map_map]
    rfl
  have hkl : (parKs (lM b)).1.length = (nM b).toNat := by
    have e9 : ((parKs (lM b)).1.map lnkB).length = (lM b).length := by rw [u2]
    rw [List.length_map] at e9
    rw [e9]
    exact hn
  have key : b = manB (tkMan b) ++ (qM5 b).1 := by
    unfold manB tkMan
    simp only
    rw [u1, hlk, hkl]
    conv => lhs; rw [e8, e7, e6, e5, e4, e3]
    simp [txtB]
  generalize hm : manB (tkMan b) = m at key
  generalize (qM5 b).1 = t at key hl
  simp only
  have hlen : b.length = m.length + t.length := by rw [key, List.length_append]
  have : ((b.length : Int) - (t.length : Int)).toNat = m.length := by omega
  rw [this, key, List.take_append_of_le_length (by omega), List.take_of_length_le (by omega)]
end Go.Proofs.Ytmpfeofeokmooaa.V
namespace Go.Proofs.Ytmpfeofeokmooaa.V
open Go
open AV (int lst agg str bool ref clo)
open List (map)
def s_lParse {α : Type} (A : Alg α) (b : List UInt8) (kc : List AV → List (Nat × List AV) → α) : α :=
  A.call 62 [lst .ro 1 (encB b)] [] fun l0 l1 => asC A l0 fun v2 l3 => asRef0 A v2 fun o4 => bif (o4.beq 64) then (asC A l1 fun x5 l6 => bif (x5.1.beq 64) then (asC A x5.2 fun v7 l8 => asL A 1 v7 fun l9 => asC A l8 fun v10 l11 => asI A .i64 v10 fun n12 => asN A l11 (asN A l3 (asN A l6 (A.call 63 [ref 0 0, int .i64 65535] [(0, [lst .ro 1 l9, int .i64 n12])] fun l13 l14 => asC A l14 fun x15 l16 => bif (x15.1.beq 0) then (asC A x15.2 fun v17 l18 => asL A 1 v17 fun l19 => asC A l18 fun v20 l21 => asI A .i64 v20 fun n22 => asN A l21 (asC A l13 fun v23 l24 => asI A .i64 v23 fun n25 => asN A l24 (asN A l16 (A.chk true (A.chk true (A.chk true (A.call 64 [ref 0 0, int .i64 131072] [(0, [lst .ro 1 l19, int .i64 n22])] fun l26 l27 => asC A l27 fun x28 l29 => bif (x28.1.beq 0) then (asC A x28.2 fun v30 l31 => asL A 1 v30 fun l32 => asC A l31 fun v33 l34 => asI A .i64 v33 fun n35 => asN A l34 (asC A l26 fun v36 l37 => asS A v36 fun l38 => asN A l37 (asN A l29 (A.chk true (A.chk true (A.call 64 [ref 0 0, int .i64 131072] [(0, [lst .ro 1 l32, int .i64 n35])] fun l39 l40 => asC A l40 fun x41 l42 => bif (x41.1.beq 0) then (asC A x41.2 fun v43 l44 => asL A 1 v43 fun l45 => asC A l44 fun v46 l47 => asI A .i64 v46 fun n48 => asN A l47 (asC A l39 fun v49 l50 => asS A v49 fun l51 => asN A l50 (asN A l42 (A.chk true (A.chk true (A.call 64 [ref 0 0, int .i64 131072] [(0, [lst .ro 1 l45, int .i64 n48])] fun l52 l53 => asC A l53 fun x54 l55 => bif (x54.1.beq 0) then (asC A x54.2 fun v56 l57 => asL A 1 v56 fun l58 => asC A l57 fun v59 l60 => asI A .i64 v59 fun n61 => asN A l60 (asC A l52 fun v62 l63 => asS A v62 fun l64 => asN A l63 (asN A l55 (A.chk true (A.chk true (A.call 65 [ref 0 0] [(0, [lst .ro 1 l58, int .i64 n61])] fun l65 l66 => asC A l66 fun x67 l68 => bif (x67.1.beq 0) then (asC A x67.2 fun v69 l70 => asL A 1 v69 fun l71 => asC A l70 fun v72 l73 => asI A .i64 v72 fun n74 => asN A l73 (asC A l65 fun v75 l76 => asI A .i64 v75 fun n77 => asN A l76 (asN A l68 (bif (n77 == (0 : Int)) then (A.chk true (A.callx 66 [lst .ro 1 (encB l38)] fun l78 => asC A l78 fun v79 l80 => asA A v79 fun l81 => asC A l81 fun v82 l83 => asI A .i64 v82 fun n84 => asC A l83 fun v85 l86 => asL A 2 v85 fun l87 => asN A l86 (asC A l80 fun v88 l89 => asI A .i64 v88 fun n90 => asN A l89 (A.chk true (A.chk true (A.asm ((2 : Nat) ≤ maxL) (A.chk true (bif (n90 == (0 : Int)) then (A.chk true (A.callx 67 [lst .ro 1 (encB l51)] fun l91 => asC A l91 fun v92 l93 => asL A 16 v92 fun l94 => asC A l93 fun v95 l96 => asI A .i64 v95 fun n97 => asN A l96 (A.chk true (A.chk true (bif (n97 == (0 : Int)) then (A.chk true (A.callx 67 [lst .ro 1 (encB l64)] fun l98 => asC A l98 fun v99 l100 => asL A 16 v99 fun l101 => asC A l100 fun v102 l103 => asI A .i64 v102 fun n104 => asN A l103 (A.chk true (A.join (fun x105 => bif (n104 == (0 : Int)) then (A.chk true (A.callx 15 [agg [int .i64 n25, int .i64 n84, lst .ro 2 l87, lst .ro 16 l94, lst .ro 16 l101]] fun l106 => asC A l106 fun v107 l108 => asB A v107 fun b109 => asN A l108 (x105 (!b109)))) else (x105 false)) fun b110 => bif b110 then (A.chk true (A.chk true (A.chk true (kc [agg [int .i64 0, int .i64 0, lst .ro 2 [], lst .ro 16 [], lst .ro 16 []], int .i64 2] [])))) else (bif (n104 != (0 : Int)) then (A.chk true (A.chk true (A.chk true (kc [agg [int .i64 0, int .i64 0, lst .ro 2 [], lst .ro 16 [], lst .ro 16 []], int .i64 n104] [])))) else (A.chk true (A.chk true (A.chk true (A.chk true (kc [agg [int .i64 n25, int .i64 n84, lst .ro 2 l87, lst .ro 16 l94, lst .ro 16 l101], int .i64 0] [])))))))))) else (A.join (fun x111 => bif (n97 == (0 : Int)) then (A.chk true (A.callx 15 [agg [int .i64 n25, int .i64 n84, lst .ro 2 l87, lst .ro 16 l94, lst .ro 16 []]] fun l112 => asC A l112 fun v113 l114 => asB A v113 fun b115 => asN A l114 (x111 (!b115)))) else (x111 false)) fun b116 => bif b116 then (A.chk true (A.chk true (A.chk true (kc [agg [int .i64 0, int .i64 0, lst .ro 2 [], lst .ro 16 [], lst .ro 16 []], int .i64 2] [])))) else (bif (n97 != (0 : Int)) then (A.chk true (A.chk true (A.chk true (kc [agg [int .i64 0, int .i64 0, lst .ro 2 [], lst .ro 16 [], lst .ro 16 []], int .i64 n97] [])))) else (A.chk true (A.chk true (A.chk true (A.chk true (kc [agg [int .i64 n25, int .i64 n84, lst .ro 2 l87, lst .ro 16 l94, lst .ro 16 []], int .i64 0] [])))))))))))) else (A.chk true (bif (n90 == (0 : Int)) then (A.chk true (A.callx 67 [lst .ro 1 (encB l64)] fun l117 => asC A l117 fun v118 l119 => asL A 16 v118 fun l120 => asC A l119 fun v121 l122 => asI A .i64 v121 fun n123 => asN A l122 (A.chk true (A.join (fun x124 => bif (n123 == (0 : Int)) then (A.chk true (A.callx 15 [agg [int .i64 n25, int .i64 n84, lst .ro 2 l87, lst .ro 16 [], lst .ro 16 l120]] fun l125 => asC A l125 fun v126 l127 => asB A v126 fun b128 => asN A l127 (x124 (!b128)))) else (x124 false)) fun b129 => bif b129 then (A.chk true (A.chk true (A.chk true (kc [agg [int .i64 0, int .i64 0, lst .ro 2 [], lst .ro 16 [], lst .ro 16 []], int .i64 2] [])))) else (bif (n123 != (0 : Int)) then (A.chk true (A.chk true (A.chk true (kc [agg [int .i64 0, int .i64 0, lst .ro 2 [], lst .ro 16 [], lst .ro 16 []], int .i64 n123] [])))) else (A.chk true (A.chk true (A.chk true (A.chk true (kc [agg [int .i64 n25, int .i64 n84, lst .ro 2 l87, lst .ro 16 [], lst .ro 16 l120], int .i64 0] [])))))))))) else (A.join (fun x130 => bif (n90 == (0 : Int)) then (A.chk true (A.callx 15 [agg [int .i64 n25, int .i64 n84, lst .ro 2 l87, lst .ro 16 [], lst .ro 16 []]] fun l131 => asC A l131 fun v132 l133 => asB A v132 fun b134 => asN A l133 (x130 (!b134)))) else (x130 false)) fun b135 => bif b135 then (A.chk true (A.chk true (A.chk true (kc [agg [int .i64 0, int .i64 0, lst .ro 2 [], lst .ro 16 [], lst .ro 16 []], int .i64 2] [])))) else (bif (n90 != (0 : Int)) then (A.chk true (A.chk true (A.chk true (kc [agg [int .i64 0, int .i64 0, lst .ro 2 [], lst .ro 16 [], lst .ro 16 []], int .i64 n90] [])))) else (A.chk true (A.chk true (A.chk true (A.chk true (kc [agg [int .i64 n25, int .i64 n84, lst .ro 2 l87, lst .ro 16 [], lst .ro 16 []], int .i64 0] []))))))))))))))))) else (A.asm ((2 : Nat) ≤ maxL) (A.chk true (bif (n77 == (0 : Int)) then (A.chk true (A.callx 67 [lst .ro 1 (encB l51)] fun l136 => asC A l136 fun v137 l138 => asL A 16 v137 fun l139 => asC A l138 fun v140 l141 => asI A .i64 v140 fun n142 => asN A l141 (A.chk true (A.chk true (bif (n142 == (0 : Int)) then (A.chk true (A.callx 67 [lst .ro 1 (encB l64)] fun l143 => asC A l143 fun v144 l145 => asL A 16 v144 fun l146 => asC A l145 fun v147 l148 => asI A .i64 v147 fun n149 => asN A l148 (A.chk true (A.join (fun x150 => bif (n149 == (0 : Int)) then (A.chk true (A.callx 15 [agg [int .i64 n25, int .i64 0, lst .ro 2 [], lst .ro 16 l139, lst .ro 16 l146]] fun l151 => asC A l151 fun v152 l153 => asB A v152 fun b154 => asN A l153 (x150 (!b154)))) else (x150 false)) fun b155 => bif b155 then (A.chk true (A.chk true (A.chk true (kc [agg [int .i64 0, int .i64 0, lst .ro 2 [], lst .ro 16 [], lst .ro 16 []], int .i64 2] [])))) else (bif (n149 != (0 : Int)) then (A.chk true (A.chk true (A.chk true (kc [agg [int .i64 0, int .i64 0, lst .ro 2 [], lst .ro 16 [], lst .ro 16 []], int .i64 n149] [])))) else (A.chk true (A.chk true (A.chk true (A.chk true (kc [agg [int .i64 n25, int .i64 0, lst .ro 2 [], lst .ro 16 l139, lst .ro 16 l146], int .i64 0] [])))))))))) else (A.join (fun x156 => bif (n142 == (0 : Int)) then (A.chk true (A.callx 15 [agg [int .i64 n25, int .i64 0, lst .ro 2 [], lst .ro 16 l139, lst .ro 16 []]] fun l157 => asC A l157 fun v158 l159 => asB A v158 fun b160 => asN A l159 (x156 (!b160)))) else (x156 false)) fun b161 => bif b161 then (A.chk true (A.chk true (A.chk true (kc [agg [int .i64 0, int .i64 0, lst .ro 2 [], lst .ro 16 [], lst .ro 16 []], int .i64 2] [])))) else (bif (n142 != (0 : Int)) then (A.chk true (A.chk true (A.chk true (kc [agg [int .i64 0, int .i64 0, lst .ro 2 [], lst .ro 16 [], lst .ro 16 []], int .i64 n142] [])))) else (A.chk true (A.chk true (A.chk true (A.chk true (kc [agg [int .i64 n25, int .i64 0, lst .ro 2 [], lst .ro 16 l139, lst .ro 16 []], int .i64 0] [])))))))))))) else (A.chk true (bif (n77 == (0 : Int)) then (A.chk true (A.callx 67 [lst .ro 1 (encB l64)] fun l162 => asC A l162 fun v163 l164 => asL A 16 v163 fun l165 => asC A l164 fun v166 l167 => asI A .i64 v166 fun n168 => asN A l167 (A.chk true (A.join (fun x169 => bif (n168 == (0 : Int)) then (A.chk true (A.callx 15 [agg [int .i64 n25, int .i64 0, lst .ro 2 [], lst .ro 16 [], lst .ro 16 l165]] fun l170 => asC A l170 fun v171 l172 => asB A v171 fun b173 => asN A l172 (x169 (!b173)))) else (x169 false)) fun b174 => bif b174 then (A.chk true (A.chk true (A.chk true (kc [agg [int .i64 0, int .i64 0, lst .ro 2 [], lst .ro 16 [], lst .ro 16 []], int .i64 2] [])))) else (bif (n168 != (0 : Int)) then (A.chk true (A.chk true (A.chk true (kc [agg [int .i64 0, int .i64 0, lst .ro 2 [], lst .ro 16 [], lst .ro 16 []], int .i64 n168] [])))) else (A.chk true (A.chk true (A.chk true (A.chk true (kc [agg [int .i64 n25, int .i64 0, lst .ro 2 [], lst .ro 16 [], lst .ro 16 l165], int .i64 0] [])))))))))) else (A.join (fun x175 => bif (n77 == (0 : Int)) then (A.chk true (A.callx 15 [agg [int .i64 n25, int .i64 0, lst .ro 2 [], lst .ro 16 [], lst .ro 16 []]] fun l176 => asC A l176 fun v177 l178 => asB A v177 fun b179 => asN A l178 (x175 (!b179)))) else (x175 false)) fun b180 => bif b180 then (A.chk true (A.chk true (A.chk true (kc [agg [int .i64 0, int .i64 0, lst .ro 2 [], lst .ro 16 [], lst .ro 16 []], int .i64 2] [])))) else (bif (n77 != (0 : Int)) then (A.chk true (A.chk true (A.chk true (kc [agg [int .i64 0, int .i64 0, lst .ro 2 [], lst .ro 16 [], lst .ro 16 []], int .i64 n77] [])))) else (A.chk true (A.chk true (A.chk true (A.chk true (kc [agg [int .i64 n25, int .i64 0, lst .ro 2 [], lst .ro 16 [], lst .ro 16 []], int .i64 0] [])))))))))))))))) else A.fail)))))) else A.fail)))))) else A.fail)))))) else A.fail))))))) else A.fail)))) else A.fail) else A.fail
theorem t_lParse (b : List UInt8) {r : CR} (h : s_lParse (OA (tbl E0) (ltbl E0 26 0)) b (fun r o => some (r, o)) = some r) : tbl E0 26 [.lst .ro 1 (encB b)] [] = some r :=
  tbl_of (body := bodyOf Try.f26) Try.func26 (by kernel_rfl) (by kernel_rfl) (by kernel_rfl) (Eq.trans (by kernel_rfl) h)
end Go.Proofs.Ytmpfeofeokmooaa.V
namespace Go.Proofs.Ytmpfeofeokmooaa.V
open Go
theorem qK_len (b : List UInt8) : (qK b).1.length ≤ b.length := cS_len _ _
theorem qK1_len (b : List UInt8) : (qK1 b).1.length ≤ b.length := Nat.le_trans (xS_len _ _) (qK_len b)
theorem qK2_len (b : List UInt8) : (qK2 b).1.length ≤ b.length := Nat.le_trans (xS_len _ _) (qK1_len b)
theorem e_text0 (q q' : St) (s : List UInt8) (m : Int) (h : q.1.length ≤ 211106232532992) (e : xS q m = (s, q')) : tbl E0 64 [.ref 0 0, .int .i64 m] [(0, [.lst .ro 1 (encB q.1), .int .i64 q.2])] = some ([.str s], [(0, [.lst .ro 1 (encB q'.1), .int .i64 q'.2])]) := by
  have c := e_Text q m h
  rw [e] at c
  exact c
theorem c_lParse (b : List UInt8) (hb : b.length ≤ 211106232532992) : tbl E0 26 [.lst .ro 1 (encB b)] [] = some ([lnkV (parK b).1, .int .i64 (parK b).2], []) :=
  t_lParse b (by
    have l0 := qK_len b
    have l1 := qK1_len b
    have l2 := qK2_len b
    have c0 := c_Of b hb
    have c1 := e_Count (b, 0) 65535 hb
    have c2 := e_text0 (qK b) (qK1 b) (txK1 b) 131072 (by omega) rfl
    have c3 := e_text0 (qK1 b) (qK2 b) (txK2 b) 131072 (by omega) rfl
    have c4 := e_text0 (qK2 b) (qK3 b) (txK3 b) 131072 (by omega) rfl
    have c5 := c_End (qK3 b).1 (qK3 b).2
    have t1 : (txK1 b).length ≤ 211106232532992 := xS_ok _ _ (by omega)
    have t2 : (txK2 b).length ≤ 211106232532992 := xS_ok _ _ (by omega)
    have t3 : (txK3 b).length ≤ 211106232532992 := xS_ok _ _ (by omega)
    have d1 := c_sParse (txK1 b) t1
    have d2 := c_tParse (txK2 b) t2
    have d3 := c_tParse (txK3 b) t3
    have ok := tkLnk_ok b
    have d4 := c_lRight (tkLnk b) ok.1 ok.2
    have ev : (cS (b, 0) 65535).2 = qK b := rfl
    simp only [ev] at c1
    simp only [eyeV] at c5
    simp only [lnkV, lnkC, stpsV, schV, tkLnk] at d1 d2 d3 d4 ⊢
    unfold parK errK
    simp only [tkLnk]
    clear ok
    obtain ⟨S, hS⟩ : ∃ S, parS (txK1 b) = S := ⟨_, rfl⟩
    obtain ⟨T, hT⟩ : ∃ T, parT (txK2 b) = T := ⟨_, rfl⟩
    obtain ⟨U, hU⟩ : ∃ U, parT (txK3 b) = U := ⟨_, rfl⟩
    obtain ⟨e5, hE⟩ : ∃ e5, endS (qK3 b).1 (qK3 b).2 = e5 := ⟨_, rfl⟩
    obtain ⟨L, hL⟩ : ∃ L, lnkS ⟨(cS (b, 0) 65535).1, S.1, T.1, U.1⟩ = L := ⟨_, rfl⟩
    simp only [hS, hT, hU, hE, hL] at d1 d2 d3 d4 c5 ⊢
    simp only [s_lParse, OA_asm, OA_chk, OA_call, OA_callx, OA_loop, OA_both_id, OA_join, u_asA, u_asC, u_asI, u_asB, u_asS, u_asL, u_asOwn, u_asN, u_asRef0, Option.bind_some, nbeq, Nm_beq_self, decide_true, cond_true, cond_false, c0, c1, c2, c3, c4, c5]
    by_cases h5 : e5 = 0
    · subst h5
      simp only [beq_self_eq_true, cond_true, OA_call, OA_callx, d1, Option.bind_some, u_asA, u_asC, u_asI, u_asL, u_asN]
      by_cases h1 : S.2 = 0
      · simp only [h1, beq_self_eq_true, cond_true, OA_call, OA_callx, d2, Option.bind_some, u_asA, u_asC, u_asI, u_asL, u_asN]
        by_cases h2 : T.2 = 0
        · simp only [h2, beq_self_eq_true, cond_true, OA_call, OA_callx, d3, Option.bind_some, u_asA, u_asC, u_asI, u_asL, u_asN]
          by_cases h3 : U.2 = 0
          · cases L <;> simp [h1, h2, h3, d4, lnk0]
          · simp [h1, h2, h3, lnk0]
        · simp [h1, h2, lnk0]
      · simp [h1, lnk0]
    · simp [h5, lnk0])
end Go.Proofs.Ytmpfeofeokmooaa.V
namespace Go.Proofs.Ytmpfeofeokmooaa.V
open Go
open AV (int lst agg str bool ref clo)
open List (map)
abbrev rawO (x : Man) (s : List UInt8) (l : List (List UInt8)) (k m : Nm) : List AV := [.int .i64 x.ver, .int .i64 x.sch.ver, frmsV x.sch.forms, .lst (.own k) 5 (x.links.map lnkV), .int .i64 x.img, .str s, .lst (.own m) 1 (l.map AV.str)]
def s_mread {α : Type} (A : Alg α) (x : Man) (s : List UInt8) (l : List (List UInt8)) (kc : List AV → List (Nat × List AV) → α) : α :=
  A.callx 66 [lst .ro 1 (encB s)] fun l0 => asC A l0 fun v1 l2 => asA A v1 fun l3 => asC A l3 fun v4 l5 => asI A .i64 v4 fun n6 => asC A l5 fun v7 l8 => asL A 2 v7 fun l9 => asN A l8 (asC A l2 fun v10 l11 => asI A .i64 v10 fun n12 => asN A l11 (A.chk true (A.chk true (bif (n12 != (0 : Int)) then (kc [int .i64 n12] [(0, [int .i64 x.ver, int .i64 n6, lst .ro 2 l9, lst (.own (.E 0 3)) 5 (map lnkV x.links), int .i64 x.img, str s, lst (.own (.E 0 6)) 1 (map str l)])]) else (A.asm ((map str l).length ≤ maxL) (A.loop 6 [lst .ro 1 (map str l), int .i64 (↑(map str l).length : Int), int .i64 0] [[int .i64 x.ver, int .i64 n6, lst .ro 2 l9, lst (.own (.O 0 3)) 5 (map lnkV x.links), int .i64 x.img, str s, lst (.own (.O 0 6)) 1 (map str l)]] fun j13 l14 l15 => bif (j13.beq 0) then (asC A l14 fun v16 l17 => asI A .i64 v16 fun n18 => asN A l17 (asC A l15 fun l19 l20 => asC A l19 fun v21 l22 => asI A .i64 v21 fun n23 => asC A l22 fun v24 l25 => asI A .i64 v24 fun n26 => asC A l25 fun v27 l28 => asL A 2 v27 fun l29 => asC A l28 fun v30 l31 => asOwn A 5 v30 fun x32 l33 => bif (x32.beq (.O (0 : Nat) (3 : Nat))) then (asC A l31 fun v34 l35 => asI A .i64 v34 fun n36 => asC A l35 fun v37 l38 => asS A v37 fun l39 => asC A l38 fun v40 l41 => asOwn A 1 v40 fun x42 l43 => bif (x42.beq (.O (0 : Nat) (6 : Nat))) then (asN A l41 (asN A l20 (kc [int .i64 n18] [(0, [int .i64 n23, int .i64 n26, lst .ro 2 l29, lst (.own (.E 0 3)) 5 l33, int .i64 n36, str l39, lst (.own (.E 0 6)) 1 l43])]))) else A.fail) else A.fail)) else (bif (j13.beq 1) then (asN A l14 (asC A l15 fun l44 l45 => asC A l44 fun v46 l47 => asI A .i64 v46 fun n48 => asC A l47 fun v49 l50 => asI A .i64 v49 fun n51 => asC A l50 fun v52 l53 => asL A 2 v52 fun l54 => asC A l53 fun v55 l56 => asOwn A 5 v55 fun x57 l58 => bif (x57.beq (.O (0 : Nat) (3 : Nat))) then (asC A l56 fun v59 l60 => asI A .i64 v59 fun n61 => asC A l60 fun v62 l63 => asS A v62 fun l64 => asC A l63 fun v65 l66 => asOwn A 1 v65 fun x67 l68 => bif (x67.beq (.O (0 : Nat) (6 : Nat))) then (asN A l66 (asN A l45 (A.chk true (A.callx 21 [agg [int .i64 n48, int .i64 n51, lst .ro 2 l54, lst .ro 5 l58, int .i64 n61]] fun l69 => asC A l69 fun v70 l71 => asB A v70 fun b72 => asN A l71 (bif (!b72) then (kc [int .i64 2] [(0, [int .i64 n48, int .i64 n51, lst .ro 2 l54, lst (.own (.E 0 3)) 5 l58, int .i64 n61, str l64, lst (.own (.E 0 6)) 1 l68])]) else (kc [int .i64 0] [(0, [int .i64 n48, int .i64 n51, lst .ro 2 l54, lst (.own (.E 0 3)) 5 l58, int .i64 n61, str l64, lst (.own (.E 0 6)) 1 l68])])))))) else A.fail) else A.fail)) else A.fail)))))))
def s_mreadL {α : Type} (A : Alg α) (x : Man) (s : List UInt8) (l : List (List UInt8)) (u : List (List UInt8)) (m : Int) (i : Int) (next : List AV → List (List AV) → α) (kc : Nat → List AV → List (List AV) → α) : α :=
  bif (decide (i < m)) then (A.chk (decide ((0 : Int) ≤ i)) (nthE A (map str u) i.toNat fun v0 => asS A v0 fun l1 => A.callx 26 [lst .ro 1 (encB l1)] fun l2 => asC A l2 fun v3 l4 => asA A v3 fun l5 => asC A l5 fun v6 l7 => asI A .i64 v6 fun n8 => asC A l7 fun v9 l10 => asI A .i64 v9 fun n11 => asC A l10 fun v12 l13 => asL A 2 v12 fun l14 => asC A l13 fun v15 l16 => asL A 16 v15 fun l17 => asC A l16 fun v18 l19 => asL A 16 v18 fun l20 => asN A l19 (asC A l4 fun v21 l22 => asI A .i64 v21 fun n23 => asN A l22 (A.chk true (A.chk true (bif (n23 != (0 : Int)) then (kc 0 [int .i64 n23] [[int .i64 x.ver, int .i64 x.sch.ver, lst .ro 2 (map frmV x.sch.forms), lst (.own (.O 0 3)) 5 (map lnkV x.links), int .i64 x.img, str s, lst (.own (.O 0 6)) 1 (map str l)]]) else (A.chk true (A.both (A.chk true (A.chk (decide (((map lnkV x.links).length + [agg [int .i64 n8, int .i64 n11, lst .ro (nat_lit 2) l14, lst .ro (nat_lit 16) l17, lst .ro (nat_lit 16) l20]].length) * 88 ≤ 211106232532992)) (A.chk true (next [lst .ro 1 (map str u), int .i64 m, int .i64 (IntKind.i64.wrap (i + (1 : Int)))] [[int .i64 x.ver, int .i64 x.sch.ver, lst .ro 2 (map frmV x.sch.forms), lst (.own (.O 0 3)) 5 (map lnkV x.links ++ [agg [int .i64 n8, int .i64 n11, lst .ro (nat_lit 2) l14, lst .ro (nat_lit 16) l17, lst .ro (nat_lit 16) l20]]), int .i64 x.img, str s, lst (.own (.O 0 6)) 1 (map str l)]])))) (A.chk true (A.chk (decide (((map lnkV x.links).length + [agg [int .i64 n8, int .i64 n11, lst .ro (nat_lit 2) l14, lst .ro (nat_lit 16) l17, lst .ro (nat_lit 16) l20]].length) * 88 ≤ 211106232532992)) (A.chk true (next [lst .ro 1 (map str u), int .i64 m, int .i64 (IntKind.i64.wrap (i + (1 : Int)))] [[int .i64 x.ver, int .i64 x.sch.ver, lst .ro 2 (map frmV x.sch.forms), lst (.own (.O 0 3)) 5 (map lnkV x.links ++ [agg [int .i64 n8, int .i64 n11, lst .ro (nat_lit 2) l14, lst .ro (nat_lit 16) l17, lst .ro (nat_lit 16) l20]]), int .i64 x.img, str s, lst (.own (.O 0 6)) 1 (map str l)]])))))))))))) else (kc 1 [] [[int .i64 x.ver, int .i64 x.sch.ver, lst .ro 2 (map frmV x.sch.forms), lst (.own (.O 0 3)) 5 (map lnkV x.links), int .i64 x.img, str s, lst (.own (.O 0 6)) 1 (map str l)]])
def s_mTake {α : Type} (A : Alg α) (b : List UInt8) (kc : List AV → List (Nat × List AV) → α) : α :=
  A.call 62 [lst .ro 1 (encB b)] [] fun l0 l1 => asC A l0 fun v2 l3 => asRef0 A v2 fun o4 => bif (o4.beq 64) then (asC A l1 fun x5 l6 => bif (x5.1.beq 64) then (asC A x5.2 fun v7 l8 => asL A 1 v7 fun l9 => asC A l8 fun v10 l11 => asI A .i64 v10 fun n12 => asN A l11 (asN A l3 (asN A l6 (A.call 83 [ref 0 0] [(0, [lst .ro 1 l9, int .i64 n12])] fun l13 l14 => asC A l14 fun x15 l16 => bif (x15.1.beq 0) then (asC A x15.2 fun v17 l18 => asL A 1 v17 fun l19 => asC A l18 fun v20 l21 => asI A .i64 v20 fun n22 => asN A l21 (asC A l13 fun v23 l24 => asI A .u32 v23 fun n25 => asN A l24 (asN A l16 (A.join (fun x26 => bif (n25 != (1230197842 : Int)) then (A.asm ((encB b).length ≤ maxL) (x26 (decide ((↑(encB b).length : Int) ≥ (4 : Int))))) else (x26 false)) fun b27 => bif b27 then (A.chk true (A.chk true (A.chk true (kc [agg [int .i64 0, int .i64 0, lst .ro 2 [], lst .ro 5 [], int .i64 0], int .i64 0, int .i64 4] [])))) else (A.call 63 [ref 0 0, int .i64 65535] [(0, [lst .ro 1 l19, int .i64 n22])] fun l28 l29 => asC A l29 fun x30 l31 => bif (x30.1.beq 0) then (asC A x30.2 fun v32 l33 => asL A 1 v32 fun l34 => asC A l33 fun v35 l36 => asI A .i64 v35 fun n37 => asN A l36 (asC A l28 fun v38 l39 => asI A .i64 v38 fun n40 => asN A l39 (asN A l31 (A.chk true (A.call 64 [ref 0 0, int .i64 131072] [(0, [lst .ro 1 l34, int .i64 n37])] fun l41 l42 => asC A l42 fun x43 l44 => bif (x43.1.beq 0) then (asC A x43.2 fun v45 l46 => asL A 1 v45 fun l47 => asC A l46 fun v48 l49 => asI A .i64 v48 fun n50 => asN A l49 (asC A l41 fun v51 l52 => asS A v51 fun l53 => asN A l52 (asN A l44 (A.chk true (A.chk true (A.chk true (A.chk true (A.chk true (A.call 63 [ref 0 0, int .i64 8] [(0, [lst .ro 1 l47, int .i64 n50])] fun l54 l55 => asC A l55 fun x56 l57 => bif (x56.1.beq 0) then (asC A x56.2 fun v58 l59 => asL A 1 v58 fun l60 => asC A l59 fun v61 l62 => asI A .i64 v61 fun n63 => asN A l62 (asC A l54 fun v64 l65 => asI A .i64 v64 fun n66 => asN A l65 (asN A l57 (A.loop 7 [lst .ro 1 (encB b), int .i64 n66, int .i64 0] [[int .i64 0, int .i64 0, lst .ro 2 [], lst .ro 5 [], int .i64 0], [int .i64 n40, int .i64 0, lst .ro 2 [], lst (.own (.O 1007 3)) 5 [], int .i64 0, str l53, lst (.own (.O 1007 6)) 1 []], [lst .ro 1 l60, int .i64 n63]] fun j67 l68 l69 => bif (j67.beq 1) then (asC A l68 fun v70 l71 => asL A 1 v70 fun l72 => asN A l71 (asC A l69 fun l73 l74 => asC A l73 fun v75 l76 => asI A .i64 v75 fun n77 => asC A l76 fun v78 l79 => asI A .i64 v78 fun n80 => asC A l79 fun v81 l82 => asL A 2 v81 fun l83 => asC A l82 fun v84 l85 => asL A 5 v84 fun l86 => asC A l85 fun v87 l88 => asI A .i64 v87 fun n89 => asN A l88 (asC A l74 fun l90 l91 => asC A l90 fun v92 l93 => asI A .i64 v92 fun n94 => asC A l93 fun v95 l96 => asI A .i64 v95 fun n97 => asC A l96 fun v98 l99 => asL A 2 v98 fun l100 => asC A l99 fun v101 l102 => asOwn A 5 v101 fun x103 l104 => bif (x103.beq (.O (1007 : Nat) (3 : Nat))) then (asC A l102 fun v105 l106 => asI A .i64 v105 fun n107 => asC A l106 fun v108 l109 => asS A v108 fun l110 => asC A l109 fun v111 l112 => asOwn A 1 v111 fun x113 l114 => bif (x113.beq (.O (1007 : Nat) (6 : Nat))) then (asN A l112 (asC A l91 fun l115 l116 => asC A l115 fun v117 l118 => asL A 1 v117 fun l119 => asC A l118 fun v120 l121 => asI A .i64 v120 fun n122 => asN A l121 (asN A l116 (A.call 63 [ref 0 0, int .i64 131072] [(0, [lst .ro 1 l119, int .i64 n122])] fun l123 l124 => asC A l124 fun x125 l126 => bif (x125.1.beq 0) then (asC A x125.2 fun v127 l128 => asL A 1 v127 fun l129 => asC A l128 fun v130 l131 => asI A .i64 v130 fun n132 => asN A l131 (asC A l123 fun v133 l134 => asI A .i64 v133 fun n135 => asN A l134 (asN A l126 (A.chk true (A.call 84 [ref 0 0] [(0, [lst .ro 1 l129, int .i64 n132])] fun l136 l137 => asC A l137 fun x138 l139 => bif (x138.1.beq 0) then (asC A x138.2 fun v140 l141 => asL A 1 v140 fun l142 => asC A l141 fun v143 l144 => asI A .i64 v143 fun n145 => asN A l144 (asC A l136 fun v146 l147 => asI A .i64 v146 fun n148 => asN A l147 (asN A l139 (bif (n148 == (0 : Int)) then (A.call 85 [ref 0 0] [(0, [int .i64 n94, int .i64 n97, lst .ro 2 l100, lst (.own (.E 0 3)) 5 l104, int .i64 n135, str l110, lst (.own (.E 0 6)) 1 l114])] fun l149 l150 => asC A l150 fun x151 l152 => bif (x151.1.beq 0) then (asC A x151.2 fun v153 l154 => asI A .i64 v153 fun n155 => asC A l154 fun v156 l157 => asI A .i64 v156 fun n158 => asC A l157 fun v159 l160 => asL A 2 v159 fun l161 => asC A l160 fun v162 l163 => asOwn A 5 v162 fun x164 l165 => asC A l163 fun v166 l167 => asI A .i64 v166 fun n168 => asC A l167 fun v169 l170 => asS A v169 fun l171 => asC A l170 fun v172 l173 => asOwn A 1 v172 fun x174 l175 => asN A l173 (asC A l149 fun v176 l177 => asI A .i64 v176 fun n178 => asN A l177 (asN A l152 (bif (n178 != (0 : Int)) then (A.chk true (A.chk true (A.chk true (kc [agg [int .i64 0, int .i64 0, lst .ro 2 [], lst .ro 5 [], int .i64 0], int .i64 0, int .i64 n178] [])))) else (A.asm (l72.length ≤ maxL) (A.both (A.chk true (A.call 86 [ref 0 0] [(0, [lst .ro 1 l142, int .i64 n145])] fun l179 l180 => asC A l180 fun x181 l182 => bif (x181.1.beq 0) then (asC A x181.2 fun v183 l184 => asL A 1 v183 fun l185 => asC A l184 fun v186 l187 => asI A .i64 v186 fun n188 => asN A l187 (asC A l179 fun v189 l190 => asI A .i64 v189 fun n191 => asN A l190 (asN A l182 (A.chk true (A.chk true (A.chk true (kc [agg [int .i64 n155, int .i64 n158, lst .ro 2 l161, lst .ro 5 l165, int .i64 n168], int .i64 (IntKind.i64.wrap ((↑l72.length : Int) - n191)), int .i64 0] []))))))) else A.fail)) (A.call 86 [ref 0 0] [(0, [lst .ro 1 l142, int .i64 n145])] fun l192 l193 => asC A l193 fun x194 l195 => bif (x194.1.beq 0) then (asC A x194.2 fun v196 l197 => asL A 1 v196 fun l198 => asC A l197 fun v199 l200 => asI A .i64 v199 fun n201 => asN A l200 (asC A l192 fun v202 l203 => asI A .i64 v202 fun n204 => asN A l203 (asN A l195 (A.chk true (A.chk true (A.chk true (A.chk true (kc [agg [int .i64 n155, int .i64 n158, lst .ro 2 l161, lst .ro 5 l165, int .i64 n168], int .i64 (IntKind.i64.wrap ((↑l72.length : Int) - n204)), int .i64 0] [])))))))) else A.fail))))))) else A.fail) else (bif (n148 != (0 : Int)) then (A.chk true (A.chk true (A.chk true (kc [agg [int .i64 0, int .i64 0, lst .ro 2 [], lst .ro 5 [], int .i64 0], int .i64 0, int .i64 n148] [])))) else (A.asm (l72.length ≤ maxL) (A.both (A.chk true (A.call 86 [ref 0 0] [(0, [lst .ro 1 l142, int .i64 n145])] fun l205 l206 => asC A l206 fun x207 l208 => bif (x207.1.beq 0) then (asC A x207.2 fun v209 l210 => asL A 1 v209 fun l211 => asC A l210 fun v212 l213 => asI A .i64 v212 fun n214 => asN A l213 (asC A l205 fun v215 l216 => asI A .i64 v215 fun n217 => asN A l216 (asN A l208 (A.chk true (A.chk true (A.chk true (kc [agg [int .i64 n94, int .i64 n97, lst .ro 2 l100, lst .ro 5 l104, int .i64 n135], int .i64 (IntKind.i64.wrap ((↑l72.length : Int) - n217)), int .i64 0] []))))))) else A.fail)) (A.call 86 [ref 0 0] [(0, [lst .ro 1 l142, int .i64 n145])] fun l218 l219 => asC A l219 fun x220 l221 => bif (x220.1.beq 0) then (asC A x220.2 fun v222 l223 => asL A 1 v222 fun l224 => asC A l223 fun v225 l226 => asI A .i64 v225 fun n227 => asN A l226 (asC A l218 fun v228 l229 => asI A .i64 v228 fun n230 => asN A l229 (asN A l221 (A.chk true (A.chk true (A.chk true (A.chk true (kc [agg [int .i64 n94, int .i64 n97, lst .ro 2 l100, lst .ro 5 l104, int .i64 n135], int .i64 (IntKind.i64.wrap ((↑l72.length : Int) - n230)), int .i64 0] [])))))))) else A.fail)))))))) else A.fail))))) else A.fail)))) else A.fail) else A.fail))) else A.fail)))) else A.fail))))))))) else A.fail))))) else A.fail))))) else A.fail)))) else A.fail) else A.fail
def s_mTakeL {α : Type} (A : Alg α) (b0 : List UInt8) (b : List UInt8) (x : Man) (s : List UInt8) (l : List (List UInt8)) (m : Int) (i : Int) (e : Int) (next : List AV → List (List AV) → α) (kc : Nat → List AV → List (List AV) → α) : α :=
  bif (decide (i < m)) then (A.both (A.call 64 [ref 0 0, int .i64 131072] [(0, [lst .ro 1 (encB b), int .i64 e])] fun l0 l1 => asC A l1 fun x2 l3 => bif (x2.1.beq 0) then (asC A x2.2 fun v4 l5 => asL A 1 v4 fun l6 => asC A l5 fun v7 l8 => asI A .i64 v7 fun n9 => asN A l8 (asC A l0 fun v10 l11 => asS A v10 fun l12 => asN A l11 (asN A l3 (A.chk (decide (((map str l).length + [str l12].length) * 16 ≤ 211106232532992)) (A.chk true (next [lst .ro 1 (encB b0), int .i64 m, int .i64 (IntKind.i64.wrap (i + (1 : Int)))] [[int .i64 0, int .i64 0, lst .ro 2 [], lst .ro 5 [], int .i64 0], [int .i64 x.ver, int .i64 x.sch.ver, lst .ro 2 (map frmV x.sch.forms), lst (.own (.O 1007 3)) 5 (map lnkV x.links), int .i64 x.img, str s, lst (.own (.O 1007 6)) 1 (map str l ++ [str l12])], [lst .ro 1 l6, int .i64 n9]])))))) else A.fail) (A.call 64 [ref 0 0, int .i64 131072] [(0, [lst .ro 1 (encB b), int .i64 e])] fun l13 l14 => asC A l14 fun x15 l16 => bif (x15.1.beq 0) then (asC A x15.2 fun v17 l18 => asL A 1 v17 fun l19 => asC A l18 fun v20 l21 => asI A .i64 v20 fun n22 => asN A l21 (asC A l13 fun v23 l24 => asS A v23 fun l25 => asN A l24 (asN A l16 (A.both (A.chk (decide (((map str l).length + [str l25].length) * 16 ≤ 211106232532992)) (A.chk true (next [lst .ro 1 (encB b0), int .i64 m, int .i64 (IntKind.i64.wrap (i + (1 : Int)))] [[int .i64 0, int .i64 0, lst .ro 2 [], lst .ro 5 [], int .i64 0], [int .i64 x.ver, int .i64 x.sch.ver, lst .ro 2 (map frmV x.sch.forms), lst (.own (.O 1007 3)) 5 (map lnkV x.links), int .i64 x.img, str s, lst (.own (.O 1007 6)) 1 (map str l ++ [str l25])], [lst .ro 1 l19, int .i64 n22]]))) (A.chk (decide (((map str l).length + [str l25].length) * 16 ≤ 211106232532992)) (A.chk true (next [lst .ro 1 (encB b0), int .i64 m, int .i64 (IntKind.i64.wrap (i + (1 : Int)))] [[int .i64 0, int .i64 0, lst .ro 2 [], lst .ro 5 [], int .i64 0], [int .i64 x.ver, int .i64 x.sch.ver, lst .ro 2 (map frmV x.sch.forms), lst (.own (.O 1007 3)) 5 (map lnkV x.links), int .i64 x.img, str s, lst (.own (.O 1007 6)) 1 (map str l ++ [str l25])], [lst .ro 1 l19, int .i64 n22]]))))))) else A.fail)) else (kc 1 [lst .ro 1 (encB b0)] [[int .i64 0, int .i64 0, lst .ro 2 [], lst .ro 5 [], int .i64 0], [int .i64 x.ver, int .i64 x.sch.ver, lst .ro 2 (map frmV x.sch.forms), lst (.own (.O 1007 3)) 5 (map lnkV x.links), int .i64 x.img, str s, lst (.own (.O 1007 6)) 1 (map str l)], [lst .ro 1 (encB b), int .i64 e]])
def s_ManifestBack {α : Type} (A : Alg α) (x : Man) (b : List UInt8) (kc : List AV → List (Nat × List AV) → α) : α :=
  A.chk true (A.chk true (A.callx 19 [agg [int .i64 x.ver, int .i64 x.sch.ver, lst .ro 2 (map frmV x.sch.forms), lst .ro 5 (map lnkV x.links), int .i64 x.img]] fun l0 => asC A l0 fun v1 l2 => asB A v1 fun b3 => asN A l2 (bif b3 then (A.callx 20 [] fun l4 => asC A l4 fun v5 l6 => asB A v5 fun b7 => asN A l6 (kc [bool b7] [])) else (A.chk true (A.callx 34 [agg [int .i64 x.ver, int .i64 x.sch.ver, lst .ro 2 (map frmV x.sch.forms), lst .ro 5 (map lnkV x.links), int .i64 x.img]] fun l8 => asC A l8 fun v9 l10 => asL A 1 v9 fun l11 => asC A l10 fun v12 l13 => asI A .i64 v12 fun n14 => asN A l13 (bif (n14 == (0 : Int)) then (A.chk (decide (((0 : Nat) + l11.length) * 1 ≤ 211106232532992)) (A.chk (decide ((l11.length + (encB b).length) * 1 ≤ 211106232532992)) (A.callx 35 [lst .ro 1 (l11 ++ encB b)] fun l15 => asC A l15 fun v16 l17 => asA A v16 fun l18 => asC A l18 fun v19 l20 => asI A .i64 v19 fun n21 => asC A l20 fun v22 l23 => asI A .i64 v22 fun n24 => asC A l23 fun v25 l26 => asL A 2 v25 fun l27 => asC A l26 fun v28 l29 => asL A 5 v28 fun l30 => asC A l29 fun v31 l32 => asI A .i64 v31 fun n33 => asN A l32 (asC A l17 fun v34 l35 => asI A .i64 v34 fun n36 => asC A l35 fun v37 l38 => asI A .i64 v37 fun n39 => asN A l38 (A.chk true (A.chk true (A.join (fun x40 => A.chk true (A.chk true (A.callx 24 [agg [int .i64 n21, int .i64 n24, lst .ro 2 l27, lst .ro 5 l30, int .i64 n33], agg [int .i64 x.ver, int .i64 x.sch.ver, lst .ro 2 (map frmV x.sch.forms), lst .ro 5 (map lnkV x.links), int .i64 x.img]] fun l41 => asC A l41 fun v42 l43 => asB A v42 fun b44 => asN A l43 (bif (!b44) then (x40 true) else (A.asm (l11.length ≤ maxL) (bif (n36 != (↑l11.length : Int)) then (x40 true) else (x40 (n39 != (0 : Int))))))))) fun b45 => bif b45 then (kc [bool false] []) else (A.loop 1000008 [lst .ro 1 (encB b)] [] fun j46 l47 l48 => bif (j46.beq 0) then (asC A l47 fun v49 l50 => asB A v49 fun b51 => asN A l50 (asN A l48 (kc [bool b51] []))) else A.fail)))))))) else (A.loop 1000008 [lst .ro 1 (encB b)] [] fun j52 l53 l54 => bif (j52.beq 0) then (asC A l53 fun v55 l56 => asB A v55 fun b57 => asN A l56 (asN A l54 (kc [bool b57] []))) else A.fail)))))))
def s_ManifestBackM {α : Type} (A : Alg α) (b : List UInt8) (next : List AV → List (List AV) → α) (kc : Nat → List AV → List (List AV) → α) : α :=
  A.callx 35 [lst .ro 1 (encB b)] fun l0 => asC A l0 fun v1 l2 => asA A v1 fun l3 => asC A l3 fun v4 l5 => asI A .i64 v4 fun n6 => asC A l5 fun v7 l8 => asI A .i64 v7 fun n9 => asC A l8 fun v10 l11 => asL A 2 v10 fun l12 => asC A l11 fun v13 l14 => asL A 5 v13 fun l15 => asC A l14 fun v16 l17 => asI A .i64 v16 fun n18 => asN A l17 (asC A l2 fun v19 l20 => asI A .i64 v19 fun n21 => asC A l20 fun v22 l23 => asI A .i64 v22 fun n24 => asN A l23 (A.chk true (A.chk true (bif (n24 == (0 : Int)) then (A.chk true (A.callx 34 [agg [int .i64 n6, int .i64 n9, lst .ro 2 l12, lst .ro 5 l15, int .i64 n18]] fun l25 => asC A l25 fun v26 l27 => asL A 1 v26 fun l28 => asC A l27 fun v29 l30 => asI A .i64 v29 fun n31 => asN A l30 (bif (decide (n21 < (0 : Int))) then (kc 0 [bool false] []) else (A.asm ((encB b).length ≤ maxL) (bif (decide (n21 > (↑(encB b).length : Int))) then (kc 0 [bool false] []) else (orFail A (bytesOf l28) fun l32 => A.chk (decide ((0 : Int) ≤ (0 : Int)) && decide ((0 : Int) ≤ n21) && decide (n21 ≤ (↑(encB b).length : Int)) && decide ((↑(encB b).length : Int) ≤ (↑(encB b).length : Int))) (orFail A (bytesOf (List.drop (0 : Nat) (List.take n21.toNat (encB b)))) fun l33 => bif (!l32 == l33) then (kc 0 [bool false] []) else (bif (n31 != (0 : Int)) then (kc 0 [bool false] []) else (A.callx 20 [] fun l34 => asC A l34 fun v35 l36 => asB A v35 fun b37 => asN A l36 (kc 0 [bool b37] [])))))))))) else (A.callx 20 [] fun l38 => asC A l38 fun v39 l40 => asB A v39 fun b41 => asN A l40 (kc 0 [bool b41] []))))))
theorem t_mread (x : Man) (s : List UInt8) (l : List (List UInt8)) {r : CR} (h : s_mread (OA (tbl E0) (ltbl E0 85 0)) x s l (fun r o => some (r, o)) = some r) : tbl E0 85 [.ref 0 0] [(0, rawO x s l (.E 0 3) (.E 0 6))] = some r :=
  tbl_of (body := bodyOf Try.f85) Try.func85 (by kernel_rfl) (by kernel_rfl) (by kernel_rfl) (Eq.trans (by kernel_rfl) h)
theorem t_mreadL (x : Man) (s : List UInt8) (l : List (List UInt8)) (u : List (List UInt8)) (m i : Int) {r : LR} (h : s_mreadL (OA (tbl E0) (ltbl E0 85 0)) x s l u m i (fun vs os => ltbl E0 85 0 6 vs os) (fun j vs os => some (j, vs, os)) = some r) : ltbl E0 85 0 6 [.lst .ro 1 (u.map AV.str), .int .i64 m, .int .i64 i] [rawO x s l (.O 0 3) (.O 0 6)] = some r :=
  ltbl_of (body := bodyOf Try.f85) Try.func85 (by kernel_rfl) (by kernel_rfl) (Eq.trans (by kernel_rfl) h)
theorem t_mTake (b : List UInt8) {r : CR} (h : s_mTake (OA (tbl E0) (ltbl E0 35 0)) b (fun r o => some (r, o)) = some r) : tbl E0 35 [.lst .ro 1 (encB b)] [] = some r :=
  tbl_of (body := bodyOf Try.f35) Try.func35 (by kernel_rfl) (by kernel_rfl) (by kernel_rfl) (Eq.trans (by kernel_rfl) h)
theorem t_mTakeL (b0 b : List UInt8) (x : Man) (s : List UInt8) (l : List (List UInt8)) (m i e : Int) {r : LR} (h : s_mTakeL (OA (tbl E0) (ltbl E0 35 0)) b0 b x s l m i e (fun vs os => ltbl E0 35 0 7 vs os) (fun j vs os => some (j, vs, os)) = some r) : ltbl E0 35 0 7 [.lst .ro 1 (encB b0), .int .i64 m, .int .i64 i] [manC man0, rawO x s l (.O 1007 3) (.O 1007 6), [.lst .ro 1 (encB b), .int .i64 e]] = some r :=
  ltbl_of (body := bodyOf Try.f35) Try.func35 (by kernel_rfl) (by kernel_rfl) (Eq.trans (by kernel_rfl) h)
theorem t_ManifestBack (x : Man) (b : List UInt8) {r : CR} (h : s_ManifestBack (OA (tbl E0) (ltbl E0 8 0)) x b (fun r o => some (r, o)) = some r) : tbl E0 8 [manV x, .lst .ro 1 (encB b)] [] = some r :=
  tbl_of (body := bodyOf Try.f8) Try.func8 (by kernel_rfl) (by kernel_rfl) (by kernel_rfl) (Eq.trans (by kernel_rfl) h)
theorem t_ManifestBackM (b : List UInt8) {r : LR} (h : s_ManifestBackM (OA (tbl E0) (ltbl E0 8 0)) b (fun vs os => ltbl E0 8 0 1000008 vs os) (fun j vs os => some (j, vs, os)) = some r) : ltbl E0 8 0 1000008 [.lst .ro 1 (encB b)] [] = some r :=
  ltbl_of (body := bodyOf Try.f8) Try.func8 (by kernel_rfl) (by kernel_rfl) (Eq.trans (by kernel_rfl) h)
end Go.Proofs.Ytmpfeofeokmooaa.V
namespace Go.Proofs.Ytmpfeofeokmooaa.V
open Go
theorem c_mreadL (u : List (List UInt8)) (hu : u.length ≤ 8) (hok : ∀ s ∈ u, s.length ≤ 211106232532992) (s : List UInt8) (l : List (List UInt8)) : ∀ (r : List (List UInt8)) (i : Nat) (x : Man), u.drop i = r → x.links.length + r.length ≤ 8 →
    ltbl E0 85 0 6 [.lst .ro 1 (u.map AV.str), .int .i64 u.length, .int .i64 i] [rawO x s l (.O 0 3) (.O 0 6)] = some (if (parKs r).2 = 0 then (1, [], [rawO ⟨x.ver, x.sch, x.links ++ (parKs r).1, x.img⟩ s l (.O 0 3) (.O 0 6)]) else (0, [.int .i64 (parKs r).2], [rawO ⟨x.ver, x.sch, x.links ++ (parKs r).1, x.img⟩ s l (.O 0 3) (.O 0 6)])) := by
  intro r
  induction r with
  | nil =>
    intro i x hr hx
    have h : u.length ≤ i := by simpa using hr
    refine t_mreadL _ _ _ _ _ _ ?_
    have : ¬ ((i : Int) < u.length) := by omega
    simp [s_mreadL, this, parKs]
  | cons a r ih =>
    intro i x hr hx
    obtain ⟨hlt, hget, hr2⟩ := drop_c hr
    have h2 : (i : Int) < u.length := by omega
    have e1 := i64_succ (i := i) (by omega)
    have c := c_lParse a (hok a (mem_drop hr))
    simp only [lnkV, lnkC] at c
    simp only [List.length_cons] at hx
    have h4 : (x.links.length + 1) * 88 ≤ 211106232532992 := by omega
    have h := ih (i + 1) ⟨x.ver, x.sch, x.links ++ [(parK a).1], x.img⟩ hr2 (by simp; omega)
    have el : rawO ⟨x.ver, x.sch, x.links ++ [(parK a).1], x.img⟩ s l (.O 0 3) (.O 0 6) = [.int .i64 x.ver, .int .i64 x.sch.ver, frmsV x.sch.forms, .lst (.own (.O 0 3)) 5 (x.links.map lnkV ++ [lnkV (parK a).1]), .int .i64 x.img, .str s, .lst (.own (.O 0 6)) 1 (l.map AV.str)] := by simp only [rawO, List.map_append, List.map_cons, List.map_nil]
    rw [el] at h
    simp only [List.append_assoc, List.singleton_append] at h
    refine t_mreadL _ _ _ _ _ _ ?_
    by_cases e : (parK a).2 = 0
    · have ek : parKs (a :: r) = ((parK a).1 :: (parKs r).1, (parKs r).2) := by simp [parKs, e]
      rw [ek]
      simp only [s_mreadL, List.length_map, h2, Int.natCast_nonneg, nthE, Int.toNat_natCast, List.getElem?_map, hget, Option.map_some, OA_asm, OA_chk, OA_call, OA_callx, OA_loop, OA_both_id, OA_join, u_asA, u_asC, u_asI, u_asB, u_asS, u_asL, u_asOwn, u_asN, u_asRef0, Option.bind_some, nbeq, Nm_beq_self, decide_true, cond_true, cond_false, c, e, bne_self_eq_false, List.length_singleton, h4, e1]
      exact h
    · simp only [s_mreadL, List.length_map, h2, Int.natCast_nonneg, nthE, Int.toNat_natCast, List.getElem?_map, hget, Option.map_some, OA_asm, OA_chk, OA_call, OA_callx, OA_loop, OA_both_id, OA_join, u_asA, u_asC, u_asI, u_asB, u_asS, u_asL, u_asOwn, u_asN, u_asRef0, Option.bind_some, nbeq, Nm_beq_self, decide_true, cond_true, cond_false, c, bne_t e, parKs, ne_eq, e, not_false_eq_true, if_true, if_false, List.append_nil]
def rdE (x : Man) (s : List UInt8) (l : List (List UInt8)) : Int :=
  if (parS s).2 ≠ 0 then (parS s).2 else if (parKs l).2 ≠ 0 then (parKs l).2 else if manS ⟨x.ver, (parS s).1, (parKs l).1, x.img⟩ = true then 0 else 2
def rdY (x : Man) (s : List UInt8) (l : List (List UInt8)) : Man := if (parS s).2 ≠ 0 then ⟨x.ver, (parS s).1, [], x.img⟩ else ⟨x.ver, (parS s).1, (parKs l).1, x.img⟩
theorem c_mread (x : Man) (s : List UInt8) (l : List (List UInt8)) (hv : i64 x.ver) (hi : i64 x.img) (h0 : x.links = []) (hs : s.length ≤ 211106232532992) (hl : l.length ≤ 8) (hok : ∀ s ∈ l, s.length ≤ 211106232532992) :
    tbl E0 85 [.ref 0 0] [(0, rawO x s l (.E 0 3) (.E 0 6))] = some ([.int .i64 (rdE x s l)], [(0, rawO (rdY x s l) s l (.E 0 3) (.E 0 6))]) :=
  t_mread x s l (by
    have c := c_sParse s hs
    have k := c_mreadL l hl hok s l l 0 ⟨x.ver, (parS s).1, [], x.img⟩ rfl (by simp; omega)
    have hk := parKs_len l
    have r := c_mRight ⟨x.ver, (parS s).1, (parKs l).1, x.img⟩ ⟨hv, parS_ok s, fun y hy => (parKs_ok l y hy).1, hi⟩ ⟨parS_sml s, by change (parKs l).1.length ≤ 12; omega, fun y hy => (parKs_ok l y hy).2⟩
    simp only [Int.natCast_zero, List.nil_append, List.map_nil, rawO] at k
    simp only [schV] at c
    simp only [manV, manC] at r
    unfold rdE rdY
    simp only [s_mread, List.length_map, OA_asm, OA_chk, OA_call, OA_callx, OA_loop, OA_both_id, OA_join, u_asA, u_asC, u_asI, u_asB, u_asS, u_asL, u_asOwn, u_asN, u_asRef0, Option.bind_some, nbeq, Nm_beq_self, decide_true, cond_true, cond_false, c, h0, List.map_nil]
    by_cases e : (parS s).2 = 0
    · by_cases e2 : (parKs l).2 = 0
      · simp only [e2, if_true] at k
        rcases bor (manS ⟨x.ver, (parS s).1, (parKs l).1, x.img⟩) with q | q
        · simp only [q] at r
          simp [e, e2, k, r, q]
        · simp only [q] at r
          simp [e, e2, k, r, q]
      · simp only [e2, if_false] at k
        simp [e, e2, k]
    · simp [e])
theorem c_mTakeL (b0 : List UInt8) (x : Man) (s : List UInt8) : ∀ (j i : Nat) (l : List (List UInt8)) (q : St), q.1.length ≤ 211106232532992 → l.length + j ≤ 1000 → i + j ≤ 1000 →
    ltbl E0 35 0 7 [.lst .ro 1 (encB b0), .int .i64 (i + j : Nat), .int .i64 i] [manC man0, rawO x s l (.O 1007 3) (.O 1007 6), [.lst .ro 1 (encB q.1), .int .i64 q.2]] = some (1, [.lst .ro 1 (encB b0)], [manC man0, rawO x s (l ++ (tkTxts j q).1) (.O 1007 3) (.O 1007 6), [.lst .ro 1 (encB (tkTxts j q).2.1), .int .i64 (tkTxts j q).2.2]]) := by
  intro j
  induction j with
  | zero =>
    intro i l q hq hl hi
    refine t_mTakeL _ _ _ _ _ _ _ _ ?_
    have : ¬ ((i : Int) < (i + 0 : Nat)) := by omega
    simp only [s_mTakeL, this, decide_false, cond_false, tkTxts, List.append_nil]
    rfl
  | succ j ih =>
    intro i l q hq hl hi
    have h2 : (i : Int) < (i + (j + 1) : Nat) := by omega
    have e1 := i64_succ (i := i) (by omega)
    have c := e_Text q 131072 hq
    have h4 : (l.length + 1) * 16 ≤ 211106232532992 := by omega
    have h := ih (i + 1) (l ++ [(xS q 131072).1]) (xS q 131072).2 (Nat.le_trans (xS_len _ _) hq) (by simp; omega) (by omega)
    have e2 : i + 1 + j = i + (j + 1) := by omega
    rw [e2] at h
    have el : rawO x s (l ++ [(xS q 131072).1]) (.O 1007 3) (.O 1007 6) = [.int .i64 x.ver, .int .i64 x.sch.ver, frmsV x.sch.forms, .lst (.own (.O 1007 3)) 5 (x.links.map lnkV), .int .i64 x.img, .str s, .lst (.own (.O 1007 6)) 1 (l.map AV.str ++ [.str (xS q 131072).1])] := by simp only [rawO, List.map_append, List.map_cons, List.map_nil]
    rw [el] at h
    simp only [List.append_assoc, List.singleton_append] at h
    refine t_mTakeL _ _ _ _ _ _ _ _ ?_
    simp only [s_mTakeL, h2, OA_asm, OA_chk, OA_call, OA_callx, OA_loop, OA_both_id, OA_join, u_asA, u_asC, u_asI, u_asB, u_asS, u_asL, u_asOwn, u_asN, u_asRef0, Option.bind_some, nbeq, Nm_beq_self, decide_true, cond_true, cond_false, c, List.length_map, List.length_singleton, h4, e1]
    exact h
theorem wM_lt (b : List UInt8) : wM b < 4294967296 := by
  unfold wM wordS takeS
  by_cases hl : b.length < 4
  · simp [hl, wordOf]
  · match b, hl with
    | a :: c :: d :: e :: t, _ =>
      have hl2 : ¬ ((a :: c :: d :: e :: t).length < 4) := by simp
      simp only [ne_eq, not_true_eq_false, if_false, hl2]
      have ha := a.toNat_lt; have hc := c.toNat_lt; have hd := d.toNat_lt; have he := e.toNat_lt
      have e2 : (List.take 4 (a :: c :: d :: e :: t)) = [a, c, d, e] := rfl
      rw [e2]
      simp only [wordOf, List.foldl]; omega
    | [], hl => exact absurd (by simp) hl
    | [_], hl => exact absurd (by simp) hl
    | [_, _], hl => exact absurd (by simp) hl
    | [_, _, _], hl => exact absurd (by simp) hl
set_option maxRecDepth 100000 in
theorem c_mTake (b : List UInt8) (hb : b.length ≤ 211106232532992) : tbl E0 35 [.lst .ro 1 (encB b)] [] = some ([manV (parM b).1, .int .i64 (parM b).2.1, .int .i64 (parM b).2.2], []) :=
  t_mTake b (by
    have l0 := qM0_len b
    have l1 := qM1_len b
    have l2 := qM2_len b
    have l3 := qM3_len b
    have l4 := qM4_len b
    have l5 := qM5_len b
    have hn := nM_rng b
    have c0 := c_Of b hb
    have c1 := c_EWord b 0
    have c2 := e_Count (qM0 b) 65535 (by omega)
    have c3 := e_text0 (qM1 b) (qM2 b) (txM b) 131072 (by omega) rfl
    have c4 := e_Count (qM2 b) 8 (by omega)
    have c5 := e_Count (qM4 b) 131072 (by omega)
    have c6 := c_Bad (qM5 b).1 (qM5 b).2
    have c7 := c_Left (qM5 b).1 (qM5 b).2
    have k := c_mTakeL b ⟨verM b, ⟨0, []⟩, [], 0⟩ (txM b) (nM b).toNat 0 [] (qM3 b) (by omega) (by simp; omega) (by omega)
    rw [Nat.zero_add, Int.toNat_of_nonneg hn.1] at k
    have hx : (xS (qM1 b) 131072).1.length ≤ 211106232532992 := xS_ok _ _ (by omega)
    have h1 := cS_rng (qM0 b) (m := 65535) (by omega)
    have h2 := cS_rng (qM4 b) (m := 131072) (by omega)
    have d := c_mread ⟨verM b, ⟨0, []⟩, [], imgM b⟩ (txM b) (lM b) (by change i64 (cS (qM0 b) 65535).1; unfold i64; omega) (by change i64 (cS (qM4 b) 131072).1; unfold i64; omega) rfl hx (lM_n b) (tkTxts_ok _ _ (by omega))
    have ev0 : (wordS b 0).2 = qM0 b := rfl
    have ev1 : (wordS b 0).1 = wM b := rfl
    have ev2 : (cS (qM0 b) 65535).2 = qM1 b := rfl
    have ev3 : (cS (qM0 b) 65535).1 = verM b := rfl
    have ev4 : (cS (qM2 b) 8).2 = qM3 b := rfl
    have ev5 : (cS (qM2 b) 8).1 = nM b := rfl
    have ev6 : (tkTxts (nM b).toNat (qM3 b)).2 = qM4 b := rfl
    have ev7 : (tkTxts (nM b).toNat (qM3 b)).1 = lM b := rfl
    have ev8 : (cS (qM4 b) 131072).2 = qM5 b := rfl
    have ev9 : (cS (qM4 b) 131072).1 = imgM b := rfl
    simp only [eyeV, ev0, ev1, ev2, ev3, ev4, ev5, ev6, ev7, ev8, ev9, List.nil_append, List.map_nil, Int.natCast_zero, manC, man0, rawO] at c1 c2 c3 c4 c5 c6 c7 k d
    simp only [frmsV, lnksV, List.map_nil] at k d
    have hw := wM_lt b
    unfold parM errM badM
    have hlen : (encB b).length = b.length := encB_length b
    have hq : ((wM b : Int) != 1230197842) = decide (wM b ≠ 1230197842) := by rw [Bool.eq_iff_iff]; simp; omega
    have hq2 : decide ((b.length : Int) ≥ 4) = decide (4 ≤ b.length) := by rw [Bool.eq_iff_iff]; simp; omega
    have hwr : IntKind.i64.wrap ((b.length : Int) - ((qM5 b).1.length : Int)) = (b.length : Int) - ((qM5 b).1.length : Int) := wrap_i64 _ (by omega) (by omega)
    have hrd : rdE ⟨verM b, ⟨0, []⟩, [], imgM b⟩ (txM b) (lM b) = (if (parS (txM b)).2 ≠ 0 then (parS (txM b)).2 else if (parKs (lM b)).2 ≠ 0 then (parKs (lM b)).2 else if manS (tkMan b) = true then 0 else 2) := rfl
    generalize rdE ⟨verM b, ⟨0, []⟩, [], imgM b⟩ (txM b) (lM b) = re at *
    simp only [s_mTake, OA_asm, OA_chk, OA_call, OA_callx, OA_loop, OA_both_id, OA_join, u_asA, u_asC, u_asI, u_asB, u_asS, u_asL, u_asOwn, u_asN, u_asRef0, Option.bind_some, nbeq, Nm_beq_self, decide_true, cond_true, cond_false, c0, c1, hlen, hq, hq2, tok_cond, Tok.untok_tok]
    have hbm : (bif decide (wM b ≠ 1230197842) then decide (4 ≤ b.length) else false) = (decide (wM b ≠ 1230197842) && decide (4 ≤ b.length)) := by cases decide (wM b ≠ 1230197842) <;> rfl
    simp only [hbm, ← hrd]
    generalize (decide (wM b ≠ 1230197842) && decide (4 ≤ b.length)) = B
    rcases bor B with h | h
    · subst h
      simp [man0]
    · subst h
      simp only [OA_asm, OA_chk, OA_call, OA_callx, OA_loop, OA_both_id, OA_join, u_asA, u_asC, u_asI, u_asB, u_asS, u_asL, u_asOwn, u_asN, u_asRef0, Option.bind_some, nbeq, Nm_beq_self, decide_true, cond_true, cond_false, c2, c3, c4, c5, c6, k, Bool.false_eq_true, if_false]
      by_cases e5 : (qM5 b).2 = 0
      · by_cases er : re = 0
        · have hy : rdY ⟨verM b, ⟨0, []⟩, [], imgM b⟩ (txM b) (lM b) = tkMan b := by
            unfold rdY tkMan
            rw [if_neg]
            intro hne
            rw [er] at hrd
            rw [if_pos hne] at hrd
            exact hne hrd.symm
          rw [hy] at d
          simp only [e5] at c7
          simp only [e5, er, beq_self_eq_true, bne_self_eq_false, OA_asm, OA_chk, OA_call, OA_callx, OA_loop, OA_both_id, OA_join, u_asA, u_asC, u_asI, u_asB, u_asS, u_asL, u_asOwn, u_asN, u_asRef0, Option.bind_some, nbeq, Nm_beq_self, decide_true, cond_true, cond_false, d, c7, hwr]
          simp
          exact hwr
        · simp only [e5, beq_self_eq_true, OA_asm, OA_chk, OA_call, OA_callx, OA_loop, OA_both_id, OA_join, u_asA, u_asC, u_asI, u_asB, u_asS, u_asL, u_asOwn, u_asN, u_asRef0, Option.bind_some, nbeq, Nm_beq_self, decide_true, cond_true, cond_false, d, bne_t er]
          simp [er, manC, man0]
      · simp [e5, manC, man0])
theorem lnksB_len2 : ∀ (l : List Lnk), (∀ y ∈ l, y.ok ∧ lnkS y = true) → (lnksB l).length ≤ 93100 * l.length
  | [], _ => by simp [lnksB]
  | x :: l, h => by
    have h1 := lnkB_len2 (h x (by simp)).1 (h x (by simp)).2
    have h2 := lnksB_len2 l (fun y hy => h y (by simp [hy]))
    have h3 : (cnt (lnkB x).length).length ≤ 10 := cnt_len10 (by omega)
    have e : lnksB (x :: l) = cnt (lnkB x).length ++ (lnkB x ++ lnksB l) := by simp [lnksB, txtB]
    rw [e, List.length_append, List.length_append, List.length_cons]
    omega
theorem manB_len2 {x : Man} (hx : x.ok) (h : manS x = true) : (manB x).length ≤ 800000 := by
  obtain ⟨g1, ⟨g2, g3⟩, g4, g5, ⟨g6, g7⟩⟩ := manS_parts h
  have hl : ∀ y ∈ x.links, y.ok ∧ lnkS y = true := fun y hy => ⟨hx.2.2.1 y hy, g1 y hy⟩
  have a1 := schB_len hx.2.1 g4
  have a2 := lnksB_len2 x.links hl
  have c0 : (cnt x.ver.toNat).length ≤ 10 := cnt_len10 (by omega)
  have c1 : (cnt (schB x.sch).length).length ≤ 10 := cnt_len10 (by omega)
  have c2 : (cnt x.links.length).length ≤ 10 := cnt_len10 (by omega)
  have c3 : (cnt x.img.toNat).length ≤ 10 := cnt_len10 (by omega)
  have c4 : (word4 1230197842).length = 4 := rfl
  unfold manB txtB
  simp only [List.length_append]
  omega
theorem take_encB (n : Nat) (b : List UInt8) : (encB b).take n = encB (b.take n) := by simp [encB, List.map_take]
theorem c_ManifestBackM (b : List UInt8) (hb : b.length ≤ 211106232532992) : ltbl E0 8 0 1000008 [.lst .ro 1 (encB b)] [] = some (0, [.bool true], []) :=
  t_ManifestBackM b (by
    have m1 := c_mTake b hb
    have ok := parM_ok b
    have c := c_mPrint (parM b).1 ok.1 ok.2
    simp only [manV, manC] at m1 c
    by_cases e : (parM b).2.2 = 0
    · obtain ⟨p1, p2, p3, p4⟩ := parM_inv e
      simp only [p1, if_true] at c
      have k1 : decide ((parM b).2.1 < 0) = false := by simp; omega
      have k2 : decide ((parM b).2.1 > (b.length : Int)) = false := by simp; omega
      have k3 : (decide ((0 : Int) ≤ 0) && decide (0 ≤ (parM b).2.1) && decide ((parM b).2.1 ≤ (b.length : Int)) && decide ((b.length : Int) ≤ (b.length : Int))) = true := by simp; omega
      simp only [s_ManifestBackM, OA_asm, OA_chk, OA_call, OA_callx, OA_loop, OA_both_id, OA_join, u_asA, u_asC, u_asI, u_asB, u_asS, u_asL, u_asOwn, u_asN, u_asRef0, Option.bind_some, nbeq, Nm_beq_self, decide_true, cond_true, cond_false, m1, e, beq_self_eq_true, c, k1, encB_length, k2, orFail, bytesOf_encB, k3, List.drop_zero, take_encB, p4, bne_self_eq_false, awake30]
      simp
    · simp only [s_ManifestBackM, OA_asm, OA_chk, OA_call, OA_callx, OA_loop, OA_both_id, OA_join, u_asA, u_asC, u_asI, u_asB, u_asS, u_asL, u_asOwn, u_asN, u_asRef0, Option.bind_some, nbeq, Nm_beq_self, decide_true, cond_true, cond_false, m1, beq_f e, awake30])
theorem c_ManifestBack (x : Man) (b : List UInt8) (hx : x.ok) (hb : b.length ≤ 211106231532992) : tbl E0 8 [manV x, .lst .ro 1 (encB b)] [] = some ([.bool true], []) :=
  t_ManifestBack x b (by
    have g1 := c_mGreat x
    simp only [manV, manC] at g1
    rcases bor (greatM x) with h | h
    · rw [h] at g1
      simp only [s_ManifestBack, OA_asm, OA_chk, OA_call, OA_callx, OA_loop, OA_both_id, OA_join, u_asA, u_asC, u_asI, u_asB, u_asS, u_asL, u_asOwn, u_asN, u_asRef0, Option.bind_some, nbeq, Nm_beq_self, decide_true, cond_true, cond_false, g1, awake30]
    · rw [h] at g1
      have sx := greatM_sml h
      have c1 := c_mPrint x hx sx
      have m1 := c_ManifestBackM b (by omega)
      simp only [manV, manC] at c1
      rcases bor (manS x) with q | q
      · have hl := manB_len2 hx q
        have c3 := c_mTake (manB x ++ b) (by rw [List.length_append]; omega)
        rw [parM_manB x hx q b, encB_append] at c3
        have c4 := c_ymSame x x sx
        simp only [decide_true, manV, manC] at c3 c4
        simp only [q, if_true] at c1
        have h1 : (0 + (manB x).length) * 1 ≤ 211106232532992 := by omega
        have h2 : ((manB x).length + b.length) * 1 ≤ 211106232532992 := by omega
        simp only [s_ManifestBack, OA_asm, OA_chk, OA_call, OA_callx, OA_loop, OA_both_id, OA_join, u_asA, u_asC, u_asI, u_asB, u_asS, u_asL, u_asOwn, u_asN, u_asRef0, Option.bind_some, nbeq, Nm_beq_self, decide_true, cond_true, cond_false, g1, c1, c3, c4, m1, bne_self_eq_false, beq_self_eq_true, encB_length, h1, h2, Bool.not_true, Tok.untok_tok]
      · simp only [q, Bool.false_eq_true, if_false] at c1
        simp only [s_ManifestBack, OA_asm, OA_chk, OA_call, OA_callx, OA_loop, OA_both_id, OA_join, u_asA, u_asC, u_asI, u_asB, u_asS, u_asL, u_asOwn, u_asN, u_asRef0, Option.bind_some, nbeq, Nm_beq_self, decide_true, cond_true, cond_false, g1, c1, m1, show ((2 : Int) == 0) = false from rfl])
end Go.Proofs.Ytmpfeofeokmooaa.V
namespace Go.Proofs.Ytmpfeofeokmooaa.V
open Go
variable {H : Type}
theorem fit_bytes {n : Nat} {d : DataW H} {xs : List AV} (hf : Fit T0 (n + 2) 39 d xs) : ∃ (ds sp : List (DataW H)) (b : List UInt8), (d = .slice ds sp ∨ (d = .nil ∧ ds = [])) ∧ xs = [.lst .ro 1 (encB b)] ∧ ds.length = b.length := by
  obtain ⟨ds, sp, l, hd, rfl, h⟩ := fit_slice (e := 5) (by kernel_rfl) hf
  obtain ⟨cs, rfl, hq⟩ := each_map (f := fun c : UInt8 => AV.int .u8 (c.toNat : Int)) (Q := fun d c => d = .lit (.int .u8 (c.toNat : Int))) (fun d x ⟨ys, h1, h2⟩ => by
    obtain ⟨c, rfl, rfl⟩ := fit_u8 (by kernel_rfl) h1
    have := elem_one (by kernel_rfl) h2
    injection this with this
    exact ⟨c, this.symm, rfl⟩) h
  exact ⟨ds, sp, cs, hd, rfl, hq.length⟩
theorem fitAll_two {t u : Nat} {d e : DataW H} {m : Nat} {xs : List AV} (h : FitAll T0 m [t, u] [d, e] xs) : ∃ x ys y zs, xs = [x, y] ∧ Fit T0 m t d ys ∧ ElemOf (T0.ty t) x ys ∧ Fit T0 m u e zs ∧ ElemOf (T0.ty u) y zs := by
  obtain ⟨d', ds, x, xs', e1, rfl, ⟨ys, h0, h1⟩, h⟩ := each3_cons h
  cases e1
  obtain ⟨d', ds, y, xs', e1, rfl, ⟨zs, h2, h3⟩, h⟩ := each3_cons h
  obtain ⟨rfl, rfl⟩ := each3_nil h
  cases e1
  exact ⟨x, ys, y, zs, rfl, h0, h1, h2, h3⟩
theorem slice_len {P : Program} {t e : Nat} {ds sp d : _} (hu : P.underlying t = some (.slice e)) (hb : Nat.blt 0 (P.bytesOf e) = true) (hd : d = DataW.slice ds sp ∨ (d = .nil ∧ ds = ([] : List (DataW H)))) (hk : (d.weights P t).all (· ≤ reachBytes) = true) : ds.length ≤ reachBytes := by
  rcases hd with rfl | ⟨rfl, rfl⟩
  · simp only [DataW.weights, hu, List.all_cons, Bool.and_eq_true, decide_eq_true_eq] at hk
    rw [Nat.blt_eq] at hb
    have h1 : (ds.length + sp.length) * 1 ≤ (ds.length + sp.length) * P.bytesOf e := Nat.mul_le_mul_left _ hb
    omega
  · simp
end Go.Proofs.Ytmpfeofeokmooaa.V
namespace Go.Proofs.Ytmpfeofeokmooaa.V
open Go
variable {H : Type}
theorem each_all {α β : Type} {q : β → Prop} : ∀ {l : List α} {r : List β}, Each (fun _ b => q b) l r → ∀ {b : β}, b ∈ r → q b := by
  intro l r h b hb
  obtain ⟨i, hi, e⟩ := List.mem_iff_getElem.1 hb
  obtain ⟨a, _, h2⟩ := h.get i b (by rw [← e]; exact List.getElem?_eq_getElem hi)
  exact h2
theorem fit_fld {n : Nat} {d : DataW H} {xs : List AV} (hf : Fit T0 (n + 2) 47 d xs) : ∃ f : Fld, f.ok ∧ xs = fldC f := by
  obtain ⟨ds, yss, rfl, rfl, h⟩ := fit_struct (fs := [(0, 3), (1, 3), (2, 3), (3, 3), (4, 3)]) (by kernel_rfl) hf
  obtain ⟨d0, ds, y0, yss, rfl, rfl, h0, h⟩ := each3_cons h
  obtain ⟨d1, ds, y1, yss, rfl, rfl, h1, h⟩ := each3_cons h
  obtain ⟨d2, ds, y2, yss, rfl, rfl, h2, h⟩ := each3_cons h
  obtain ⟨d3, ds, y3, yss, rfl, rfl, h3, h⟩ := each3_cons h
  obtain ⟨d4, ds, y4, yss, rfl, rfl, h4, h⟩ := each3_cons h
  obtain ⟨rfl, rfl⟩ := each3_nil h
  obtain ⟨a, ha, rfl, rfl⟩ := fit_i64 (by kernel_rfl) h0
  obtain ⟨b, hb, rfl, rfl⟩ := fit_i64 (by kernel_rfl) h1
  obtain ⟨c, hc, rfl, rfl⟩ := fit_i64 (by kernel_rfl) h2
  obtain ⟨e, he, rfl, rfl⟩ := fit_i64 (by kernel_rfl) h3
  obtain ⟨g, hg, rfl, rfl⟩ := fit_i64 (by kernel_rfl) h4
  exact ⟨⟨a, b, c, e, g⟩, ⟨ha, hb, hc, he, hg⟩, rfl⟩
theorem fit_flds {n : Nat} {d : DataW H} {xs : List AV} (hf : Fit T0 (n + 3) 51 d xs) : ∃ l : List Fld, (∀ f ∈ l, f.ok) ∧ xs = [fldsV l] := by
  obtain ⟨ds, sp, l, hd, rfl, h⟩ := fit_slice (e := 47) (by kernel_rfl) hf
  obtain ⟨cs, rfl, hq⟩ := each_map (f := fldV) (Q := fun d f => f.ok) (fun d x ⟨ys, h1, h2⟩ => by
    obtain ⟨f, hf, rfl⟩ := fit_fld h1
    exact ⟨f, elem_agg (by kernel_rfl) h2, hf⟩) h
  exact ⟨cs, fun f hf => each_all hq hf, rfl⟩
theorem fit_frm {n : Nat} {d : DataW H} {xs : List AV} (hf : Fit T0 (n + 4) 72 d xs) : ∃ f : Frm, f.ok ∧ xs = [.int .i64 f.id, fldsV f.fields] := by
  obtain ⟨ds, yss, rfl, rfl, h⟩ := fit_struct (fs := [(0, 3), (1, 51)]) (by kernel_rfl) hf
  obtain ⟨d0, ds, y0, yss, rfl, rfl, h0, h⟩ := each3_cons h
  obtain ⟨d1, ds, y1, yss, rfl, rfl, h1, h⟩ := each3_cons h
  obtain ⟨rfl, rfl⟩ := each3_nil h
  obtain ⟨a, ha, rfl, rfl⟩ := fit_i64 (by kernel_rfl) h0
  obtain ⟨l, hl, rfl⟩ := fit_flds h1
  exact ⟨⟨a, l⟩, ⟨ha, hl⟩, rfl⟩
theorem fit_frms {n : Nat} {d : DataW H} {xs : List AV} (hf : Fit T0 (n + 5) 22 d xs) : ∃ l : List Frm, (∀ f ∈ l, f.ok) ∧ xs = [frmsV l] := by
  obtain ⟨ds, sp, l, hd, rfl, h⟩ := fit_slice (e := 72) (by kernel_rfl) hf
  obtain ⟨cs, rfl, hq⟩ := each_map (f := frmV) (Q := fun d f => f.ok) (fun d x ⟨ys, h1, h2⟩ => by
    obtain ⟨f, hf, rfl⟩ := fit_frm h1
    exact ⟨f, elem_agg (by kernel_rfl) h2, hf⟩) h
  exact ⟨cs, fun f hf => each_all hq hf, rfl⟩
theorem fit_sch {n : Nat} {d : DataW H} {xs : List AV} (hf : Fit T0 (n + 6) 24 d xs) : ∃ s : Sch, s.ok ∧ xs = [.int .i64 s.ver, frmsV s.forms] := by
  obtain ⟨ds, yss, rfl, rfl, h⟩ := fit_struct (fs := [(0, 3), (1, 22)]) (by kernel_rfl) hf
  obtain ⟨d0, ds, y0, yss, rfl, rfl, h0, h⟩ := each3_cons h
  obtain ⟨d1, ds, y1, yss, rfl, rfl, h1, h⟩ := each3_cons h
  obtain ⟨rfl, rfl⟩ := each3_nil h
  obtain ⟨a, ha, rfl, rfl⟩ := fit_i64 (by kernel_rfl) h0
  obtain ⟨l, hl, rfl⟩ := fit_frms h1
  exact ⟨⟨a, l⟩, ⟨ha, hl⟩, rfl⟩
end Go.Proofs.Ytmpfeofeokmooaa.V
namespace Go.Proofs.Ytmpfeofeokmooaa.V
open Go
variable {H : Type}
theorem fit_ints {n : Nat} {d : DataW H} {xs : List AV} (hf : Fit T0 (n + 2) 50 d xs) : ∃ l : List Int, (∀ n ∈ l, i64 n) ∧ xs = [intsV l] := by
  obtain ⟨ds, sp, l, hd, rfl, h⟩ := fit_slice (e := 3) (by kernel_rfl) hf
  obtain ⟨cs, rfl, hq⟩ := each_map (f := fun n => AV.int .i64 n) (Q := fun d n => i64 n) (fun d x ⟨ys, h1, h2⟩ => by
    obtain ⟨a, ha, rfl, rfl⟩ := fit_i64 (by kernel_rfl) h1
    have q := elem_one (by kernel_rfl) h2
    injection q with q
    exact ⟨a, q.symm, ha⟩) h
  exact ⟨cs, fun f hf => each_all hq hf, rfl⟩
theorem fit_val {n : Nat} {d : DataW H} {xs : List AV} (hf : Fit T0 (n + 2) 49 d xs) : ∃ (a : Int) (s : List UInt8), i64 a ∧ xs = [.int .i64 a, .str s] := by
  obtain ⟨ds, yss, rfl, rfl, h⟩ := fit_struct (fs := [(0, 3), (1, 9)]) (by kernel_rfl) hf
  obtain ⟨d0, ds, y0, yss, rfl, rfl, h0, h⟩ := each3_cons h
  obtain ⟨d1, ds, y1, yss, rfl, rfl, h1, h⟩ := each3_cons h
  obtain ⟨rfl, rfl⟩ := each3_nil h
  obtain ⟨a, ha, rfl, rfl⟩ := fit_i64 (by kernel_rfl) h0
  obtain ⟨s, rfl, rfl⟩ := fit_str (by kernel_rfl) h1
  exact ⟨a, s, ha, rfl⟩
theorem fit_stp {n : Nat} {d : DataW H} {xs : List AV} (hf : Fit T0 (n + 4) 53 d xs) : ∃ x : Stp, x.ok ∧ xs = stpC x := by
  obtain ⟨ds, yss, rfl, rfl, h⟩ := fit_struct (fs := [(0, 3), (1, 3), (2, 3), (3, 3), (4, 3), (5, 3), (6, 3), (7, 47), (12, 49), (14, 50), (15, 51)]) (by kernel_rfl) hf
  obtain ⟨d0, ds, y0, yss, rfl, rfl, h0, h⟩ := each3_cons h
  obtain ⟨d1, ds, y1, yss, rfl, rfl, h1, h⟩ := each3_cons h
  obtain ⟨d2, ds, y2, yss, rfl, rfl, h2, h⟩ := each3_cons h
  obtain ⟨d3, ds, y3, yss, rfl, rfl, h3, h⟩ := each3_cons h
  obtain ⟨d4, ds, y4, yss, rfl, rfl, h4, h⟩ := each3_cons h
  obtain ⟨d5, ds, y5, yss, rfl, rfl, h5, h⟩ := each3_cons h
  obtain ⟨d6, ds, y6, yss, rfl, rfl, h6, h⟩ := each3_cons h
  obtain ⟨d7, ds, y7, yss, rfl, rfl, h7, h⟩ := each3_cons h
  obtain ⟨d8, ds, y8, yss, rfl, rfl, h8, h⟩ := each3_cons h
  obtain ⟨d9, ds, y9, yss, rfl, rfl, h9, h⟩ := each3_cons h
  obtain ⟨dA, ds, yA, yss, rfl, rfl, hA, h⟩ := each3_cons h
  obtain ⟨rfl, rfl⟩ := each3_nil h
  obtain ⟨a0, i0, rfl, rfl⟩ := fit_i64 (by kernel_rfl) h0
  obtain ⟨a1, i1, rfl, rfl⟩ := fit_i64 (by kernel_rfl) h1
  obtain ⟨a2, i2, rfl, rfl⟩ := fit_i64 (by kernel_rfl) h2
  obtain ⟨a3, i3, rfl, rfl⟩ := fit_i64 (by kernel_rfl) h3
  obtain ⟨a4, i4, rfl, rfl⟩ := fit_i64 (by kernel_rfl) h4
  obtain ⟨a5, i5, rfl, rfl⟩ := fit_i64 (by kernel_rfl) h5
  obtain ⟨a6, i6, rfl, rfl⟩ := fit_i64 (by kernel_rfl) h6
  obtain ⟨f, i7, rfl⟩ := fit_fld h7
  obtain ⟨a8, s, i8, rfl⟩ := fit_val h8
  obtain ⟨t, i9, rfl⟩ := fit_ints h9
  obtain ⟨fs, iA, rfl⟩ := fit_flds hA
  exact ⟨⟨a0, a1, a2, a3, a4, a5, a6, f, a8, s, t, fs⟩, ⟨i0, i1, i2, i3, i4, i5, i6, i7, i8, i9, iA⟩, rfl⟩
theorem fit_stps {n : Nat} {d : DataW H} {xs : List AV} (hf : Fit T0 (n + 5) 25 d xs) : ∃ l : List Stp, (∀ f ∈ l, f.ok) ∧ xs = [stpsV l] := by
  obtain ⟨ds, sp, l, hd, rfl, h⟩ := fit_slice (e := 53) (by kernel_rfl) hf
  obtain ⟨cs, rfl, hq⟩ := each_map (f := stpV) (Q := fun d f => f.ok) (fun d x ⟨ys, h1, h2⟩ => by
    obtain ⟨f, hf, rfl⟩ := fit_stp h1
    exact ⟨f, elem_agg (by kernel_rfl) h2, hf⟩) h
  exact ⟨cs, fun f hf => each_all hq hf, rfl⟩
end Go.Proofs.Ytmpfeofeokmooaa.V
namespace Go.Proofs.Ytmpfeofeokmooaa.V
open Go
variable {H : Type}
theorem fit_lnk {n : Nat} {d : DataW H} {xs : List AV} (hf : Fit T0 (n + 7) 27 d xs) : ∃ x : Lnk, x.ok ∧ xs = lnkC x := by
  obtain ⟨ds, yss, rfl, rfl, h⟩ := fit_struct (fs := [(0, 3), (1, 24), (3, 25), (4, 25)]) (by kernel_rfl) hf
  obtain ⟨d0, ds, y0, yss, rfl, rfl, h0, h⟩ := each3_cons h
  obtain ⟨d1, ds, y1, yss, rfl, rfl, h1, h⟩ := each3_cons h
  obtain ⟨d2, ds, y2, yss, rfl, rfl, h2, h⟩ := each3_cons h
  obtain ⟨d3, ds, y3, yss, rfl, rfl, h3, h⟩ := each3_cons h
  obtain ⟨rfl, rfl⟩ := each3_nil h
  obtain ⟨a, ha, rfl, rfl⟩ := fit_i64 (by kernel_rfl) h0
  obtain ⟨s, hs, rfl⟩ := fit_sch h1
  obtain ⟨l, hl, rfl⟩ := fit_stps h2
  obtain ⟨m, hm, rfl⟩ := fit_stps h3
  exact ⟨⟨a, s, l, m⟩, ⟨ha, hs, hl, hm⟩, rfl⟩
end Go.Proofs.Ytmpfeofeokmooaa.V
namespace Go.Proofs.Ytmpfeofeokmooaa.V
open Go
variable {H : Type}
theorem fit_lnks {n : Nat} {d : DataW H} {xs : List AV} (hf : Fit T0 (n + 8) 31 d xs) : ∃ l : List Lnk, (∀ f ∈ l, f.ok) ∧ xs = [lnksV l] := by
  obtain ⟨ds, sp, l, hd, rfl, h⟩ := fit_slice (e := 27) (by kernel_rfl) hf
  obtain ⟨cs, rfl, hq⟩ := each_map (f := lnkV) (Q := fun d f => f.ok) (fun d x ⟨ys, h1, h2⟩ => by
    obtain ⟨f, hf, rfl⟩ := fit_lnk h1
    exact ⟨f, elem_agg (by kernel_rfl) h2, hf⟩) h
  exact ⟨cs, fun f hf => each_all hq hf, rfl⟩
theorem fit_man {n : Nat} {d : DataW H} {xs : List AV} (hf : Fit T0 (n + 9) 33 d xs) : ∃ x : Man, x.ok ∧ xs = manC x := by
  obtain ⟨ds, yss, rfl, rfl, h⟩ := fit_struct (fs := [(0, 3), (1, 24), (3, 31), (4, 3)]) (by kernel_rfl) hf
  obtain ⟨d0, ds, y0, yss, rfl, rfl, h0, h⟩ := each3_cons h
  obtain ⟨d1, ds, y1, yss, rfl, rfl, h1, h⟩ := each3_cons h
  obtain ⟨d2, ds, y2, yss, rfl, rfl, h2, h⟩ := each3_cons h
  obtain ⟨d3, ds, y3, yss, rfl, rfl, h3, h⟩ := each3_cons h
  obtain ⟨rfl, rfl⟩ := each3_nil h
  obtain ⟨a, ha, rfl, rfl⟩ := fit_i64 (by kernel_rfl) h0
  obtain ⟨s, hs, rfl⟩ := fit_sch h1
  obtain ⟨l, hl, rfl⟩ := fit_lnks h2
  obtain ⟨b, hb, rfl, rfl⟩ := fit_i64 (by kernel_rfl) h3
  exact ⟨⟨a, s, l, b⟩, ⟨ha, hs, hl, hb⟩, rfl⟩
end Go.Proofs.Ytmpfeofeokmooaa.V
namespace Go.Proofs.Ytmpfeofeokmooaa.V
open Go
variable {H : Type}
theorem l_ManifestBack (d0 d1 : DataW H) (xs : List AV) (hf : FitAll T0 9 Try.f8.params.toList [d0, d1] xs) (hk : (DataW.weightsEach Try.prog (Try.f8.params.toList ++ Rows.manifestBackSpec.plain.varTypes Try.prog) ([d0, d1] ++ [])).all (· ≤ reachBytes) = true) :
    tbl E0 8 xs [] = some ([.bool true], []) := by
  obtain ⟨x, ys, y, zs, rfl, h1, h2, h3, h4⟩ := fitAll_two (t := 33) (u := 39) hf
  obtain ⟨l, hl, rfl⟩ := fit_man h1
  obtain ⟨ds, sp, b, hd, rfl, hlb⟩ := fit_bytes h3
  have e1 := elem_agg (by kernel_rfl) h2
  have e2 := elem_one (by kernel_rfl) h4
  injection e2 with e2
  subst e1; subst e2
  have hw : (DataW.weightsEach Try.prog ([33, 39] ++ []) ([d0, d1] ++ [])).all (· ≤ reachBytes) = true := hk
  simp only [List.cons_append, List.nil_append, DataW.weightsEach, List.all_append, List.append_nil, Bool.and_eq_true] at hw
  have g2 := slice_len Try.underlying39 (by kernel_rfl) hd hw.2
  have hr : reachBytes ≤ 211106231532992 := by decide
  exact c_ManifestBack l b hl (by rw [← hlb]; omega)
end Go.Proofs.Ytmpfeofeokmooaa.V
namespace Go.Proofs.Ytmpfeofeokmooaa.manifestBack
open Go Go.ChangeShapes Go.WideShapes Go.ChangeAt Go.RowKit Go.Proofs.Ytmpfeofeokmooaa.V
theorem own : ownKnob Try.prog.godebug = none := by kernel_rfl
set_option maxRecDepth 100000 in
theorem contract (H : Type) (enc : TypeId × Value → H) (W : World) (base : Nat) (args : Array Value) (ds gs : List (DataW H)) (before : List MemPlace)
    (hval : ∀ (j : Nat) t v, Try.f8.params[j]? = some t → args[j]? = some v → Value.okWide Try.prog W .any base t v)
    (hW : DataW.Whole enc Try.prog Try.f8.params.toList Rows.manifestBackSpec.vars false W args.toList ds gs before) (hk : (DataW.weightsEach Try.prog (Try.f8.params.toList ++ Rows.manifestBackSpec.plain.varTypes Try.prog) (ds ++ gs)).all (· ≤ reachBytes) = true) :
    Calls Try.prog 8 args W fun e W' => ∃ v, e = .returned v ∧ Rows.manifestBackSpec.post enc Try.prog Try.f8 false true false false W args v W' := by
  obtain ⟨p, q, hA, hV, hps, hfz, hnd⟩ := id hW
  obtain ⟨rfl, rfl⟩ := trodVars_none hV
  have hlen := trodAll_length hA
  obtain ⟨d0, d1, rfl⟩ : ∃ d0 d1, ds = [d0, d1] := by
    match ds, hlen with
    | [d0, d1], _ => exact ⟨d0, d1, rfl⟩
  refine (law_calls (E := E0) E0_ok (m := 9) (ts := Try.f8.params.toList) (by kernel_rfl) (fun j t v h1 h2 => hval j t v (by simpa using h1) (by simpa using h2)) hA (fun xs hf => l_ManifestBack d0 d1 xs hf hk)).mono fun e W' ⟨he, bel⟩ => ?_
  subst he
  exact ⟨_, rfl, law_post (tb := 4) (by kernel_rfl) (by kernel_rfl) (by kernel_rfl) Try.underlying4 rfl rfl hW hA bel⟩
set_option maxRecDepth 100000 in
theorem lifted (os : Os) (started : os.Started) (H : Type) (enc : TypeId × Value → H) :
    ReturnsInHanded {} Try.checked os 8 .any (Rows.manifestBackSpec.pre6 enc Try.prog Try.f8 Rows.manifestBackRow.domain false) (Rows.manifestBackSpec.post enc Try.prog Try.f8 false true false false) := by
  refine returnsInHanded_of_change_sized (C := Try.checked) own started (by kernel_rfl) Try.func8
    (ChangeSpec.witness6 (enc := enc) (C := Try.checked) false ⟨#[], #[.agg #[.int .i64 0, .int .i64 0, .slice none 0 0, .slice none 0 0, .int .i64 0], .slice none 0 0], []⟩ 9 (by kernel_rfl) (by kernel_rfl) (by kernel_rfl) (by kernel_rfl)) ?_
  intro W base args ds gs before hval hW _ hk _
  exact contract H enc W base args ds gs before hval hW hk
theorem proved : Rows.ManifestBackSaid :=
  OpenClaim.holds_of_wide 8 Try.f8 rfl rfl rfl rfl rfl rfl rfl ⟨rfl, rfl, rfl, rfl, rfl⟩ rfl rfl rfl rfl rfl (by kernel_rfl) Try.func8 (by kernel_rfl)
    (of_decide_eq_true (by kernel_rfl)) (by unfold Func.isWrapper; first | (rw [if_pos (by decide +kernel)]; kernel_rfl) | (rw [if_neg (by decide +kernel)]; exact ⟨rfl, rfl⟩))
    (fun os started H enc _ => lifted os started H enc)
end Go.Proofs.Ytmpfeofeokmooaa.manifestBack
namespace Go.Proofs.Ytmpfeofeokmooaa
theorem manifestBack_holds : Rows.ManifestBackSaid := manifestBack.proved
end Go.Proofs.Ytmpfeofeokmooaa
