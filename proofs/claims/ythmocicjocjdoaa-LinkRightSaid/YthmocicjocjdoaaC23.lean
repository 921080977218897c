/- Contracts of steps: writing. -/
import Derived.Test.YthmocicjocjdoaaP6
import Derived.Test.YthmocicjocjdoaaC17
import Derived.Test.YthmocicjocjdoaaP7
set_option linter.unusedVariables false
set_option linter.unusedSimpArgs false
namespace Go.Proofs.Ythmocicjocjdoaa.V
open Go
theorem fldW_len {x : Fld} (hx : x.ok) (hr : rgtS x = true) : (fldW x).length ≤ 50 := by
  have r := rgt_rng hr
  obtain ⟨_, ⟨_, _⟩, ⟨_, _⟩, ⟨_, _⟩, ⟨_, _⟩⟩ := hx
  have h1 : (cnt x.id.toNat).length ≤ 10 := cnt_len10 (by omega)
  have h2 : (cnt x.kind.toNat).length ≤ 10 := cnt_len10 (by omega)
  have h3 : (cnt (zz x.lo)).length ≤ 10 := cnt_len10 (zz_lt (by omega) (by omega))
  have h4 : (cnt (zz x.hi)).length ≤ 10 := cnt_len10 (zz_lt (by omega) (by omega))
  have h5 : (cnt x.most.toNat).length ≤ 10 := cnt_len10 (by omega)
  unfold fldW
  simp only [List.length_append]
  omega
theorem p_Count (b : List AV) (n e : Int) (hb : b.length + 10 ≤ 140737488355328) (h0 : 0 ≤ n) (hn : n ≤ 9223372036854775807) : tbl E0 52 [.ref 0 0, .int .i64 n] [(0, [.lst (.own (.E 0 0)) 1 b, .int .i64 e])] = some ([], [(0, [.lst (.own (.E 0 0)) 1 (b ++ encB (cnt n.toNat)), .int .i64 e])]) := by
  have c := c_PCount b n e hb hn
  rw [if_neg (by omega)] at c
  exact c
theorem p_Num (b : List AV) (n e : Int) (hb : b.length + 10 ≤ 140737488355328) (h : i64 n) : tbl E0 133 [.ref 0 0, .int .i64 n] [(0, [.lst (.own (.E 0 0)) 1 b, .int .i64 e])] = some ([], [(0, [.lst (.own (.E 0 0)) 1 (b ++ encB (cnt (zz n))), .int .i64 e])]) := c_PNum b n e hb h.1 h.2
theorem zz_l {n : Int} (h : i64 n) : (cnt (zz n)).length ≤ 10 := cnt_len10 (zz_lt h.1 h.2)
theorem c_writeField (b : List AV) (x : Fld) (e : Int) (hx : x.ok) (hr : rgtS x = true) (hb : b.length + 50 ≤ 140737488355328) : tbl E0 136 [.ref 0 0, fldV x] [(0, [.lst (.own (.E 0 0)) 1 b, .int .i64 e])] = some ([], [(0, [.lst (.own (.E 0 0)) 1 (b ++ encB (fldW x)), .int .i64 e])]) :=
  t_writeField b x e (by
    have r := rgt_rng hr
    obtain ⟨_, ⟨_, _⟩, g1, g2, ⟨_, _⟩⟩ := hx
    have h1 : (cnt x.id.toNat).length ≤ 10 := cnt_len10 (by omega)
    have h2 : (cnt x.kind.toNat).length ≤ 10 := cnt_len10 (by omega)
    have h3 := zz_l g1
    have h4 := zz_l g2
    have c1 := p_Count b x.id e (by omega) (by omega) (by omega)
    have c2 := p_Count (b ++ encB (cnt x.id.toNat)) x.kind e (by simp; omega) (by omega) (by omega)
    have c3 := p_Num (b ++ encB (cnt x.id.toNat) ++ encB (cnt x.kind.toNat)) x.lo e (by simp; omega) g1
    have c4 := p_Num (b ++ encB (cnt x.id.toNat) ++ encB (cnt x.kind.toNat) ++ encB (cnt (zz x.lo))) x.hi e (by simp; omega) g2
    have c5 := p_Count (b ++ encB (cnt x.id.toNat) ++ encB (cnt x.kind.toNat) ++ encB (cnt (zz x.lo)) ++ encB (cnt (zz x.hi))) x.most e (by simp; omega) (by omega) (by omega)
    have eb : b ++ encB (fldW x) = b ++ encB (cnt x.id.toNat) ++ encB (cnt x.kind.toNat) ++ encB (cnt (zz x.lo)) ++ encB (cnt (zz x.hi)) ++ encB (cnt x.most.toNat) := by unfold fldW; simp only [encB_append, List.append_assoc]
    rw [eb]
    simp only [s_writeField, OA_chk, cond_true, OA_call, c1, c2, c3, c4, c5, u_asC, u_asI, u_asOwn, u_asN, Option.bind_some, nbeq, decide_true])
theorem c_twriteT (l : List Int) (hl : l.length ≤ 64) (hok : ∀ n ∈ l, 0 ≤ n ∧ n ≤ 1000) : ∀ (r : List Int) (i : Nat) (b : List AV) (e : Int), l.drop i = r → b.length + 10 * r.length + 10 ≤ 140737488355328 →
    ltbl E0 89 0 23 [intsV l, .int .i64 l.length, .int .i64 i] [[.lst (.own (.O 0 0)) 1 b, .int .i64 e]] = some (2, [], [[.lst (.own (.O 0 0)) 1 (b ++ encB (intsB r)), .int .i64 e]]) := by
  intro r
  induction r with
  | nil =>
    intro i b e hr hb
    have h : l.length ≤ i := by simpa using hr
    refine t_twriteT _ _ _ _ _ ?_
    have : ¬ ((i : Int) < l.length) := by omega
    simp [s_twriteT, this, intsB, encB_nil]
  | cons n r ih =>
    intro i b e hr hb
    obtain ⟨hlt, hget, hr2⟩ := drop_c hr
    have h2 : (i : Int) < l.length := by omega
    have e1 := i64_succ (i := i) (by omega)
    obtain ⟨g1, g2⟩ := hok n (mem_drop hr)
    have hx : (cnt n.toNat).length ≤ 10 := cnt_len10 (by omega)
    simp only [List.length_cons] at hb
    have h := ih (i + 1) (b ++ encB (cnt n.toNat)) e hr2 (by simp; omega)
    have c := p_Count b n e (by omega) g1 (by omega)
    have eb : b ++ encB (intsB (n :: r)) = b ++ encB (cnt n.toNat) ++ encB (intsB r) := by simp [intsB, encB_append]
    refine t_twriteT _ _ _ _ _ ?_
    rw [eb, ← h]
    simp only [s_twriteT, h2, decide_true, cond_true, OA_chk, Int.natCast_nonneg, nthE, Int.toNat_natCast, List.getElem?_map, hget, Option.map_some, u_asC, u_asI, u_asOwn, u_asN, OA_call, c, Option.bind_some, nbeq, e1]
theorem c_twriteF (l : List Fld) (hl : l.length ≤ 8) (hok : FldsOK l) : ∀ (r : List Fld) (i : Nat) (b : List AV) (e : Int), l.drop i = r → b.length + 50 * r.length + 50 ≤ 140737488355328 →
    ltbl E0 89 0 30 [fldsV l, .int .i64 l.length, .int .i64 i] [[.lst (.own (.O 0 0)) 1 b, .int .i64 e]] = some (4, [], [[.lst (.own (.O 0 0)) 1 (b ++ encB (fldsW r)), .int .i64 e]]) := by
  intro r
  induction r with
  | nil =>
    intro i b e hr hb
    have h : l.length ≤ i := by simpa using hr
    refine t_twriteF _ _ _ _ _ ?_
    have : ¬ ((i : Int) < l.length) := by omega
    simp [s_twriteF, this, fldsW, encB_nil]
  | cons n r ih =>
    intro i b e hr hb
    obtain ⟨hlt, hget, hr2⟩ := drop_c hr
    have h2 : (i : Int) < l.length := by omega
    have e1 := i64_succ (i := i) (by omega)
    obtain ⟨g1, g2⟩ := hok n (mem_drop hr)
    have hx := fldW_len g1 g2
    simp only [List.length_cons] at hb
    have h := ih (i + 1) (b ++ encB (fldW n)) e hr2 (by simp; omega)
    have c := c_writeField b n e g1 g2 (by omega)
    have eb : b ++ encB (fldsW (n :: r)) = b ++ encB (fldW n) ++ encB (fldsW r) := by simp [fldsW, encB_append]
    refine t_twriteF _ _ _ _ _ ?_
    rw [eb, ← h]
    simp only [s_twriteF, h2, decide_true, cond_true, OA_chk, Int.natCast_nonneg, nthE, Int.toNat_natCast, List.getElem?_map, hget, Option.map_some, u_asA, u_asC, u_asI, u_asOwn, u_asN, OA_call, c, Option.bind_some, nbeq, e1]
theorem intsB_len : ∀ (l : List Int), (∀ n ∈ l, 0 ≤ n ∧ n ≤ 1000) → (intsB l).length ≤ 10 * l.length
  | [], _ => by simp [intsB]
  | n :: l, h => by
    have h1 : (cnt n.toNat).length ≤ 10 := cnt_len10 (by have := h n (by simp); omega)
    have h2 := intsB_len l (fun g hg => h g (by simp [hg]))
    have e : intsB (n :: l) = cnt n.toNat ++ intsB l := by simp [intsB]
    rw [e, List.length_append, List.length_cons]
    omega
theorem fldsW_len : ∀ (l : List Fld), FldsOK l → (fldsW l).length ≤ 50 * l.length
  | [], _ => by simp [fldsW]
  | n :: l, h => by
    have h1 := fldW_len (h n (by simp)).1 (h n (by simp)).2
    have h2 := fldsW_len l (fun g hg => h g (by simp [hg]))
    have e : fldsW (n :: l) = fldW n ++ fldsW l := by simp [fldsW]
    rw [e, List.length_append, List.length_cons]
    omega
theorem fits_flds {x : Stp} (hx : x.ok) (h : fitsS x 9 = true) : x.fields.length ≤ 8 ∧ FldsOK x.fields := by
  obtain ⟨h1, h2⟩ := fits_l h
  exact ⟨h1, fun f hf => ⟨hx.2.2.2.2.2.2.2.2.2.2 f hf, h2 f hf⟩⟩
theorem cnt10 {n : Int} (h : n ≤ 9223372036854775807) : (cnt n.toNat).length ≤ 10 := cnt_len10 (by omega)
theorem prtB_len {x : Stp} (hx : x.ok) {p : Int} (hp : Fits x p) : (prtB x p).length ≤ 650 := by
  have hx0 := hx
  obtain ⟨h1, h2, h3, h4, h5, h6, h7, h8, h9, h10, h11⟩ := hx
  have hp0 := hp
  obtain ⟨hr, hf, hb⟩ := hp
  rcases pr_cases hr with rfl | rfl | rfl | rfl | rfl | rfl | rfl | rfl | rfl | rfl <;> simp only [prtB, if_true, Int.reduceEq, if_false, List.length_append]
  · have := cnt10 h2.2; omega
  · have := cnt10 h3.2; omega
  · have := cnt10 h4.2; omega
  · have := cnt10 h5.2; omega
  · have := cnt10 h6.2; omega
  · have := zz_l h6; have := zz_l h7; omega
  · simp [fitsS] at hf
    have := fldW_len h8 hf.1; omega
  · have := fits_s hf
    have := zz_l h9
    have : (cnt x.s.length).length ≤ 10 := cnt_len10 (by omega)
    omega
  · obtain ⟨g1, g2⟩ := fits_t hp0
    have := intsB_len x.t g1
    have : (cnt x.t.length).length ≤ 10 := cnt_len10 (by omega)
    omega
  · obtain ⟨g1, g2⟩ := fits_flds hx0 hf
    have := fldsW_len x.fields g2
    have : (cnt x.fields.length).length ≤ 10 := cnt_len10 (by omega)
    omega
theorem c_twrite (b : List AV) (x : Stp) (p e : Int) (hx : x.ok) (hp : Fits x p) (hb : b.length + 700 ≤ 140737488355328) : tbl E0 89 [.ref 0 0, stpV x, .int .i64 p] [(0, [.lst (.own (.E 0 0)) 1 b, .int .i64 e])] = some ([], [(0, [.lst (.own (.E 0 0)) 1 (b ++ encB (prtB x p)), .int .i64 e])]) := by
  have hx0 := hx
  obtain ⟨h1, h2, h3, h4, h5, h6, h7, h8, h9, h10, h11⟩ := hx
  have hp0 := hp
  obtain ⟨hr, hf, hbb⟩ := hp
  refine t_twrite b x p e ?_
  rcases pr_cases hr with rfl | rfl | rfl | rfl | rfl | rfl | rfl | rfl | rfl | rfl <;> simp only [prtB, if_true, Int.reduceEq, if_false, s_twrite, OA_chk, cond_true, cond_false, OA_call, OA_asm, OA_loop, Int.reduceBEq, beq_self_eq_true]
  · simp [fitsS, inS] at hf
    have c := p_Count b x.form e (by omega) (by omega) h2.2
    simp only [c, u_asC, u_asI, u_asOwn, u_asN, Option.bind_some, nbeq, decide_true, cond_true]
  · simp [fitsS, inS] at hf
    have c := p_Count b x.field e (by omega) (by omega) h3.2
    simp only [c, u_asC, u_asI, u_asOwn, u_asN, Option.bind_some, nbeq, decide_true, cond_true]
  · simp [fitsS, inS] at hf
    have c := p_Count b x.place e (by omega) (by omega) h4.2
    simp only [c, u_asC, u_asI, u_asOwn, u_asN, Option.bind_some, nbeq, decide_true, cond_true]
  · simp [fitsS, inS] at hf
    have c := p_Count b x.to e (by omega) (by omega) h5.2
    simp only [c, u_asC, u_asI, u_asOwn, u_asN, Option.bind_some, nbeq, decide_true, cond_true]
  · simp [fitsS, inS] at hf
    have c := p_Count b x.a e (by omega) (by split at hf <;> omega) h6.2
    simp only [c, u_asC, u_asI, u_asOwn, u_asN, Option.bind_some, nbeq, decide_true, cond_true]
  · have g1 := zz_l h6
    have c := p_Num b x.a e (by omega) h6
    have c2 := p_Num (b ++ encB (cnt (zz x.a))) x.b e (by simp; omega) h7
    simp only [c, c2, u_asC, u_asI, u_asOwn, u_asN, Option.bind_some, nbeq, decide_true, cond_true, OA_call, encB_append, List.append_assoc]
  · simp [fitsS] at hf
    have c := c_writeField b x.f e h8 hf.1 (by omega)
    simp only [c, u_asC, u_asI, u_asOwn, u_asN, Option.bind_some, nbeq, decide_true, cond_true]
  · have g1 := zz_l h9
    have g2 := fits_s hf
    have c := p_Num b x.n e (by omega) h9
    have c2 := c_PText (b ++ encB (cnt (zz x.n))) x.s e (by simp; omega)
    simp only [penA] at c2
    simp only [c, c2, u_asC, u_asI, u_asOwn, u_asN, Option.bind_some, nbeq, decide_true, cond_true, OA_call, encB_append, List.append_assoc]
  · obtain ⟨g1, g2⟩ := fits_t hp0
    have g3 : (cnt x.t.length).length ≤ 10 := cnt_len10 (by omega)
    have c := p_Count b x.t.length e (by omega) (by omega) (by omega)
    have c2 := c_twriteT x.t g2 g1 x.t 0 (b ++ encB (cnt x.t.length)) e rfl (by simp; omega)
    simp only [Int.toNat_natCast, Int.natCast_zero] at c c2
    simp only [List.length_map, c, c2, u_asC, u_asI, u_asL, u_asOwn, u_asN, Option.bind_some, nbeq, decide_true, cond_true, cond_false, OA_call, OA_asm, OA_loop, encB_append, List.append_assoc, Nm_beq_self]
  · obtain ⟨g1, g2⟩ := fits_flds hx0 hf
    have g3 : (cnt x.fields.length).length ≤ 10 := cnt_len10 (by omega)
    have c := p_Count b x.fields.length e (by omega) (by omega) (by omega)
    have c2 := c_twriteF x.fields g1 g2 x.fields 0 (b ++ encB (cnt x.fields.length)) e rfl (by simp; omega)
    simp only [Int.toNat_natCast, Int.natCast_zero] at c c2
    simp only [List.length_map, c, c2, u_asC, u_asI, u_asL, u_asOwn, u_asN, Option.bind_some, nbeq, decide_true, cond_true, cond_false, OA_call, OA_asm, OA_loop, encB_append, List.append_assoc, Nm_beq_self]
end Go.Proofs.Ythmocicjocjdoaa.V
namespace Go.Proofs.Ythmocicjocjdoaa.V
open Go
theorem prtsB_cons (x : Stp) (p : Int) (l : List Int) : prtsB x (p :: l) = prtB x p ++ prtsB x l := by simp [prtsB]
theorem stpsB_cons (x : Stp) (l : List Stp) : stpsB (x :: l) = stpB x ++ stpsB l := by simp [stpsB]
theorem prtsB_len {x : Stp} (hx : x.ok) : ∀ (l : List Int), (∀ p ∈ l, Fits x p) → (prtsB x l).length ≤ 650 * l.length
  | [], _ => by simp [prtsB]
  | p :: l, h => by
    have h1 := prtB_len hx (h p (by simp))
    have h2 := prtsB_len hx l (fun g hg => h g (by simp [hg]))
    rw [prtsB_cons, List.length_append, List.length_cons]
    omega
theorem stpB_len {x : Stp} (hx : x.ok) (hr : tRightS x = true) : (stpB x).length ≤ 3300 := by
  obtain ⟨h1, h2, _⟩ := right_fits hr
  have h3 := prtsB_len hx _ h1
  have h4 := uses_len x.op
  have h5 := ops_rng h2
  have h6 : (cnt x.op.toNat).length ≤ 10 := cnt_len10 (by omega)
  unfold stpB
  rw [List.length_append]
  omega
theorem stpsB_len : ∀ (l : List Stp), (∀ x ∈ l, x.ok ∧ tRightS x = true) → (stpsB l).length ≤ 3300 * l.length
  | [], _ => by simp [stpsB]
  | x :: l, h => by
    have h1 := stpB_len (h x (by simp)).1 (h x (by simp)).2
    have h2 := stpsB_len l (fun g hg => h g (by simp [hg]))
    rw [stpsB_cons, List.length_append, List.length_cons]
    omega
theorem c_tPrintK (l : List Stp) (x : Stp) (hx : x.ok) (u : List Int) (m i : Int) (hu : u.length ≤ 5) (hf : ∀ p ∈ u, Fits x p) : ∀ (r : List Int) (k : Nat) (b : List AV) (e : Int), u.drop k = r → b.length + 700 * r.length + 700 ≤ 140737488355328 →
    ltbl E0 50 0 12 [stpsV l, .int .i64 m, .int .i64 i, intsV u, .int .i64 u.length, .int .i64 k] [stpC x, [.lst (.own (.O 1012 0)) 1 b, .int .i64 e]] = some (3, [stpsV l, .int .i64 m, .int .i64 i], [[.lst (.own (.O 1012 0)) 1 (b ++ encB (prtsB x r)), .int .i64 e]]) := by
  intro r
  induction r with
  | nil =>
    intro k b e hr hb
    have h : u.length ≤ k := by simpa using hr
    refine t_tPrintK _ _ _ _ _ _ _ _ _ ?_
    have : ¬ ((k : Int) < u.length) := by omega
    simp [s_tPrintK, this, prtsB, encB_nil]
  | cons p r ih =>
    intro k b e hr hb
    obtain ⟨hlt, hget, hr2⟩ := drop_c hr
    have h2 : (k : Int) < u.length := by omega
    have e1 := i64_succ (i := k) (by omega)
    have g1 := hf p (mem_drop hr)
    have hl := prtB_len hx g1
    simp only [List.length_cons] at hb
    have h := ih (k + 1) (b ++ encB (prtB x p)) e hr2 (by simp; omega)
    have c := c_twrite b x p e hx g1 (by omega)
    simp only [stpV, stpC, intsV, fldsV] at c h
    have eb : b ++ encB (prtsB x (p :: r)) = b ++ encB (prtB x p) ++ encB (prtsB x r) := by rw [prtsB_cons, encB_append, List.append_assoc]
    refine t_tPrintK _ _ _ _ _ _ _ _ _ ?_
    rw [eb, ← h]
    simp only [s_tPrintK, h2, decide_true, cond_true, OA_chk, Int.natCast_nonneg, nthE, Int.toNat_natCast, List.getElem?_map, hget, Option.map_some, u_asC, u_asI, u_asOwn, u_asN, OA_call, c, Option.bind_some, nbeq, e1]
theorem c_tPrintL (l : List Stp) (hl : l.length ≤ 40) (hok : ∀ x ∈ l, x.ok ∧ x.sml) : ∀ (r : List Stp) (i : Nat) (b : List AV) (e : Int), l.drop i = r → b.length + 4000 * r.length + 4000 ≤ 140737488355328 →
    ltbl E0 50 0 6 [stpsV l, .int .i64 l.length, .int .i64 i] [[.lst (.own (.O 1012 0)) 1 b, .int .i64 e]] = some (if r.all tRightS then (1, [], [[.lst (.own (.O 1012 0)) 1 (b ++ encB (stpsB r)), .int .i64 e]]) else (0, [.lst .ro 1 [], .int .i64 2], [])) := by
  intro r
  induction r with
  | nil =>
    intro i b e hr hb
    have h : l.length ≤ i := by simpa using hr
    refine t_tPrintL _ _ _ _ _ ?_
    have : ¬ ((i : Int) < l.length) := by omega
    simp [s_tPrintL, this, stpsB, encB_nil]
  | cons x r ih =>
    intro i b e hr hb
    obtain ⟨hlt, hget, hr2⟩ := drop_c hr
    have h2 : (i : Int) < l.length := by omega
    have e1 := i64_succ (i := i) (by omega)
    obtain ⟨x1, x2⟩ := hok x (mem_drop hr)
    have c0 := c_tRight x x1 x2
    simp only [stpV, stpC, intsV, fldsV] at c0
    refine t_tPrintL _ _ _ _ _ ?_
    simp only [s_tPrintL, OA_asm, h2, decide_true, cond_true, OA_chk, Int.natCast_nonneg, nthE, Int.toNat_natCast, List.getElem?_map, hget, Option.map_some, u_asA, u_asC, u_asI, u_asB, u_asS, u_asL, u_asN, OA_callx, c0, Option.bind_some]
    rcases bor (tRightS x) with hq | hq
    · obtain ⟨g1, g2, g3⟩ := right_fits hq
      have g4 := ops_rng g2
      have hxl := stpB_len x1 hq
      have h6 : (cnt x.op.toNat).length ≤ 10 := cnt_len10 (by omega)
      simp only [List.length_cons] at hb
      have h := ih (i + 1) (b ++ encB (stpB x)) e hr2 (by simp; omega)
      have c1 := p_Count b x.op e (by omega) (by omega) x1.1.2
      have c2 := c_tuses x.op
      have k := c_tPrintK l x x1 (usesS x.op) (l.length : Int) (i : Int) (uses_len _) g1 (usesS x.op) 0 (b ++ encB (cnt x.op.toNat)) e rfl (by have := uses_len x.op; simp; omega)
      simp only [Int.natCast_zero, stpC, intsV, fldsV] at k
      have ek : b ++ encB (cnt x.op.toNat) ++ encB (prtsB x (usesS x.op)) = b ++ encB (stpB x) := by unfold stpB; simp only [encB_append, List.append_assoc]
      rw [ek] at k
      have eb : b ++ encB (stpsB (x :: r)) = b ++ encB (stpB x) ++ encB (stpsB r) := by rw [stpsB_cons, encB_append, List.append_assoc]
      simp only [hq, Bool.not_true, cond_false, OA_call, c1, u_asC, u_asI, u_asB, u_asL, u_asOwn, u_asN, Option.bind_some, OA_callx, c2, OA_asm, OA_loop, List.length_map, k, nbeq, decide_true, cond_true, Nm_beq_self, e1, List.all_cons, Bool.true_and, eb]
      exact h
    · simp [hq]
theorem c_tPrint (l : List Stp) (hok : ∀ x ∈ l, x.ok ∧ x.sml) : tbl E0 50 [stpsV l] [] = some ([.lst .ro 1 (if l.length ≤ 40 ∧ l.all tRightS = true then encB (lstB l) else []), .int .i64 (if 40 < l.length then 7 else if l.all tRightS = true then 0 else 2)], []) :=
  t_tPrint l (by
    by_cases hl : 40 < l.length
    · have h1 : (l.length : Int) > 40 := by omega
      have h2 : ¬ (l.length ≤ 40) := by omega
      simp [s_tPrint, h1, h2, hl]
    · have h1 : ¬ ((l.length : Int) > 40) := by omega
      have hl2 : l.length ≤ 40 := by omega
      have h7 : (cnt l.length).length ≤ 10 := cnt_len10 (by omega)
      have c1 := p_Count [] l.length 0 (by simp) (by omega) (by omega)
      simp only [Int.toNat_natCast, List.nil_append] at c1
      have k := c_tPrintL l hl2 hok l 0 (encB (cnt l.length)) 0 rfl (by simp; omega)
      simp only [Int.natCast_zero, ← encB_append] at k
      rcases bor (l.all tRightS) with hq | hq
      · have hs := stpsB_len l (fun x hx => ⟨(hok x hx).1, List.all_eq_true.1 hq x hx⟩)
        have d := c_PDone (lstB l) 0 (by unfold lstB; rw [List.length_append]; omega)
        simp only [penV, penA, if_true] at d
        simp only [hq, if_true] at k
        have ek : cnt l.length ++ stpsB l = lstB l := rfl
        rw [ek] at k
        simp only [s_tPrint, hq, hl, hl2, h1, OA_asm, List.length_map, decide_true, decide_false, cond_true, cond_false, OA_chk, u_asC, u_asI, u_asB, u_asL, u_asOwn, u_asN, u_asRef0, OA_call, OA_callx, OA_loop, c_New, c1, k, d, Option.bind_some, nbeq, Nm_beq_self, if_true, if_false, and_self, Nat.one_ne_zero]
      · simp only [hq, Bool.false_eq_true, if_false] at k
        simp only [s_tPrint, hq, hl, hl2, h1, OA_asm, List.length_map, decide_true, decide_false, cond_true, cond_false, OA_chk, u_asC, u_asI, u_asB, u_asL, u_asOwn, u_asN, u_asRef0, OA_call, OA_callx, OA_loop, c_New, c1, k, Option.bind_some, nbeq, Nm_beq_self, if_false, Bool.false_eq_true, and_false])
/-! As the document has it. -/
def letB (p : Int) : UInt8 := if p = 0 then 102 else if p = 1 then 100 else if p = 2 then 112 else if p = 3 then 116 else if p = 4 then 97 else if p = 5 then 98 else if p = 6 then 70 else if p = 7 then 86 else if p = 8 then 84 else 76
end Go.Proofs.Ythmocicjocjdoaa.V
namespace Go.Proofs.Ythmocicjocjdoaa.V
open Go
theorem r_Rights15L (l : List Stp) (hl : l.length ≤ 40) (hok : ∀ x ∈ l, x.sml) : ∀ (r : List Stp) (i : Nat), l.drop i = r →
    ltbl E0 43 0 4 [stpsV l, .int .i64 i] [] = some (if r.all tRightS then (1, [], []) else (0, [.int .i64 2], [])) := by
  intro r
  induction r with
  | nil =>
    intro i hr
    have h : l.length ≤ i := by simpa using hr
    refine t_Rights15L _ _ ?_
    have : ¬ ((i : Int) < l.length) := by omega
    simp [s_Rights15L, this]
  | cons x r ih =>
    intro i hr
    obtain ⟨hlt, hget, hr2⟩ := drop_c hr
    have h2 : (i : Int) < l.length := by omega
    have e1 := i64_succ (i := i) (by omega)
    have c := c_ytRight x (hok x (mem_drop hr))
    rw [← tRight_eq] at c
    simp only [stpV, stpC, intsV, fldsV] at c
    have h := ih (i + 1) hr2
    refine t_Rights15L _ _ ?_
    simp only [s_Rights15L, OA_asm, List.length_map, h2, decide_true, cond_true, OA_chk, Int.natCast_nonneg, nthE, Int.toNat_natCast, List.getElem?_map, hget, Option.map_some, u_asA, u_asB, u_asC, u_asI, u_asS, u_asL, u_asOwn, u_asN, OA_callx, c, Option.bind_some, e1, List.all_cons]
    rcases bor (tRightS x) with hq | hq
    · simp only [hq, Bool.not_true, cond_false, Bool.true_and]
      exact h
    · simp [hq]
theorem r_Rights15 (l : List Stp) (hok : ∀ x ∈ l, x.sml) : tbl E0 43 [stpsV l] [] = some ([.int .i64 (if 40 < l.length then 7 else if l.all tRightS = true then 0 else 2)], []) :=
  t_Rights15 l (by
    by_cases hl : 40 < l.length
    · have h1 : (l.length : Int) > 40 := by omega
      simp [s_Rights15, h1, hl]
    · have h1 : ¬ ((l.length : Int) > 40) := by omega
      have k := r_Rights15L l (by omega) hok l 0 rfl
      simp only [Int.natCast_zero] at k
      simp only [s_Rights15, h1, hl, OA_asm, List.length_map, decide_false, cond_false, OA_loop, k, if_false]
      rcases bor (l.all tRightS) with hq | hq <;> simp [hq])
end Go.Proofs.Ythmocicjocjdoaa.V
namespace Go.Proofs.Ythmocicjocjdoaa.V
open Go
theorem e_Count (q : St) (m : Int) (h : q.1.length ≤ 140737488355328) : tbl E0 56 [.ref 0 0, .int .i64 m] [(0, [.lst .ro 1 (encB q.1), .int .i64 q.2])] = some ([.int .i64 (cS q m).1], [(0, [.lst .ro 1 (encB (cS q m).2.1), .int .i64 (cS q m).2.2])]) := c_ECount q.1 q.2 m h
theorem e_Num (q : St) (h : q.1.length ≤ 140737488355328) : tbl E0 137 [.ref 0 0] [(0, [.lst .ro 1 (encB q.1), .int .i64 q.2])] = some ([.int .i64 (nS q).1], [(0, [.lst .ro 1 (encB (nS q).2.1), .int .i64 (nS q).2.2])]) := c_ENum q.1 q.2 h
theorem e_Text (q : St) (m : Int) (h : q.1.length ≤ 140737488355328) : tbl E0 57 [.ref 0 0, .int .i64 m] [(0, [.lst .ro 1 (encB q.1), .int .i64 q.2])] = some ([.str (xS q m).1], [(0, [.lst .ro 1 (encB (xS q m).2.1), .int .i64 (xS q m).2.2])]) := c_EText q.1 q.2 m h
theorem c_readField (q : St) (h : q.1.length ≤ 140737488355328) : tbl E0 138 [.ref 0 0] [(0, [.lst .ro 1 (encB q.1), .int .i64 q.2])] = some ([fldV (tkFldW q).1], [(0, [.lst .ro 1 (encB (tkFldW q).2.1), .int .i64 (tkFldW q).2.2])]) :=
  t_readField q.1 q.2 (by
    have h1 := cS_len q 255
    have h2 := cS_len (cS q 255).2 4
    have h3 := nS_len (cS (cS q 255).2 4).2
    have h4 := nS_len (nS (cS (cS q 255).2 4).2).2
    have c1 := e_Count q 255 h
    have c2 := e_Count (cS q 255).2 4 (by omega)
    have c3 := e_Num (cS (cS q 255).2 4).2 (by omega)
    have c4 := e_Num (nS (cS (cS q 255).2 4).2).2 (by omega)
    have c5 := e_Count (nS (nS (cS (cS q 255).2 4).2).2).2 1000 (by omega)
    simp only [s_readField, OA_asm, OA_chk, OA_call, OA_callx, OA_loop, OA_both_id, u_asA, u_asC, u_asI, u_asB, u_asS, u_asL, u_asOwn, u_asN, u_asRef0, Option.bind_some, nbeq, Nm_beq_self, decide_true, cond_true, cond_false, c1, c2, c3, c4, c5, tkFldW])
theorem c_treadT  : ∀ (j k : Nat) (x : Stp) (q : St), q.1.length ≤ 140737488355328 → x.t.length + j ≤ 1000 → k + j ≤ 1000 →
    ltbl E0 98 0 21 [.int .i64 ((k + j : Nat) : Int), .int .i64 k] [[.lst .ro 1 (encB q.1), .int .i64 q.2], stpO x (.O 1 14) (.O 1 15)] = some (2, [], [[.lst .ro 1 (encB (tkInts j q).2.1), .int .i64 (tkInts j q).2.2], stpO { x with t := x.t ++ (tkInts j q).1 } (.O 1 14) (.O 1 15)]) := by
  intro j
  induction j with
  | zero =>
    intro k x q hq hx hk
    refine t_treadT _ _ _ _ _ ?_
    have : ¬ ((k : Int) < ((k + 0 : Nat) : Int)) := by omega
    simp only [s_treadT, this, decide_false, cond_false, tkInts, List.append_nil]
  | succ j ih =>
    intro k x q hq hx hk
    have h2 : (k : Int) < ((k + (j + 1) : Nat) : Int) := by omega
    have e1 := i64_succ (i := k) (by omega)
    have hl := cS_len q 1000
    have h := ih (k + 1) { x with t := x.t ++ [(cS q 1000).1] } (cS q 1000).2 (Nat.le_trans hl hq) (by simp; omega) (by omega)
    have c := e_Count q 1000 hq
    rw [show k + 1 + j = k + (j + 1) by omega] at h
    simp only [List.map_append, List.map_cons, List.map_nil, List.append_assoc, List.singleton_append, stpO, stpC, intsV, fldsV] at h
    refine t_treadT _ _ _ _ _ ?_
    have q1 : (x.t.length + 1) * 8 ≤ 140737488355328 := by omega
    simp only [s_treadT, h2, OA_asm, OA_chk, OA_call, OA_callx, OA_loop, OA_both_id, u_asA, u_asC, u_asI, u_asB, u_asS, u_asL, u_asOwn, u_asN, u_asRef0, Option.bind_some, nbeq, Nm_beq_self, decide_true, cond_true, cond_false, c, List.length_map, List.length_cons, List.length_nil, Nat.zero_add, q1, e1, tkInts, stpO, List.map_append, List.map_cons]
    exact h
theorem c_treadF  : ∀ (j k : Nat) (x : Stp) (q : St), q.1.length ≤ 140737488355328 → x.fields.length + j ≤ 1000 → k + j ≤ 1000 →
    ltbl E0 98 0 26 [.int .i64 ((k + j : Nat) : Int), .int .i64 k] [[.lst .ro 1 (encB q.1), .int .i64 q.2], stpO x (.O 1 14) (.O 1 15)] = some (4, [], [[.lst .ro 1 (encB (tkFldsW j q).2.1), .int .i64 (tkFldsW j q).2.2], stpO { x with fields := x.fields ++ (tkFldsW j q).1 } (.O 1 14) (.O 1 15)]) := by
  intro j
  induction j with
  | zero =>
    intro k x q hq hx hk
    refine t_treadF _ _ _ _ _ ?_
    have : ¬ ((k : Int) < ((k + 0 : Nat) : Int)) := by omega
    simp only [s_treadF, this, decide_false, cond_false, tkFldsW, List.append_nil]
  | succ j ih =>
    intro k x q hq hx hk
    have h2 : (k : Int) < ((k + (j + 1) : Nat) : Int) := by omega
    have e1 := i64_succ (i := k) (by omega)
    have hl := tkFldW_len q
    have h := ih (k + 1) { x with fields := x.fields ++ [(tkFldW q).1] } (tkFldW q).2 (Nat.le_trans hl hq) (by simp; omega) (by omega)
    have c := c_readField q hq
    rw [show k + 1 + j = k + (j + 1) by omega] at h
    simp only [List.map_append, List.map_cons, List.map_nil, List.append_assoc, List.singleton_append, stpO, stpC, intsV, fldsV] at h
    refine t_treadF _ _ _ _ _ ?_
    have q1 : (x.fields.length + 1) * 40 ≤ 140737488355328 := by omega
    simp only [s_treadF, h2, OA_asm, OA_chk, OA_call, OA_callx, OA_loop, OA_both_id, u_asA, u_asC, u_asI, u_asB, u_asS, u_asL, u_asOwn, u_asN, u_asRef0, Option.bind_some, nbeq, Nm_beq_self, decide_true, cond_true, cond_false, c, List.length_map, List.length_cons, List.length_nil, Nat.zero_add, q1, e1, tkFldsW, stpO, List.map_append, List.map_cons]
    exact h
end Go.Proofs.Ythmocicjocjdoaa.V
namespace Go.Proofs.Ythmocicjocjdoaa.V
open Go
theorem cnt64 (q : St) (m : Int) (hm : 0 ≤ m) (hm2 : m ≤ 64) : (cS q m).1.toNat ≤ 64 := by have := cS_rng q hm; omega
theorem setP_tlen (x : Stp) (p : Int) (q : St) : (setP x p q).1.t.length ≤ x.t.length + 64 ∧ (setP x p q).1.fields.length ≤ x.fields.length + 64 := by
  have h1 := cnt64 q 64 (by omega) (by omega)
  have h2 := cnt64 q 8 (by omega) (by omega)
  unfold setP
  repeat' split
  all_goals simp [tkInts_n, tkFldsW_n] <;> omega
theorem c_tread (x : Stp) (p : Int) (hp : 0 ≤ p ∧ p ≤ 9) (q : St) (hq : q.1.length ≤ 140737488355328) (ht : x.t.length ≤ 900) (hf : x.fields.length ≤ 900) : tbl E0 98 [.ref 0 0, .ref 1 0, .int .i64 p] [(0, [.lst .ro 1 (encB q.1), .int .i64 q.2]), (1, stpO x (.E 1 14) (.E 1 15))] = some ([], [(0, [.lst .ro 1 (encB (setP x p q).2.1), .int .i64 (setP x p q).2.2]), (1, stpO (setP x p q).1 (.E 1 14) (.E 1 15))]) := by
  refine t_tread q.1 x p q.2 ?_
  rcases pr_cases hp with rfl | rfl | rfl | rfl | rfl | rfl | rfl | rfl | rfl | rfl <;> simp only [setP, s_tread, if_true, Int.reduceEq, if_false, cond_true, cond_false, Int.reduceBEq, beq_self_eq_true, OA_call, stpO]
  · have c := e_Count q 200 hq
    simp only [c, OA_asm, OA_chk, OA_call, OA_callx, OA_loop, OA_both_id, u_asA, u_asC, u_asI, u_asB, u_asS, u_asL, u_asOwn, u_asN, u_asRef0, Option.bind_some, nbeq, Nm_beq_self, decide_true, cond_true, cond_false]
  · have c := e_Count q 255 hq
    simp only [c, OA_asm, OA_chk, OA_call, OA_callx, OA_loop, OA_both_id, u_asA, u_asC, u_asI, u_asB, u_asS, u_asL, u_asOwn, u_asN, u_asRef0, Option.bind_some, nbeq, Nm_beq_self, decide_true, cond_true, cond_false]
  · have c := e_Count q 8 hq
    simp only [c, OA_asm, OA_chk, OA_call, OA_callx, OA_loop, OA_both_id, u_asA, u_asC, u_asI, u_asB, u_asS, u_asL, u_asOwn, u_asN, u_asRef0, Option.bind_some, nbeq, Nm_beq_self, decide_true, cond_true, cond_false]
  · have c := e_Count q 255 hq
    simp only [c, OA_asm, OA_chk, OA_call, OA_callx, OA_loop, OA_both_id, u_asA, u_asC, u_asI, u_asB, u_asS, u_asL, u_asOwn, u_asN, u_asRef0, Option.bind_some, nbeq, Nm_beq_self, decide_true, cond_true, cond_false]
  · have c := e_Count q 1048576 hq
    simp only [c, OA_asm, OA_chk, OA_call, OA_callx, OA_loop, OA_both_id, u_asA, u_asC, u_asI, u_asB, u_asS, u_asL, u_asOwn, u_asN, u_asRef0, Option.bind_some, nbeq, Nm_beq_self, decide_true, cond_true, cond_false]
  · have l1 := nS_len q
    have c := e_Num q hq
    have c2 := e_Num (nS q).2 (by omega)
    simp only [c, c2, OA_asm, OA_chk, OA_call, OA_callx, OA_loop, OA_both_id, u_asA, u_asC, u_asI, u_asB, u_asS, u_asL, u_asOwn, u_asN, u_asRef0, Option.bind_some, nbeq, Nm_beq_self, decide_true, cond_true, cond_false]
  · have c := c_readField q hq
    simp only [c, OA_asm, OA_chk, OA_call, OA_callx, OA_loop, OA_both_id, u_asA, u_asC, u_asI, u_asB, u_asS, u_asL, u_asOwn, u_asN, u_asRef0, Option.bind_some, nbeq, Nm_beq_self, decide_true, cond_true, cond_false]
  · have l1 := nS_len q
    have c := e_Num q hq
    have c2 := e_Text (nS q).2 32 (by omega)
    simp only [c, c2, OA_asm, OA_chk, OA_call, OA_callx, OA_loop, OA_both_id, u_asA, u_asC, u_asI, u_asB, u_asS, u_asL, u_asOwn, u_asN, u_asRef0, Option.bind_some, nbeq, Nm_beq_self, decide_true, cond_true, cond_false]
  · have l1 := cS_len q 64
    have g1 := cS_rng q (m := 64) (by omega)
    have c := e_Count q 64 hq
    have k := c_treadT (cS q 64).1.toNat 0 x (cS q 64).2 (by omega) (by omega) (by omega)
    rw [Nat.zero_add, Int.toNat_of_nonneg g1.1] at k
    simp only [Int.natCast_zero, stpO] at k
    simp only [c, k, OA_asm, OA_chk, OA_call, OA_callx, OA_loop, OA_both_id, u_asA, u_asC, u_asI, u_asB, u_asS, u_asL, u_asOwn, u_asN, u_asRef0, Option.bind_some, nbeq, Nm_beq_self, decide_true, cond_true, cond_false]
  · have l1 := cS_len q 8
    have g1 := cS_rng q (m := 8) (by omega)
    have c := e_Count q 8 hq
    have k := c_treadF (cS q 8).1.toNat 0 x (cS q 8).2 (by omega) (by omega) (by omega)
    rw [Nat.zero_add, Int.toNat_of_nonneg g1.1] at k
    simp only [Int.natCast_zero, stpO] at k
    simp only [c, k, OA_asm, OA_chk, OA_call, OA_callx, OA_loop, OA_both_id, u_asA, u_asC, u_asI, u_asB, u_asS, u_asL, u_asOwn, u_asN, u_asRef0, Option.bind_some, nbeq, Nm_beq_self, decide_true, cond_true, cond_false]
theorem c_tParseK (l : List Stp) (n i : Int) (u : List Int) (hu : u.length ≤ 5) (hok : ∀ p ∈ u, 0 ≤ p ∧ p ≤ 9) : ∀ (r : List Int) (k : Nat) (x : Stp) (q : St), u.drop k = r → q.1.length ≤ 140737488355328 → x.t.length + 64 * r.length ≤ 900 → x.fields.length + 64 * r.length ≤ 900 →
    ltbl E0 60 0 7 [.lst (.own (.L 5)) 16 (l.map stpV), .int .i64 n, .int .i64 i, intsV u, .int .i64 u.length, .int .i64 k] [stpO x (.O 1006 14) (.O 1006 15), [.lst .ro 1 (encB q.1), .int .i64 q.2]] = some (3, [.lst (.own (.L 5)) 16 (l.map stpV), .int .i64 n, .int .i64 i], [stpO (rdPs r x q).1 (.O 1006 14) (.O 1006 15), [.lst .ro 1 (encB (rdPs r x q).2.1), .int .i64 (rdPs r x q).2.2]]) := by
  intro r
  induction r with
  | nil =>
    intro k x q hr hq hx hf
    have h : u.length ≤ k := by simpa using hr
    refine t_tParseK _ _ _ _ _ _ _ _ _ ?_
    have : ¬ ((k : Int) < u.length) := by omega
    simp only [s_tParseK, this, decide_false, cond_false, rdPs]
  | cons p r ih =>
    intro k x q hr hq hx hf
    obtain ⟨hlt, hget, hr2⟩ := drop_c hr
    have h2 : (k : Int) < u.length := by omega
    have e1 := i64_succ (i := k) (by omega)
    have hl := setP_len x p q
    have g := setP_tlen x p q
    simp only [List.length_cons] at hx hf
    have c := c_tread x p (hok p (mem_drop hr)) q hq (by omega) (by omega)
    have h := ih (k + 1) (setP x p q).1 (setP x p q).2 hr2 (by omega) (by omega) (by omega)
    simp only [stpO, intsV] at c h
    refine t_tParseK _ _ _ _ _ _ _ _ _ ?_
    simp only [s_tParseK, h2, Int.natCast_nonneg, nthE, Int.toNat_natCast, List.getElem?_map, hget, Option.map_some, OA_asm, OA_chk, OA_call, OA_callx, OA_loop, OA_both_id, u_asA, u_asC, u_asI, u_asB, u_asS, u_asL, u_asOwn, u_asN, u_asRef0, Option.bind_some, nbeq, Nm_beq_self, decide_true, cond_true, cond_false, c, e1, rdPs, stpO]
    exact h
theorem c_tParseL : ∀ (j i : Nat) (l : List Stp) (q : St), q.1.length ≤ 140737488355328 → l.length + j ≤ 1000 → i + j ≤ 1000 →
    ltbl E0 60 0 4 [.lst (.own (.L 5)) 16 (l.map stpV), .int .i64 ((i + j : Nat) : Int), .int .i64 i] [[.lst .ro 1 (encB q.1), .int .i64 q.2]] = some (1, [.lst (.own (.L 5)) 16 ((l ++ (tkStps j q).1).map stpV)], [[.lst .ro 1 (encB (tkStps j q).2.1), .int .i64 (tkStps j q).2.2]]) := by
  intro j
  induction j with
  | zero =>
    intro i l q hq hl hk
    refine t_tParseL _ _ _ _ _ ?_
    have : ¬ ((i : Int) < ((i + 0 : Nat) : Int)) := by omega
    simp only [s_tParseL, this, decide_false, cond_false, tkStps, List.append_nil]
  | succ j ih =>
    intro i l q hq hl hk
    have h2 : (i : Int) < ((i + (j + 1) : Nat) : Int) := by omega
    have e1 := i64_succ (i := i) (by omega)
    have l1 := cS_len q 30
    have l2 := tkStp_len q
    have c := e_Count q 30 hq
    have c2 := c_tuses (cS q 30).1
    have hul := uses_len (cS q 30).1
    have k := c_tParseK l ((i + (j + 1) : Nat) : Int) (i : Int) (usesS (cS q 30).1) hul (uses_rng _) (usesS (cS q 30).1) 0 (stp0 (cS q 30).1) (cS q 30).2 rfl (by omega) (by simp [stp0]; omega) (by simp [stp0]; omega)
    have h := ih (i + 1) (l ++ [(tkStp q).1]) (tkStp q).2 (by omega) (by simp; omega) (by omega)
    rw [show i + 1 + j = i + (j + 1) by omega] at h
    simp only [List.map_append, List.map_cons, List.map_nil, List.append_assoc, List.singleton_append, tkStp, stpV, stpC, intsV, fldsV] at h
    simp only [Int.natCast_zero, stpO, stp0, intsV, List.map_nil, fld0] at k
    refine t_tParseL _ _ _ _ _ ?_
    have q1 : (l.length + 1) * 168 ≤ 140737488355328 := by omega
    simp only [s_tParseL, h2, OA_asm, OA_chk, OA_call, OA_callx, OA_loop, OA_both_id, u_asA, u_asC, u_asI, u_asB, u_asS, u_asL, u_asOwn, u_asN, u_asRef0, Option.bind_some, nbeq, Nm_beq_self, decide_true, cond_true, cond_false, c, c2, k, List.length_map, List.length_cons, List.length_nil, Nat.zero_add, q1, e1, tkStps, List.map_append, List.map_cons, tkStp, stp0, fld0] at h ⊢
    exact h
theorem c_Parse1 (x : Stp) (hx : x.ok) (hs : x.sml) : tbl E0 100 [stpV x] [] = some ([.bool (!tRightS x)], []) :=
  t_Parse1 x (by
    have c := c_tRight x hx hs
    simp only [stpV, stpC, intsV, fldsV] at c
    simp only [s_Parse1, OA_asm, OA_chk, OA_call, OA_callx, OA_loop, OA_both_id, u_asA, u_asC, u_asI, u_asB, u_asS, u_asL, u_asOwn, u_asN, u_asRef0, Option.bind_some, nbeq, Nm_beq_self, decide_true, cond_true, cond_false, c])
theorem c_IndexSL (l : List Stp) (hl : l.length ≤ 1000) (hok : ∀ x ∈ l, x.ok ∧ x.sml) : ∀ (r : List Stp) (i : Nat), l.drop i = r →
    ∃ z : Int, (if r.all tRightS then ltbl E0 139 0 2 [stpsV l, .clo 100 [], .int .i64 l.length, .int .i64 i] [] = some (1, [], []) else 0 ≤ z ∧ ltbl E0 139 0 2 [stpsV l, .clo 100 [], .int .i64 l.length, .int .i64 i] [] = some (0, [.int .i64 z], [])) := by
  intro r
  induction r with
  | nil =>
    intro i hr
    have h : l.length ≤ i := by simpa using hr
    refine ⟨0, ?_⟩
    simp only [List.all_nil, if_true]
    refine t_IndexSL _ _ _ ?_
    have : ¬ ((i : Int) < l.length) := by omega
    simp [s_IndexSL, this]
  | cons x r ih =>
    intro i hr
    obtain ⟨hlt, hget, hr2⟩ := drop_c hr
    have h2 : (i : Int) < l.length := by omega
    have e1 := i64_succ (i := i) (by omega)
    obtain ⟨x1, x2⟩ := hok x (mem_drop hr)
    have c := c_Parse1 x x1 x2
    simp only [stpV, stpC, intsV, fldsV] at c
    obtain ⟨z, h⟩ := ih (i + 1) hr2
    rcases bor (tRightS x) with hq | hq
    · have e : ∀ {y}, ltbl E0 139 0 2 [stpsV l, .clo 100 [], .int .i64 l.length, .int .i64 ((i + 1 : Nat) : Int)] [] = some y → ltbl E0 139 0 2 [stpsV l, .clo 100 [], .int .i64 l.length, .int .i64 i] [] = some y := fun {y} hy => by
        refine t_IndexSL _ _ _ ?_
        simp only [s_IndexSL, h2, Int.natCast_nonneg, nthE, Int.toNat_natCast, List.getElem?_map, hget, Option.map_some, OA_asm, OA_chk, OA_call, OA_callx, OA_loop, OA_both_id, u_asA, u_asC, u_asI, u_asB, u_asS, u_asL, u_asOwn, u_asN, u_asRef0, Option.bind_some, nbeq, Nm_beq_self, decide_true, cond_true, cond_false, c, e1, hq, Bool.not_true]
        exact hy
      refine ⟨z, ?_⟩
      simp only [List.all_cons, hq, Bool.true_and]
      rcases bor (r.all tRightS) with hb | hb
      · simp only [hb, if_true] at h ⊢
        exact e h
      · simp only [hb, Bool.false_eq_true, if_false] at h ⊢
        exact ⟨h.1, e h.2⟩
    · refine ⟨(i : Int), ?_⟩
      simp only [List.all_cons, hq, Bool.false_and, Bool.false_eq_true, if_false]
      refine ⟨by omega, t_IndexSL _ _ _ ?_⟩
      simp only [s_IndexSL, h2, Int.natCast_nonneg, nthE, Int.toNat_natCast, List.getElem?_map, hget, Option.map_some, OA_asm, OA_chk, OA_call, OA_callx, OA_loop, OA_both_id, u_asA, u_asC, u_asI, u_asB, u_asS, u_asL, u_asOwn, u_asN, u_asRef0, Option.bind_some, nbeq, Nm_beq_self, decide_true, cond_true, cond_false, c, e1, hq, Bool.not_false]
theorem c_ContainsS (l : List Stp) (hl : l.length ≤ 1000) (hok : ∀ x ∈ l, x.ok ∧ x.sml) : tbl E0 99 [stpsV l, .clo 100 []] [] = some ([.bool (!l.all tRightS)], []) := by
  obtain ⟨z, h⟩ := c_IndexSL l hl hok l 0 rfl
  simp only [Int.natCast_zero] at h
  refine t_ContainsS l ?_
  rcases bor (l.all tRightS) with hb | hb
  · simp only [hb, if_true] at h ⊢
    have c : tbl E0 139 [stpsV l, .clo 100 []] [] = some ([.int .i64 (-1)], []) := t_IndexS l (by simp only [s_IndexS, List.length_map, OA_asm, OA_chk, OA_call, OA_callx, OA_loop, OA_both_id, u_asA, u_asC, u_asI, u_asB, u_asS, u_asL, u_asOwn, u_asN, u_asRef0, Option.bind_some, nbeq, Nm_beq_self, decide_true, cond_true, cond_false, h]; rfl)
    simp only [s_ContainsS, OA_asm, OA_chk, OA_call, OA_callx, OA_loop, OA_both_id, u_asA, u_asC, u_asI, u_asB, u_asS, u_asL, u_asOwn, u_asN, u_asRef0, Option.bind_some, nbeq, Nm_beq_self, decide_true, cond_true, cond_false, c]
    rfl
  · simp only [hb, Bool.false_eq_true, if_false] at h ⊢
    have c : tbl E0 139 [stpsV l, .clo 100 []] [] = some ([.int .i64 z], []) := t_IndexS l (by simp only [s_IndexS, List.length_map, OA_asm, OA_chk, OA_call, OA_callx, OA_loop, OA_both_id, u_asA, u_asC, u_asI, u_asB, u_asS, u_asL, u_asOwn, u_asN, u_asRef0, Option.bind_some, nbeq, Nm_beq_self, decide_true, cond_true, cond_false, h.2])
    have hz : z ≥ 0 := h.1
    simp only [s_ContainsS, OA_asm, OA_chk, OA_call, OA_callx, OA_loop, OA_both_id, u_asA, u_asC, u_asI, u_asB, u_asS, u_asL, u_asOwn, u_asN, u_asRef0, Option.bind_some, nbeq, Nm_beq_self, decide_true, cond_true, cond_false, c, hz]
    rfl
end Go.Proofs.Ythmocicjocjdoaa.V
namespace Go.Proofs.Ythmocicjocjdoaa.V
open Go
theorem cS_i64 (q : St) (m : Int) (hm : 0 ≤ m) (hm2 : m ≤ 1048576) : i64 (cS q m).1 := by
  have := cS_rng q hm
  unfold i64; omega
theorem nS_i64 (q : St) : i64 (nS q).1 := unz_range (grpS_bound q.1 q.2)
theorem tkFldW_ok (q : St) : (tkFldW q).1.ok := ⟨cS_i64 _ _ (by omega) (by omega), cS_i64 _ _ (by omega) (by omega), nS_i64 _, nS_i64 _, cS_i64 _ _ (by omega) (by omega)⟩
theorem tkFldsW_ok : ∀ (n : Nat) (q : St), ∀ f ∈ (tkFldsW n q).1, f.ok
  | 0, q, f, h => by cases h
  | n + 1, q, f, h => by
    simp only [tkFldsW, List.mem_cons] at h
    rcases h with rfl | h
    · exact tkFldW_ok q
    · exact tkFldsW_ok n _ f h
theorem tkInts_ok : ∀ (n : Nat) (q : St), ∀ f ∈ (tkInts n q).1, i64 f
  | 0, q, f, h => by cases h
  | n + 1, q, f, h => by
    simp only [tkInts, List.mem_cons] at h
    rcases h with rfl | h
    · exact cS_i64 _ _ (by omega) (by omega)
    · exact tkInts_ok n _ f h
theorem setP_ok {x : Stp} (hx : x.ok) (p : Int) (q : St) : (setP x p q).1.ok := by
  obtain ⟨h1, h2, h3, h4, h5, h6, h7, h8, h9, h10, h11⟩ := hx
  have g0 := cS_i64 q 200 (by omega) (by omega)
  have g1 := cS_i64 q 255 (by omega) (by omega)
  have g2 := cS_i64 q 8 (by omega) (by omega)
  have g3 := cS_i64 q 1048576 (by omega) (by omega)
  have g4 := nS_i64 q
  have g5 := nS_i64 (nS q).2
  have g6 := tkFldW_ok q
  unfold setP
  repeat' split
  · exact ⟨h1, g0, h3, h4, h5, h6, h7, h8, h9, h10, h11⟩
  · exact ⟨h1, h2, g1, h4, h5, h6, h7, h8, h9, h10, h11⟩
  · exact ⟨h1, h2, h3, g2, h5, h6, h7, h8, h9, h10, h11⟩
  · exact ⟨h1, h2, h3, h4, g1, h6, h7, h8, h9, h10, h11⟩
  · exact ⟨h1, h2, h3, h4, h5, g3, h7, h8, h9, h10, h11⟩
  · exact ⟨h1, h2, h3, h4, h5, g4, g5, h8, h9, h10, h11⟩
  · exact ⟨h1, h2, h3, h4, h5, h6, h7, g6, h9, h10, h11⟩
  · exact ⟨h1, h2, h3, h4, h5, h6, h7, h8, g4, h10, h11⟩
  · exact ⟨h1, h2, h3, h4, h5, h6, h7, h8, h9, fun n hn => (List.mem_append.1 hn).elim (h10 n) (tkInts_ok _ _ n), h11⟩
  · exact ⟨h1, h2, h3, h4, h5, h6, h7, h8, h9, h10, fun n hn => (List.mem_append.1 hn).elim (h11 n) (tkFldsW_ok _ _ n)⟩
theorem rdPs_ok : ∀ (l : List Int) (x : Stp) (q : St), x.ok → (rdPs l x q).1.ok
  | [], x, q, h => h
  | p :: l, x, q, h => rdPs_ok l _ _ (setP_ok h p q)
theorem rdPs_tlen : ∀ (l : List Int) (x : Stp) (q : St), (rdPs l x q).1.t.length ≤ x.t.length + 64 * l.length ∧ (rdPs l x q).1.fields.length ≤ x.fields.length + 64 * l.length
  | [], x, q => ⟨Nat.le_refl _, Nat.le_refl _⟩
  | p :: l, x, q => by
    have h1 := rdPs_tlen l (setP x p q).1 (setP x p q).2
    have h2 := setP_tlen x p q
    rw [rdPs, List.length_cons]
    omega
theorem tkStp_ok (q : St) : (tkStp q).1.ok ∧ (tkStp q).1.sml := by
  have z : i64 0 := by unfold i64; omega
  have h1 := rdPs_tlen (usesS (cS q 30).1) (stp0 (cS q 30).1) (cS q 30).2
  have h2 := uses_len (cS q 30).1
  simp only [stp0, List.length_nil] at h1
  refine ⟨rdPs_ok _ _ _ ⟨cS_i64 _ _ (by omega) (by omega), z, z, z, z, z, z, ⟨z, z, z, z, z⟩, z, by simp [stp0], by simp [stp0]⟩, ?_, ?_⟩
  · show (rdPs _ _ _).1.t.length ≤ _
    unfold stp0; omega
  · show (rdPs _ _ _).1.fields.length ≤ _
    unfold stp0; omega
theorem tkStps_ok : ∀ (n : Nat) (q : St), ∀ f ∈ (tkStps n q).1, f.ok ∧ f.sml
  | 0, q, f, h => by cases h
  | n + 1, q, f, h => by
    simp only [tkStps, List.mem_cons] at h
    rcases h with rfl | h
    · exact tkStp_ok q
    · exact tkStps_ok n _ f h
theorem tkLst_ok (b : List UInt8) : (∀ f ∈ (tkLst b).1, f.ok ∧ f.sml) ∧ (tkLst b).1.length ≤ 40 := by
  refine ⟨tkStps_ok _ _, ?_⟩
  have := cS_rng (b, 0) (m := 40) (by omega)
  unfold tkLst
  rw [tkStps_n]
  omega
theorem parT_ok (b : List UInt8) : (∀ f ∈ (parT b).1, f.ok ∧ f.sml) ∧ (parT b).1.length ≤ 40 := by
  have h := tkLst_ok b
  unfold parT
  repeat' split
  · simp
  · exact h
  · simp
theorem c_tParse (b : List UInt8) (hb : b.length ≤ 140737488355328) : tbl E0 60 [.lst .ro 1 (encB b)] [] = some ([stpsV (parT b).1, .int .i64 (parT b).2], []) :=
  t_tParse b (by
    have l1 := cS_len (b, 0) 40
    have l2 := cS_rng (b, 0) (m := 40) (by omega)
    have c0 := c_Of b hb
    have c1 := e_Count (b, 0) 40 hb
    have k := c_tParseL (cS (b, 0) 40).1.toNat 0 [] (cS (b, 0) 40).2 (Nat.le_trans l1 hb) (by simp; omega) (by omega)
    rw [Nat.zero_add, Int.toNat_of_nonneg l2.1] at k
    simp only [Int.natCast_zero, List.map_nil, List.nil_append] at k
    have d := c_End (tkLst b).2.1 (tkLst b).2.2
    simp only [eyeV] at d
    have hk := tkLst_ok b
    have r := c_ContainsS (tkLst b).1 (by omega) hk.1
    simp only [stpsV] at r
    obtain ⟨en, hen⟩ : ∃ en, endS (tkLst b).2.1 (tkLst b).2.2 = en := ⟨_, rfl⟩
    obtain ⟨q, hq⟩ : ∃ q, (tkLst b).1.all tRightS = q := ⟨_, rfl⟩
    unfold parT
    simp only [hen, hq] at d r ⊢
    simp only [tkLst] at d r ⊢
    simp only [s_tParse, OA_asm, OA_chk, OA_call, OA_callx, OA_loop, OA_both_id, u_asA, u_asC, u_asI, u_asB, u_asS, u_asL, u_asOwn, u_asN, u_asRef0, Option.bind_some, nbeq, Nm_beq_self, decide_true, cond_true, cond_false, c0, c1, k, d]
    by_cases he : en = 0
    · subst he
      rcases bor q with h | h
      · subst h
        simp [r]
      · subst h
        simp [r]
    · simp [he])
end Go.Proofs.Ythmocicjocjdoaa.V
namespace Go.Proofs.Ythmocicjocjdoaa.V
open Go
theorem c_SameListTL (x y : List Stp) (hl : x.length ≤ 1000) (he : x.length = y.length) (hok : ∀ a ∈ x, a.sml) : ∀ (r r' : List Stp) (i : Nat), x.drop i = r → y.drop i = r' →
    ltbl E0 47 0 4 [stpsV x, stpsV y, .int .i64 i] [] = some (if r = r' then (1, [], []) else (0, [.bool false], [])) := by
  intro r
  induction r with
  | nil =>
    intro r' i hr hr'
    have h : x.length ≤ i := by simpa using hr
    have h3 : r' = [] := by rw [← hr', List.drop_eq_nil_iff]; omega
    have : ¬ ((i : Int) < x.length) := by omega
    subst h3
    exact t_SameListTL _ _ _ (by simp [s_SameListTL, this])
  | cons a r ih =>
    intro r' i hr hr'
    obtain ⟨hlt, hget, hr2⟩ := drop_c hr
    have hlt' : i < y.length := by omega
    rw [List.drop_eq_getElem_cons hlt'] at hr'
    subst hr'
    have hg2 : y[i]? = some y[i] := List.getElem?_eq_getElem hlt'
    generalize y[i] = g at *
    have h2 : (i : Int) < x.length := by omega
    have e1 := i64_succ (i := i) (by omega)
    have h := ih _ (i + 1) hr2 rfl
    have c := c_ytSame a g (hok a (mem_drop hr))
    simp only [stpV, stpC, intsV, fldsV] at c
    refine t_SameListTL _ _ _ ?_
    simp only [s_SameListTL, List.length_map, h2, Int.natCast_nonneg, nthE, Int.toNat_natCast, List.getElem?_map, hget, hg2, Option.map_some, OA_asm, OA_chk, OA_call, OA_callx, OA_loop, OA_both_id, u_asA, u_asC, u_asI, u_asB, u_asS, u_asL, u_asOwn, u_asN, u_asRef0, Option.bind_some, nbeq, Nm_beq_self, decide_true, cond_true, cond_false, c, e1]
    by_cases e : a = g
    · simp only [e, decide_true, Bool.not_true, cond_false, h, List.cons.injEq, true_and]
    · simp [e]
theorem c_SameListT (x y : List Stp) (hl : x.length ≤ 1000) (hok : ∀ a ∈ x, a.sml) : tbl E0 47 [stpsV x, stpsV y] [] = some ([.bool (decide (x = y))], []) :=
  t_SameListT x y (by
    by_cases he : x.length = y.length
    · have k := c_SameListTL x y hl he hok x y 0 rfl rfl
      simp only [Int.natCast_zero] at k
      have h' : ((x.length : Int) != (y.length : Int)) = false := by rw [he]; simp
      simp only [s_SameListT, List.length_map, OA_asm, OA_chk, OA_call, OA_callx, OA_loop, OA_both_id, u_asA, u_asC, u_asI, u_asB, u_asS, u_asL, u_asOwn, u_asN, u_asRef0, Option.bind_some, nbeq, Nm_beq_self, decide_true, cond_true, cond_false, h', k]
      by_cases e2 : x = y <;> simp [e2]
    · have : ¬ (x = y) := fun e => he (by rw [e])
      have h' : ((x.length : Int) != (y.length : Int)) = true := bne_t (by omega)
      simp only [s_SameListT, List.length_map, OA_asm, OA_chk, OA_call, OA_callx, OA_loop, OA_both_id, u_asA, u_asC, u_asI, u_asB, u_asS, u_asL, u_asOwn, u_asN, u_asRef0, Option.bind_some, nbeq, Nm_beq_self, decide_true, cond_true, cond_false, h']
      simp [this])
theorem great_sml {l : List Stp} (h : greatT l = false) : l.length ≤ 60 ∧ ∀ x ∈ l, x.sml := by
  simp only [greatT, Bool.or_eq_false_iff, decide_eq_false_iff_not, List.any_eq_false] at h
  obtain ⟨h1, h2⟩ := h
  rw [List.take_of_length_le (by omega)] at h1
  exact ⟨by omega, fun x hx => bigT_sml (by simpa using h1 x hx)⟩
end Go.Proofs.Ythmocicjocjdoaa.V
