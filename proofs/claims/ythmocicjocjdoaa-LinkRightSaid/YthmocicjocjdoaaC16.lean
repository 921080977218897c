/- What is printed of schemas, and what is read. -/
import Derived.Test.YthmocicjocjdoaaD2
import Derived.Test.YthmocicjocjdoaaP4
import Derived.Test.YthmocicjocjdoaaC11
set_option linter.unusedVariables false
set_option linter.unusedSimpArgs false
namespace Go.Proofs.Ythmocicjocjdoaa.V
open Go
/-! Fields. -/
theorem cnt_n {n : Int} (h0 : 0 ≤ n) (h1 : n ≤ 9223372036854775807) : (cnt n.toNat).length ≤ 10 := cnt_len10 (by omega)
theorem c_sread (b : List UInt8) (e : Int) (hb : b.length ≤ 140737488355328) : tbl E0 97 [.ref 0 0] (eyeV b e) = some ([fldV (tkFld (b, e)).1], eyeV (tkFld (b, e)).2.1 (tkFld (b, e)).2.2) :=
  t_sread b e (by
    have h1 := countS_len b e 255
    have h2 := countS_len (countS b e 255).2.1 (countS b e 255).2.2 4
    have c1 := c_ECount b e 255 hb
    have c2 := c_ECount (countS b e 255).2.1 (countS b e 255).2.2 4 (by omega)
    have c3 := c_ECount (countS (countS b e 255).2.1 (countS b e 255).2.2 4).2.1 (countS (countS b e 255).2.1 (countS b e 255).2.2 4).2.2 1000 (by omega)
    have c4 := c_ENum (countS (countS b e 255).2.1 (countS b e 255).2.2 4).2.1 (countS (countS b e 255).2.1 (countS b e 255).2.2 4).2.2 (by omega)
    have c5 := c_ENum (numS (countS (countS b e 255).2.1 (countS b e 255).2.2 4).2.1 (countS (countS b e 255).2.1 (countS b e 255).2.2 4).2.2).2.1 (numS (countS (countS b e 255).2.1 (countS b e 255).2.2 4).2.1 (countS (countS b e 255).2.1 (countS b e 255).2.2 4).2.2).2.2 (Nat.le_trans (grpS_len _ _) (by omega))
    simp only [eyeV] at c1 c2 c3 c4 c5
    unfold tkFld
    by_cases k1 : (countS (countS b e 255).2.1 (countS b e 255).2.2 4).1 = 1
    · simp [s_sread, c1, c2, c3, c4, c5, k1]
    · by_cases k3 : (countS (countS b e 255).2.1 (countS b e 255).2.2 4).1 = 3
      · simp [s_sread, c1, c2, c3, c4, c5, k3]
      · by_cases k4 : (countS (countS b e 255).2.1 (countS b e 255).2.2 4).1 = 4
        · simp [s_sread, c1, c2, c3, c4, c5, k4]
        · simp [s_sread, c1, c2, c3, c4, c5, k1, k3, k4])
theorem fldB_len {x : Fld} (hx : x.ok) (hr : rgtS x = true) : (fldB x).length ≤ 40 := by
  have r := rgt_rng hr
  obtain ⟨_, ⟨_, _⟩, ⟨_, _⟩, ⟨_, _⟩, ⟨_, _⟩⟩ := hx
  have h1 : (cnt x.id.toNat).length ≤ 10 := cnt_len10 (by omega)
  have h2 : (cnt x.kind.toNat).length ≤ 10 := cnt_len10 (by omega)
  have h3 : (cnt (zz x.lo)).length ≤ 10 := cnt_len10 (zz_lt (by omega) (by omega))
  have h4 : (cnt (zz x.hi)).length ≤ 10 := cnt_len10 (zz_lt (by omega) (by omega))
  have h5 : (cnt x.most.toNat).length ≤ 10 := cnt_len10 (by omega)
  unfold fldB
  simp only [List.length_append]
  split
  · simp only [List.length_append]; omega
  · split
    · omega
    · simp; omega
theorem c_swrite (b : List AV) (x : Fld) (e : Int) (hx : x.ok) (hr : rgtS x = true) (hb : b.length + 40 ≤ 140737488355328) : tbl E0 86 [.ref 0 0, fldV x] (penA b e) = some ([], penA (b ++ encB (fldB x)) e) :=
  t_swrite b x e (by
    have r := rgt_rng hr
    obtain ⟨_, ⟨_, _⟩, ⟨_, _⟩, ⟨_, _⟩, ⟨_, _⟩⟩ := hx
    have h1 : (cnt x.id.toNat).length ≤ 10 := cnt_len10 (by omega)
    have h2 : (cnt x.kind.toNat).length ≤ 10 := cnt_len10 (by omega)
    have h3 : (cnt (zz x.lo)).length ≤ 10 := cnt_len10 (zz_lt (by omega) (by omega))
    have c1 := c_PCount b x.id e (by omega) (by omega)
    have c2 := c_PCount (b ++ encB (cnt x.id.toNat)) x.kind e (by simp; omega) (by omega)
    have c3 := c_PCount (b ++ encB (cnt x.id.toNat) ++ encB (cnt x.kind.toNat)) x.most e (by simp; omega) (by omega)
    have c4 := c_PNum (b ++ encB (cnt x.id.toNat) ++ encB (cnt x.kind.toNat)) x.lo e (by simp; omega) (by omega) (by omega)
    have c5 := c_PNum (b ++ encB (cnt x.id.toNat) ++ encB (cnt x.kind.toNat) ++ encB (cnt (zz x.lo))) x.hi e (by simp; omega) (by omega) (by omega)
    have n1 : ¬ (x.id < 0) := by omega
    have n2 : ¬ (x.kind < 0) := by omega
    have n3 : ¬ (x.most < 0) := by omega
    simp only [n1, n2, n3, if_false, penA] at c1 c2 c3 c4 c5
    unfold fldB
    by_cases k1 : x.kind = 1
    · simp only [k1] at c2 c3 c4 c5
      simp_all [s_swrite, penA, encB_append]
    · by_cases k3 : x.kind = 3
      · simp only [k3] at c2 c3 c4 c5
        simp_all [s_swrite, penA, encB_append]
      · by_cases k4 : x.kind = 4
        · simp only [k4] at c2 c3 c4 c5
          simp_all [s_swrite, penA, encB_append]
        · have k2 : x.kind = 2 := by omega
          simp only [k2] at c2 c3 c4 c5
          simp_all [s_swrite, penA, encB_append])
end Go.Proofs.Ythmocicjocjdoaa.V
namespace Go.Proofs.Ythmocicjocjdoaa.V
open Go
theorem fldsB_cons (f : Fld) (l : List Fld) : fldsB (f :: l) = fldB f ++ fldsB l := by simp [fldsB]
theorem frmsB_cons (f : Frm) (l : List Frm) : frmsB (f :: l) = frmB f ++ frmsB l := by simp [frmsB]
theorem fldsB_len : ∀ (l : List Fld), FldsOK l → (fldsB l).length ≤ 40 * l.length
  | [], _ => by simp [fldsB]
  | f :: l, h => by
    have h1 := fldB_len (h f (by simp)).1 (h f (by simp)).2
    have h2 := fldsB_len l (fun g hg => h g (by simp [hg]))
    rw [fldsB_cons, List.length_append, List.length_cons]
    omega
theorem c_sPrintK (l : List Frm) (fs : List Fld) (m i : Int) (hl : fs.length ≤ 8) (hok : FldsOK fs) : ∀ (r : List Fld) (k : Nat) (b : List AV) (e : Int), fs.drop k = r → b.length + 40 * r.length + 40 ≤ 140737488355328 →
    ltbl E0 49 0 12 [frmsV l, .int .i64 m, .int .i64 i, fldsV fs, .int .i64 fs.length, .int .i64 k] [[.lst (.own (.O 1012 0)) 1 b, .int .i64 e]] = some (3, [frmsV l, .int .i64 m, .int .i64 i], [[.lst (.own (.O 1012 0)) 1 (b ++ encB (fldsB r)), .int .i64 e]]) := by
  intro r
  induction r with
  | nil =>
    intro k b e hr hb
    have h : fs.length ≤ k := by simpa using hr
    refine t_sPrintK _ _ _ _ _ _ _ _ ?_
    have : ¬ ((k : Int) < fs.length) := by omega
    simp [s_sPrintK, this, fldsB, encB_nil]
  | cons x r ih =>
    intro k b e hr hb
    obtain ⟨hlt, hget, hr2⟩ := drop_c hr
    have h2 : (k : Int) < fs.length := by omega
    have e1 := i64_succ (i := k) (by omega)
    obtain ⟨x1, x2⟩ := hok x (mem_drop hr)
    have hx := fldB_len x1 x2
    simp only [List.length_cons] at hb
    have h := ih (k + 1) (b ++ encB (fldB x)) e hr2 (by simp; omega)
    have c := c_swrite b x e x1 x2 (by omega)
    simp only [penA] at c
    refine t_sPrintK _ _ _ _ _ _ _ _ ?_
    rw [fldsB_cons, encB_append, ← List.append_assoc, ← h]
    simp only [s_sPrintK, OA_asm, List.length_map, h2, decide_true, cond_true, OA_chk, Int.natCast_nonneg, nthE, Int.toNat_natCast, List.getElem?_map, hget, Option.map_some, u_asA, u_asC, u_asI, u_asB, u_asL, u_asOwn, u_asN, OA_call, c, Option.bind_some, nbeq, e1]
def FrmOK (f : Frm) : Prop := f.ok ∧ 0 ≤ f.id ∧ f.fields.length ≤ 8 ∧ FldsOK f.fields
theorem frmB_len {f : Frm} (h : FrmOK f) : (frmB f).length ≤ 340 := by
  obtain ⟨⟨⟨_, _⟩, _⟩, h2, h3, h4⟩ := h
  have h5 := fldsB_len f.fields h4
  have h6 : (cnt f.id.toNat).length ≤ 10 := cnt_len10 (by omega)
  have h7 : (cnt f.fields.length).length ≤ 10 := cnt_len10 (by omega)
  unfold frmB
  simp only [List.length_append]
  omega
theorem c_sPrintL (l : List Frm) (hl : l.length ≤ 8) (hok : ∀ f ∈ l, FrmOK f) : ∀ (r : List Frm) (i : Nat) (b : List AV) (e : Int), l.drop i = r → b.length + 400 * r.length + 400 ≤ 140737488355328 →
    ltbl E0 49 0 7 [frmsV l, .int .i64 l.length, .int .i64 i] [[.lst (.own (.O 1012 0)) 1 b, .int .i64 e]] = some (1, [], [[.lst (.own (.O 1012 0)) 1 (b ++ encB (frmsB r)), .int .i64 e]]) := by
  intro r
  induction r with
  | nil =>
    intro i b e hr hb
    have h : l.length ≤ i := by simpa using hr
    refine t_sPrintL _ _ _ _ _ ?_
    have : ¬ ((i : Int) < l.length) := by omega
    simp [s_sPrintL, this, frmsB, encB_nil]
  | cons x r ih =>
    intro i b e hr hb
    obtain ⟨hlt, hget, hr2⟩ := drop_c hr
    have h2 : (i : Int) < l.length := by omega
    have e1 := i64_succ (i := i) (by omega)
    have hx := hok x (mem_drop hr)
    have hxl := frmB_len hx
    obtain ⟨⟨⟨_, _⟩, _⟩, x2, x3, x4⟩ := hx
    have h6 : (cnt x.id.toNat).length ≤ 10 := cnt_len10 (by omega)
    have h7 : (cnt x.fields.length).length ≤ 10 := cnt_len10 (by omega)
    simp only [List.length_cons] at hb
    have h := ih (i + 1) (b ++ encB (frmB x)) e hr2 (by simp; omega)
    have c1 := c_PCount b x.id e (by omega) (by omega)
    have c2 := c_PCount (b ++ encB (cnt x.id.toNat)) x.fields.length e (by simp; omega) (by omega)
    rw [if_neg (by omega)] at c1 c2
    simp only [penA, Int.toNat_natCast] at c1 c2
    have k := c_sPrintK l x.fields (l.length : Int) (i : Int) x3 x4 x.fields 0 (b ++ encB (cnt x.id.toNat) ++ encB (cnt x.fields.length)) e rfl (by simp; omega)
    simp only [Int.natCast_zero] at k
    refine t_sPrintL _ _ _ _ _ ?_
    have eb : b ++ encB (frmsB (x :: r)) = b ++ encB (frmB x) ++ encB (frmsB r) := by rw [frmsB_cons, encB_append, List.append_assoc]
    have ek : b ++ encB (cnt x.id.toNat) ++ encB (cnt x.fields.length) ++ encB (fldsB x.fields) = b ++ encB (frmB x) := by unfold frmB; simp only [encB_append, List.append_assoc]
    rw [eb, ← h, ← ek]
    simp only [s_sPrintL, OA_asm, List.length_map, h2, decide_true, cond_true, OA_chk, Int.natCast_nonneg, nthE, Int.toNat_natCast, List.getElem?_map, hget, Option.map_some, u_asA, u_asC, u_asI, u_asB, u_asL, u_asOwn, u_asN, OA_call, OA_loop, c1, c2, k, Option.bind_some, nbeq, e1, Nm_beq_self]
theorem frmOK_of {s : Sch} (hs : s.ok) (hr : schS s = true) : s.forms.length ≤ 8 ∧ ∀ f ∈ s.forms, FrmOK f := by
  obtain ⟨h1, h2, h3⟩ := (schS_iff s).1 hr
  refine ⟨h2, fun f hf => ?_⟩
  obtain ⟨a1, a2, _, a4, _⟩ := (fineS_iff f).1 (risingS_all _ _ h3 f hf)
  exact ⟨hs.2 f hf, a1.1, a2.2, fun x hx => ⟨(hs.2 f hf).2 x hx, a4 x hx⟩⟩
theorem frmsB_len : ∀ (l : List Frm), (∀ f ∈ l, FrmOK f) → (frmsB l).length ≤ 340 * l.length
  | [], _ => by simp [frmsB]
  | f :: l, h => by
    have h1 := frmB_len (h f (by simp))
    have h2 := frmsB_len l (fun g hg => h g (by simp [hg]))
    rw [frmsB_cons, List.length_append, List.length_cons]
    omega
theorem schB_len {s : Sch} (hs : s.ok) (hr : schS s = true) : (schB s).length ≤ 4000 := by
  obtain ⟨h1, h2⟩ := frmOK_of hs hr
  obtain ⟨h3, _, _⟩ := (schS_iff s).1 hr
  have h4 := frmsB_len s.forms h2
  have h6 : (cnt s.ver.toNat).length ≤ 10 := cnt_len10 (by omega)
  have h7 : (cnt s.forms.length).length ≤ 10 := cnt_len10 (by omega)
  unfold schB
  simp only [List.length_append]
  omega
theorem c_sPrint (s : Sch) (hs : s.ok) (hm : Sml s) : tbl E0 49 [schV s] [] = some ([.lst .ro 1 (if schS s then encB (schB s) else []), .int .i64 (if schS s then 0 else 2)], []) :=
  t_sPrint s (by
    have c0 := c_sRight s hm
    rcases bor (schS s) with hb | hb
    · obtain ⟨h1, h2⟩ := frmOK_of hs hb
      obtain ⟨h3, _, _⟩ := (schS_iff s).1 hb
      have h6 : (cnt s.ver.toNat).length ≤ 10 := cnt_len10 (by omega)
      have h7 : (cnt s.forms.length).length ≤ 10 := cnt_len10 (by omega)
      have hl := schB_len hs hb
      have c1 := c_PCount [] s.ver 0 (by simp) (by omega)
      have c2 := c_PCount (encB (cnt s.ver.toNat)) s.forms.length 0 (by simp; omega) (by omega)
      rw [if_neg (by omega)] at c1 c2
      simp only [penA, Int.toNat_natCast, List.nil_append] at c1 c2
      have k := c_sPrintL s.forms h1 h2 s.forms 0 (encB (cnt s.ver.toNat) ++ encB (cnt s.forms.length)) 0 rfl (by simp; omega)
      simp only [Int.natCast_zero] at k
      have ek : encB (cnt s.ver.toNat) ++ encB (cnt s.forms.length) ++ encB (frmsB s.forms) = encB (schB s) := by unfold schB; simp only [encB_append]
      rw [ek] at k
      have d := c_PDone (schB s) 0 (by omega)
      simp only [penV, penA, if_true] at d
      simp only [s_sPrint, hb, OA_asm, List.length_map, decide_true, cond_true, cond_false, Bool.not_true, OA_chk, u_asA, u_asC, u_asI, u_asB, u_asL, u_asOwn, u_asN, u_asRef0, OA_call, OA_callx, OA_loop, c0, c_New, c1, c2, k, d, Option.bind_some, nbeq, Nm_beq_self, if_true]
    · simp only [s_sPrint, hb, OA_asm, cond_true, Bool.not_false, OA_chk, u_asC, u_asB, u_asN, OA_callx, c0, Option.bind_some, if_false, Bool.false_eq_true])
end Go.Proofs.Ythmocicjocjdoaa.V
namespace Go.Proofs.Ythmocicjocjdoaa.V
open Go
theorem c_sParseK (l : List Frm) (v w n i : Int) : ∀ (j k : Nat) (fs : List Fld) (b : List UInt8) (e : Int), b.length ≤ 140737488355328 → fs.length + j ≤ 1000 → k + j ≤ 1000 →
    ltbl E0 59 0 7 [.int .i64 n, .int .i64 i, .int .i64 ((k + j : Nat) : Int), .int .i64 k] [[.int .i64 0, .lst .ro 2 []], [.int .i64 v, .lst (.own (.O 1005 1)) 2 (l.map frmV)], [.int .i64 w, .lst (.own (.O 1006 1)) 5 (fs.map fldV)], [.lst .ro 1 (encB b), .int .i64 e]] =
      some (3, [.int .i64 n, .int .i64 i], [[.int .i64 0, .lst .ro 2 []], [.int .i64 v, .lst (.own (.O 1005 1)) 2 (l.map frmV)], [.int .i64 w, .lst (.own (.O 1006 1)) 5 ((fs ++ (tkFlds j (b, e)).1).map fldV)], [.lst .ro 1 (encB (tkFlds j (b, e)).2.1), .int .i64 (tkFlds j (b, e)).2.2]]) := by
  intro j
  induction j with
  | zero =>
    intro k fs b e hb hf hk
    refine t_sParseK _ _ _ _ _ _ _ _ _ _ ?_
    have : ¬ ((k : Int) < ((k + 0 : Nat) : Int)) := by omega
    simp only [s_sParseK, this, decide_false, cond_false, tkFlds, List.append_nil]
  | succ j ih =>
    intro k fs b e hb hf hk
    have h2 : (k : Int) < ((k + (j + 1) : Nat) : Int) := by omega
    have e1 := i64_succ (i := k) (by omega)
    have hl := tkFld_len (b, e)
    have h := ih (k + 1) (fs ++ [(tkFld (b, e)).1]) (tkFld (b, e)).2.1 (tkFld (b, e)).2.2 (Nat.le_trans hl hb) (by simp; omega) (by omega)
    have c := c_sread b e hb
    simp only [eyeV] at c
    rw [show k + 1 + j = k + (j + 1) by omega] at h
    simp only [List.map_append, List.map_cons, List.map_nil, List.append_assoc, List.singleton_append] at h
    refine t_sParseK _ _ _ _ _ _ _ _ _ _ ?_
    have q : (fs.length + 1) * 40 ≤ 140737488355328 := by omega
    simp only [tkFlds, List.map_append, List.map_cons]
    rw [← h]
    simp only [s_sParseK, h2, decide_true, cond_true, OA_both_id, OA_chk, u_asA, u_asC, u_asI, u_asB, u_asL, u_asOwn, u_asN, OA_call, c, Option.bind_some, List.length_map, List.length_cons, List.length_nil, Nat.zero_add, q, nbeq, e1]
theorem c_sParseL (v : Int) : ∀ (j i : Nat) (l : List Frm) (b : List UInt8) (e : Int), b.length ≤ 140737488355328 → l.length + j ≤ 1000 → i + j ≤ 1000 →
    ltbl E0 59 0 4 [.int .i64 ((i + j : Nat) : Int), .int .i64 i] [[.int .i64 0, .lst .ro 2 []], [.int .i64 v, .lst (.own (.O 1005 1)) 2 (l.map frmV)], [.lst .ro 1 (encB b), .int .i64 e]] =
      some (1, [], [[.int .i64 0, .lst .ro 2 []], [.int .i64 v, .lst (.own (.O 1005 1)) 2 ((l ++ (tkFrms j (b, e)).1).map frmV)], [.lst .ro 1 (encB (tkFrms j (b, e)).2.1), .int .i64 (tkFrms j (b, e)).2.2]]) := by
  intro j
  induction j with
  | zero =>
    intro i l b e hb hf hk
    refine t_sParseL _ _ _ _ _ _ ?_
    have : ¬ ((i : Int) < ((i + 0 : Nat) : Int)) := by omega
    simp only [s_sParseL, this, decide_false, cond_false, tkFrms, List.append_nil, List.map_nil]
  | succ j ih =>
    intro i l b e hb hf hk
    have h2 : (i : Int) < ((i + (j + 1) : Nat) : Int) := by omega
    have e1 := i64_succ (i := i) (by omega)
    have hl := tkFrm_len (b, e)
    have h := ih (i + 1) (l ++ [(tkFrm (b, e)).1]) (tkFrm (b, e)).2.1 (tkFrm (b, e)).2.2 (Nat.le_trans hl hb) (by simp; omega) (by omega)
    have l1 := countS_len b e 200
    have l2 := countS_nonneg (countS b e 200).2.1 (countS b e 200).2.2 8
    have l3 := countS_le (countS b e 200).2.1 (countS b e 200).2.2 8
    have l4 := countS_len (countS b e 200).2.1 (countS b e 200).2.2 8
    have c1 := c_ECount b e 200 hb
    have c2 := c_ECount (countS b e 200).2.1 (countS b e 200).2.2 8 (by omega)
    have k := c_sParseK l v (countS b e 200).1 ((i + (j + 1) : Nat) : Int) (i : Int) (countS (countS b e 200).2.1 (countS b e 200).2.2 8).1.toNat 0 [] (countS (countS b e 200).2.1 (countS b e 200).2.2 8).2.1 (countS (countS b e 200).2.1 (countS b e 200).2.2 8).2.2 (by omega) (by simp; omega) (by omega)
    rw [Nat.zero_add, Int.toNat_of_nonneg l2] at k
    simp only [Int.natCast_zero, List.map_nil, List.nil_append] at k
    simp only [eyeV] at c1 c2
    rw [show i + 1 + j = i + (j + 1) by omega] at h
    simp only [List.map_append, List.map_cons, List.map_nil, List.append_assoc, List.singleton_append] at h
    refine t_sParseL _ _ _ _ _ _ ?_
    have q : (l.length + 1) * 32 ≤ 140737488355328 := by omega
    simp only [tkFrms, List.map_append, List.map_cons, List.map_nil]
    rw [← h]
    simp only [s_sParseL, h2, decide_true, cond_true, OA_chk, u_asA, u_asC, u_asI, u_asB, u_asL, u_asOwn, u_asN, OA_call, OA_loop, c1, c2, k, Option.bind_some, List.length_map, List.length_cons, List.length_nil, Nat.zero_add, q, nbeq, Nm_beq_self, e1, tkFrm]
theorem tkFrm_small (q : St) : (tkFrm q).1.fields.length ≤ 8 := by
  have l3 := countS_le (countS q.1 q.2 200).2.1 (countS q.1 q.2 200).2.2 8
  simp only [tkFrm, tkFlds_n]
  omega
theorem tkFrms_small : ∀ (n : Nat) (q : St), ∀ f ∈ (tkFrms n q).1, f.fields.length ≤ 8
  | 0, q, f, h => by cases h
  | n + 1, q, f, h => by
    simp only [tkFrms, List.mem_cons] at h
    rcases h with rfl | h
    · exact tkFrm_small q
    · exact tkFrms_small n _ f h
theorem tkSch_small (b : List UInt8) : (tkSch b).1.forms.length ≤ 8 ∧ ∀ f ∈ (tkSch b).1.forms, f.fields.length ≤ 8 := by
  have l3 := countS_le (countS b 0 65535).2.1 (countS b 0 65535).2.2 8
  refine ⟨?_, fun f hf => tkFrms_small _ _ f hf⟩
  simp only [tkSch, tkFrms_n]
  omega
theorem tkSch_sml (b : List UInt8) : Sml (tkSch b).1 := ⟨by have := (tkSch_small b).1; omega, fun f hf => by have := (tkSch_small b).2 f hf; omega⟩
theorem c_sParse (b : List UInt8) (hb : b.length ≤ 140737488355328) : tbl E0 59 [.lst .ro 1 (encB b)] [] = some ([schV (parS b).1, .int .i64 (parS b).2], []) :=
  t_sParse b (by
    have l1 := countS_len b 0 65535
    have l2 := countS_nonneg (countS b 0 65535).2.1 (countS b 0 65535).2.2 8
    have l3 := countS_le (countS b 0 65535).2.1 (countS b 0 65535).2.2 8
    have l4 := countS_len (countS b 0 65535).2.1 (countS b 0 65535).2.2 8
    have c0 := c_Of b hb
    have c1 := c_ECount b 0 65535 hb
    have c2 := c_ECount (countS b 0 65535).2.1 (countS b 0 65535).2.2 8 (by omega)
    simp only [eyeV] at c1 c2
    have k := c_sParseL (countS b 0 65535).1 (countS (countS b 0 65535).2.1 (countS b 0 65535).2.2 8).1.toNat 0 [] (countS (countS b 0 65535).2.1 (countS b 0 65535).2.2 8).2.1 (countS (countS b 0 65535).2.1 (countS b 0 65535).2.2 8).2.2 (by omega) (by simp; omega) (by omega)
    rw [Nat.zero_add, Int.toNat_of_nonneg l2] at k
    simp only [Int.natCast_zero, List.map_nil, List.nil_append] at k
    have d := c_End (tkSch b).2.1 (tkSch b).2.2
    simp only [eyeV] at d
    have r := c_sRight (tkSch b).1 (tkSch_sml b)
    obtain ⟨en, hen⟩ : ∃ en, endS (tkSch b).2.1 (tkSch b).2.2 = en := ⟨_, rfl⟩
    obtain ⟨q, hq⟩ : ∃ q, schS (tkSch b).1 = q := ⟨_, rfl⟩
    unfold parS
    simp only [hen, hq] at d r ⊢
    simp only [tkSch] at d r ⊢
    simp only [s_sParse, OA_chk, cond_true, u_asA, u_asC, u_asI, u_asB, u_asL, u_asOwn, u_asN, u_asRef0, OA_call, OA_callx, OA_loop, c0, c1, c2, k, d, Option.bind_some, nbeq, decide_true, Nm_beq_self]
    by_cases he : en = 0
    · subst he
      rcases bor q with h | h
      · subst h
        simp [r]
      · subst h
        simp [r]
    · simp [he])
end Go.Proofs.Ythmocicjocjdoaa.V
namespace Go.Proofs.Ythmocicjocjdoaa.V
open Go
end Go.Proofs.Ythmocicjocjdoaa.V
namespace Go.Proofs.Ythmocicjocjdoaa.V
open Go
theorem parS_sml (b : List UInt8) : Sml (parS b).1 := by
  unfold parS
  split
  · exact ⟨by simp, fun f hf => by simp at hf⟩
  · split
    · exact tkSch_sml b
    · exact ⟨by simp, fun f hf => by simp at hf⟩
theorem tkFld_ok (q : St) : (tkFld q).1.ok := by
  have a1 := countS_nonneg q.1 q.2 255
  have a2 := countS_le q.1 q.2 255
  have b1 := countS_nonneg (countS q.1 q.2 255).2.1 (countS q.1 q.2 255).2.2 4
  have b2 := countS_le (countS q.1 q.2 255).2.1 (countS q.1 q.2 255).2.2 4
  have z : i64 0 := by unfold i64; omega
  have u : ∀ b e, i64 (numS b e).1 := fun b e => unz_range (grpS_bound b e)
  have c : ∀ b e m, m ≤ 70000 → i64 (countS b e m).1 := fun b e m hm => by
    have h1 := countS_nonneg b e m
    have h2 := countS_le b e m
    unfold i64; omega
  unfold tkFld
  split
  · exact ⟨c _ _ _ (by omega), c _ _ _ (by omega), u _ _, u _ _, z⟩
  · split
    · exact ⟨c _ _ _ (by omega), c _ _ _ (by omega), z, z, c _ _ _ (by omega)⟩
    · exact ⟨c _ _ _ (by omega), c _ _ _ (by omega), z, z, z⟩
theorem tkFlds_ok : ∀ (n : Nat) (q : St), ∀ f ∈ (tkFlds n q).1, f.ok
  | 0, q, f, h => by cases h
  | n + 1, q, f, h => by
    simp only [tkFlds, List.mem_cons] at h
    rcases h with rfl | h
    · exact tkFld_ok q
    · exact tkFlds_ok n _ f h
theorem i64_countS (b : List UInt8) (e m : Int) (hm : m ≤ 70000) : i64 (countS b e m).1 := by
  have h1 := countS_nonneg b e m
  have h2 := countS_le b e m
  unfold i64; omega
theorem tkFrms_ok : ∀ (n : Nat) (q : St), ∀ f ∈ (tkFrms n q).1, f.ok
  | 0, q, f, h => by cases h
  | n + 1, q, f, h => by
    simp only [tkFrms, List.mem_cons] at h
    rcases h with rfl | h
    · exact ⟨i64_countS _ _ _ (by omega), tkFlds_ok _ _⟩
    · exact tkFrms_ok n _ f h
theorem parS_ok (b : List UInt8) : (parS b).1.ok := by
  have z : i64 0 := by unfold i64; omega
  unfold parS
  split
  · exact ⟨z, fun f hf => by simp at hf⟩
  · split
    · exact ⟨i64_countS _ _ _ (by omega), tkFrms_ok _ _⟩
    · exact ⟨z, fun f hf => by simp at hf⟩
end Go.Proofs.Ythmocicjocjdoaa.V
