/- Contracts of finding and comparing. -/
import Derived.Test.YthehhlaomiifnaaC9
set_option linter.unusedVariables false
set_option linter.unusedSimpArgs false
namespace Go.Proofs.Ythehhlaomiifnaa.V
open Go
def big (f : Frm) : Bool := decide (40 < f.fields.length)
def greatS (s : Sch) : Bool := (s.forms.take 41).any big || decide (40 < s.forms.length)
theorem c_sgreatL (s : Sch) : ∀ (r : List Frm) (i : Nat), s.forms.drop i = r → i ≤ 41 →
    ltbl E0 39 0 2 [.int .i64 i] [[.int .i64 s.ver, frmsV s.forms]] = some (if (r.take (41 - i)).any big then (0, [.bool true], []) else (1, [], [[.int .i64 s.ver, frmsV s.forms]])) := by
  intro r
  induction r with
  | nil =>
    intro i hr hi
    have h : s.forms.length ≤ i := by simpa using hr
    refine t_sgreatL _ _ ?_
    have : ¬ ((i : Int) < s.forms.length) := by omega
    simp [s_sgreatL, this]
  | cons f r ih =>
    intro i hr hi
    obtain ⟨hlt, hget, hr2⟩ := drop_c hr
    have h2 : (i : Int) < s.forms.length := by omega
    have e1 := i64_succ (i := i) (by omega)
    refine t_sgreatL _ _ ?_
    by_cases h41 : i < 41
    · have h := ih (i + 1) hr2 (by omega)
      have h3 : (i : Int) < 41 := by omega
      have e2 : 41 - i = (41 - (i + 1)) + 1 := by omega
      rw [e2, List.take_succ_cons, List.any_cons]
      simp only [s_sgreatL, OA_join, OA_asm, List.length_map, h2, h3, decide_true, cond_true, Option.bind_some, Tok.untok_tok, OA_chk, Int.natCast_nonneg, nthE, Int.toNat_natCast, List.getElem?_map, hget, Option.map_some, u_asA, u_asC, u_asI, u_asB, u_asL, u_asN, e1, h]
      by_cases b : 40 < f.fields.length
      · have b' : (f.fields.length : Int) > 40 := by omega
        simp [big, b, b']
      · have b' : ¬ ((f.fields.length : Int) > 40) := by omega
        simp [big, b, b']
    · have h3 : ¬ ((i : Int) < 41) := by omega
      have e2 : 41 - i = 0 := by omega
      simp [s_sgreatL, h2, h3, e2]
theorem c_sgreat (s : Sch) : tbl E0 39 [schV s] [] = some ([.bool (greatS s)], []) :=
  t_sgreat s (by
    have e := c_sgreatL s s.forms 0 rfl (by omega)
    simp only [Int.natCast_zero, Nat.sub_zero] at e
    simp only [s_sgreat, OA_chk, cond_true, OA_loop, e, greatS]
    by_cases b : ((s.forms.take 41).any big) = true
    · simp [b]
    · have b : ((s.forms.take 41).any big) = false := by simpa using b
      by_cases c : 40 < s.forms.length
      · have c' : (s.forms.length : Int) > 40 := by omega
        simp [b, c, c']
      · have c' : ¬ ((s.forms.length : Int) > 40) := by omega
        simp [b, c, c'])
theorem sml_of {s : Sch} (h : greatS s = false) : Sml s := by
  unfold greatS at h
  simp only [Bool.or_eq_false_iff, decide_eq_false_iff_not, List.any_eq_false, big, decide_eq_true_eq] at h
  refine ⟨by omega, fun f hf => ?_⟩
  have := h.1 f (by rw [List.take_of_length_le (by omega)]; exact hf)
  omega
theorem c_yFindL (s : Sch) (id : Int) (hs : Sml s) : ∀ (r : List Frm) (i : Nat), s.forms.drop i = r →
    ltbl E0 42 0 2 [.int .i64 id, .int .i64 i] [[.int .i64 s.ver, frmsV s.forms]] = some (fromS (fun f : Frm => f.id == id) i r) := by
  have hl := hs.1
  intro r
  induction r with
  | nil =>
    intro i hr
    have h : s.forms.length ≤ i := by simpa using hr
    refine t_yFindL _ _ _ ?_
    have : ¬ ((i : Int) < s.forms.length) := by omega
    simp [s_yFindL, this, fromS_nil]
  | cons x r ih =>
    intro i hr
    obtain ⟨hlt, hget, hr2⟩ := drop_c hr
    have h2 : (i : Int) < s.forms.length := by omega
    have e1 := i64_succ (i := i) (by omega)
    have h := ih (i + 1) hr2
    refine t_yFindL _ _ _ ?_
    rw [fromS_cons]
    simp only [s_yFindL, OA_asm, List.length_map, h2, decide_true, cond_true, OA_chk, Int.natCast_nonneg, nthE, Int.toNat_natCast, List.getElem?_map, hget, Option.map_some, u_asA, u_asC, u_asI, u_asB, u_asL, u_asN, e1, h]
    cases x.id == id <;> rfl
def findS (l : List Frm) (id : Int) : Int := firstS (fun f : Frm => f.id == id) l
theorem c_yFind (s : Sch) (id : Int) (h : Sml s) : tbl E0 42 [schV s, .int .i64 id] [] = some ([.int .i64 (findS s.forms id)], []) :=
  t_yFind s id (by
    have e := c_yFindL s id h s.forms 0 rfl
    simp only [Int.natCast_zero] at e
    simp only [s_yFind, OA_chk, cond_true, OA_loop, e, Option.bind_some, fromS, findS, firstS]
    cases s.forms.findIdx? (fun f : Frm => f.id == id) <;> simp)
theorem c_sFormL (l : List Frm) (id : Int) (hl : l.length ≤ 140737488355328) : ∀ (r : List Frm) (i : Nat), l.drop i = r →
    ltbl E0 41 0 2 [.int .i64 id, frmsV l, .int .i64 l.length, .int .i64 i] [[.int .i64 0, fldsV []]] = some (match r.find? (fun f : Frm => f.id == id) with | some f => (0, [.bool true], [[.int .i64 f.id, fldsV f.fields]]) | none => (1, [], [[.int .i64 0, fldsV []]])) := by
  intro r
  induction r with
  | nil =>
    intro i hr
    have h : l.length ≤ i := by simpa using hr
    refine t_sFormL l ⟨0, []⟩ id _ _ ?_
    have : ¬ ((i : Int) < l.length) := by omega
    simp [s_sFormL, this]
  | cons x r ih =>
    intro i hr
    obtain ⟨hlt, hget, hr2⟩ := drop_c hr
    have h2 : (i : Int) < l.length := by omega
    have e1 := i64_succ (i := i) (by omega)
    have h := ih (i + 1) hr2
    refine t_sFormL l ⟨0, []⟩ id _ _ ?_
    rw [List.find?_cons]
    simp only [s_sFormL, h2, decide_true, cond_true, OA_chk, Int.natCast_nonneg, nthE, Int.toNat_natCast, List.getElem?_map, hget, Option.map_some, u_asA, u_asC, u_asI, u_asB, u_asL, u_asN, e1, h]
    rcases bor (x.id == id) with hb | hb <;> simp only [hb, cond_true, cond_false]
def formS (l : List Frm) (id : Int) : Option Frm := l.find? (fun f : Frm => f.id == id)
theorem c_sForm (s : Sch) (id : Int) (h : Sml s) : tbl E0 41 [schV s, .int .i64 id] [] = some (match formS s.forms id with | some f => [frmV f, .bool true] | none => [frmV ⟨0, []⟩, .bool false], []) :=
  t_sForm s id (by
    have e := c_sFormL s.forms id h.1 s.forms 0 rfl
    unfold formS
    cases hf : s.forms.find? (fun f : Frm => f.id == id) with
    | none =>
      rw [hf] at e
      simp only [fldsV, frmsV, List.map_nil, Int.natCast_zero] at e
      simp [s_sForm, e]
    | some f =>
      rw [hf] at e
      simp only [fldsV, frmsV, List.map_nil, Int.natCast_zero] at e
      simp [s_sForm, e])
theorem find_form (l : List Frm) (id : Int) : (∃ j f, formS l id = some f ∧ findS l id = (j : Nat) ∧ l[j]? = some f) ∨ (formS l id = none ∧ findS l id = -1) := by
  unfold formS findS firstS
  cases h : l.findIdx? (fun f : Frm => f.id == id) with
  | none =>
    right
    refine ⟨?_, rfl⟩
    rw [List.findIdx?_eq_none_iff] at h
    rw [List.find?_eq_none]
    intro x hx
    simp [h x hx]
  | some j =>
    left
    obtain ⟨hj, h1, h2⟩ := List.findIdx?_eq_some_iff_getElem.1 h
    refine ⟨j, l[j], ?_, rfl, List.getElem?_eq_getElem hj⟩
    rw [List.find?_eq_some_iff_getElem]
    exact ⟨h1, j, hj, rfl, fun k hk => by simpa using h2 k hk⟩
/-! The same? -/
theorem fld_eq (a b : Fld) : (a.id == b.id && (a.kind == b.kind && (a.lo == b.lo && (a.hi == b.hi && (a.most == b.most && true))))) = decide (a = b) := by
  rw [Bool.eq_iff_iff]
  cases a; cases b
  simp
theorem frm_eq (a b : Frm) : decide (a = b) = (decide (a.id = b.id) && decide (a.fields = b.fields)) := by
  rw [Bool.eq_iff_iff]
  cases a; cases b
  simp
theorem sch_eq (a b : Sch) : decide (a = b) = (decide (a.ver = b.ver) && decide (a.forms = b.forms)) := by
  rw [Bool.eq_iff_iff]
  cases a; cases b
  simp
theorem c_ySameFormL (a b : Frm) (hl : a.fields.length ≤ 140737488355328) (hab : a.fields.length = b.fields.length) : ∀ (r r' : List Fld) (i : Nat), a.fields.drop i = r → b.fields.drop i = r' →
    ltbl E0 43 0 4 [.int .i64 i] [[.int .i64 a.id, fldsV a.fields], [.int .i64 b.id, fldsV b.fields]] = some (if r = r' then (1, [], []) else (0, [.bool false], [])) := by
  intro r
  induction r with
  | nil =>
    intro r' i hr hr'
    have h : a.fields.length ≤ i := by simpa using hr
    have : r' = [] := by rw [← hr']; simp; omega
    subst this
    refine t_ySameFormL _ _ _ ?_
    have : ¬ ((i : Int) < a.fields.length) := by omega
    simp [s_ySameFormL, this]
  | cons x r ih =>
    intro r' i hr hr'
    obtain ⟨hlt, hget, hr2⟩ := drop_c hr
    cases r' with
    | nil => simp at hr'; omega
    | cons y r' =>
      obtain ⟨_, hget', hr2'⟩ := drop_c hr'
      have h2 : (i : Int) < a.fields.length := by omega
      have e1 := i64_succ (i := i) (by omega)
      have h := ih r' (i + 1) hr2 hr2'
      refine t_ySameFormL _ _ _ ?_
      simp only [s_ySameFormL, OA_asm, List.length_map, h2, decide_true, cond_true, OA_chk, Int.natCast_nonneg, nthE, Int.toNat_natCast, List.getElem?_map, hget, hget', Option.map_some, u_asA, u_asC, u_asI, u_asB, u_asL, u_asN, e1, h, fld_eq]
      by_cases e : x = y
      · simp [e]
      · simp [e]
theorem c_ySameForm (a b : Frm) (h : a.fields.length ≤ 140737488355328) : tbl E0 43 [frmV a, frmV b] [] = some ([.bool (decide (a = b))], []) :=
  t_ySameForm a b (by
    rw [frm_eq]
    simp only [s_ySameForm, OA_chk, cond_true, OA_join, OA_asm, List.length_map, OA_loop]
    by_cases i0 : a.id = b.id
    · rw [show (a.id != b.id) = false by simp [i0], cond_false]
      by_cases hab : a.fields.length = b.fields.length
      · have e := c_ySameFormL a b h hab a.fields b.fields 0 rfl rfl
        simp only [Int.natCast_zero] at e
        rw [show ((a.fields.length : Int) != (b.fields.length : Int)) = false by rw [hab]; simp]
        simp only [Option.bind_some, Tok.untok_tok, cond_false, e]
        by_cases e2 : a.fields = b.fields <;> simp [i0, e2]
      · have : ¬ (a.fields = b.fields) := fun e => hab (by rw [e])
        rw [show ((a.fields.length : Int) != (b.fields.length : Int)) = true from bne_t (by omega)]
        simp [i0, this]
    · simp [i0])
theorem c_EqualFL (a b : List Fld) (hl : a.length ≤ 140737488355328) (hab : a.length = b.length) : ∀ (r r' : List Fld) (i : Nat), a.drop i = r → b.drop i = r' →
    ltbl E0 108 0 4 [fldsV a, fldsV b, .int .i64 a.length, .int .i64 i] [] = some (if r = r' then (1, [], []) else (0, [.bool false], [])) := by
  intro r
  induction r with
  | nil =>
    intro r' i hr hr'
    have h : a.length ≤ i := by simpa using hr
    have : r' = [] := by rw [← hr']; simp; omega
    subst this
    refine t_EqualFL _ _ _ _ ?_
    have : ¬ ((i : Int) < a.length) := by omega
    simp [s_EqualFL, this]
  | cons x r ih =>
    intro r' i hr hr'
    obtain ⟨hlt, hget, hr2⟩ := drop_c hr
    cases r' with
    | nil => simp at hr'; omega
    | cons y r' =>
      obtain ⟨_, hget', hr2'⟩ := drop_c hr'
      have h2 : (i : Int) < a.length := by omega
      have e1 := i64_succ (i := i) (by omega)
      have h := ih r' (i + 1) hr2 hr2'
      refine t_EqualFL _ _ _ _ ?_
      simp only [s_EqualFL, OA_asm, List.length_map, h2, decide_true, cond_true, OA_chk, Int.natCast_nonneg, nthE, Int.toNat_natCast, List.getElem?_map, hget, hget', Option.map_some, u_asA, u_asC, u_asI, u_asB, u_asL, u_asN, e1, h, fld_eq]
      by_cases e : x = y
      · simp [e]
      · simp [e]
theorem c_EqualF (a b : List Fld) (h : a.length ≤ 140737488355328) : tbl E0 108 [fldsV a, fldsV b] [] = some ([.bool (decide (a = b))], []) :=
  t_EqualF a b (by
    simp only [s_EqualF, OA_asm, List.length_map, OA_loop]
    by_cases hab : a.length = b.length
    · have e := c_EqualFL a b h hab a b 0 rfl rfl
      simp only [Int.natCast_zero] at e
      have h' : ((a.length : Int) != (b.length : Int)) = false := by rw [hab]; simp
      rw [h', cond_false, e]
      by_cases e2 : a = b <;> simp [e2]
    · have : ¬ (a = b) := fun e => hab (by rw [e])
      have h' : ((a.length : Int) != (b.length : Int)) = true := bne_t (by omega)
      rw [h']
      simp [this])
theorem c_sSame1 (a b : Frm) (h : a.fields.length ≤ 140737488355328) : tbl E0 107 [frmV a, frmV b] [] = some ([.bool (decide (a = b))], []) :=
  t_sSame1 a b (by
    have c := c_EqualF a.fields b.fields h
    rw [frm_eq]
    simp only [s_sSame1, OA_chk, cond_true, OA_join, OA_callx, c, Option.bind_some, u_asC, u_asB, u_asN]
    by_cases i0 : a.id = b.id <;> simp [i0])
theorem c_EqualFuncL (a b : List Frm) (hl : a.length ≤ 140737488355328) (hf : ∀ f ∈ a, f.fields.length ≤ 140737488355328) (hab : a.length = b.length) : ∀ (r r' : List Frm) (i : Nat), a.drop i = r → b.drop i = r' →
    ltbl E0 106 0 4 [frmsV b, .clo 107 [], frmsV a, .int .i64 a.length, .int .i64 i] [] = some (if r = r' then (1, [], []) else (0, [.bool false], [])) := by
  intro r
  induction r with
  | nil =>
    intro r' i hr hr'
    have h : a.length ≤ i := by simpa using hr
    have : r' = [] := by rw [← hr']; simp; omega
    subst this
    refine t_EqualFuncL _ _ _ _ ?_
    have : ¬ ((i : Int) < a.length) := by omega
    simp [s_EqualFuncL, this]
  | cons x r ih =>
    intro r' i hr hr'
    obtain ⟨hlt, hget, hr2⟩ := drop_c hr
    cases r' with
    | nil => simp at hr'; omega
    | cons y r' =>
      obtain ⟨_, hget', hr2'⟩ := drop_c hr'
      have h2 : (i : Int) < a.length := by omega
      have e1 := i64_succ (i := i) (by omega)
      have h := ih r' (i + 1) hr2 hr2'
      have c := c_sSame1 x y (hf x (mem_drop hr))
      refine t_EqualFuncL _ _ _ _ ?_
      simp only [s_EqualFuncL, OA_asm, List.length_map, h2, decide_true, cond_true, OA_chk, Int.natCast_nonneg, nthE, Int.toNat_natCast, List.getElem?_map, hget, hget', Option.map_some, u_asA, u_asC, u_asI, u_asB, u_asL, u_asN, OA_callx, c, Option.bind_some, e1, h]
      by_cases e : x = y
      · simp [e]
      · simp [e]
theorem c_EqualFunc (a b : List Frm) (h : a.length ≤ 140737488355328) (hf : ∀ f ∈ a, f.fields.length ≤ 140737488355328) : tbl E0 106 [frmsV a, frmsV b, .clo 107 []] [] = some ([.bool (decide (a = b))], []) :=
  t_EqualFunc a b (by
    simp only [s_EqualFunc, OA_asm, List.length_map, OA_loop]
    by_cases hab : a.length = b.length
    · have e := c_EqualFuncL a b h hf hab a b 0 rfl rfl
      simp only [Int.natCast_zero] at e
      have h' : ((a.length : Int) != (b.length : Int)) = false := by rw [hab]; simp
      rw [h', cond_false, e]
      by_cases e2 : a = b <;> simp [e2]
    · have : ¬ (a = b) := fun e => hab (by rw [e])
      have h' : ((a.length : Int) != (b.length : Int)) = true := bne_t (by omega)
      rw [h']
      simp [this])
theorem c_sSame (a b : Sch) (h : Sml a) : tbl E0 52 [schV a, schV b] [] = some ([.bool (decide (a = b))], []) :=
  t_sSame a b (by
    have c := c_EqualFunc a.forms b.forms h.1 h.2
    rw [sch_eq]
    simp only [s_sSame, OA_chk, cond_true, OA_join, OA_callx, c, Option.bind_some, u_asC, u_asB, u_asN]
    by_cases i0 : a.ver = b.ver <;> simp [i0])
theorem c_ySameL (a b : Sch) (hs : Sml a) (hab : a.forms.length = b.forms.length) : ∀ (r r' : List Frm) (i : Nat), a.forms.drop i = r → b.forms.drop i = r' →
    ltbl E0 53 0 4 [.int .i64 i] [[.int .i64 a.ver, frmsV a.forms], [.int .i64 b.ver, frmsV b.forms]] = some (if r = r' then (1, [], []) else (0, [.bool false], [])) := by
  have hl := hs.1
  intro r
  induction r with
  | nil =>
    intro r' i hr hr'
    have h : a.forms.length ≤ i := by simpa using hr
    have : r' = [] := by rw [← hr']; simp; omega
    subst this
    refine t_ySameL _ _ _ ?_
    have : ¬ ((i : Int) < a.forms.length) := by omega
    simp [s_ySameL, this]
  | cons x r ih =>
    intro r' i hr hr'
    obtain ⟨hlt, hget, hr2⟩ := drop_c hr
    cases r' with
    | nil => simp at hr'; omega
    | cons y r' =>
      obtain ⟨_, hget', hr2'⟩ := drop_c hr'
      have h2 : (i : Int) < a.forms.length := by omega
      have e1 := i64_succ (i := i) (by omega)
      have h := ih r' (i + 1) hr2 hr2'
      have c := c_ySameForm x y (hs.2 x (mem_drop hr))
      refine t_ySameL _ _ _ ?_
      simp only [s_ySameL, OA_asm, List.length_map, h2, decide_true, cond_true, OA_chk, Int.natCast_nonneg, nthE, Int.toNat_natCast, List.getElem?_map, hget, hget', Option.map_some, u_asA, u_asC, u_asI, u_asB, u_asL, u_asN, OA_callx, c, Option.bind_some, e1, h]
      by_cases e : x = y
      · simp [e]
      · simp [e]
theorem c_ySame (a b : Sch) (h : Sml a) : tbl E0 53 [schV a, schV b] [] = some ([.bool (decide (a = b))], []) :=
  t_ySame a b (by
    rw [sch_eq]
    simp only [s_ySame, OA_chk, cond_true, OA_join, OA_asm, List.length_map, OA_loop]
    by_cases i0 : a.ver = b.ver
    · rw [show (a.ver != b.ver) = false by simp [i0], cond_false]
      by_cases hab : a.forms.length = b.forms.length
      · have e := c_ySameL a b h hab a.forms b.forms 0 rfl rfl
        simp only [Int.natCast_zero] at e
        rw [show ((a.forms.length : Int) != (b.forms.length : Int)) = false by rw [hab]; simp]
        simp only [Option.bind_some, Tok.untok_tok, cond_false, e]
        by_cases e2 : a.forms = b.forms <;> simp [i0, e2]
      · have : ¬ (a.forms = b.forms) := fun e => hab (by rw [e])
        rw [show ((a.forms.length : Int) != (b.forms.length : Int)) = true from bne_t (by omega)]
        simp [i0, this]
    · simp [i0])
end Go.Proofs.Ythehhlaomiifnaa.V
