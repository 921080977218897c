/- Contracts of steps: which may be, and which are the same. -/
import Derived.Test.YthmocicjocjdoaaP5
import Derived.Test.YthmocicjocjdoaaD5
import Derived.Test.YthmocicjocjdoaaC11
set_option linter.unusedVariables false
set_option linter.unusedSimpArgs false
namespace Go.Proofs.Ythmocicjocjdoaa.V
open Go
set_option maxRecDepth 20000 in
theorem c_tuses (op : Int) : tbl E0 88 [.int .i64 op] [] = some ([intsV (usesS op)], []) := by
  refine op_all (p := fun op => tbl E0 88 [.int .i64 op] [] = some ([intsV (usesS op)], [])) op ?_ ?_
  · intro o ho
    simp only [opsL, List.mem_cons, List.not_mem_nil, or_false] at ho
    rcases ho with rfl | rfl | rfl | rfl | rfl | rfl | rfl | rfl | rfl | rfl | rfl | rfl | rfl | rfl | rfl | rfl | rfl | rfl | rfl | rfl <;> exact tbl_iff.2 ⟨12, by kernel_rfl⟩
  · intro h hu
    simp only [opsL, List.mem_cons, List.not_mem_nil, or_false, not_or] at h
    obtain ⟨h1, h2, h3, h4, h5, h6, h7, h8, h9, h10, h11, h12, h13, h14, h15, h16, h17, h18, h19, h20⟩ := h
    have cB : ltbl E0 88 0 1000009 [.int .i64 op, .bool false] [] = some (50001, [], []) := t_tusesB op false (by simp [s_tusesB, h1, h2, h3, h4, h5, h6, h7, h8, h9, h10, h11, h12, h13, h14, h15, h16, h17, h18, h19, h20])
    have cA : ltbl E0 88 0 1000004 [.int .i64 op, .bool false] [] = some (50001, [], []) := t_tusesA op false (by
      have : (op == 23) = false := beq_f h13
      simp [s_tusesA, h1, h2, h3, this, cB])
    have : (op == 22) = false := beq_f h12
    exact t_tuses op (by simp [s_tuses, h1, this, cA, hu])
set_option maxRecDepth 20000 in
theorem c_yuses (op : Int) : ∃ s : List UInt8, tbl E0 128 [.int .i64 op] [] = some ([.str s], []) ∧ s = (usesS op).map (fun p => if p = 0 then 102 else if p = 1 then 100 else if p = 2 then 112 else if p = 3 then 116 else if p = 4 then 97 else if p = 5 then 98 else if p = 6 then 70 else if p = 7 then 86 else if p = 8 then 84 else 76) := by
  refine ⟨_, ?_, rfl⟩
  refine op_all (p := fun op => tbl E0 128 [.int .i64 op] [] = some ([.str ((usesS op).map (fun p => if p = 0 then 102 else if p = 1 then 100 else if p = 2 then 112 else if p = 3 then 116 else if p = 4 then 97 else if p = 5 then 98 else if p = 6 then 70 else if p = 7 then 86 else if p = 8 then 84 else 76))], [])) op ?_ ?_
  · intro o ho
    simp only [opsL, List.mem_cons, List.not_mem_nil, or_false] at ho
    rcases ho with rfl | rfl | rfl | rfl | rfl | rfl | rfl | rfl | rfl | rfl | rfl | rfl | rfl | rfl | rfl | rfl | rfl | rfl | rfl | rfl <;> exact tbl_iff.2 ⟨12, by kernel_rfl⟩
  · intro h hu
    simp only [opsL, List.mem_cons, List.not_mem_nil, or_false, not_or] at h
    obtain ⟨h1, h2, h3, h4, h5, h6, h7, h8, h9, h10, h11, h12, h13, h14, h15, h16, h17, h18, h19, h20⟩ := h
    have cB : ltbl E0 128 0 1000009 [.int .i64 op, .bool false] [] = some (50001, [], []) := t_yusesB op false (by simp [s_yusesB, h1, h2, h3, h4, h5, h6, h7, h8, h9, h10, h11, h12, h13, h14, h15, h16, h17, h18, h19, h20])
    have cA : ltbl E0 128 0 1000004 [.int .i64 op, .bool false] [] = some (50001, [], []) := t_yusesA op false (by
      have : (op == 23) = false := beq_f h13
      simp [s_yusesA, h1, h2, h3, this, cB])
    have : (op == 22) = false := beq_f h12
    exact t_yuses op (by simp [s_yuses, h1, this, cA, hu])
theorem c_tin (n lo hi : Int) : tbl E0 163 [.int .i64 n, .int .i64 lo, .int .i64 hi] [] = some ([.bool (inS n lo hi)], []) := t_tin n lo hi (by
  by_cases h : lo ≤ n <;> simp [s_tin, inS, h])
theorem c_ybetween (n lo hi : Int) : tbl E0 130 [.int .i64 n, .int .i64 lo, .int .i64 hi] [] = some ([.bool (inS n lo hi)], []) := t_ybetween n lo hi (by
  by_cases h : lo ≤ n <;> simp [s_ybetween, inS, h])
theorem c_fboundsG (f : Fld) : ∃ hi, tbl E0 156 [fldV f] [] = some ([.int .i64 (loS f), .int .i64 hi], []) ∧ (rgtS f = true → hi = hiS f) := by
  by_cases h : f.kind = 3 → rgtS f = true
  · exact ⟨_, c_fbounds f h, fun _ => rfl⟩
  · rw [Classical.not_imp] at h
    refine ⟨_, t_fbounds f (by simp [s_fbounds, h.1, loS]; rfl), fun hr => absurd hr h.2⟩
theorem c_fHas (f : Fld) (n : Int) (s : List UInt8) : tbl E0 116 [fldV f, .agg [.int .i64 n, .str s]] [] = some ([.bool (hasV f n s)], []) := by
  obtain ⟨hi, hb, hh⟩ := c_fboundsG f
  have c := c_fRight f
  refine t_fHas f n s ?_
  simp only [s_fHas, OA_chk, cond_true, OA_callx, hb, c, Option.bind_some, u_asC, u_asI, u_asB, u_asN, OA_join, OA_asm, hasV, longestS, inS]
  by_cases hr : rgtS f = true
  · have := hh hr
    subst this
    by_cases k : f.kind = 4 <;> by_cases a : loS f ≤ n <;> by_cases b : n ≤ hiS f <;> simp [hr, k, a, b]
  · have hr : rgtS f = false := by simpa using hr
    by_cases k : f.kind = 4 <;> simp [hr, k]
theorem c_yHas (f : Fld) (n : Int) (s : List UInt8) : tbl E0 71 [fldV f, .agg [.int .i64 n, .str s]] [] = some ([.bool (hasV f n s)], []) := by
  obtain ⟨lo, hi, most, hb, hh⟩ := c_ySpan f
  refine t_yHas f n s ?_
  simp only [s_yHas, OA_chk, cond_true, OA_callx, hb, Option.bind_some, u_asC, u_asI, u_asB, u_asN, OA_join, OA_asm, hasV, longestS, inS]
  by_cases hr : rgtS f = true
  · obtain ⟨rfl, rfl, rfl⟩ := hh hr
    by_cases k : f.kind = 4 <;> by_cases a : loS f ≤ n <;> by_cases b : n ≤ hiS f <;> simp [hr, k, a, b]
  · have hr : rgtS f = false := by simpa using hr
    simp [hr]
theorem c_EqualIL (a b : List Int) (hl : a.length ≤ 140737488355328) (hab : a.length = b.length) : ∀ (r r' : List Int) (i : Nat), a.drop i = r → b.drop i = r' →
    ltbl E0 83 0 4 [intsV a, intsV b, .int .i64 a.length, .int .i64 i] [] = some (if r = r' then (1, [], []) else (0, [.bool false], [])) := by
  intro r
  induction r with
  | nil =>
    intro r' i hr hr'
    have h : a.length ≤ i := by simpa using hr
    have : r' = [] := by rw [← hr']; simp; omega
    subst this
    refine t_EqualIL _ _ _ _ ?_
    have : ¬ ((i : Int) < a.length) := by omega
    simp [s_EqualIL, this]
  | cons x r ih =>
    intro r' i hr hr'
    obtain ⟨hlt, hget, hr2⟩ := drop_c hr
    cases r' with
    | nil => simp at hr'; omega
    | cons y r' =>
      obtain ⟨_, hget', hr2'⟩ := drop_c hr'
      have h2 : (i : Int) < a.length := by omega
      have e1 := i64_succ (i := i) (by omega)
      have h := ih r' (i + 1) hr2 hr2'
      refine t_EqualIL _ _ _ _ ?_
      simp only [s_EqualIL, OA_asm, List.length_map, h2, decide_true, cond_true, OA_chk, Int.natCast_nonneg, nthE, Int.toNat_natCast, List.getElem?_map, hget, hget', Option.map_some, u_asA, u_asC, u_asI, u_asB, u_asL, u_asN, e1, h]
      by_cases e : x = y
      · simp [e]
      · simp [e]
theorem c_EqualI (a b : List Int) (h : a.length ≤ 140737488355328) : tbl E0 83 [intsV a, intsV b] [] = some ([.bool (decide (a = b))], []) :=
  t_EqualI a b (by
    simp only [s_EqualI, OA_asm, List.length_map, OA_loop]
    by_cases hab : a.length = b.length
    · have e := c_EqualIL a b h hab a b 0 rfl rfl
      simp only [Int.natCast_zero] at e
      have h' : ((a.length : Int) != (b.length : Int)) = false := by rw [hab]; simp
      rw [h', cond_false, e]
      by_cases e2 : a = b <;> simp [e2]
    · have : ¬ (a = b) := fun e => hab (by rw [e])
      have h' : ((a.length : Int) != (b.length : Int)) = true := bne_t (by omega)
      rw [h']
      simp [this])
/-- Numbers, marked as they come. -/
def freshI (below : Int) : List Bool → List Int → Bool
  | _, [] => true
  | s, n :: l => inS n 0 (below - 1) && !((s[n.toNat]?).getD false) && freshI below (s.set n.toNat true) l
theorem c_tapartL (l : List Int) (below : Int) (hb : 1 ≤ below ∧ below ≤ 1000) (hl : l.length ≤ 140737488355328) : ∀ (r : List Int) (i : Nat) (s : List Bool), l.drop i = r → s.length = 1000 →
    ltbl E0 164 0 3 [intsV l, .int .i64 below, intsV l, .int .i64 l.length, .int .i64 i] [s.map AV.bool] = some (if freshI below s r then (1, [intsV l], []) else (0, [.bool false], [])) := by
  intro r
  induction r with
  | nil =>
    intro i s hr hs
    have h : l.length ≤ i := by simpa using hr
    refine t_tapartL _ _ _ _ _ ?_
    have : ¬ ((i : Int) < l.length) := by omega
    simp [s_tapartL, this, freshI]
  | cons f r ih =>
    intro i s hr hs
    obtain ⟨hlt, hget, hr2⟩ := drop_c hr
    have h2 : (i : Int) < l.length := by omega
    have e1 := i64_succ (i := i) (by omega)
    have h := ih (i + 1) (s.set f.toNat true) hr2 (by simpa using hs)
    have w : IntKind.i64.wrap (below - 1) = below - 1 := wrap_i64 _ (by omega) (by omega)
    have c := c_tin f 0 (below - 1)
    refine t_tapartL _ _ _ _ _ ?_
    simp only [s_tapartL, h2, decide_true, cond_true, OA_chk, Int.natCast_nonneg, nthE, Int.toNat_natCast, List.getElem?_map, hget, Option.map_some, u_asA, u_asC, u_asI, u_asB, u_asN, OA_callx, OA_join, w, c, Option.bind_some, e1, freshI]
    by_cases hg : inS f 0 (below - 1) = true
    · have rr : 0 ≤ f ∧ f ≤ below - 1 := by simpa [inS] using hg
      have hk : f.toNat < s.length := by omega
      have g : s[f.toNat]? = some s[f.toNat] := List.getElem?_eq_getElem hk
      have a1 : 0 ≤ f := rr.1
      have a2 : f < ((1000 : Nat) : Int) := by omega
      have a3 : 0 + f.toNat * 1 = f.toNat := by omega
      have a4 : (f.toNat + 1).ble (List.map AV.bool s).length = true := by rw [Nat.ble_eq, List.length_map]; omega
      simp only [hg, a1, a2, a3, a4, decide_true, Bool.and_self, cond_true, g, Option.map_some, u_asB, Bool.not_true, cond_false, Option.bind_some, Tok.untok_tok, setAt_bool, all_flat_bool, h, Option.getD_some, Bool.true_and]
      by_cases hb : s[f.toNat] = true
      · simp [hb]
      · have hb : s[f.toNat] = false := by simpa using hb
        simp [hb]
    · have hg : inS f 0 (below - 1) = false := by simpa using hg
      simp [hg]
theorem freshI_iff (below : Int) (hb : below ≤ 1000) : ∀ (l : List Int) (s : List Bool), s.length = 1000 → (freshI below s l = true ↔ (∀ n ∈ l, inS n 0 (below - 1) = true ∧ s[n.toNat]? = some false) ∧ nodupI l = true)
  | [], s, _ => by simp [freshI, nodupI]
  | f :: l, s, hs => by
    have ih := freshI_iff below hb l (s.set f.toNat true) (by simpa using hs)
    simp only [freshI, Bool.and_eq_true, ih, nodupI, Bool.not_eq_true', List.mem_cons, forall_eq_or_imp]
    have rng : ∀ {n : Int}, inS n 0 (below - 1) = true → 0 ≤ n ∧ n < 1000 := fun {n} h => by
      have : 0 ≤ n ∧ n ≤ below - 1 := by simpa [inS] using h
      omega
    have key : inS f 0 (below - 1) = true → ((s[f.toNat]?).getD false = false ↔ s[f.toNat]? = some false) := by
      intro hg
      have rr := rng hg
      have hk : f.toNat < s.length := by omega
      rw [List.getElem?_eq_getElem hk]
      simp
    have key2 : inS f 0 (below - 1) = true → ∀ g, inS g 0 (below - 1) = true → ((s.set f.toNat true)[g.toNat]? = some false ↔ (s[g.toNat]? = some false ∧ g ≠ f)) := by
      intro hg g hgg
      have r1 := rng hg
      have r2 := rng hgg
      rw [List.getElem?_set]
      by_cases e : f.toNat = g.toNat
      · have e' : g = f := by omega
        rw [if_pos e, if_pos (by omega)]
        simp [e']
      · have e' : g ≠ f := by omega
        rw [if_neg e]
        simp [e']
    constructor
    · rintro ⟨⟨h1, h2⟩, h3, h4⟩
      refine ⟨⟨⟨h1, (key h1).1 h2⟩, fun g hg => ⟨(h3 g hg).1, ((key2 h1 g (h3 g hg).1).1 (h3 g hg).2).1⟩⟩, ?_, h4⟩
      simp only [List.any_eq_false, beq_iff_eq]
      intro g hg
      exact ((key2 h1 g (h3 g hg).1).1 (h3 g hg).2).2
    · rintro ⟨⟨⟨h1, h2⟩, h3⟩, h4, h5⟩
      refine ⟨⟨h1, (key h1).2 h2⟩, fun g hg => ⟨(h3 g hg).1, (key2 h1 g (h3 g hg).1).2 ⟨(h3 g hg).2, ?_⟩⟩, h5⟩
      simp only [List.any_eq_false, beq_iff_eq] at h4
      exact h4 g hg
theorem freshI_0 (below : Int) (hb : below ≤ 1000) (l : List Int) : freshI below (List.replicate 1000 false) l = ((l.all fun n => inS n 0 (below - 1)) && nodupI l) := by
  rw [Bool.eq_iff_iff, freshI_iff _ hb _ _ List.length_replicate]
  simp only [Bool.and_eq_true, List.all_eq_true]
  constructor
  · rintro ⟨h1, h2⟩; exact ⟨fun f hf => (h1 f hf).1, h2⟩
  · rintro ⟨h1, h2⟩
    refine ⟨fun f hf => ⟨h1 f hf, ?_⟩, h2⟩
    have r : 0 ≤ f ∧ f ≤ below - 1 := by simpa [inS] using h1 f hf
    rw [List.getElem?_replicate, if_pos (by omega)]
theorem c_tapart (l : List Int) (below : Int) (hb : 1 ≤ below ∧ below ≤ 1000) (hl : l.length ≤ 140737488355328) : tbl E0 164 [intsV l, .int .i64 below] [] = some ([.bool (apartS l below)], []) :=
  t_tapart l below (by
    have e := c_tapartL l below hb hl l 0 (List.replicate 1000 false) rfl List.length_replicate
    simp only [Int.natCast_zero, freshI_0 _ hb.2] at e
    have c := c_tin (l.length : Int) 1 64
    have e2 : inS (l.length : Int) 1 64 = decide (1 ≤ l.length ∧ l.length ≤ 64) := by
      simp only [inS, Bool.decide_and]
      congr 1 <;> exact decide_eq_decide.2 (by omega)
    simp only [List.map_replicate] at e
    simp only [s_tapart, OA_asm, OA_chk, cond_true, OA_loop, List.length_map, e]
    · unfold apartS
      cases hx : ((l.all fun n => inS n 0 (below - 1)) && nodupI l) with
      | true => simp [c, e2]
      | false => simp)
end Go.Proofs.Ythmocicjocjdoaa.V
namespace Go.Proofs.Ythmocicjocjdoaa.V
open Go
set_option maxRecDepth 20000 in
theorem c_tonly (x : Stp) : tbl E0 135 [stpV x] [] = some ([stpV (onlyS x)], []) := by
  obtain ⟨op, form, field, place, to, a, b, f, n, s, t, fields⟩ := x
  refine op_all (p := fun op => tbl E0 135 [stpV ⟨op, form, field, place, to, a, b, f, n, s, t, fields⟩] [] = some ([stpV (onlyS ⟨op, form, field, place, to, a, b, f, n, s, t, fields⟩)], [])) op ?_ ?_
  · intro o ho
    simp only [opsL, List.mem_cons, List.not_mem_nil, or_false] at ho
    rcases ho with rfl | rfl | rfl | rfl | rfl | rfl | rfl | rfl | rfl | rfl | rfl | rfl | rfl | rfl | rfl | rfl | rfl | rfl | rfl | rfl <;> exact tbl_iff.2 ⟨20, by kernel_rfl⟩
  · intro h hu
    have c := c_tuses op
    rw [hu] at c
    have e2 : ltbl E0 135 0 3 [intsV [], .int .i64 0, .int .i64 0] [stpC ⟨op, form, field, place, to, a, b, f, n, s, t, fields⟩, stpC ⟨0, 0, 0, 0, 0, 0, 0, fld0, 0, [], [], []⟩, stpC ⟨op, 0, 0, 0, 0, 0, 0, fld0, 0, [], [], []⟩] = some (1, [], [stpC ⟨0, 0, 0, 0, 0, 0, 0, fld0, 0, [], [], []⟩, stpC ⟨op, 0, 0, 0, 0, 0, 0, fld0, 0, [], [], []⟩]) := t_tonlyL _ _ _ [] 0 0 (by simp [s_tonlyL])
    refine t_tonly _ ?_
    simp only [s_tonly, OA_chk, cond_true, OA_callx, c, Option.bind_some, u_asC, u_asL, u_asN, OA_asm, OA_loop, List.map_nil, List.length_nil, Int.natCast_zero, stpC, fld0, intsV, fldsV] at e2 ⊢
    rw [e2]
    simp [onlyS, hasS, hu, fld0]
theorem wrap0 {a b : Int} (ha : i64 a) (hb : i64 b) : (IntKind.i64.wrap (a - b) == 0) = (a == b) := by
  have : IntKind.i64.wrap (a - b) = (a - b + 9223372036854775808) % 18446744073709551616 - 9223372036854775808 := by rw [IntKind.wrap_i64]
  rw [this, Bool.eq_iff_iff, beq_iff_eq, beq_iff_eq]
  unfold i64 at ha hb
  omega
theorem stp_eq (x y : Stp) : decide (x = y) = ((decide (x.t = y.t) && decide (x.fields = y.fields)) && ((x.op == y.op && (x.form == y.form && (x.field == y.field && (x.place == y.place && (x.to == y.to && (x.a == y.a && x.b == y.b)))))) && (decide (x.f = y.f) && (x.n == y.n && x.s == y.s)))) := by
  obtain ⟨op, form, field, place, to, a, b, f, n, s, t, fields⟩ := x
  obtain ⟨op', form', field', place', to', a', b', f', n', s', t', fields'⟩ := y
  rw [Bool.eq_iff_iff]
  simp only [decide_eq_true_eq, Bool.and_eq_true, beq_iff_eq, Stp.mk.injEq]
  constructor
  · rintro ⟨rfl, rfl, rfl, rfl, rfl, rfl, rfl, rfl, rfl, rfl, rfl, rfl⟩; simp
  · rintro ⟨⟨rfl, rfl⟩, ⟨rfl, rfl, rfl, rfl, rfl, rfl, rfl⟩, rfl, rfl, rfl⟩; simp
theorem c_tSame (x y : Stp) (hx : x.ok) (hy : y.ok) (hs : x.sml) : tbl E0 45 [stpV x, stpV y] [] = some ([.bool (decide (x = y))], []) :=
  t_tSame x y (by
    obtain ⟨h1, h2, h3, h4, h5, h6, h7, _⟩ := hx
    obtain ⟨g1, g2, g3, g4, g5, g6, g7, _⟩ := hy
    have c1 := c_EqualI x.t y.t hs.1
    have c2 := c_EqualF x.fields y.fields hs.2
    simp only [s_tSame, OA_chk, cond_true, OA_callx, c1, c2, Option.bind_some, u_asC, u_asB, u_asN, OA_join, wrap0 h1 g1, wrap0 h2 g2, wrap0 h3 g3, wrap0 h4 g4, wrap0 h5 g5, wrap0 h6 g6, wrap0 h7 g7, fld_eq]
    simp only [Bool.and_true, stp_eq]
    generalize (x.op == y.op && (x.form == y.form && (x.field == y.field && (x.place == y.place && (x.to == y.to && (x.a == y.a && x.b == y.b)))))) = p
    generalize (x.n == y.n && x.s == y.s) = q
    cases decide (x.t = y.t) <;> cases decide (x.fields = y.fields) <;> cases p <;> cases decide (x.f = y.f) <;> simp)
theorem c_tfits (x : Stp) (p : Int) (hp : p = 8 → 1 ≤ (if x.op = 5 then x.a else 1000) ∧ (if x.op = 5 then x.a else 1000) ≤ 1000) (hs : x.sml) : tbl E0 134 [stpV x, .int .i64 p] [] = some ([.bool (fitsS x p)], []) := by
  have i1 := c_tin
  have i2 := c_fRight x.f
  have i3 := c_fHas x.f x.n x.s
  have i4 := c_sFine ⟨x.form, x.fields⟩ hs.2
  refine t_tfits x p ?_
  unfold s_tfits fitsS
  simp only [OA_chk, cond_true, cond_beq, OA_callx, OA_join, OA_asm]
  by_cases h0 : p = 0
  · simp only [h0, if_true, i1, Option.bind_some, u_asC, u_asB, u_asN]
  by_cases h1 : p = 1
  · simp [h1, i1]
  by_cases h2 : p = 2
  · simp [h2, i1]
  by_cases h3 : p = 3
  · simp only [h3, i1]
    cases inS x.to 0 255 <;> by_cases e : x.to = x.field <;> simp [e]
  by_cases h4 : p = 4
  · by_cases ho : x.op = 5
    · cases hi : inS x.a 1 1000 <;> simp [h4, i1, ho, hi]
    · simp [h4, i1, ho]
  by_cases h5 : p = 5
  · cases hi : inS x.a (-1048576) 1048576
    · simp [h5, i1, hi]
    · by_cases ha : x.a = 0
      · rw [ha] at hi; simp [h5, i1, hi, ha]
      · simp [h5, i1, hi, ha]
  by_cases h6 : p = 6
  · by_cases o1 : x.op = 1
    · cases hr : rgtS x.f <;> simp [h6, o1, i2, hr]
    · by_cases o2 : x.op = 22
      · cases hr : rgtS x.f <;> simp [h6, o2, i2, hr]
      · cases hr : rgtS x.f <;> simp [h6, o1, o2, beq_f o2, i2, hr]
  by_cases h7 : p = 7
  · by_cases ho : x.op = 2
    · cases hi : inS x.n (-1099511627776) 1099511627776 <;> simp [h7, ho, i1, hi]
    · simp [h7, ho, i3]
  by_cases h8 : p = 8
  · have hb := hp h8
    simp only [h8]
    by_cases ho : x.op = 5
    · simp only [ho, if_true] at hb ⊢
      have c := c_tapart x.t x.a hb hs.1
      simp [c]
    · simp only [ho, if_false] at hb ⊢
      have c := c_tapart x.t 1000 (by omega) hs.1
      simp [c]
  · simp [h0, h1, h2, h3, h4, h5, h6, h7, h8, i4]
end Go.Proofs.Ythmocicjocjdoaa.V
namespace Go.Proofs.Ythmocicjocjdoaa.V
open Go
theorem c_tRightL (x : Stp) (hs : x.sml) (l : List Int) (q : List Int) (hl : l.length ≤ 5) (hb : ∀ (i : Nat) (p : Int), l[i]? = some p → p = 8 → (l.take i).all (fitsS x) = true → 1 ≤ (if x.op = 5 then x.a else 1000) ∧ (if x.op = 5 then x.a else 1000) ≤ 1000) : ∀ (r : List Int) (i : Nat), l.drop i = r → (l.take i).all (fitsS x) = true →
    ltbl E0 87 0 3 [intsV q, intsV l, .int .i64 l.length, .int .i64 i] [stpC x] = some (if r.all (fitsS x) then (1, [intsV q], [stpC x]) else (0, [.bool false], [])) := by
  intro r
  induction r with
  | nil =>
    intro i hr ht
    have h : l.length ≤ i := by simpa using hr
    refine t_tRightL _ _ _ _ _ ?_
    have : ¬ ((i : Int) < l.length) := by omega
    simp [s_tRightL, this]
  | cons p r ih =>
    intro i hr ht
    obtain ⟨hlt, hget, hr2⟩ := drop_c hr
    have h2 : (i : Int) < l.length := by omega
    have e1 := i64_succ (i := i) (by omega)
    have c := c_tfits x p (fun h8 => hb i p hget h8 ht) hs
    refine t_tRightL _ _ _ _ _ ?_
    simp only [s_tRightL, h2, decide_true, cond_true, OA_chk, Int.natCast_nonneg, nthE, Int.toNat_natCast, List.getElem?_map, hget, Option.map_some, u_asA, u_asC, u_asI, u_asB, u_asN, OA_callx, c, Option.bind_some, e1]
    cases hf : fitsS x p with
    | false => simp [hf]
    | true =>
      have ht2 : (l.take (i + 1)).all (fitsS x) = true := by
        rw [List.take_add_one, hget]
        simp [hf]
        simpa using ht
      have h := ih (i + 1) hr2 ht2
      simp only [Bool.not_true, cond_false, h, List.all_cons, hf, Bool.true_and]
theorem only_ok {x : Stp} (hx : x.ok) : (onlyS x).ok := by
  obtain ⟨h1, h2, h3, h4, h5, h6, h7, h8, h9, h10, h11⟩ := hx
  have z : i64 0 := by unfold i64; omega
  unfold onlyS
  refine ⟨h1, ?_, ?_, ?_, ?_, ?_, ?_, ?_, ?_, ?_, ?_⟩ <;> dsimp only <;> split
  all_goals first
    | assumption
    | exact ⟨z, z, z, z, z⟩
    | simp
theorem c_tRight (x : Stp) (hx : x.ok) (hs : x.sml) : tbl E0 87 [stpV x] [] = some ([.bool (tRightS x)], []) := by
  have c := c_tuses x.op
  have e := c_tRightL x hs (usesS x.op) (usesS x.op) (uses_len _) (uses_bound x) (usesS x.op) 0 rfl rfl
  have c2 := c_tonly x
  have c3 := c_tSame x (onlyS x) hx (only_ok hx) hs
  simp only [Int.natCast_zero] at e
  refine t_tRight x ?_
  simp only [s_tRight, OA_chk, cond_true, OA_callx, c, Option.bind_some, u_asC, u_asL, u_asN, OA_asm, OA_loop, List.length_map, tRightS]
  simp only [stpC] at e
  rw [e]
  cases hf : (usesS x.op).all (fitsS x) with
  | false => simp
  | true =>
    cases hu : usesS x.op with
    | nil => simp
    | cons p l =>
      simp only [stpV, stpC] at c2 c3
      simp [c2, c3]
end Go.Proofs.Ythmocicjocjdoaa.V
namespace Go.Proofs.Ythmocicjocjdoaa.V
open Go
def letterS (p : Int) : Int := if p = 0 then 102 else if p = 1 then 100 else if p = 2 then 112 else if p = 3 then 116 else if p = 4 then 97 else if p = 5 then 98 else if p = 6 then 70 else if p = 7 then 86 else if p = 8 then 84 else 76
set_option maxRecDepth 50000 in
theorem yhas_all : (opsL.map fun o => [(0 : Int), 1, 2, 3, 4, 5, 6, 7, 8, 9].map fun p => (G E0 12).1 132 [.int .i64 o, .int .u8 (letterS p)] []) = (opsL.map fun o => [(0 : Int), 1, 2, 3, 4, 5, 6, 7, 8, 9].map fun p => some ([.bool (hasS o p)], [])) := by kernel_rfl
theorem c_yhas (op p : Int) (hp : p ∈ [(0 : Int), 1, 2, 3, 4, 5, 6, 7, 8, 9]) : tbl E0 132 [.int .i64 op, .int .u8 (letterS p)] [] = some ([.bool (hasS op p)], []) := by
  refine op_all (p := fun op => tbl E0 132 [.int .i64 op, .int .u8 (letterS p)] [] = some ([.bool (hasS op p)], [])) op ?_ ?_
  · intro o ho
    have h1 := List.map_inj_left.1 yhas_all o ho
    exact tbl_iff.2 ⟨12, List.map_inj_left.1 h1 p hp⟩
  · intro h hu
    obtain ⟨s, c, hs⟩ := c_yuses op
    rw [hu] at hs
    simp only [List.map_nil] at hs
    subst hs
    have e : ltbl E0 132 0 3 [.int .u8 (letterS p), .str [], .int .i64 0] [] = some (1, [], []) := t_yhasL _ _ _ (by simp [s_yhasL])
    exact t_yhas _ _ (by simp [s_yhas, c, e, hasS, hu])
theorem c_yh (op : Int) : (tbl E0 132 [.int .i64 op, .int .u8 100] [] = some ([.bool (hasS op 1)], []) ∧ tbl E0 132 [.int .i64 op, .int .u8 112] [] = some ([.bool (hasS op 2)], []) ∧ tbl E0 132 [.int .i64 op, .int .u8 116] [] = some ([.bool (hasS op 3)], [])) ∧
    (tbl E0 132 [.int .i64 op, .int .u8 97] [] = some ([.bool (hasS op 4)], []) ∧ tbl E0 132 [.int .i64 op, .int .u8 98] [] = some ([.bool (hasS op 5)], []) ∧ tbl E0 132 [.int .i64 op, .int .u8 70] [] = some ([.bool (hasS op 6)], [])) ∧
    (tbl E0 132 [.int .i64 op, .int .u8 86] [] = some ([.bool (hasS op 7)], []) ∧ tbl E0 132 [.int .i64 op, .int .u8 84] [] = some ([.bool (hasS op 8)], []) ∧ tbl E0 132 [.int .i64 op, .int .u8 76] [] = some ([.bool (hasS op 9)], [])) :=
  ⟨⟨c_yhas op 1 (by simp), c_yhas op 2 (by simp), c_yhas op 3 (by simp)⟩, ⟨c_yhas op 4 (by simp), c_yhas op 5 (by simp), c_yhas op 6 (by simp)⟩, ⟨c_yhas op 7 (by simp), c_yhas op 8 (by simp), c_yhas op 9 (by simp)⟩⟩
theorem cond_tt (a b : Bool) : (bif a then true else b) = (a || b) := by cases a <;> rfl
theorem cond_ff (a b : Bool) : (bif a then b else false) = (a && b) := by cases a <;> rfl
theorem cond_or (a b x : Bool) : (bif a then x else (b && x)) = ((a || b) && x) := by cases a <;> simp
theorem cond_nt (a b : Bool) : (bif !a then true else b) = (!a || b) := by cases a <;> rfl
theorem c_yzero (x : Stp) : tbl E0 129 [stpV x] [] = some ([.bool (zeroS x)], []) := by
  obtain ⟨⟨h1, h2, h3⟩, ⟨h4, h5, h6⟩, ⟨h7, h8, h9⟩⟩ := c_yh x.op
  refine t_yzero x ?_
  have ft : decide (x.f = fld0) = (x.f.id == 0 && (x.f.kind == 0 && (x.f.lo == 0 && (x.f.hi == 0 && (x.f.most == 0 && true))))) := (fld_eq x.f fld0).symm
  simp only [s_yzero, OA_chk, cond_true, OA_callx, h1, h2, h3, h4, h5, h6, h7, h8, h9, Option.bind_some, u_asC, u_asB, u_asN, OA_join, OA_asm, List.length_map, zeroS, ft]
  generalize (x.f.id == 0 && (x.f.kind == 0 && (x.f.lo == 0 && (x.f.hi == 0 && (x.f.most == 0 && true))))) = bf
  have ht : ((x.t.length : Int) == 0) = x.t.isEmpty := by cases x.t <;> simp; omega
  have hl : ((x.fields.length : Int) == 0) = x.fields.isEmpty := by cases x.fields <;> simp; omega
  simp only [tok_cond, Option.bind_some, Tok.untok_tok, cond_tt, cond_ff, cond_or, ht, hl, Bool.and_true, Bool.and_assoc]
end Go.Proofs.Ythmocicjocjdoaa.V
namespace Go.Proofs.Ythmocicjocjdoaa.V
open Go
theorem c_ytableK (l : List Int) (below : Int) (i : Nat) (n : Int) (hn : l[i]? = some n) (hl : l.length ≤ 140737488355328) : ∀ (d k : Nat), k + d = i →
    ltbl E0 162 0 7 [intsV l, .int .i64 below, .int .i64 i, .int .i64 k] [] = some (if ((l.take i).drop k).any (fun y => y == n) then (0, [.bool false], []) else (3, [intsV l, .int .i64 below, .int .i64 i], [])) := by
  obtain ⟨hi, _⟩ := List.getElem?_eq_some_iff.1 hn
  intro d
  induction d with
  | zero =>
    intro k hk
    have h1 : ¬ ((k : Int) < i) := by omega
    have h2 : (l.take i).drop k = [] := by rw [List.drop_eq_nil_iff, List.length_take]; omega
    exact t_ytableK _ _ _ _ (by simp [s_ytableK, h1, h2])
  | succ d ih =>
    intro k hk
    have h := ih (k + 1) (by omega)
    have h1 : (k : Int) < i := by omega
    have hk2 : k < l.length := by omega
    have e1 := i64_succ (i := k) (by omega)
    have hg : l[k]? = some l[k] := List.getElem?_eq_getElem hk2
    have h2 : (l.take i).drop k = l[k] :: (l.take i).drop (k + 1) := by
      rw [List.drop_eq_getElem_cons (by rw [List.length_take]; omega), List.getElem_take]
    refine t_ytableK _ _ _ _ ?_
    simp only [s_ytableK, h1, decide_true, cond_true, OA_chk, Int.natCast_nonneg, nthE, Int.toNat_natCast, List.getElem?_map, hg, hn, Option.map_some, u_asI, e1, h, h2, List.any_cons]
    by_cases hq : l[k] = n <;> simp [hq]
def idxI (below : Int) (l : List Int) : Nat → List Int → Bool
  | _, [] => true
  | i, n :: r => (inS n 0 (below - 1) && !((l.take i).any fun y => y == n)) && idxI below l (i + 1) r
theorem c_ytableL (l : List Int) (below : Int) (hb : 1 ≤ below ∧ below ≤ 1000) (hl : l.length ≤ 140737488355328) : ∀ (r : List Int) (i : Nat), l.drop i = r →
    ltbl E0 162 0 2 [intsV l, .int .i64 below, .int .i64 i] [] = some (if idxI below l i r then (1, [intsV l], []) else (0, [.bool false], [])) := by
  intro r
  induction r with
  | nil =>
    intro i hr
    have h : l.length ≤ i := by simpa using hr
    refine t_ytableL _ _ _ ?_
    have : ¬ ((i : Int) < l.length) := by omega
    simp [s_ytableL, this, idxI]
  | cons n r ih =>
    intro i hr
    obtain ⟨hlt, hget, hr2⟩ := drop_c hr
    have h2 : (i : Int) < l.length := by omega
    have e1 := i64_succ (i := i) (by omega)
    have h := ih (i + 1) hr2
    have ew : IntKind.i64.wrap (below - 1) = below - 1 := wrap_i64 _ (by omega) (by omega)
    have c := c_ybetween n 0 (below - 1)
    have c2 := c_ytableK l below i n hget hl i 0 (by omega)
    simp only [Int.natCast_zero, List.drop_zero] at c2
    refine t_ytableL _ _ _ ?_
    simp only [s_ytableL, OA_asm, List.length_map, h2, decide_true, cond_true, OA_chk, Int.natCast_nonneg, nthE, Int.toNat_natCast, List.getElem?_map, hget, Option.map_some, u_asC, u_asI, u_asB, u_asN, OA_callx, c, ew, Option.bind_some, OA_loop, c2, e1, h, idxI]
    rcases bor (inS n 0 (below - 1)) with hq | hq
    · rcases bor ((l.take i).any (fun y => y == n)) with hp | hp
      · simp [hq, hp]
      · simpa [hq, hp, e1] using h
    · simp [hq]
theorem idxI_iff (below : Int) : ∀ (r p : List Int), idxI below (p ++ r) p.length r = true ↔ (∀ n ∈ r, inS n 0 (below - 1) = true ∧ ∀ y ∈ p, y ≠ n) ∧ nodupI r = true
  | [], p => by simp [idxI, nodupI]
  | n :: r, p => by
    have ih := idxI_iff below r (p ++ [n])
    simp only [List.append_assoc, List.singleton_append, List.length_append, List.length_singleton] at ih
    simp only [idxI, Bool.and_eq_true, ih, nodupI, List.mem_cons, forall_eq_or_imp, Bool.not_eq_true', List.any_eq_false, beq_iff_eq, List.mem_append, List.not_mem_nil, or_false, List.take_left']
    constructor
    · rintro ⟨⟨h1, h2⟩, h3, h4⟩
      refine ⟨⟨⟨h1, h2⟩, fun y hy => ⟨(h3 y hy).1, fun f hf => (h3 y hy).2 f (Or.inl hf)⟩⟩, fun y hy e => (h3 y hy).2 n (Or.inr rfl) e.symm, h4⟩
    · rintro ⟨⟨⟨h1, h2⟩, h3⟩, h4, h5⟩
      refine ⟨⟨h1, h2⟩, fun y hy => ⟨(h3 y hy).1, ?_⟩, h5⟩
      rintro f (hf | rfl)
      · exact (h3 y hy).2 f hf
      · exact fun e => h4 y hy e.symm
theorem idxI_0 (below : Int) (l : List Int) : idxI below l 0 l = ((l.all fun n => inS n 0 (below - 1)) && nodupI l) := by
  rw [Bool.eq_iff_iff]
  have := idxI_iff below l []
  simp only [List.nil_append, List.length_nil] at this
  rw [this]
  simp
theorem c_ytable (l : List Int) (below : Int) (hb : 1 ≤ below ∧ below ≤ 1000) (hl : l.length ≤ 140737488355328) : tbl E0 162 [intsV l, .int .i64 below] [] = some ([.bool (apartS l below)], []) :=
  t_ytable l below (by
    have e := c_ytableL l below hb hl l 0 rfl
    simp only [Int.natCast_zero, idxI_0] at e
    simp only [s_ytable, OA_loop, e, apartS]
    cases ((l.all fun n => inS n 0 (below - 1)) && nodupI l) with
    | false => simp
    | true =>
      by_cases a : 1 ≤ l.length
      · have a2 : (l.length : Int) ≥ 1 := by omega
        by_cases b : l.length ≤ 64
        · have b2 : (l.length : Int) ≤ 64 := by omega
          simp [a, a2, b, b2]
        · have b2 : ¬ ((l.length : Int) ≤ 64) := by omega
          simp [a, a2, b, b2]
      · have a2 : ¬ ((l.length : Int) ≥ 1) := by omega
        simp [a, a2])
theorem c_ynumbers (x : Stp) (hs : x.t.length ≤ 140737488355328) : tbl E0 131 [stpV x] [] = some ([.bool (numbersS x)], []) :=
  t_ynumbers x (by
    have i1 := c_ybetween
    have i3 := c_ytable x.t 1000 (by omega) hs
    simp only [s_ynumbers, OA_chk, cond_true, OA_callx, OA_join, i1, i3, Option.bind_some, u_asC, u_asB, u_asN, numbersS]
    by_cases h4 : x.op = 4
    · simp only [h4]
      cases inS x.a (-1048576) 1048576 <;> cases inS x.b (-1099511627776) 1099511627776 <;> by_cases ha : x.a = 0 <;> simp [ha]
    · by_cases h24 : x.op = 24
      · simp only [h24]
        cases inS x.a (-1048576) 1048576 <;> cases inS x.b (-1099511627776) 1099511627776 <;> by_cases ha : x.a = 0 <;> simp [ha]
      · have f4 : (x.op == 4) = false := beq_f h4
        have f24 : (x.op == 24) = false := beq_f h24
        by_cases h6 : x.op = 6
        · simp [h6]
        · have f6 : (x.op == 6) = false := beq_f h6
          by_cases h26 : x.op = 26
          · simp [h26]
          · have f26 : (x.op == 26) = false := beq_f h26
            by_cases h5 : x.op = 5
            · cases hi : inS x.a 1 1000 with
              | false => simp [h5, hi]
              | true =>
                have hb : 1 ≤ x.a ∧ x.a ≤ 1000 := by simpa [inS] using hi
                have i2 := c_ytable x.t x.a hb hs
                simp [h5, hi, i2]
            · have f5 : (x.op == 5) = false := beq_f h5
              by_cases h25 : x.op = 25 <;> simp [h4, h24, h6, h26, h5, h25, f4, f24, f6, f26, f5])
theorem ret_ff (p q : Bool) : (bif p then some ([AV.bool false], []) else some ([AV.bool q], []) : Option CR) = some ([AV.bool (!p && q)], []) := by cases p <;> rfl
theorem cond_or2 (p a b : Bool) : (bif p then a || b else b) = ((p && a) || b) := by cases p <;> rfl
theorem c_ytRight (x : Stp) (hs : x.sml) : tbl E0 82 [stpV x] [] = some ([.bool (ytRightS x)], []) := by
  obtain ⟨⟨h1, h2, h3⟩, ⟨h4, h5, h6⟩, ⟨h7, h8, h9⟩⟩ := c_yh x.op
  obtain ⟨s, cu, hu⟩ := c_yuses x.op
  have cz := c_yzero x
  have cn := c_ynumbers x hs.1
  have cr := c_yRight x.f
  have ch := c_yHas x.f x.n x.s
  have cf := c_yFine ⟨x.form, x.fields⟩ hs.2
  have he : (s == []) = (usesS x.op).isEmpty := by rw [hu]; cases usesS x.op <;> simp
  refine t_ytRight x ?_
  simp only [stpV, stpC, fldV, fldC, frmV, intsV, fldsV] at cz cn cr ch cf
  simp only [s_ytRight, OA_chk, cond_true, OA_callx, cu, cz, cn, cr, ch, cf, h1, h2, h3, h4, h5, h6, h7, h8, h9, c_ybetween, Option.bind_some, u_asC, u_asB, u_asS, u_asN, OA_join, OA_asm, he, ytRightS]
  simp only [tok_cond, Option.bind_some, Tok.untok_tok, cond_tt, cond_ff, cond_or, cond_nt]
  have e32 : decide ((x.s.length : Int) > 32) = !decide ((x.s.length : Int) ≤ 32) := by
    rw [← decide_not]; exact decide_eq_decide.2 (by omega)
  simp only [cond_or2, e32, ret_ff, Bool.not_or, Bool.not_not, Bool.and_assoc, Bool.not_and]
/-- The first cells of a step, and its two lists. -/
theorem c_ytSameK (x y : Stp) (hl : x.fields.length ≤ 140737488355328) (he : x.fields.length = y.fields.length) : ∀ (r q : List Fld) (i : Nat), x.fields.drop i = r → y.fields.drop i = q →
    ltbl E0 85 0 9 [.int .i64 i] [stpC x, stpC y] = some (if r = q then (3, [], []) else (0, [.bool false], [])) := by
  intro r
  induction r with
  | nil =>
    intro q i hr hq
    have h : x.fields.length ≤ i := by simpa using hr
    have h3 : q = [] := by rw [← hq, List.drop_eq_nil_iff]; omega
    have : ¬ ((i : Int) < x.fields.length) := by omega
    subst h3
    exact t_ytSameK _ _ _ (by simp [s_ytSameK, this])
  | cons f r ih =>
    intro q i hr hq
    obtain ⟨hlt, hget, hr2⟩ := drop_c hr
    have hlt' : i < y.fields.length := by omega
    rw [List.drop_eq_getElem_cons hlt'] at hq
    subst hq
    have hg2 : y.fields[i]? = some y.fields[i] := List.getElem?_eq_getElem hlt'
    generalize y.fields[i] = g at *
    have h2 : (i : Int) < x.fields.length := by omega
    have e1 := i64_succ (i := i) (by omega)
    have h := ih _ (i + 1) hr2 rfl
    have hf := fld_eq f g
    refine t_ytSameK _ _ _ ?_
    simp only [s_ytSameK, OA_asm, List.length_map, h2, decide_true, cond_true, OA_chk, Int.natCast_nonneg, nthE, Int.toNat_natCast, List.getElem?_map, hget, hg2, Option.map_some, u_asA, u_asC, u_asI, u_asB, u_asN, e1, hf]
    by_cases e : f = g
    · simp only [e, decide_true, Bool.not_true, cond_false, h, List.cons.injEq, true_and]
    · simp [e]
theorem c_ytSameL (x y : Stp) (hl : x.t.length ≤ 140737488355328) (he : x.t.length = y.t.length) : ∀ (r q : List Int) (i : Nat), x.t.drop i = r → y.t.drop i = q →
    ltbl E0 85 0 4 [.int .i64 i] [stpC x, stpC y] = some (if r = q then (1, [], [stpC x, stpC y]) else (0, [.bool false], [])) := by
  intro r
  induction r with
  | nil =>
    intro q i hr hq
    have h : x.t.length ≤ i := by simpa using hr
    have h3 : q = [] := by rw [← hq, List.drop_eq_nil_iff]; omega
    have : ¬ ((i : Int) < x.t.length) := by omega
    subst h3
    exact t_ytSameL _ _ _ (by simp [s_ytSameL, this])
  | cons f r ih =>
    intro q i hr hq
    obtain ⟨hlt, hget, hr2⟩ := drop_c hr
    have hlt' : i < y.t.length := by omega
    rw [List.drop_eq_getElem_cons hlt'] at hq
    subst hq
    have hg2 : y.t[i]? = some y.t[i] := List.getElem?_eq_getElem hlt'
    generalize y.t[i] = g at *
    have h2 : (i : Int) < x.t.length := by omega
    have e1 := i64_succ (i := i) (by omega)
    have h := ih _ (i + 1) hr2 rfl
    refine t_ytSameL _ _ _ ?_
    simp only [s_ytSameL, OA_asm, List.length_map, h2, decide_true, cond_true, OA_chk, Int.natCast_nonneg, nthE, Int.toNat_natCast, List.getElem?_map, hget, hg2, Option.map_some, u_asA, u_asC, u_asI, u_asB, u_asN, e1]
    by_cases e : f = g
    · simp only [e, bne_self_eq_false, cond_false, h, List.cons.injEq, true_and]
    · simp [e]
theorem c_ytSame (x y : Stp) (hs : x.sml) : tbl E0 85 [stpV x, stpV y] [] = some ([.bool (decide (x = y))], []) := by
  refine t_ytSame x y ?_
  have hv : (x.n == y.n && (x.s == y.s && true)) = (x.n == y.n && x.s == y.s) := by simp
  simp only [s_ytSame, OA_chk, cond_true, Option.bind_some, u_asC, u_asB, u_asN, OA_join, OA_asm, List.length_map, fld_eq, hv]
  simp only [tok_cond, Option.bind_some, Tok.untok_tok, cond_tt]
  have ha : decide (x = y) = (!(x.op != y.op || (x.form != y.form || (x.field != y.field || (x.place != y.place || (x.to != y.to || (x.a != y.a || (x.b != y.b || (!decide (x.f = y.f) || (!(x.n == y.n && x.s == y.s) || ((x.t.length : Int) != y.t.length || (x.fields.length : Int) != y.fields.length)))))))))) && (decide (x.t = y.t) && decide (x.fields = y.fields))) := by
    rw [stp_eq, Bool.eq_iff_iff]
    have h1 : x.t = y.t → (x.t.length : Int) = y.t.length := fun h => by rw [h]
    have h2 : x.fields = y.fields → (x.fields.length : Int) = y.fields.length := fun h => by rw [h]
    simp only [Bool.and_eq_true, Bool.or_eq_true, Bool.not_eq_true', Bool.or_eq_false_iff, Bool.and_eq_false_iff, decide_eq_true_eq, decide_eq_false_iff_not, beq_iff_eq, bne_eq_false_iff_eq, Bool.not_eq_false']
    grind
  rw [ha]
  generalize hq : (x.op != y.op || (x.form != y.form || (x.field != y.field || (x.place != y.place || (x.to != y.to || (x.a != y.a || (x.b != y.b || (!decide (x.f = y.f) || (!(x.n == y.n && x.s == y.s) || ((x.t.length : Int) != y.t.length || (x.fields.length : Int) != y.fields.length)))))))))) = q
  rcases bor q with hb | hb
  · subst hb; rfl
  · rw [hb] at hq
    simp only [Bool.or_eq_false_iff, bne_eq_false_iff_eq] at hq
    have h1 : x.t.length = y.t.length := by have := hq.2.2.2.2.2.2.2.2.2.1; omega
    have h2 : x.fields.length = y.fields.length := by have := hq.2.2.2.2.2.2.2.2.2.2; omega
    have e1 := c_ytSameL x y hs.1 h1 x.t y.t 0 rfl rfl
    have e2 := c_ytSameK x y hs.2 h2 x.fields y.fields 0 rfl rfl
    simp only [Int.natCast_zero] at e1 e2
    subst hb
    simp only [cond_false, OA_loop, stpC] at e1 e2 ⊢
    rw [e1]
    by_cases c1 : x.t = y.t
    · simp only [c1, if_true, Option.bind_some, Nat.beq, cond_false, cond_true, u_asC, u_asI, u_asS, u_asL, u_asN, OA_loop] at e2 ⊢
      rw [e2]
      by_cases c2 : x.fields = y.fields <;> simp [c2]
    · simp [c1]
def bigT (x : Stp) : Bool := decide (100 < x.t.length) || decide (40 < x.fields.length)
theorem c_yGreatL (l : List Stp) : ∀ (m : Nat) (r : List Stp) (i : Nat), l.drop i = r → i + m = 61 →
    ltbl E0 41 0 2 [stpsV l, .int .i64 i] [] = some (if (r.take m).any bigT then (0, [.bool true], []) else (1, [stpsV l], [])) := by
  intro d
  induction d with
  | zero =>
    intro r i hr hm
    have : ¬ ((i : Int) < 61) := by omega
    refine t_yGreatL _ _ ?_
    by_cases h : (i : Int) < l.length <;> simp [s_yGreatL, this, h]
  | succ d ih =>
    intro r i hr hm
    cases r with
    | nil =>
      have h : l.length ≤ i := by simpa using hr
      have : ¬ ((i : Int) < l.length) := by omega
      exact t_yGreatL _ _ (by simp [s_yGreatL, this])
    | cons x r =>
      obtain ⟨hlt, hget, hr2⟩ := drop_c hr
      have h2 : (i : Int) < l.length := by omega
      have h3 : (i : Int) < 61 := by omega
      have e1 := i64_succ (i := i) (by omega)
      have h := ih r (i + 1) hr2 (by omega)
      refine t_yGreatL _ _ ?_
      simp only [s_yGreatL, OA_asm, OA_join, List.length_map, h2, h3, decide_true, cond_true, OA_chk, Int.natCast_nonneg, nthE, Int.toNat_natCast, List.getElem?_map, hget, Option.map_some, u_asA, u_asC, u_asI, u_asS, u_asL, u_asB, u_asN, Option.bind_some, Tok.untok_tok, e1, h, List.take_succ_cons, List.any_cons]
      by_cases a : 100 < x.t.length
      · have a2 : (x.t.length : Int) > 100 := by omega
        simp [a2, bigT, a]
      · have a2 : ¬ ((x.t.length : Int) > 100) := by omega
        by_cases b : 40 < x.fields.length
        · have b2 : (x.fields.length : Int) > 40 := by omega
          simp [a2, b2, bigT, a, b]
        · have b2 : ¬ ((x.fields.length : Int) > 40) := by omega
          have : bigT x = false := by simp [bigT, a, b]
          simp [a2, b2, this]
def greatT (l : List Stp) : Bool := (l.take 61).any bigT || decide (60 < l.length)
theorem c_yGreat (l : List Stp) : tbl E0 41 [stpsV l] [] = some ([.bool (greatT l)], []) :=
  t_yGreat l (by
    have e := c_yGreatL l 61 l 0 rfl rfl
    simp only [Int.natCast_zero] at e
    simp only [s_yGreat, OA_loop, e, greatT]
    rcases bor ((l.take 61).any bigT) with hb | hb
    · simp [hb]
    · by_cases h : 60 < l.length
      · have : (l.length : Int) > 60 := by omega
        simp [hb, h, this]
      · have : ¬ ((l.length : Int) > 60) := by omega
        simp [hb, h, this])
end Go.Proofs.Ythmocicjocjdoaa.V
namespace Go.Proofs.Ythmocicjocjdoaa.V
open Go
theorem bigT_sml {x : Stp} (h : bigT x = false) : x.sml := by
  simp only [bigT, Bool.or_eq_false_iff, decide_eq_false_iff_not] at h
  exact ⟨by omega, by omega⟩
end Go.Proofs.Ythmocicjocjdoaa.V
