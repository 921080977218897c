/- Contracts of steps: right and the same as the document has it, great. -/
import Derived.Test.YthehhlaomiifnaaC20
set_option linter.unusedVariables false
set_option linter.unusedSimpArgs false
namespace Go.Proofs.Ythehhlaomiifnaa.V
open Go
theorem c_ytableK (l : List Int) (below : Int) (i : Nat) (n : Int) (hn : l[i]? = some n) (hl : l.length ≤ 140737488355328) : ∀ (d k : Nat), k + d = i →
    ltbl E0 153 0 7 [intsV l, .int .i64 below, .int .i64 i, .int .i64 k] [] = some (if ((l.take i).drop k).any (fun y => y == n) then (0, [.bool false], []) else (3, [intsV l, .int .i64 below, .int .i64 i], [])) := by
  obtain ⟨hi, _⟩ := List.getElem?_eq_some_iff.1 hn
  intro d
  induction d with
  | zero =>
    intro k hk
    have h1 : ¬ ((k : Int) < i) := by omega
    have h2 : (l.take i).drop k = [] := by rw [List.drop_eq_nil_iff, List.length_take]; omega
    exact t_ytableK _ _ _ _ (by simp [s_ytableK, h1, h2])
  | succ d ih =>
    intro k hk
    have h := ih (k + 1) (by omega)
    have h1 : (k : Int) < i := by omega
    have hk2 : k < l.length := by omega
    have e1 := i64_succ (i := k) (by omega)
    have hg : l[k]? = some l[k] := List.getElem?_eq_getElem hk2
    have h2 : (l.take i).drop k = l[k] :: (l.take i).drop (k + 1) := by
      rw [List.drop_eq_getElem_cons (by rw [List.length_take]; omega), List.getElem_take]
    refine t_ytableK _ _ _ _ ?_
    simp only [s_ytableK, h1, decide_true, cond_true, OA_chk, Int.natCast_nonneg, nthE, Int.toNat_natCast, List.getElem?_map, hg, hn, Option.map_some, u_asI, e1, h, h2, List.any_cons]
    by_cases hq : l[k] = n <;> simp [hq]
def idxI (below : Int) (l : List Int) : Nat → List Int → Bool
  | _, [] => true
  | i, n :: r => (inS n 0 (below - 1) && !((l.take i).any fun y => y == n)) && idxI below l (i + 1) r
theorem c_ytableL (l : List Int) (below : Int) (hb : 1 ≤ below ∧ below ≤ 1000) (hl : l.length ≤ 140737488355328) : ∀ (r : List Int) (i : Nat), l.drop i = r →
    ltbl E0 153 0 2 [intsV l, .int .i64 below, .int .i64 i] [] = some (if idxI below l i r then (1, [intsV l], []) else (0, [.bool false], [])) := by
  intro r
  induction r with
  | nil =>
    intro i hr
    have h : l.length ≤ i := by simpa using hr
    refine t_ytableL _ _ _ ?_
    have : ¬ ((i : Int) < l.length) := by omega
    simp [s_ytableL, this, idxI]
  | cons n r ih =>
    intro i hr
    obtain ⟨hlt, hget, hr2⟩ := drop_c hr
    have h2 : (i : Int) < l.length := by omega
    have e1 := i64_succ (i := i) (by omega)
    have h := ih (i + 1) hr2
    have ew : IntKind.i64.wrap (below - 1) = below - 1 := wrap_i64 _ (by omega) (by omega)
    have c := c_ybetween n 0 (below - 1)
    have c2 := c_ytableK l below i n hget hl i 0 (by omega)
    simp only [Int.natCast_zero, List.drop_zero] at c2
    refine t_ytableL _ _ _ ?_
    simp only [s_ytableL, OA_asm, List.length_map, h2, decide_true, cond_true, OA_chk, Int.natCast_nonneg, nthE, Int.toNat_natCast, List.getElem?_map, hget, Option.map_some, u_asC, u_asI, u_asB, u_asN, OA_callx, c, ew, Option.bind_some, OA_loop, c2, e1, h, idxI]
    rcases bor (inS n 0 (below - 1)) with hq | hq
    · rcases bor ((l.take i).any (fun y => y == n)) with hp | hp
      · simp [hq, hp]
      · simpa [hq, hp, e1] using h
    · simp [hq]
theorem idxI_iff (below : Int) : ∀ (r p : List Int), idxI below (p ++ r) p.length r = true ↔ (∀ n ∈ r, inS n 0 (below - 1) = true ∧ ∀ y ∈ p, y ≠ n) ∧ nodupI r = true
  | [], p => by simp [idxI, nodupI]
  | n :: r, p => by
    have ih := idxI_iff below r (p ++ [n])
    simp only [List.append_assoc, List.singleton_append, List.length_append, List.length_singleton] at ih
    simp only [idxI, Bool.and_eq_true, ih, nodupI, List.mem_cons, forall_eq_or_imp, Bool.not_eq_true', List.any_eq_false, beq_iff_eq, List.mem_append, List.not_mem_nil, or_false, List.take_left']
    constructor
    · rintro ⟨⟨h1, h2⟩, h3, h4⟩
      refine ⟨⟨⟨h1, h2⟩, fun y hy => ⟨(h3 y hy).1, fun f hf => (h3 y hy).2 f (Or.inl hf)⟩⟩, fun y hy e => (h3 y hy).2 n (Or.inr rfl) e.symm, h4⟩
    · rintro ⟨⟨⟨h1, h2⟩, h3⟩, h4, h5⟩
      refine ⟨⟨h1, h2⟩, fun y hy => ⟨(h3 y hy).1, ?_⟩, h5⟩
      rintro f (hf | rfl)
      · exact (h3 y hy).2 f hf
      · exact fun e => h4 y hy e.symm
theorem idxI_0 (below : Int) (l : List Int) : idxI below l 0 l = ((l.all fun n => inS n 0 (below - 1)) && nodupI l) := by
  rw [Bool.eq_iff_iff]
  have := idxI_iff below l []
  simp only [List.nil_append, List.length_nil] at this
  rw [this]
  simp
theorem c_ytable (l : List Int) (below : Int) (hb : 1 ≤ below ∧ below ≤ 1000) (hl : l.length ≤ 140737488355328) : tbl E0 153 [intsV l, .int .i64 below] [] = some ([.bool (apartS l below)], []) :=
  t_ytable l below (by
    have e := c_ytableL l below hb hl l 0 rfl
    simp only [Int.natCast_zero, idxI_0] at e
    simp only [s_ytable, OA_loop, e, apartS]
    cases ((l.all fun n => inS n 0 (below - 1)) && nodupI l) with
    | false => simp
    | true =>
      by_cases a : 1 ≤ l.length
      · have a2 : (l.length : Int) ≥ 1 := by omega
        by_cases b : l.length ≤ 64
        · have b2 : (l.length : Int) ≤ 64 := by omega
          simp [a, a2, b, b2]
        · have b2 : ¬ ((l.length : Int) ≤ 64) := by omega
          simp [a, a2, b, b2]
      · have a2 : ¬ ((l.length : Int) ≥ 1) := by omega
        simp [a, a2])
theorem c_ynumbers (x : Stp) (hs : x.t.length ≤ 140737488355328) : tbl E0 119 [stpV x] [] = some ([.bool (numbersS x)], []) :=
  t_ynumbers x (by
    have i1 := c_ybetween
    have i3 := c_ytable x.t 1000 (by omega) hs
    simp only [s_ynumbers, OA_chk, cond_true, OA_callx, OA_join, i1, i3, Option.bind_some, u_asC, u_asB, u_asN, numbersS]
    by_cases h4 : x.op = 4
    · simp only [h4]
      cases inS x.a (-1048576) 1048576 <;> cases inS x.b (-1099511627776) 1099511627776 <;> by_cases ha : x.a = 0 <;> simp [ha]
    · by_cases h24 : x.op = 24
      · simp only [h24]
        cases inS x.a (-1048576) 1048576 <;> cases inS x.b (-1099511627776) 1099511627776 <;> by_cases ha : x.a = 0 <;> simp [ha]
      · have f4 : (x.op == 4) = false := beq_f h4
        have f24 : (x.op == 24) = false := beq_f h24
        by_cases h6 : x.op = 6
        · simp [h6]
        · have f6 : (x.op == 6) = false := beq_f h6
          by_cases h26 : x.op = 26
          · simp [h26]
          · have f26 : (x.op == 26) = false := beq_f h26
            by_cases h5 : x.op = 5
            · cases hi : inS x.a 1 1000 with
              | false => simp [h5, hi]
              | true =>
                have hb : 1 ≤ x.a ∧ x.a ≤ 1000 := by simpa [inS] using hi
                have i2 := c_ytable x.t x.a hb hs
                simp [h5, hi, i2]
            · have f5 : (x.op == 5) = false := beq_f h5
              by_cases h25 : x.op = 25 <;> simp [h4, h24, h6, h26, h5, h25, f4, f24, f6, f26, f5])
theorem ret_ff (p q : Bool) : (bif p then some ([AV.bool false], []) else some ([AV.bool q], []) : Option CR) = some ([AV.bool (!p && q)], []) := by cases p <;> rfl
theorem cond_or2 (p a b : Bool) : (bif p then a || b else b) = ((p && a) || b) := by cases p <;> rfl
theorem c_ytRight (x : Stp) (hs : x.sml) : tbl E0 61 [stpV x] [] = some ([.bool (ytRightS x)], []) := by
  obtain ⟨⟨h1, h2, h3⟩, ⟨h4, h5, h6⟩, ⟨h7, h8, h9⟩⟩ := c_yh x.op
  obtain ⟨s, cu, hu⟩ := c_yuses x.op
  have cz := c_yzero x
  have cn := c_ynumbers x hs.1
  have cr := c_yRight x.f
  have ch := c_yHas x.f x.n x.s
  have cf := c_yFine ⟨x.form, x.fields⟩ hs.2
  have he : (s == []) = (usesS x.op).isEmpty := by rw [hu]; cases usesS x.op <;> simp
  refine t_ytRight x ?_
  simp only [stpV, stpC, fldV, fldC, frmV, intsV, fldsV] at cz cn cr ch cf
  simp only [s_ytRight, OA_chk, cond_true, OA_callx, cu, cz, cn, cr, ch, cf, h1, h2, h3, h4, h5, h6, h7, h8, h9, c_ybetween, Option.bind_some, u_asC, u_asB, u_asS, u_asN, OA_join, OA_asm, he, ytRightS]
  simp only [tok_cond, Option.bind_some, Tok.untok_tok, cond_tt, cond_ff, cond_or, cond_nt]
  have e32 : decide ((x.s.length : Int) > 32) = !decide ((x.s.length : Int) ≤ 32) := by
    rw [← decide_not]; exact decide_eq_decide.2 (by omega)
  simp only [cond_or2, e32, ret_ff, Bool.not_or, Bool.not_not, Bool.and_assoc, Bool.not_and]
/-- The first cells of a step, and its two lists. -/
theorem c_ytSameK (x y : Stp) (hl : x.fields.length ≤ 140737488355328) (he : x.fields.length = y.fields.length) : ∀ (r q : List Fld) (i : Nat), x.fields.drop i = r → y.fields.drop i = q →
    ltbl E0 63 0 9 [.int .i64 i] [stpC x, stpC y] = some (if r = q then (3, [], []) else (0, [.bool false], [])) := by
  intro r
  induction r with
  | nil =>
    intro q i hr hq
    have h : x.fields.length ≤ i := by simpa using hr
    have h3 : q = [] := by rw [← hq, List.drop_eq_nil_iff]; omega
    have : ¬ ((i : Int) < x.fields.length) := by omega
    subst h3
    exact t_ytSameK _ _ _ (by simp [s_ytSameK, this])
  | cons f r ih =>
    intro q i hr hq
    obtain ⟨hlt, hget, hr2⟩ := drop_c hr
    have hlt' : i < y.fields.length := by omega
    rw [List.drop_eq_getElem_cons hlt'] at hq
    subst hq
    have hg2 : y.fields[i]? = some y.fields[i] := List.getElem?_eq_getElem hlt'
    generalize y.fields[i] = g at *
    have h2 : (i : Int) < x.fields.length := by omega
    have e1 := i64_succ (i := i) (by omega)
    have h := ih _ (i + 1) hr2 rfl
    have hf := fld_eq f g
    refine t_ytSameK _ _ _ ?_
    simp only [s_ytSameK, OA_asm, List.length_map, h2, decide_true, cond_true, OA_chk, Int.natCast_nonneg, nthE, Int.toNat_natCast, List.getElem?_map, hget, hg2, Option.map_some, u_asA, u_asC, u_asI, u_asB, u_asN, e1, hf]
    by_cases e : f = g
    · simp only [e, decide_true, Bool.not_true, cond_false, h, List.cons.injEq, true_and]
    · simp [e]
theorem c_ytSameL (x y : Stp) (hl : x.t.length ≤ 140737488355328) (he : x.t.length = y.t.length) : ∀ (r q : List Int) (i : Nat), x.t.drop i = r → y.t.drop i = q →
    ltbl E0 63 0 4 [.int .i64 i] [stpC x, stpC y] = some (if r = q then (1, [], [stpC x, stpC y]) else (0, [.bool false], [])) := by
  intro r
  induction r with
  | nil =>
    intro q i hr hq
    have h : x.t.length ≤ i := by simpa using hr
    have h3 : q = [] := by rw [← hq, List.drop_eq_nil_iff]; omega
    have : ¬ ((i : Int) < x.t.length) := by omega
    subst h3
    exact t_ytSameL _ _ _ (by simp [s_ytSameL, this])
  | cons f r ih =>
    intro q i hr hq
    obtain ⟨hlt, hget, hr2⟩ := drop_c hr
    have hlt' : i < y.t.length := by omega
    rw [List.drop_eq_getElem_cons hlt'] at hq
    subst hq
    have hg2 : y.t[i]? = some y.t[i] := List.getElem?_eq_getElem hlt'
    generalize y.t[i] = g at *
    have h2 : (i : Int) < x.t.length := by omega
    have e1 := i64_succ (i := i) (by omega)
    have h := ih _ (i + 1) hr2 rfl
    refine t_ytSameL _ _ _ ?_
    simp only [s_ytSameL, OA_asm, List.length_map, h2, decide_true, cond_true, OA_chk, Int.natCast_nonneg, nthE, Int.toNat_natCast, List.getElem?_map, hget, hg2, Option.map_some, u_asA, u_asC, u_asI, u_asB, u_asN, e1]
    by_cases e : f = g
    · simp only [e, bne_self_eq_false, cond_false, h, List.cons.injEq, true_and]
    · simp [e]
theorem c_ytSame (x y : Stp) (hs : x.sml) : tbl E0 63 [stpV x, stpV y] [] = some ([.bool (decide (x = y))], []) := by
  refine t_ytSame x y ?_
  have hv : (x.n == y.n && (x.s == y.s && true)) = (x.n == y.n && x.s == y.s) := by simp
  simp only [s_ytSame, OA_chk, cond_true, Option.bind_some, u_asC, u_asB, u_asN, OA_join, OA_asm, List.length_map, fld_eq, hv]
  simp only [tok_cond, Option.bind_some, Tok.untok_tok, cond_tt]
  have ha : decide (x = y) = (!(x.op != y.op || (x.form != y.form || (x.field != y.field || (x.place != y.place || (x.to != y.to || (x.a != y.a || (x.b != y.b || (!decide (x.f = y.f) || (!(x.n == y.n && x.s == y.s) || ((x.t.length : Int) != y.t.length || (x.fields.length : Int) != y.fields.length)))))))))) && (decide (x.t = y.t) && decide (x.fields = y.fields))) := by
    rw [stp_eq, Bool.eq_iff_iff]
    have h1 : x.t = y.t → (x.t.length : Int) = y.t.length := fun h => by rw [h]
    have h2 : x.fields = y.fields → (x.fields.length : Int) = y.fields.length := fun h => by rw [h]
    simp only [Bool.and_eq_true, Bool.or_eq_true, Bool.not_eq_true', Bool.or_eq_false_iff, Bool.and_eq_false_iff, decide_eq_true_eq, decide_eq_false_iff_not, beq_iff_eq, bne_eq_false_iff_eq, Bool.not_eq_false']
    grind
  rw [ha]
  generalize hq : (x.op != y.op || (x.form != y.form || (x.field != y.field || (x.place != y.place || (x.to != y.to || (x.a != y.a || (x.b != y.b || (!decide (x.f = y.f) || (!(x.n == y.n && x.s == y.s) || ((x.t.length : Int) != y.t.length || (x.fields.length : Int) != y.fields.length)))))))))) = q
  rcases bor q with hb | hb
  · subst hb; rfl
  · rw [hb] at hq
    simp only [Bool.or_eq_false_iff, bne_eq_false_iff_eq] at hq
    have h1 : x.t.length = y.t.length := by have := hq.2.2.2.2.2.2.2.2.2.1; omega
    have h2 : x.fields.length = y.fields.length := by have := hq.2.2.2.2.2.2.2.2.2.2; omega
    have e1 := c_ytSameL x y hs.1 h1 x.t y.t 0 rfl rfl
    have e2 := c_ytSameK x y hs.2 h2 x.fields y.fields 0 rfl rfl
    simp only [Int.natCast_zero] at e1 e2
    subst hb
    simp only [cond_false, OA_loop, stpC] at e1 e2 ⊢
    rw [e1]
    by_cases c1 : x.t = y.t
    · simp only [c1, if_true, Option.bind_some, Nat.beq, cond_false, cond_true, u_asC, u_asI, u_asS, u_asL, u_asN, OA_loop] at e2 ⊢
      rw [e2]
      by_cases c2 : x.fields = y.fields <;> simp [c2]
    · simp [c1]
def bigT (x : Stp) : Bool := decide (100 < x.t.length) || decide (40 < x.fields.length)
theorem c_yGreatL (l : List Stp) : ∀ (m : Nat) (r : List Stp) (i : Nat), l.drop i = r → i + m = 61 →
    ltbl E0 58 0 2 [stpsV l, .int .i64 i] [] = some (if (r.take m).any bigT then (0, [.bool true], []) else (1, [stpsV l], [])) := by
  intro d
  induction d with
  | zero =>
    intro r i hr hm
    have : ¬ ((i : Int) < 61) := by omega
    refine t_yGreatL _ _ ?_
    by_cases h : (i : Int) < l.length <;> simp [s_yGreatL, this, h]
  | succ d ih =>
    intro r i hr hm
    cases r with
    | nil =>
      have h : l.length ≤ i := by simpa using hr
      have : ¬ ((i : Int) < l.length) := by omega
      exact t_yGreatL _ _ (by simp [s_yGreatL, this])
    | cons x r =>
      obtain ⟨hlt, hget, hr2⟩ := drop_c hr
      have h2 : (i : Int) < l.length := by omega
      have h3 : (i : Int) < 61 := by omega
      have e1 := i64_succ (i := i) (by omega)
      have h := ih r (i + 1) hr2 (by omega)
      refine t_yGreatL _ _ ?_
      simp only [s_yGreatL, OA_asm, OA_join, List.length_map, h2, h3, decide_true, cond_true, OA_chk, Int.natCast_nonneg, nthE, Int.toNat_natCast, List.getElem?_map, hget, Option.map_some, u_asA, u_asC, u_asI, u_asS, u_asL, u_asB, u_asN, Option.bind_some, Tok.untok_tok, e1, h, List.take_succ_cons, List.any_cons]
      by_cases a : 100 < x.t.length
      · have a2 : (x.t.length : Int) > 100 := by omega
        simp [a2, bigT, a]
      · have a2 : ¬ ((x.t.length : Int) > 100) := by omega
        by_cases b : 40 < x.fields.length
        · have b2 : (x.fields.length : Int) > 40 := by omega
          simp [a2, b2, bigT, a, b]
        · have b2 : ¬ ((x.fields.length : Int) > 40) := by omega
          have : bigT x = false := by simp [bigT, a, b]
          simp [a2, b2, this]
def greatT (l : List Stp) : Bool := (l.take 61).any bigT || decide (60 < l.length)
theorem c_yGreat (l : List Stp) : tbl E0 58 [stpsV l] [] = some ([.bool (greatT l)], []) :=
  t_yGreat l (by
    have e := c_yGreatL l 61 l 0 rfl rfl
    simp only [Int.natCast_zero] at e
    simp only [s_yGreat, OA_loop, e, greatT]
    rcases bor ((l.take 61).any bigT) with hb | hb
    · simp [hb]
    · by_cases h : 60 < l.length
      · have : (l.length : Int) > 60 := by omega
        simp [hb, h, this]
      · have : ¬ ((l.length : Int) > 60) := by omega
        simp [hb, h, this])
end Go.Proofs.Ythehhlaomiifnaa.V
