/- SchemaRight. -/
import Derived.Test.YthehhlaomiifnaaC10
set_option linter.unusedVariables false
set_option linter.unusedSimpArgs false
namespace Go.Proofs.Ythehhlaomiifnaa.V
open Go
theorem c_awake13 : tbl E0 40 [] [] = some ([.bool true], []) := tbl_iff.2 ⟨40, by kernel_rfl⟩
theorem c_SchemaRightL (s t : Sch) (id : Int) (hs : Sml s) : ∀ (r : List Frm) (i : Nat), s.forms.drop i = r →
    ltbl E0 7 0 8 [.int .i64 id, .int .i64 i] [[.int .i64 s.ver, frmsV s.forms], [.int .i64 t.ver, frmsV t.forms]] = some (1, [], [[.int .i64 s.ver, frmsV s.forms], [.int .i64 t.ver, frmsV t.forms]]) := by
  have hl := hs.1
  intro r
  induction r with
  | nil =>
    intro i hr
    have h : s.forms.length ≤ i := by simpa using hr
    refine t_SchemaRightL _ _ _ _ ?_
    have : ¬ ((i : Int) < s.forms.length) := by omega
    simp [s_SchemaRightL, this]
  | cons x r ih =>
    intro i hr
    obtain ⟨hlt, hget, hr2⟩ := drop_c hr
    have h2 : (i : Int) < s.forms.length := by omega
    have e1 := i64_succ (i := i) (by omega)
    have h := ih (i + 1) hr2
    have hx := hs.2 x (mem_drop hr)
    have c1 := c_sFine x hx
    have c2 := c_yFine x hx
    have c3 := c_sLong x hx
    have c4 := c_yLong x hx
    have c5 := c_sAt x id hx
    have c6 := c_yAt x id hx
    refine t_SchemaRightL _ _ _ _ ?_
    have hn : ∀ b : Bool, (!b == b) = false := by intro b; cases b <;> rfl
    simp only [s_SchemaRightL, OA_asm, List.length_map, h2, decide_true, cond_true, OA_chk, Int.natCast_nonneg, nthE, Int.toNat_natCast, List.getElem?_map, hget, Option.map_some, u_asA, u_asC, u_asI, u_asB, u_asL, u_asN, OA_callx, c1, c2, c3, c4, c5, c6, Option.bind_some, e1, h, hn, cond_false, bne_self_eq_false]
theorem c_SchemaRight (s t : Sch) (id : Int) : tbl E0 7 [schV s, schV t, .int .i64 id] [] = some ([.bool true], []) :=
  t_SchemaRight s t id (by
    have g1 := c_sgreat s
    have g2 := c_sgreat t
    simp only [s_SchemaRight, OA_chk, cond_true, OA_join, OA_callx, g1, g2, Option.bind_some, u_asC, u_asB, u_asN]
    rcases bor (greatS s) with hb | hb
    · simp only [hb, cond_true, Option.bind_some, Tok.untok_tok, c_awake13, u_asC, u_asB, u_asN]
    · rcases bor (greatS t) with hb2 | hb2
      · simp only [hb, hb2, cond_true, cond_false, Option.bind_some, Tok.untok_tok, c_awake13, u_asC, u_asB, u_asN]
      · have hs := sml_of hb
        have ht := sml_of hb2
        have cF := c_sForm s id hs
        have cf := c_yFind s id hs
        have cL := c_SchemaRightL s t id hs s.forms 0 rfl
        simp only [Int.natCast_zero] at cL
        have r1 := c_sRight s hs
        have r2 := c_ysRight s hs
        have m1 := c_sSame s t hs
        have m2 := c_ySame s t hs
        have m3 := c_sSame s s hs
        simp only [decide_true] at m3
        have hn : ∀ b : Bool, (!b == b) = false := by intro b; cases b <;> rfl
        rcases find_form s.forms id with ⟨j, f, h1, h2, h3⟩ | ⟨h1, h2⟩
        · rw [h1] at cF
          rw [h2] at cf
          have hf : f ∈ s.forms := List.mem_of_getElem? h3
          have m4 := c_ySameForm f f (hs.2 f hf)
          simp only [decide_true] at m4
          have hj : (j : Int) ≥ 0 := by omega
          simp only [hb, hb2, cond_false, Option.bind_some, Tok.untok_tok, cF, cf, hj, u_asC, u_asA, u_asI, u_asL, u_asB, u_asN, decide_true, hn, show (!true == true) = false from rfl, cond_true, Int.natCast_nonneg, nthE, Int.toNat_natCast, List.getElem?_map, h3, Option.map_some, m4, Bool.not_true, OA_loop, cL, Nat.beq_eq, nbeq, show decide ((1 : Nat) = 0) = false from rfl, r1, r2, m1, m2, m3, beq_self_eq_true, c_awake13]
        · rw [h1] at cF
          rw [h2] at cf
          have hj : ¬ ((-1 : Int) ≥ 0) := by omega
          simp only [hb, hb2, cond_false, Option.bind_some, Tok.untok_tok, cF, cf, hj, u_asC, u_asA, u_asI, u_asL, u_asB, u_asN, decide_false, hn, show (!false == false) = false from rfl, cond_true, Bool.not_false, OA_loop, OA_asm, List.map_nil, List.length_nil, Int.natCast_zero, bne_self_eq_false, cL, Nat.beq_eq, nbeq, show decide ((1 : Nat) = 0) = false from rfl, decide_true, r1, r2, m1, m2, m3, beq_self_eq_true, c_awake13, Bool.not_true, cond_false])
end Go.Proofs.Ythehhlaomiifnaa.V
