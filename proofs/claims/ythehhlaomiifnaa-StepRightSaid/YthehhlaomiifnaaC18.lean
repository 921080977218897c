/- Contracts of steps: right and same, on both sides; the law StepRight. -/
import Derived.Test.YthehhlaomiifnaaC17
set_option linter.unusedVariables false
set_option linter.unusedSimpArgs false
namespace Go.Proofs.Ythehhlaomiifnaa.V
open Go
set_option maxRecDepth 20000 in
theorem c_tonly (x : Stp) : tbl E0 115 [stpV x] [] = some ([stpV (onlyS x)], []) := by
  obtain ⟨op, form, field, place, to, a, b, f, n, s, t, fields⟩ := x
  refine op_all (p := fun op => tbl E0 115 [stpV ⟨op, form, field, place, to, a, b, f, n, s, t, fields⟩] [] = some ([stpV (onlyS ⟨op, form, field, place, to, a, b, f, n, s, t, fields⟩)], [])) op ?_ ?_
  · intro o ho
    simp only [opsL, List.mem_cons, List.not_mem_nil, or_false] at ho
    rcases ho with rfl | rfl | rfl | rfl | rfl | rfl | rfl | rfl | rfl | rfl | rfl | rfl | rfl | rfl | rfl | rfl | rfl | rfl | rfl | rfl <;> exact tbl_iff.2 ⟨20, by kernel_rfl⟩
  · intro h hu
    have c := c_tuses op
    rw [hu] at c
    have e2 : ltbl E0 115 0 3 [intsV [], .int .i64 0, .int .i64 0] [stpC ⟨op, form, field, place, to, a, b, f, n, s, t, fields⟩, stpC ⟨0, 0, 0, 0, 0, 0, 0, fld0, 0, [], [], []⟩, stpC ⟨op, 0, 0, 0, 0, 0, 0, fld0, 0, [], [], []⟩] = some (1, [], [stpC ⟨0, 0, 0, 0, 0, 0, 0, fld0, 0, [], [], []⟩, stpC ⟨op, 0, 0, 0, 0, 0, 0, fld0, 0, [], [], []⟩]) := t_tonlyL _ _ _ [] 0 0 (by simp [s_tonlyL])
    refine t_tonly _ ?_
    simp only [s_tonly, OA_chk, cond_true, OA_callx, c, Option.bind_some, u_asC, u_asL, u_asN, OA_asm, OA_loop, List.map_nil, List.length_nil, Int.natCast_zero, stpC, fld0, intsV, fldsV] at e2 ⊢
    rw [e2]
    simp [onlyS, hasS, hu, fld0]
theorem wrap0 {a b : Int} (ha : i64 a) (hb : i64 b) : (IntKind.i64.wrap (a - b) == 0) = (a == b) := by
  have : IntKind.i64.wrap (a - b) = (a - b + 9223372036854775808) % 18446744073709551616 - 9223372036854775808 := by rw [IntKind.wrap_i64]
  rw [this, Bool.eq_iff_iff, beq_iff_eq, beq_iff_eq]
  unfold i64 at ha hb
  omega
/-- A step's numbers are a machine's. -/
def Stp.ok (x : Stp) : Prop := i64 x.op ∧ i64 x.form ∧ i64 x.field ∧ i64 x.place ∧ i64 x.to ∧ i64 x.a ∧ i64 x.b ∧ x.f.ok ∧ i64 x.n ∧ (∀ n ∈ x.t, i64 n) ∧ ∀ f ∈ x.fields, f.ok
/-- Its lists are short. -/
def Stp.sml (x : Stp) : Prop := x.t.length ≤ 140737488355328 ∧ x.fields.length ≤ 140737488355328
theorem stp_eq (x y : Stp) : decide (x = y) = ((decide (x.t = y.t) && decide (x.fields = y.fields)) && ((x.op == y.op && (x.form == y.form && (x.field == y.field && (x.place == y.place && (x.to == y.to && (x.a == y.a && x.b == y.b)))))) && (decide (x.f = y.f) && (x.n == y.n && x.s == y.s)))) := by
  obtain ⟨op, form, field, place, to, a, b, f, n, s, t, fields⟩ := x
  obtain ⟨op', form', field', place', to', a', b', f', n', s', t', fields'⟩ := y
  rw [Bool.eq_iff_iff]
  simp only [decide_eq_true_eq, Bool.and_eq_true, beq_iff_eq, Stp.mk.injEq]
  constructor
  · rintro ⟨rfl, rfl, rfl, rfl, rfl, rfl, rfl, rfl, rfl, rfl, rfl, rfl⟩; simp
  · rintro ⟨⟨rfl, rfl⟩, ⟨rfl, rfl, rfl, rfl, rfl, rfl, rfl⟩, rfl, rfl, rfl⟩; simp
theorem c_tSame (x y : Stp) (hx : x.ok) (hy : y.ok) (hs : x.sml) : tbl E0 62 [stpV x, stpV y] [] = some ([.bool (decide (x = y))], []) :=
  t_tSame x y (by
    obtain ⟨h1, h2, h3, h4, h5, h6, h7, _⟩ := hx
    obtain ⟨g1, g2, g3, g4, g5, g6, g7, _⟩ := hy
    have c1 := c_EqualI x.t y.t hs.1
    have c2 := c_EqualF x.fields y.fields hs.2
    simp only [s_tSame, OA_chk, cond_true, OA_callx, c1, c2, Option.bind_some, u_asC, u_asB, u_asN, OA_join, wrap0 h1 g1, wrap0 h2 g2, wrap0 h3 g3, wrap0 h4 g4, wrap0 h5 g5, wrap0 h6 g6, wrap0 h7 g7, fld_eq]
    simp only [Bool.and_true, stp_eq]
    generalize (x.op == y.op && (x.form == y.form && (x.field == y.field && (x.place == y.place && (x.to == y.to && (x.a == y.a && x.b == y.b)))))) = p
    generalize (x.n == y.n && x.s == y.s) = q
    cases decide (x.t = y.t) <;> cases decide (x.fields = y.fields) <;> cases p <;> cases decide (x.f = y.f) <;> simp)
theorem c_tfits (x : Stp) (p : Int) (hp : p = 8 → 1 ≤ (if x.op = 5 then x.a else 1000) ∧ (if x.op = 5 then x.a else 1000) ≤ 1000) (hs : x.sml) : tbl E0 114 [stpV x, .int .i64 p] [] = some ([.bool (fitsS x p)], []) := by
  have i1 := c_tin
  have i2 := c_fRight x.f
  have i3 := c_fHas x.f x.n x.s
  have i4 := c_sFine ⟨x.form, x.fields⟩ hs.2
  refine t_tfits x p ?_
  unfold s_tfits fitsS
  simp only [OA_chk, cond_true, cond_beq, OA_callx, OA_join, OA_asm]
  by_cases h0 : p = 0
  · simp only [h0, if_true, i1, Option.bind_some, u_asC, u_asB, u_asN]
  by_cases h1 : p = 1
  · simp [h1, i1]
  by_cases h2 : p = 2
  · simp [h2, i1]
  by_cases h3 : p = 3
  · simp only [h3, i1]
    cases inS x.to 0 255 <;> by_cases e : x.to = x.field <;> simp [e]
  by_cases h4 : p = 4
  · by_cases ho : x.op = 5
    · cases hi : inS x.a 1 1000 <;> simp [h4, i1, ho, hi]
    · simp [h4, i1, ho]
  by_cases h5 : p = 5
  · cases hi : inS x.a (-1048576) 1048576
    · simp [h5, i1, hi]
    · by_cases ha : x.a = 0
      · rw [ha] at hi; simp [h5, i1, hi, ha]
      · simp [h5, i1, hi, ha]
  by_cases h6 : p = 6
  · by_cases o1 : x.op = 1
    · cases hr : rgtS x.f <;> simp [h6, o1, i2, hr]
    · by_cases o2 : x.op = 22
      · cases hr : rgtS x.f <;> simp [h6, o2, i2, hr]
      · cases hr : rgtS x.f <;> simp [h6, o1, o2, beq_f o2, i2, hr]
  by_cases h7 : p = 7
  · by_cases ho : x.op = 2
    · cases hi : inS x.n (-1099511627776) 1099511627776 <;> simp [h7, ho, i1, hi]
    · simp [h7, ho, i3]
  by_cases h8 : p = 8
  · have hb := hp h8
    simp only [h8]
    by_cases ho : x.op = 5
    · simp only [ho, if_true] at hb ⊢
      have c := c_tapart x.t x.a hb hs.1
      simp [c]
    · simp only [ho, if_false] at hb ⊢
      have c := c_tapart x.t 1000 (by omega) hs.1
      simp [c]
  · simp [h0, h1, h2, h3, h4, h5, h6, h7, h8, i4]
end Go.Proofs.Ythehhlaomiifnaa.V
