/- What is printed of schemas, and what is read. -/
import Derived.Test.YthehhlaomiifnaaD2
import Derived.Test.YthehhlaomiifnaaP4
set_option linter.unusedVariables false
set_option linter.unusedSimpArgs false
namespace Go.Proofs.Ythehhlaomiifnaa.V
open Go
/-! Fields. -/
theorem cnt_n {n : Int} (h0 : 0 ≤ n) (h1 : n ≤ 9223372036854775807) : (cnt n.toNat).length ≤ 10 := cnt_len10 (by omega)
theorem c_sread (b : List UInt8) (e : Int) (hb : b.length ≤ 140737488355328) : tbl E0 111 [.ref 0 0] (eyeV b e) = some ([fldV (tkFld (b, e)).1], eyeV (tkFld (b, e)).2.1 (tkFld (b, e)).2.2) :=
  t_sread b e (by
    have h1 := countS_len b e 255
    have h2 := countS_len (countS b e 255).2.1 (countS b e 255).2.2 4
    have c1 := c_ECount b e 255 hb
    have c2 := c_ECount (countS b e 255).2.1 (countS b e 255).2.2 4 (by omega)
    have c3 := c_ECount (countS (countS b e 255).2.1 (countS b e 255).2.2 4).2.1 (countS (countS b e 255).2.1 (countS b e 255).2.2 4).2.2 1000 (by omega)
    have c4 := c_ENum (countS (countS b e 255).2.1 (countS b e 255).2.2 4).2.1 (countS (countS b e 255).2.1 (countS b e 255).2.2 4).2.2 (by omega)
    have c5 := c_ENum (numS (countS (countS b e 255).2.1 (countS b e 255).2.2 4).2.1 (countS (countS b e 255).2.1 (countS b e 255).2.2 4).2.2).2.1 (numS (countS (countS b e 255).2.1 (countS b e 255).2.2 4).2.1 (countS (countS b e 255).2.1 (countS b e 255).2.2 4).2.2).2.2 (Nat.le_trans (grpS_len _ _) (by omega))
    simp only [eyeV] at c1 c2 c3 c4 c5
    unfold tkFld
    by_cases k1 : (countS (countS b e 255).2.1 (countS b e 255).2.2 4).1 = 1
    · simp [s_sread, c1, c2, c3, c4, c5, k1]
    · by_cases k3 : (countS (countS b e 255).2.1 (countS b e 255).2.2 4).1 = 3
      · simp [s_sread, c1, c2, c3, c4, c5, k3]
      · by_cases k4 : (countS (countS b e 255).2.1 (countS b e 255).2.2 4).1 = 4
        · simp [s_sread, c1, c2, c3, c4, c5, k4]
        · simp [s_sread, c1, c2, c3, c4, c5, k1, k3, k4])
theorem r_TakeField (b : List UInt8) (e : Int) (hb : b.length ≤ 140737488355328) : tbl E0 112 [.ref 0 0] (eyeV b e) = some ([fldV (tkFld (b, e)).1], eyeV (tkFld (b, e)).2.1 (tkFld (b, e)).2.2) :=
  t_TakeField b e (by
    have h1 := countS_len b e 255
    have h2 := countS_len (countS b e 255).2.1 (countS b e 255).2.2 4
    have c1 := r_ECount b e 255 hb
    have c2 := r_ECount (countS b e 255).2.1 (countS b e 255).2.2 4 (by omega)
    have c3 := r_ECount (countS (countS b e 255).2.1 (countS b e 255).2.2 4).2.1 (countS (countS b e 255).2.1 (countS b e 255).2.2 4).2.2 1000 (by omega)
    have c4 := r_ENum (countS (countS b e 255).2.1 (countS b e 255).2.2 4).2.1 (countS (countS b e 255).2.1 (countS b e 255).2.2 4).2.2 (by omega)
    have c5 := r_ENum (numS (countS (countS b e 255).2.1 (countS b e 255).2.2 4).2.1 (countS (countS b e 255).2.1 (countS b e 255).2.2 4).2.2).2.1 (numS (countS (countS b e 255).2.1 (countS b e 255).2.2 4).2.1 (countS (countS b e 255).2.1 (countS b e 255).2.2 4).2.2).2.2 (Nat.le_trans (grpS_len _ _) (by omega))
    simp only [eyeV] at c1 c2 c3 c4 c5
    unfold tkFld
    by_cases k1 : (countS (countS b e 255).2.1 (countS b e 255).2.2 4).1 = 1
    · simp [s_TakeField, c1, c2, c3, c4, c5, k1]
    · by_cases k3 : (countS (countS b e 255).2.1 (countS b e 255).2.2 4).1 = 3
      · simp [s_TakeField, c1, c2, c3, c4, c5, k3]
      · by_cases k4 : (countS (countS b e 255).2.1 (countS b e 255).2.2 4).1 = 4
        · simp [s_TakeField, c1, c2, c3, c4, c5, k4]
        · simp [s_TakeField, c1, c2, c3, c4, c5, k1, k3, k4])
theorem fldB_len {x : Fld} (hx : x.ok) (hr : rgtS x = true) : (fldB x).length ≤ 40 := by
  have r := rgt_rng hr
  obtain ⟨_, ⟨_, _⟩, ⟨_, _⟩, ⟨_, _⟩, ⟨_, _⟩⟩ := hx
  have h1 : (cnt x.id.toNat).length ≤ 10 := cnt_len10 (by omega)
  have h2 : (cnt x.kind.toNat).length ≤ 10 := cnt_len10 (by omega)
  have h3 : (cnt (zz x.lo)).length ≤ 10 := cnt_len10 (zz_lt (by omega) (by omega))
  have h4 : (cnt (zz x.hi)).length ≤ 10 := cnt_len10 (zz_lt (by omega) (by omega))
  have h5 : (cnt x.most.toNat).length ≤ 10 := cnt_len10 (by omega)
  unfold fldB
  simp only [List.length_append]
  split
  · simp only [List.length_append]; omega
  · split
    · omega
    · simp; omega
theorem c_swrite (b : List AV) (x : Fld) (e : Int) (hx : x.ok) (hr : rgtS x = true) (hb : b.length + 40 ≤ 140737488355328) : tbl E0 109 [.ref 0 0, fldV x] (penA b e) = some ([], penA (b ++ encB (fldB x)) e) :=
  t_swrite b x e (by
    have r := rgt_rng hr
    obtain ⟨_, ⟨_, _⟩, ⟨_, _⟩, ⟨_, _⟩, ⟨_, _⟩⟩ := hx
    have h1 : (cnt x.id.toNat).length ≤ 10 := cnt_len10 (by omega)
    have h2 : (cnt x.kind.toNat).length ≤ 10 := cnt_len10 (by omega)
    have h3 : (cnt (zz x.lo)).length ≤ 10 := cnt_len10 (zz_lt (by omega) (by omega))
    have c1 := c_PCount b x.id e (by omega) (by omega)
    have c2 := c_PCount (b ++ encB (cnt x.id.toNat)) x.kind e (by simp; omega) (by omega)
    have c3 := c_PCount (b ++ encB (cnt x.id.toNat) ++ encB (cnt x.kind.toNat)) x.most e (by simp; omega) (by omega)
    have c4 := c_PNum (b ++ encB (cnt x.id.toNat) ++ encB (cnt x.kind.toNat)) x.lo e (by simp; omega) (by omega) (by omega)
    have c5 := c_PNum (b ++ encB (cnt x.id.toNat) ++ encB (cnt x.kind.toNat) ++ encB (cnt (zz x.lo))) x.hi e (by simp; omega) (by omega) (by omega)
    have n1 : ¬ (x.id < 0) := by omega
    have n2 : ¬ (x.kind < 0) := by omega
    have n3 : ¬ (x.most < 0) := by omega
    simp only [n1, n2, n3, if_false, penA] at c1 c2 c3 c4 c5
    unfold fldB
    by_cases k1 : x.kind = 1
    · simp only [k1] at c2 c3 c4 c5
      simp_all [s_swrite, penA, encB_append]
    · by_cases k3 : x.kind = 3
      · simp only [k3] at c2 c3 c4 c5
        simp_all [s_swrite, penA, encB_append]
      · by_cases k4 : x.kind = 4
        · simp only [k4] at c2 c3 c4 c5
          simp_all [s_swrite, penA, encB_append]
        · have k2 : x.kind = 2 := by omega
          simp only [k2] at c2 c3 c4 c5
          simp_all [s_swrite, penA, encB_append])
theorem r_CountI (n : Int) (h0 : 0 ≤ n) (h1 : n ≤ 9223372036854775807) : tbl E0 89 [.int .u64 n] [] = some ([.lst (.own (.R 0)) 1 (encB (cnt n.toNat))], []) := by
  have := r_Count n.toNat (by omega)
  rwa [Int.toNat_of_nonneg h0] at this
theorem r_FieldBytes (x : Fld) (hx : x.ok) (hr : rgtS x = true) : tbl E0 110 [fldV x] [] = some ([.lst .ro 1 (encB (fldB x))], []) :=
  t_FieldBytes x (by
    have r := rgt_rng hr
    obtain ⟨_, ⟨_, _⟩, ⟨_, _⟩, ⟨_, _⟩, ⟨_, _⟩⟩ := hx
    obtain ⟨id, kind, lo, hi, most⟩ := x
    simp only at *
    have h1 : (cnt id.toNat).length ≤ 10 := cnt_len10 (by omega)
    have h2 : (cnt kind.toNat).length ≤ 10 := cnt_len10 (by omega)
    have h3 : (cnt (zz lo)).length ≤ 10 := cnt_len10 (zz_lt (by omega) (by omega))
    have h4 : (cnt (zz hi)).length ≤ 10 := cnt_len10 (zz_lt (by omega) (by omega))
    have h5 : (cnt most.toNat).length ≤ 10 := cnt_len10 (by omega)
    have w1 : IntKind.u64.wrap id = id := wrap_u64_id (by omega) (by omega)
    have w2 : IntKind.u64.wrap kind = kind := wrap_u64_id (by omega) (by omega)
    have w3 : IntKind.u64.wrap most = most := wrap_u64_id (by omega) (by omega)
    have c1 := r_CountI id (by omega) (by omega)
    have c2 := r_CountI kind (by omega) (by omega)
    have c3 := r_CountI most (by omega) (by omega)
    have c4 := r_Num lo (by omega) (by omega)
    have c5 := r_Num hi (by omega) (by omega)
    have q1 : (cnt id.toNat).length + (cnt kind.toNat).length ≤ 140737488355328 := by omega
    have q2 : (cnt id.toNat).length + (cnt kind.toNat).length + (cnt (zz lo)).length ≤ 140737488355328 := by omega
    have q3 : (cnt id.toNat).length + (cnt kind.toNat).length + (cnt (zz lo)).length + (cnt (zz hi)).length ≤ 140737488355328 := by omega
    have q4 : (cnt id.toNat).length + (cnt kind.toNat).length + (cnt most.toNat).length ≤ 140737488355328 := by omega
    unfold fldB
    simp only [s_FieldBytes, OA_chk, cond_true, OA_call, w1, c1, w2, c2, Option.bind_some, u_asC, u_asOwn, u_asN, encB_length, Nat.mul_one, List.length_append, q1, decide_true]
    generalize cnt kind.toNat = K at *
    by_cases k1 : kind = 1
    · simp only [k1, beq_self_eq_true, cond_true, if_true, c4, c5, OA_call, Option.bind_some, u_asC, u_asOwn, u_asN, encB_length, Nat.mul_one, List.length_append, q2, q3, decide_true, encB_append, List.append_assoc]
    · by_cases k3 : kind = 3
      · have k1' : ¬ ((3 : Int) = 1) := by decide
        simp only [k3, k1', beq_self_eq_true, beq_f k1', cond_true, cond_false, if_true, if_false, true_or, w3, c3, OA_call, Option.bind_some, u_asC, u_asOwn, u_asN, encB_length, Nat.mul_one, List.length_append, q4, decide_true, encB_append, List.append_assoc]
      · by_cases k4 : kind = 4
        · have k1' : ¬ ((4 : Int) = 1) := by decide
          have k3' : ¬ ((4 : Int) = 3) := by decide
          simp only [k4, k1', k3', beq_self_eq_true, beq_f k1', beq_f k3', cond_true, cond_false, if_true, if_false, or_true, w3, c3, OA_call, Option.bind_some, u_asC, u_asOwn, u_asN, encB_length, Nat.mul_one, List.length_append, q4, decide_true, encB_append, List.append_assoc]
        · simp [k1, k3, k4, q1, encB_append])
end Go.Proofs.Ythehhlaomiifnaa.V
