/- The built-in append, whatever is appended. -/
import Derived.Test.YthmocicjocjdoaaAg
set_option linter.unusedVariables false
set_option linter.unusedSimpArgs false
namespace Go.Proofs.Ythmocicjocjdoaa.V
open Go
variable {P : Program} {w : World}

/-- What is appended: so many cells, wherever the order of drawing stands. -/
structure Src (P : Program) (w : World) (size n : Nat) (y : Value) (news : List Value) : Prop where
  len : ∀ W : World, W.heap = w.heap → (Builtin.lenOf y).run P W = .ok n W
  cells : ∀ W : World, W.heap = w.heap → (Builtin.firstCells size n y).run P W = .ok news.toArray W
  size : news.length = n * size
  one : ∀ u ∈ news, u.oneCell' = true

theorem run_app_zero {t u ty e : TypeId} {i : TypeInfo} {d : TypeDesc} (ht : P.underlying t = some (.slice e)) (hu : P.underlying u = some d) (hd : (∃ e2, d = .slice e2) ∨ d = .string) (hi : P.info? e = some i)
    {base : Option Addr} {sLen sCap : Nat} (hc : sLen ≤ sCap) {y : Value} (hy : Src P w i.size 0 y []) :
    (Builtin.append_ #[t, u] ty #[.slice base sLen sCap, y]).run P w = .ok (.slice base sLen sCap) w := by
  have h1 := hy.len w rfl
  have h2 := hy.cells w rfl
  rcases hd with ⟨e2, rfl⟩ | rfl <;> cases base <;> simp [Builtin.append_, run_underlying ht, run_underlying hu, sizeOf, typeInfo, hi, h1, h2, hc, storeCells]

theorem run_app_room {t u ty e e' : TypeId} {i : TypeInfo} {d : TypeDesc} (ht : P.underlying t = some (.slice e)) (hu : P.underlying u = some d) (hd : (∃ e2, d = .slice e2) ∨ d = .string) (hi : P.info? e = some i)
    {g sLen sCap n : Nat} {cur : Array Value} (hg : w.heap[g]? = some (.cells cur e' (0, 0))) {y : Value} {news : List Value} (hy : Src P w i.size n y news)
    (hroom : sLen + n ≤ sCap) (hfit : sLen * i.size + news.length ≤ cur.size) :
    (Builtin.append_ #[t, u] ty #[.slice (some ⟨g, 0, none⟩) sLen sCap, y]).run P w =
      .ok (.slice (some ⟨g, 0, none⟩) (sLen + n) sCap) (w.setRow g (cur.toList.take (sLen * i.size) ++ news ++ cur.toList.drop (sLen * i.size + news.length)).toArray) := by
  have h1 := hy.len w rfl
  have h2 := hy.cells w rfl
  have hst := run_storeCells_at P g (sLen * i.size) e' news 0 cur w hg (by simpa using hfit) hy.one
  simp only [Nat.add_zero] at hst
  rcases hd with ⟨e2, rfl⟩ | rfl <;> simp [Builtin.append_, run_underlying ht, run_underlying hu, sizeOf, typeInfo, hi, h1, h2, hroom, Addr.add_lit, hst]

theorem run_app_grow {t u ty e : TypeId} {i : TypeInfo} {z : Value} {d : TypeDesc} (ht : P.underlying t = some (.slice e)) (hu : P.underlying u = some d) (hd : (∃ e2, d = .slice e2) ∨ d = .string) (hi : P.info? e = some i) (hz : i.zero = some z)
    {base : Option Addr} {sLen sCap n : Nat} {olds : List Value} (hold : ∀ W : World, W.heap = w.heap → (Builtin.firstCells i.size sLen (.slice base sLen sCap)).run P W = .ok olds.toArray W)
    {y : Value} {news : List Value} (hy : Src P w i.size n y news)
    (hg : sCap < sLen + n) (h63 : ((sLen + n : Nat) : Int) ≤ 9223372036854775807) (hfit : Builtin.nextslicecap (sLen + n) sCap * i.bytes ≤ 281474976710656) :
    (Builtin.append_ #[t, u] ty #[.slice base sLen sCap, y]).run P w =
      .ok (.slice (some ⟨w.heap.size, 0, none⟩) (sLen + n) (grownCap w (sLen + n) sCap e))
        (w.drew.alloc (.cells (olds.toArray ++ news.toArray ++ Builtin.zeroCells z.cells (grownCap w (sLen + n) sCap e - (sLen + n))) e)) := by
  have hn : ¬ (sLen + n ≤ sCap) := by omega
  have h63' : ¬ (9223372036854775807 < ((sLen : Int) + (n : Int))) := by omega
  have h48' : ¬ (281474976710656 < Builtin.nextslicecap (sLen + n) sCap * i.bytes) := by omega
  have h1 := hy.len w rfl
  have h2 := hy.cells w.drew rfl
  have h3 := hold w.drew rfl
  rcases hd with ⟨e2, rfl⟩ | rfl <;>
  · simp [Builtin.append_, run_underlying ht, run_underlying hu, sizeOf, typeInfo, zeroValue, hi, hz, hn, h63', h48', Question.forced, h1, h2, h3, newRow, grownCap]
    congr 2
    apply Array.ext'
    simp [List.append_assoc]

variable {F : Fr} {E : E3} {objs : Os} {cl : Cl}
/-- Elements, and the cells that they are. -/
structure SrcE (E : E3) (sz : Nat) (r : List AV) (news : List Value) : Prop where
  size : news.length = r.length * sz
  get : ∀ (i : Nat) (x : AV), r[i]? = some x → x.flat = true ∧ ∃ u, Rep E x u ∧ u.cells.size = sz ∧ ∀ j, j < sz → news[i * sz + j]? = u.cells[j]?
theorem SrcE.nil (E : E3) (sz : Nat) : SrcE E sz [] [] := ⟨by simp, by simp⟩
theorem SrcE.mono {E' : E3} (hS : ∀ b i v, E.S b i = some v → E'.S b i = some v) {sz : Nat} {r : List AV} {news : List Value} (h : SrcE E sz r news) : SrcE E' sz r news :=
  ⟨h.size, fun i x hx => by
    obtain ⟨h1, u, h2, h3⟩ := h.get i x hx
    exact ⟨h1, u, h2.flat_mono hS h1, h3⟩⟩
theorem SrcE.append {sz : Nat} {r r' : List AV} {ns ns' : List Value} (h : SrcE E sz r ns) (k : SrcE E sz r' ns') : SrcE E sz (r ++ r') (ns ++ ns') := by
  refine ⟨by rw [List.length_append, List.length_append, h.size, k.size, Nat.add_mul], fun i x hx => ?_⟩
  rcases Nat.lt_or_ge i r.length with hi | hi
  · rw [List.getElem?_append_left hi] at hx
    obtain ⟨h1, u, h2, h3, h4⟩ := h.get i x hx
    refine ⟨h1, u, h2, h3, fun j hj => ?_⟩
    rw [List.getElem?_append_left, h4 j hj]
    rw [h.size]
    have : (i + 1) * sz ≤ r.length * sz := Nat.mul_le_mul_right _ hi
    rw [Nat.add_mul] at this
    omega
  · rw [List.getElem?_append_right hi] at hx
    obtain ⟨h1, u, h2, h3, h4⟩ := k.get _ x hx
    refine ⟨h1, u, h2, h3, fun j hj => ?_⟩
    have e : r.length * sz ≤ i * sz := Nat.mul_le_mul_right _ hi
    rw [List.getElem?_append_right (by rw [h.size]; omega), ← h4 j hj, h.size]
    congr 1
    rw [Nat.sub_mul]
    omega
theorem SrcE.one {sz : Nat} (hsz : 0 < sz) {r : List AV} {news : List Value} (h : SrcE E sz r news) : ∀ u ∈ news, u.oneCell' = true := by
  intro u hu
  obtain ⟨k, hk⟩ := List.getElem?_of_mem hu
  have hkl : k < r.length * sz := by rw [← h.size]; exact (List.getElem?_eq_some_iff.1 hk).1
  have hi : k / sz < r.length := Nat.div_lt_of_lt_mul (by rw [Nat.mul_comm]; exact hkl)
  obtain ⟨h1, v, h2, h3, h4⟩ := h.get (k / sz) r[k / sz] (by simp [hi])
  have hm : k % sz < sz := Nat.mod_lt _ hsz
  have e := h4 (k % sz) hm
  rw [Nat.mul_comm, Nat.div_add_mod, hk] at e
  have hv := flat_cells h1 h2
  exact hv.1.all_one u (List.mem_of_getElem? (i := k % sz) (by simpa using e.symm))
theorem SrcE.repE {sz : Nat} {r : List AV} {news : List Value} (h : SrcE E sz r news) {b off : Nat} (hS : ∀ j, j < news.length → E.S b (off + j) = news[j]?) : RepE E sz b off r := by
  refine RepE.of_get fun i x hx => ?_
  obtain ⟨h1, u, h2, h3, h4⟩ := h.get i x hx
  refine ⟨h1, u, h2, h3, fun j hj => ?_⟩
  rw [← h4 j hj, ← hS, Nat.add_assoc]
  rw [h.size]
  have hi : i < r.length := (List.getElem?_eq_some_iff.1 hx).1
  have : (i + 1) * sz ≤ r.length * sz := Nat.mul_le_mul_right _ hi
  rw [Nat.add_mul] at this
  omega
theorem srcE_of_repE {sz b : Nat} : ∀ {off : Nat} {r : List AV}, RepE E sz b off r → ∃ news, SrcE E sz r news ∧ ∀ j, j < news.length → E.S b (off + j) = news[j]?
  | off, [], _ => ⟨[], SrcE.nil E sz, by simp⟩
  | off, x :: r, h => by
    simp only [RepE] at h
    obtain ⟨⟨h1, u, h2, h3, h4⟩, h5⟩ := h
    obtain ⟨ns, g1, g2⟩ := srcE_of_repE h5
    have hx : SrcE E sz [x] u.cells.toList := ⟨by simp [h3], fun i y hy => by
      cases i with
      | zero => simp at hy; subst hy; exact ⟨h1, u, h2, h3, fun j hj => by simp⟩
      | succ i => simp at hy⟩
    refine ⟨u.cells.toList ++ ns, by simpa using hx.append g1, fun j hj => ?_⟩
    rcases Nat.lt_or_ge j sz with hj' | hj'
    · rw [h4 j hj', List.getElem?_append_left (by simpa [h3] using hj')]
      simp
    · rw [List.getElem?_append_right (by simpa [h3] using hj')]
      have := g2 (j - sz) (by simp [h3] at hj; omega)
      rw [show off + sz + (j - sz) = off + j from by omega] at this
      simpa [h3] using this
theorem srcE_enc (s : List UInt8) : SrcE E 1 (encB s) (s.map fun b => .int .u8 (b.toNat : Int)) := by
  refine ⟨by simp [encB], fun i x hx => ?_⟩
  simp only [encB, List.getElem?_map] at hx
  cases hb : s[i]? with
  | none => rw [hb] at hx; cases hx
  | some b =>
    rw [hb] at hx
    simp only [Option.map_some, Option.some.injEq] at hx
    subst hx
    refine ⟨rfl, .int .u8 (b.toNat : Int), by simp [Rep], rfl, fun j hj => ?_⟩
    have : j = 0 := by omega
    subst this
    simp [hb, Value.cells]

/-- A new row of one's own, named q. -/
theorem WI.new_row (h : WI F E objs cl w) {q : Nm} (hq : cl q = none) {arr : Array Value} {e : TypeId} {N cap sz : Nat} (hsz : 0 < sz) (hN : N ≤ cap) (hcap : cap ≤ maxLen) (harr : arr.size = cap * sz)
    {r : List AV} (hr : r.length = N) (hsrc : SrcE E sz r (arr.toList.take (N * sz))) :
    ∃ E', E.le E' ∧ Rep E' (.lst (.own q) sz r) (.slice (some ⟨w.heap.size, 0, none⟩) N cap) ∧ WI F E' objs (updN cl q .own) (w.alloc (.cells arr e)) := by
  have ha := h.alloc (.cells arr e)
  have hb : (w.alloc (.cells arr e)).heap[w.heap.size]? = some (.cells arr e (0, 0)) := heap_alloc_new w _
  have hfit : N * sz ≤ arr.size := by rw [harr]; exact Nat.mul_le_mul_right _ hN
  have hlen : (arr.toList.take (N * sz)).length = N * sz := by simp; omega
  have hcell : ∀ (j : Nat) (v : Value), (arr.toList.take (N * sz))[j]? = some v → (w.alloc (.cells arr e)).cell? ⟨w.heap.size, 0 + j, none⟩ = some v := by
    intro j v hj
    rw [Nat.zero_add, cell_of_row _ _ j arr e (0, 0) hb]
    rw [List.getElem?_take] at hj
    split at hj
    · simpa using hj
    · cases hj
  have h1 := ha.addS (b := w.heap.size) (lo := 0) (vs := arr.toList.take (N * sz)) (h.own_new (Nat.le_refl _)) hcell
    (fun o cs ho hm => by have := h.lt_of_live ho hm; omega)
    (fun q' v s t n xs hq' hk hg _ _ => by have := h.lt_of_claim hq' hk hg; omega)
    (fun q' l v s hq' hk hg => by have := h.lt_of_claim (isAl_row hq') hk hg; omega)
  have hle := addS_le E w.heap.size 0 (arr.toList.take (N * sz))
  have hown : (w.alloc (.cells arr e)).ownsRow 0 e sz (.slice (some ⟨w.heap.size, 0, none⟩) N cap) N (arr.toList.take (N * sz)) :=
    ⟨hlen, .inr ⟨w.heap.size, cap, arr, rfl, Nat.zero_le _, hb, hN, hcap, harr, rfl⟩⟩
  have h2 := h1.new_claim hq hsz hown (fun g hg => by
    simp only [Value.ownBlock, Option.some.injEq] at hg
    subst hg
    refine ⟨h.own_new (Nat.le_refl _), fun i hi => ?_, fun o cs ho hm => by have := h.lt_of_live ho hm; omega, fun q' v' s' hq' hk hg => by have := h.lt_of_claim hq' hk hg; omega⟩
    rw [addS_other (by rw [hlen]; omega)]
    exact h.S_lt (Nat.le_refl _))
  refine ⟨_, hle.trans h2.1, ?_, h2.2⟩
  simp only [Rep]
  refine ⟨_, _, _, rfl, hr.symm, hN, hcap, fun _ => ⟨w.heap.size, 0, rfl, ?_⟩, by simp, fun q' hq' => ?_⟩
  · refine ((hsrc.mono (hle.trans h2.1).S).repE fun j hj => ?_)
    refine S_some h2.1.S (get_isSome hj) ?_
    exact addS_at (fun i v hv => ha.agree _ i v hv) hcell j hj
  · injection hq' with hq'
    subst hq'
    simp [updK]

theorem size_zeroC (z : Array Value) (n : Nat) : (Builtin.zeroCells z n).size = n * z.size := by simp [Builtin.zeroCells]
/-- An append onto nothing. -/
theorem app_none (h : WI F E objs cl w) {t u ty e : TypeId} {i : TypeInfo} {z : Value} {d : TypeDesc} (ht : P.underlying t = some (.slice e)) (hu : P.underlying u = some d) (hd : (∃ e2, d = .slice e2) ∨ d = .string)
    (hi : P.info? e = some i) (hz : i.zero = some z) (hzs : z.cells.size = i.size) (hsz : 0 < i.size) (hby : 0 < i.bytes) {q : Nm} (hq : cl q = none) {y : Value} {r : List AV} {news : List Value}
    (hy : Src P w i.size r.length y news) (hr : SrcE E i.size r news) (hb : r.length * i.bytes ≤ 140737488355328) :
    ∃ E' v w', (Builtin.append_ #[t, u] ty #[.slice none 0 0, y]).run P w = .ok v w' ∧ E.le E' ∧ Rep E' (.lst (.own q) i.size r) v ∧ WI F E' objs (updN cl q .own) w' := by
  have h63 : r.length ≤ 140737488355328 := Nat.le_trans (Nat.le_mul_of_pos_right _ hby) hb
  cases r with
  | nil =>
    have hn : news = [] := List.eq_nil_of_length_eq_zero (by rw [hr.size]; simp)
    subst hn
    have hk := h.new_claim (q := q) hq (v := .slice none 0 0) (t := e) (n := 0) (xs := []) hsz (World.ownsRow_nil w 0 e i.size) (fun g hg => by simp [Value.ownBlock] at hg)
    refine ⟨_, _, _, run_app_zero ht hu hd hi (Nat.le_refl _) hy, hk.1, ?_, hk.2⟩
    simp only [Rep]
    exact ⟨none, 0, 0, rfl, rfl, Nat.le_refl _, Nat.zero_le _, fun h => absurd rfl h, by simp, fun q' hq' => by injection hq' with hq'; subst hq'; simp [updK]⟩
  | cons x r =>
    have hlen : 0 < (x :: r).length := by simp
    generalize (x :: r) = r at *
    have hg := run_app_grow (P := P) (w := w) (ty := ty) (sLen := 0) (sCap := 0) (base := none) (olds := []) ht hu hd hi hz (fun W _ => by simp [Builtin.firstCells]) hy (by omega) (by omega)
      (growslice_fits (by omega) (by simpa using hb))
    simp only [Nat.zero_add] at hg
    have hge := grownCap_ge w r.length 0 e
    have hcm : grownCap w r.length 0 e ≤ maxLen := grownCap_le_maxLen w _ 0 e (by simp only [maxLen]; omega)
    have hsize : (#[] ++ news.toArray ++ Builtin.zeroCells z.cells (grownCap w r.length 0 e - r.length)).size = grownCap w r.length 0 e * i.size := by
      simp only [Array.size_append, List.size_toArray, size_zeroC, hzs, hr.size, ← Nat.add_mul, List.size_toArray]
      simp only [List.length_nil, Nat.zero_add, ← Nat.add_mul]
      congr 1
      omega
    obtain ⟨E', g1, g2, g3⟩ := h.drew.new_row (q := q) (e := e) hq hsz hge hcm hsize rfl (by
      have : (#[] ++ news.toArray ++ Builtin.zeroCells z.cells (grownCap w r.length 0 e - r.length)).toList.take (r.length * i.size) = news := by
        simp only [Array.toList_append, List.append_assoc, List.nil_append, ← hr.size]
        exact List.take_left
      rw [this]
      exact hr)
    exact ⟨E', _, _, hg, g1, g2, g3⟩
/-- An append onto a row of one's own. -/
theorem app_own (h : WI F E objs cl w) {t u ty e : TypeId} {i : TypeInfo} {z : Value} {d : TypeDesc} (ht : P.underlying t = some (.slice e)) (hu : P.underlying u = some d) (hd : (∃ e2, d = .slice e2) ∨ d = .string)
    (hi : P.info? e = some i) (hz : i.zero = some z) (hzs : z.cells.size = i.size) (hsz : 0 < i.size) (hby : 0 < i.bytes) {p q : Nm} (hp : cl p = some .own) (hq : cl q = none) {s y : Value} {l r : List AV} {news : List Value}
    (hs : Rep E (.lst (.own p) i.size l) s) (hy : Src P w i.size r.length y news) (hr : SrcE E i.size r news) (hb : (l.length + r.length) * i.bytes ≤ 140737488355328) :
    ∃ E' v w', (Builtin.append_ #[t, u] ty #[s, y]).run P w = .ok v w' ∧ E.le E' ∧ Rep E' (.lst (.own q) i.size (l ++ r)) v ∧ WI F E' objs (updN (updN cl p .dead) q .own) w' := by
  have h63 : l.length + r.length ≤ 140737488355328 := Nat.le_trans (Nat.le_mul_of_pos_right _ hby) hb
  have hpq : p ≠ q := by rintro rfl; rw [hp] at hq; cases hq
  have hq' : updN cl p .dead q = none := by rw [updN_ne _ _ hpq]; exact hq
  have hkill := h.kill_claim p
  have hpa := isAl_own hp
  obtain ⟨v, sz, tt, n, xs, k1, k2, k3, k4⟩ := h.claim p hpa
  simp only [Rep] at hs
  obtain ⟨a, len, cap, rfl, hl, hlc, hcm, he1, _, hka⟩ := hs
  have hk := hka p rfl
  rw [k1] at hk
  injection hk with hk
  injection hk with e1 e2
  subst e1; subst e2
  rcases k3.2 with ⟨e, rfl⟩ | ⟨g, cap', cur, e, _, hg, hnc, hcm', hcs, htake⟩
  · injection e with e1 e2 e3
    subst e1; subst e2; subst e3
    have hl0 : l = [] := List.eq_nil_of_length_eq_zero hl.symm
    subst hl0
    simpa using app_none hkill ht hu hd hi hz hzs hsz hby hq' hy hr (by simpa using hb)
  · injection e with e1 e2 e3
    subst e1; subst e2; subst e3
    subst hl
    have hlt : g < w.heap.size := (Array.getElem?_eq_some_iff.1 hg).1
    have hxs : SrcE E i.size l xs := by
      cases hl0 : l with
      | nil => subst hl0; have : xs = [] := List.eq_nil_of_length_eq_zero (by rw [k3.1]; simp); subst this; exact SrcE.nil _ _
      | cons x l0 =>
        rw [← hl0]
        obtain ⟨b, off, eb, hE⟩ := he1 (by rw [hl0]; simp)
        injection eb with eb
        injection eb with eb1 eb2
        subst eb1; subst eb2
        obtain ⟨ns, n1, n2⟩ := srcE_of_repE hE
        have : ns = xs := by
          apply List.ext_getElem?
          intro j
          rcases Nat.lt_or_ge j ns.length with hj | hj
          · have hv : ns[j]? = some ns[j] := by simp [hj]
            have hc := h.agree _ _ _ ((n2 j hj).trans hv)
            rw [cell_of_row w g _ cur tt (0, 0) hg, Nat.zero_add] at hc
            rw [hv, ← hc, ← htake, List.getElem?_take, if_pos (by rw [← n1.size]; exact hj)]
            simp
          · rw [List.getElem?_eq_none hj, List.getElem?_eq_none (by rw [k3.1, ← n1.size]; exact hj)]
        exact this ▸ n1
    by_cases hroom : l.length + r.length ≤ cap
    · have hfit : l.length * i.size + news.length ≤ cur.size := by rw [hr.size, hcs, ← Nat.add_mul]; exact Nat.mul_le_mul_right _ hroom
      have hrun := run_app_room (P := P) (w := w) (ty := ty) ht hu hd hi hg hy hroom hfit
      have hother : ∀ k, k ≠ g → (w.setRow g (cur.toList.take (l.length * i.size) ++ news ++ cur.toList.drop (l.length * i.size + news.length)).toArray).heap[k]? = w.heap[k]? := fun k hk => setRow_other' w g k _ hk
      generalize hw' : w.setRow g (cur.toList.take (l.length * i.size) ++ news ++ cur.toList.drop (l.length * i.size + news.length)).toArray = w' at *
      have hg' : w'.heap[g]? = some (.cells (cur.toList.take (l.length * i.size) ++ news ++ cur.toList.drop (l.length * i.size + news.length)).toArray tt (0, 0)) := by
        rw [← hw']; exact setRow_heap w g cur _ tt (0, 0) hg
      have hxl : xs.length = l.length * i.size := k3.1
      have hcur : (cur.toList.take (l.length * i.size) ++ news ++ cur.toList.drop (l.length * i.size + news.length)).toArray.size = cap * i.size := by
        simp only [List.size_toArray, List.length_append, List.length_take, List.length_drop, Array.length_toList]
        omega
      have hown' : w'.ownsRow 0 tt i.size (.slice (some ⟨g, 0, none⟩) (l.length + r.length) cap) (l.length + r.length) (xs ++ news) := by
        refine ⟨by rw [List.length_append, k3.1, hr.size, Nat.add_mul], .inr ⟨g, cap, _, rfl, Nat.zero_le _, hg', hroom, hcm', hcur, ?_⟩⟩
        rw [htake]
        have : (l.length + r.length) * i.size = (xs ++ news).length := by rw [List.length_append, k3.1, hr.size, Nat.add_mul]
        rw [this]
        exact List.take_left
      have hnotS : ∀ j, l.length * i.size ≤ j → E.S g j = none := (k4 g rfl).2
      have hstep : Step F w' := by
        refine ⟨by rw [← hw']; exact h.step.os, by rw [← hw']; exact h.step.tape, by rw [← hw']; exact h.step.output, by rw [← hw', size_setRow]; exact h.step.size, fun k hk ho => ?_⟩
        rw [hother k (fun e => by subst e; rcases (k4 k rfl).1 with h5 | h5; · omega
                                  · exact ho h5)]
        exact h.step.block k hk ho
      have hW := hkill.world hstep (fun b k v hv => by
          by_cases hbg : b = g
          · subst hbg
            have hk : k < l.length * i.size := by
              rcases Nat.lt_or_ge k (l.length * i.size) with h' | h'
              · exact h'
              · rw [hnotS k h'] at hv; cases hv
            have hc := h.agree _ _ _ hv
            rw [cell_of_row w b _ cur tt (0, 0) hg] at hc
            rw [cell_of_row w' b _ _ tt (0, 0) hg']
            simp only [List.getElem?_toArray]
            rw [List.append_assoc, List.getElem?_append_left (by simp; have := (Array.getElem?_eq_some_iff.1 hc).1; omega), List.getElem?_take, if_pos hk]
            simpa using hc
          · rw [cell_heap (hother b hbg)]
            exact h.agree b k v hv)
        (fun o cs b ho hm => hother b (fun e => by subst e; exact h.oc o cs b p _ _ ho hm hpa k1 rfl))
        (fun q2 v2 s2 g2 hq2 hk2 hg2 => hother g2 (fun e => by
          subst e
          have hne : p ≠ q2 := by rintro rfl; rw [updN_same] at hq2; cases hq2
          rw [updN_ne _ _ hne] at hq2
          exact hne (h.cc p q2 _ _ _ _ g2 hpa hq2 k1 hk2 rfl hg2)))
      have hcell : ∀ (j : Nat) (v : Value), news[j]? = some v → w'.cell? ⟨g, l.length * i.size + j, none⟩ = some v := by
        intro j v hj
        rw [cell_of_row w' g _ _ tt (0, 0) hg']
        have hjl := (List.getElem?_eq_some_iff.1 hj).1
        simp only [List.getElem?_toArray]
        rw [List.append_assoc, List.getElem?_append_right (by simp; omega), List.getElem?_append_left (by simp; omega)]
        rw [← hj]
        congr 1
        simp
        omega
      have hA := hW.addS (b := g) (lo := l.length * i.size) (vs := news) (k4 g rfl).1 hcell (fun o cs ho hm => h.oc o cs g p _ _ ho hm hpa k1 rfl) (fun q2 v2 s2 t2 n2 xs2 hq2 hk2 hg2 _ _ => by
          exfalso
          have hne : p ≠ q2 := by rintro rfl; rw [updN_same] at hq2; cases hq2
          rw [updN_ne _ _ hne] at hq2
          exact hne (h.cc p q2 _ _ _ _ g hpa hq2 k1 hk2 rfl hg2)) (fun q2 l2 v2 s2 hq2 hk2 hg2 => by
          have hne : p ≠ q2 := by rintro rfl; rw [updN_same] at hq2; cases hq2
          rw [updN_ne _ _ hne] at hq2
          exact hne (h.cc p q2 _ _ _ _ g hpa (isAl_row hq2) k1 hk2 rfl hg2))
      have hle := addS_le E g (l.length * i.size) news
      have hN := hA.new_claim hq' hsz hown' (fun g2 hg2 => by
        simp only [Value.ownBlock, Option.some.injEq] at hg2
        subst hg2
        refine ⟨(k4 g rfl).1, fun j hj => ?_, fun o cs ho hm => h.oc o cs g p _ _ ho hm hpa k1 rfl, fun q2 v2 s2 hq2 hk2 hg2 => ?_⟩
        · rw [addS_other (by rw [hr.size]; rw [Nat.add_mul] at hj; omega)]
          exact hnotS j (by rw [Nat.add_mul] at hj; omega)
        · have hne : p ≠ q2 := by rintro rfl; rw [updN_same] at hq2; cases hq2
          rw [updN_ne _ _ hne] at hq2
          exact hne (h.cc p q2 _ _ _ _ g hpa hq2 k1 hk2 rfl hg2))
      refine ⟨_, _, _, hrun, hle.trans hN.1, ?_, hN.2⟩
      simp only [Rep]
      refine ⟨_, _, _, rfl, by simp, hroom, hcm', fun _ => ⟨g, 0, rfl, ?_⟩, by simp, fun q2 hq2 => by injection hq2 with hq2; subst hq2; simp [updK]⟩
      refine (((hxs.append hr).mono (hle.trans hN.1).S).repE fun j hj => ?_)
      refine S_some hN.1.S (get_isSome hj) ?_
      rw [Nat.zero_add]
      rcases Nat.lt_or_ge j xs.length with hj' | hj'
      · rw [List.getElem?_append_left hj']
        have hv : xs[j]? = some xs[j] := by simp [hj']
        refine S_some hle.S (get_isSome hj') ?_
        obtain ⟨b0, off0, eb, hE⟩ := he1 (by intro h0; rw [hxl, h0] at hj'; simp at hj')
        injection eb with eb
        injection eb with eb1 eb2
        subst eb1; subst eb2
        obtain ⟨ns, n1, n2⟩ := srcE_of_repE hE
        have hj2 : j < ns.length := by rw [n1.size, ← hxl]; exact hj'
        have hv2 : ns[j]? = some ns[j] := by simp [hj2]
        have hc := h.agree _ _ _ ((n2 j hj2).trans hv2)
        rw [cell_of_row w g _ cur tt (0, 0) hg, Nat.zero_add] at hc
        have : xs[j]? = some ns[j] := by
          rw [← htake, List.getElem?_take, if_pos (by rw [← hxl]; exact hj')]
          simpa using hc
        rw [this, ← hv2, ← n2 j hj2, Nat.zero_add]
      · rw [List.getElem?_append_right hj']
        have := addS_at (E := E) (w := w') (b := g) (lo := l.length * i.size) (vs := news) (fun i v hv => hW.agree _ i v hv) hcell (j - xs.length) (by rw [List.length_append] at hj; omega)
        rw [← this]
        congr 1
        omega
    · have hgrow := run_app_grow (P := P) (w := w) (ty := ty) (sLen := l.length) (sCap := cap) (base := some ⟨g, 0, none⟩) (olds := xs) ht hu hd hi hz (fun W hW => by
          refine run_firstCells_some W i.size l.length _ _ _ xs k3.1 fun j v hj => ?_
          have := k3.cells (g := g) rfl j v hj
          simpa [World.cell?, hW] using this) hy (by omega) (by omega) (growslice_fits (by omega) hb)
      have hge := grownCap_ge w (l.length + r.length) cap e
      have hcm2 : grownCap w (l.length + r.length) cap e ≤ maxLen := grownCap_le_maxLen w _ cap e (by simp only [maxLen]; omega)
      have hsize : (xs.toArray ++ news.toArray ++ Builtin.zeroCells z.cells (grownCap w (l.length + r.length) cap e - (l.length + r.length))).size = grownCap w (l.length + r.length) cap e * i.size := by
        simp only [Array.size_append, List.size_toArray, size_zeroC, hzs, hr.size, k3.1, ← Nat.add_mul]
        congr 1
        omega
      obtain ⟨E', g1, g2, g3⟩ := hkill.drew.new_row (q := q) (e := e) (r := l ++ r) hq' hsz hge hcm2 hsize (by simp) (by
        have : (xs.toArray ++ news.toArray ++ Builtin.zeroCells z.cells (grownCap w (l.length + r.length) cap e - (l.length + r.length))).toList.take ((l.length + r.length) * i.size) = xs ++ news := by
          simp only [Array.toList_append, List.append_assoc]
          rw [← List.append_assoc]
          have : (l.length + r.length) * i.size = (xs ++ news).length := by rw [List.length_append, k3.1, hr.size, Nat.add_mul]
          rw [this]
          exact List.take_left
        rw [this]
        exact hxs.append hr)
      exact ⟨E', _, _, hgrow, g1, g2, g3⟩

/-! Whole rows. -/
theorem SrcR.nil (E : E3) (sz : Nat) : SrcR E sz [] [] := ⟨by simp, by simp⟩
theorem SrcE.toR {sz : Nat} {r : List AV} {news : List Value} (h : SrcE E sz r news) : SrcR E sz r news :=
  ⟨h.size, fun i x hx => ⟨.inl (h.get i x hx).1, (h.get i x hx).2⟩⟩
theorem SrcR.toE {sz : Nat} {r : List AV} {news : List Value} (h : SrcR E sz r news) (hf : r.all AV.flat = true) : SrcE E sz r news :=
  ⟨h.size, fun i x hx => ⟨List.all_eq_true.1 hf x (List.mem_of_getElem? hx), (h.get i x hx).2⟩⟩
theorem SrcR.append {sz : Nat} {r r' : List AV} {ns ns' : List Value} (h : SrcR E sz r ns) (k : SrcR E sz r' ns') : SrcR E sz (r ++ r') (ns ++ ns') := by
  refine ⟨by rw [List.length_append, List.length_append, h.size, k.size, Nat.add_mul], fun i x hx => ?_⟩
  rcases Nat.lt_or_ge i r.length with hi | hi
  · rw [List.getElem?_append_left hi] at hx
    obtain ⟨h1, u, h2, h3, h4⟩ := h.get i x hx
    refine ⟨h1, u, h2, h3, fun j hj => ?_⟩
    rw [List.getElem?_append_left, h4 j hj]
    rw [h.size]
    have : (i + 1) * sz ≤ r.length * sz := Nat.mul_le_mul_right _ hi
    rw [Nat.add_mul] at this
    omega
  · rw [List.getElem?_append_right hi] at hx
    obtain ⟨h1, u, h2, h3, h4⟩ := k.get _ x hx
    refine ⟨h1, u, h2, h3, fun j hj => ?_⟩
    have e : r.length * sz ≤ i * sz := Nat.mul_le_mul_right _ hi
    rw [List.getElem?_append_right (by rw [h.size]; omega), ← h4 j hj, h.size]
    congr 1
    rw [Nat.sub_mul]
    omega

/-- A new row of one's own, with what it holds. -/
theorem WI.new_rowR (h : WI F E objs cl w) {q : Nm} (hq : cl q = none) {arr : Array Value} {e : TypeId} {N cap sz : Nat} (hsz : 0 < sz) (hN : N ≤ cap) (hcap : cap ≤ maxLen) (harr : arr.size = cap * sz)
    {r : List AV} (hr : r.length = N) (hsrc : SrcR E sz r (arr.toList.take (N * sz))) :
    ∃ E', E.le E' ∧ Rep E' (.sq q sz) (.slice (some ⟨w.heap.size, 0, none⟩) N cap) ∧ WI F E' objs (updN cl q (.row r)) (w.alloc (.cells arr e)) := by
  have ha := h.alloc (.cells arr e)
  have hb : (w.alloc (.cells arr e)).heap[w.heap.size]? = some (.cells arr e (0, 0)) := heap_alloc_new w _
  have hfit : N * sz ≤ arr.size := by rw [harr]; exact Nat.mul_le_mul_right _ hN
  have hlen : (arr.toList.take (N * sz)).length = N * sz := by simp; omega
  have hown : (w.alloc (.cells arr e)).ownsRow 0 e sz (.slice (some ⟨w.heap.size, 0, none⟩) N cap) N (arr.toList.take (N * sz)) :=
    ⟨hlen, .inr ⟨w.heap.size, cap, arr, rfl, Nat.zero_le _, hb, hN, hcap, harr, rfl⟩⟩
  have h2 := ha.new_claimC (c := .row r) hq rfl hsz hown (fun g hg => by
    simp only [Value.ownBlock, Option.some.injEq] at hg
    subst hg
    exact ⟨h.own_new (Nat.le_refl _), fun i hi => h.S_lt (Nat.le_refl _), fun o cs ho hm => by have := h.lt_of_live ho hm; omega, fun q' v' s' hq' hk hg => by have := h.lt_of_claim hq' hk hg; omega⟩)
    (fun l e => by
      cases e
      exact ⟨hsrc, hr, fun g hg i => by
        simp only [Value.ownBlock, Option.some.injEq] at hg
        subst hg
        exact h.S_lt (Nat.le_refl _)⟩)
  refine ⟨_, h2.1, ?_, h2.2⟩
  simp only [Rep]
  exact ⟨by simp [updK], _, _, _, rfl⟩
theorem run_app_none {t u ty e : TypeId} {i : TypeInfo} {z : Value} {d : TypeDesc} (ht : P.underlying t = some (.slice e)) (hu : P.underlying u = some d) (hd : (∃ e2, d = .slice e2) ∨ d = .string)
    (hi : P.info? e = some i) (hz : i.zero = some z) (hzs : z.cells.size = i.size) (hby : 0 < i.bytes) {y : Value} {n : Nat} {news : List Value}
    (hy : Src P w i.size n y news) (hn : 0 < n) (hb : n * i.bytes ≤ 140737488355328) :
    (Builtin.append_ #[t, u] ty #[.slice none 0 0, y]).run P w = .ok (.slice (some ⟨w.heap.size, 0, none⟩) n (grownCap w n 0 e)) (w.drew.alloc (.cells (#[] ++ news.toArray ++ Builtin.zeroCells z.cells (grownCap w n 0 e - n)) e)) ∧
    n ≤ grownCap w n 0 e ∧ grownCap w n 0 e ≤ maxLen ∧ (#[] ++ news.toArray ++ Builtin.zeroCells z.cells (grownCap w n 0 e - n)).size = grownCap w n 0 e * i.size ∧
    (#[] ++ news.toArray ++ Builtin.zeroCells z.cells (grownCap w n 0 e - n)).toList.take (n * i.size) = news := by
  have h63 : n ≤ 140737488355328 := Nat.le_trans (Nat.le_mul_of_pos_right _ hby) hb
  have hg := run_app_grow (P := P) (w := w) (ty := ty) (sLen := 0) (sCap := 0) (base := none) (olds := []) ht hu hd hi hz (fun W _ => by simp [Builtin.firstCells]) hy (by omega) (by omega)
    (growslice_fits (by omega) (by simpa using hb))
  simp only [Nat.zero_add] at hg
  have hge := grownCap_ge w n 0 e
  have hcm : grownCap w n 0 e ≤ maxLen := grownCap_le_maxLen w _ 0 e (by simp only [maxLen]; omega)
  refine ⟨hg, hge, hcm, ?_, ?_⟩
  · simp only [Array.size_append, List.size_toArray, size_zeroC, hzs, hy.size, List.length_nil, Nat.zero_add, ← Nat.add_mul]
    congr 1
    omega
  · simp only [Array.toList_append, List.append_assoc, List.nil_append, ← hy.size]
    exact List.take_left
/-- An append onto nothing, that is a whole row. -/
theorem app_noneR (h : WI F E objs cl w) {t u ty e : TypeId} {i : TypeInfo} {z : Value} {d : TypeDesc} (ht : P.underlying t = some (.slice e)) (hu : P.underlying u = some d) (hd : (∃ e2, d = .slice e2) ∨ d = .string)
    (hi : P.info? e = some i) (hz : i.zero = some z) (hzs : z.cells.size = i.size) (hsz : 0 < i.size) (hby : 0 < i.bytes) {q : Nm} (hq : cl q = none) {y : Value} {r : List AV} {news : List Value}
    (hy : Src P w i.size r.length y news) (hr : SrcR E i.size r news) (hb : r.length * i.bytes ≤ 140737488355328) :
    ∃ E' v w', (Builtin.append_ #[t, u] ty #[.slice none 0 0, y]).run P w = .ok v w' ∧ E.le E' ∧ Rep E' (.sq q i.size) v ∧ WI F E' objs (updN cl q (.row r)) w' := by
  cases r with
  | nil =>
    have hn : news = [] := List.eq_nil_of_length_eq_zero (by rw [hr.size]; simp)
    subst hn
    have hk := h.new_claimC (q := q) (c := .row []) hq rfl (v := .slice none 0 0) (t := e) (n := 0) (xs := []) hsz (World.ownsRow_nil w 0 e i.size) (fun g hg => by simp [Value.ownBlock] at hg) (fun l e => by
      cases e
      exact ⟨SrcR.nil E _, rfl, fun g hg => by simp [Value.ownBlock] at hg⟩)
    refine ⟨_, _, _, run_app_zero ht hu hd hi (Nat.le_refl _) hy, hk.1, ?_, hk.2⟩
    simp only [Rep]
    exact ⟨by simp [updK], _, _, _, rfl⟩
  | cons x r =>
    have hlen : 0 < (x :: r).length := by simp
    generalize (x :: r) = r at *
    obtain ⟨k1, k2, k3, k4, k5⟩ := run_app_none (ty := ty) ht hu hd hi hz hzs hby hy hlen hb
    obtain ⟨E', g1, g2, g3⟩ := h.drew.new_rowR (q := q) (e := e) hq hsz k2 k3 k4 rfl (by rw [k5]; exact hr)
    exact ⟨E', _, _, k1, g1, g2, g3⟩
/-- A row's cells, and the rest of its block, another way. -/
theorem row_block (h : WI F E objs cl w) {p : Nm} {l : List AV} (hp : cl p = some (.row l)) {v : Value} {sz : Nat} (hk : E.ka p = some (v, sz)) :
    ∃ t xs, w.ownsRow 0 t sz v l.length xs ∧ SrcR E sz l xs ∧ 0 < sz ∧ (∀ g, v.ownBlock = some g → F.own g ∧ ∀ i, E.S g i = none) := by
  obtain ⟨v', s', t, n, xs, k1, k2, k3, k4, k5⟩ := h.rows p l hp
  rw [hk] at k1; cases k1
  obtain ⟨v', s', t', n', xs', m1, m2, m3, m4⟩ := h.claim p (isAl_row hp)
  rw [hk] at m1; cases m1
  subst k4
  exact ⟨t, xs, k2, k3, m2, fun g hg => ⟨(m4 g hg).1, k5 g hg⟩⟩
/-- A row's own block is written: the content becomes another. -/
theorem WI.row_set (h : WI F E objs cl w) {p : Nm} {l l' : List AV} (hp : cl p = some (.row l)) {g n cap sz : Nat} (hk : E.ka p = some (.slice (some ⟨g, 0, none⟩) n cap, sz)) {cur cur' : Array Value} {tt : TypeId}
    (hg : w.heap[g]? = some (.cells cur tt (0, 0))) (hs : cur'.size = cur.size) (hl : l'.length = l.length) (hsrc : SrcR E sz l' (cur'.toList.take (n * sz))) :
    WI F E objs (updN cl p (.row l')) (w.setRow g cur') := by
  have hpa := isAl_row hp
  obtain ⟨t, xs, k1, k2, k3, k6⟩ := row_block h hp hk
  obtain ⟨k4, k5⟩ := k6 g rfl
  have hother : ∀ k, k ≠ g → (w.setRow g cur').heap[k]? = w.heap[k]? := fun k hk => setRow_other' w g k _ hk
  have hnew : (w.setRow g cur').heap[g]? = some (.cells cur' tt (0, 0)) := setRow_heap w g cur _ tt (0, 0) hg
  have hstep : Step F (w.setRow g cur') := by
    refine ⟨h.step.os, h.step.tape, h.step.output, by rw [size_setRow]; exact h.step.size, fun k hk ho => ?_⟩
    rw [hother k (fun e => by subst e; rcases k4 with h5 | h5; · omega
                              · exact ho h5)]
    exact h.step.block k hk ho
  have hkill := h.kill_claim p
  have hW := hkill.world hstep (fun b k v hv => by
      by_cases hbg : b = g
      · subst hbg; rw [k5 k] at hv; cases hv
      · rw [cell_heap (hother b hbg)]; exact h.agree b k v hv)
    (fun o cs b ho hm => hother b (fun e => by subst e; exact h.oc o cs b p _ _ ho hm hpa hk rfl))
    (fun q2 v2 s2 g2 hq2 hk2 hg2 => hother g2 (fun e => by
      subst e
      have hne : p ≠ q2 := by rintro rfl; rw [updN_same] at hq2; cases hq2
      rw [updN_ne _ _ hne] at hq2
      exact hne (h.cc p q2 _ _ _ _ g2 hpa hq2 hk hk2 rfl hg2)))
  have hn : n = l.length ∧ n ≤ cap ∧ cap ≤ maxLen ∧ cur.size = cap * sz := by
    rcases k1.2 with ⟨e, _⟩ | ⟨g', cap', cur0, e, _, hg', hnc, hcm', hcs, htake⟩
    · cases e
    · cases e
      rw [hg] at hg'
      cases hg'
      exact ⟨rfl, hnc, hcm', hcs⟩
  obtain ⟨rfl, hnc, hcm, hcs⟩ := hn
  have hown : (w.setRow g cur').ownsRow 0 tt sz (.slice (some ⟨g, 0, none⟩) l.length cap) l.length (cur'.toList.take (l.length * sz)) := by
    refine ⟨?_, .inr ⟨g, cap, cur', rfl, Nat.zero_le _, hnew, hnc, hcm, by rw [hs]; exact hcs, rfl⟩⟩
    rw [hsrc.size, hl]
  -- the same name again
  have e1 : updN cl p (.row l') = updN (updN cl p .dead) p (.row l') := by
    funext q
    by_cases hq : p = q
    · subst hq; simp
    · rw [updN_ne _ _ hq, updN_ne _ _ hq, updN_ne _ _ hq]
  have oldc : ∀ {q : Nm}, isAl ((updN cl p (.row l')) q) = true → isAl (cl q) = true := by
    intro q hq
    by_cases hpq : p = q
    · subst hpq; exact hpa
    · rwa [updN_ne _ _ hpq] at hq
  refine { hW with claim := ?_, rows := ?_, cc := ?_, oc := ?_, kdom := ?_ }
  · intro q hq
    by_cases hpq : p = q
    · subst hpq
      refine ⟨_, _, tt, _, _, hk, k3, hown, fun g' hg' => ?_⟩
      simp only [Value.ownBlock, Option.some.injEq] at hg'
      subst hg'
      exact ⟨k4, fun i _ => k5 i⟩
    · exact hW.claim q (by rw [updN_ne _ _ hpq] at hq ⊢; exact hq)
  · intro q r hq
    by_cases hpq : p = q
    · subst hpq
      rw [updN_same] at hq
      cases hq
      refine ⟨_, _, tt, _, _, hk, hown, hsrc, hl, fun g' hg' => ?_⟩
      simp only [Value.ownBlock, Option.some.injEq] at hg'
      subst hg'
      exact k5
    · exact hW.rows q r (by rw [updN_ne _ _ hpq] at hq ⊢; exact hq)
  · intro q q' v v' s s' g' h1 h2 h3 h4
    exact h.cc q q' v v' s s' g' (oldc h1) (oldc h2) h3 h4
  · intro o cs b q v s h1 h2 h3 h4
    exact h.oc o cs b q v s h1 h2 (oldc h3) h4
  · intro q x hx
    by_cases hpq : p = q
    · subst hpq; rw [updN_same]; simp
    · rw [updN_ne _ _ hpq]; exact h.kdom q x hx
/-- An append onto a whole row. -/
theorem app_row (h : WI F E objs cl w) {t u ty e : TypeId} {i : TypeInfo} {z : Value} {d : TypeDesc} (ht : P.underlying t = some (.slice e)) (hu : P.underlying u = some d) (hd : (∃ e2, d = .slice e2) ∨ d = .string)
    (hi : P.info? e = some i) (hz : i.zero = some z) (hzs : z.cells.size = i.size) (hsz : 0 < i.size) (hby : 0 < i.bytes) {p q : Nm} {l r : List AV} (hp : cl p = some (.row l)) (hq : cl q = none) {s y : Value} {news : List Value}
    (hs : Rep E (.sq p i.size) s) (hy : Src P w i.size r.length y news) (hr : SrcR E i.size r news) (hb : (l.length + r.length) * i.bytes ≤ 140737488355328) :
    ∃ E' v w', (Builtin.append_ #[t, u] ty #[s, y]).run P w = .ok v w' ∧ E.le E' ∧ Rep E' (.sq q i.size) v ∧ WI F E' objs (updN (updN cl p .dead) q (.row (l ++ r))) w' := by
  have h63 : l.length + r.length ≤ 140737488355328 := Nat.le_trans (Nat.le_mul_of_pos_right _ hby) hb
  have hpa := isAl_row hp
  have hpq : p ≠ q := by rintro rfl; rw [hp] at hq; cases hq
  have hq' : updN cl p .dead q = none := by rw [updN_ne _ _ hpq]; exact hq
  have hkill := h.kill_claim p
  simp only [Rep] at hs
  obtain ⟨k1, _⟩ := hs
  obtain ⟨tt, xs, k3, hxs, _, k4⟩ := row_block h hp k1
  rcases k3.2 with ⟨rfl, hl0⟩ | ⟨g, cap, cur, rfl, _, hg, hnc, hcm', hcs, htake⟩
  · have hl0 : l = [] := List.eq_nil_of_length_eq_zero hl0
    subst hl0
    simp only [List.length_nil, Nat.zero_add] at hb
    obtain ⟨E', v, w', g1, g2, g3, g4⟩ := app_noneR hkill (ty := ty) ht hu hd hi hz hzs hsz hby hq' hy hr hb
    exact ⟨E', v, w', g1, g2, g3, g4⟩
  · have hlt : g < w.heap.size := (Array.getElem?_eq_some_iff.1 hg).1
    replace k4 := k4 g rfl
    obtain ⟨k4, k5⟩ := k4
    by_cases hroom : l.length + r.length ≤ cap
    · have hfit : l.length * i.size + news.length ≤ cur.size := by rw [hr.size, hcs, ← Nat.add_mul]; exact Nat.mul_le_mul_right _ hroom
      have hrun := run_app_room (P := P) (w := w) (ty := ty) ht hu hd hi hg hy hroom hfit
      have hother : ∀ k, k ≠ g → (w.setRow g (cur.toList.take (l.length * i.size) ++ news ++ cur.toList.drop (l.length * i.size + news.length)).toArray).heap[k]? = w.heap[k]? := fun k hk => setRow_other' w g k _ hk
      generalize hw' : w.setRow g (cur.toList.take (l.length * i.size) ++ news ++ cur.toList.drop (l.length * i.size + news.length)).toArray = w' at *
      have hg' : w'.heap[g]? = some (.cells (cur.toList.take (l.length * i.size) ++ news ++ cur.toList.drop (l.length * i.size + news.length)).toArray tt (0, 0)) := by
        rw [← hw']; exact setRow_heap w g cur _ tt (0, 0) hg
      have hxl : xs.length = l.length * i.size := k3.1
      have hcur : (cur.toList.take (l.length * i.size) ++ news ++ cur.toList.drop (l.length * i.size + news.length)).toArray.size = cap * i.size := by
        simp only [List.size_toArray, List.length_append, List.length_take, List.length_drop, Array.length_toList]
        omega
      have hown' : w'.ownsRow 0 tt i.size (.slice (some ⟨g, 0, none⟩) (l.length + r.length) cap) (l.length + r.length) (xs ++ news) := by
        refine ⟨by rw [List.length_append, k3.1, hr.size, Nat.add_mul], .inr ⟨g, cap, _, rfl, Nat.zero_le _, hg', hroom, hcm', hcur, ?_⟩⟩
        rw [htake]
        have : (l.length + r.length) * i.size = (xs ++ news).length := by rw [List.length_append, k3.1, hr.size, Nat.add_mul]
        rw [this]
        exact List.take_left
      have hstep : Step F w' := by
        refine ⟨by rw [← hw']; exact h.step.os, by rw [← hw']; exact h.step.tape, by rw [← hw']; exact h.step.output, by rw [← hw', size_setRow]; exact h.step.size, fun k hk ho => ?_⟩
        rw [hother k (fun e => by subst e; rcases k4 with h5 | h5; · omega
                                  · exact ho h5)]
        exact h.step.block k hk ho
      have hW := hkill.world hstep (fun b k v hv => by
          by_cases hbg : b = g
          · subst hbg; rw [k5 k] at hv; cases hv
          · rw [cell_heap (hother b hbg)]
            exact h.agree b k v hv)
        (fun o cs b ho hm => hother b (fun e => by subst e; exact h.oc o cs b p _ _ ho hm hpa k1 rfl))
        (fun q2 v2 s2 g2 hq2 hk2 hg2 => hother g2 (fun e => by
          subst e
          have hne : p ≠ q2 := by rintro rfl; rw [updN_same] at hq2; cases hq2
          rw [updN_ne _ _ hne] at hq2
          exact hne (h.cc p q2 _ _ _ _ g2 hpa hq2 k1 hk2 rfl hg2)))
      have hN := hW.new_claimC (c := .row (l ++ r)) hq' rfl hsz hown' (fun g2 hg2 => by
        simp only [Value.ownBlock, Option.some.injEq] at hg2
        subst hg2
        refine ⟨k4, fun j hj => k5 j, fun o cs ho hm => h.oc o cs g p _ _ ho hm hpa k1 rfl, fun q2 v2 s2 hq2 hk2 hg2 => ?_⟩
        have hne : p ≠ q2 := by rintro rfl; rw [updN_same] at hq2; cases hq2
        rw [updN_ne _ _ hne] at hq2
        exact hne (h.cc p q2 _ _ _ _ g hpa hq2 k1 hk2 rfl hg2)) (fun l2 e2 => by
          cases e2
          refine ⟨hxs.append hr, by simp, fun g2 hg2 => ?_⟩
          simp only [Value.ownBlock, Option.some.injEq] at hg2
          subst hg2
          exact k5)
      refine ⟨_, _, _, hrun, hN.1, ?_, hN.2⟩
      simp only [Rep]
      exact ⟨by simp [updK], _, _, _, rfl⟩
    · have hgrow := run_app_grow (P := P) (w := w) (ty := ty) (sLen := l.length) (sCap := cap) (base := some ⟨g, 0, none⟩) (olds := xs) ht hu hd hi hz (fun W hW => by
          refine run_firstCells_some W i.size l.length _ _ _ xs k3.1 fun j v hj => ?_
          have := k3.cells (g := g) rfl j v hj
          simpa [World.cell?, hW] using this) hy (by omega) (by omega) (growslice_fits (by omega) hb)
      have hge := grownCap_ge w (l.length + r.length) cap e
      have hcm2 : grownCap w (l.length + r.length) cap e ≤ maxLen := grownCap_le_maxLen w _ cap e (by simp only [maxLen]; omega)
      have hsize : (xs.toArray ++ news.toArray ++ Builtin.zeroCells z.cells (grownCap w (l.length + r.length) cap e - (l.length + r.length))).size = grownCap w (l.length + r.length) cap e * i.size := by
        simp only [Array.size_append, List.size_toArray, size_zeroC, hzs, hr.size, k3.1, ← Nat.add_mul]
        congr 1
        omega
      obtain ⟨E', g1, g2, g3⟩ := hkill.drew.new_rowR (q := q) (e := e) (r := l ++ r) hq' hsz hge hcm2 hsize (by simp) (by
        have : (xs.toArray ++ news.toArray ++ Builtin.zeroCells z.cells (grownCap w (l.length + r.length) cap e - (l.length + r.length))).toList.take ((l.length + r.length) * i.size) = xs ++ news := by
          simp only [Array.toList_append, List.append_assoc]
          rw [← List.append_assoc]
          have : (l.length + r.length) * i.size = (xs ++ news).length := by rw [List.length_append, k3.1, hr.size, Nat.add_mul]
          rw [this]
          exact List.take_left
        rw [this]
        exact hxs.append hr)
      exact ⟨E', _, _, hgrow, g1, g2, g3⟩
/-- A row stands still from now on. -/
theorem WI.row_still (h : WI F E objs cl w) {p : Nm} {l : List AV} (hp : cl p = some (.row l)) (hf : l.all AV.flat = true) :
    ∃ E', E.le E' ∧ E'.mu = E.mu ∧ E'.ka = E.ka ∧ WI F E' objs (updN cl p .dead) w ∧ ∀ sz v, Rep E (.sq p sz) v → Rep E' (.lst .ro sz l) v := by
  have hpa := isAl_row hp
  obtain ⟨v, sz, t, n, xs, k1, k2, k3, k4, k5⟩ := h.rows p l hp
  obtain ⟨v', s', t', n', xs', m1, m2, m3, m4⟩ := h.claim p hpa
  rw [k1] at m1; cases m1
  subst k4
  rcases k2.2 with ⟨rfl, hl0⟩ | ⟨g, cap, cur, rfl, _, hg, hnc, hcm', hcs, htake⟩
  · have hl0 : l = [] := List.eq_nil_of_length_eq_zero hl0
    subst hl0
    refine ⟨E, E3.le.refl E, rfl, rfl, h.kill_claim p, fun sz' v hv => ?_⟩
    simp only [Rep] at hv ⊢
    rw [k1] at hv
    obtain ⟨hv, _⟩ := hv
    cases hv
    exact ⟨none, 0, 0, rfl, rfl, Nat.le_refl _, Nat.zero_le _, fun h => absurd rfl h, by simp, by simp⟩
  · obtain ⟨m4, m5⟩ := m4 g rfl
    have hcell : ∀ (j : Nat) (v : Value), xs[j]? = some v → w.cell? ⟨g, 0 + j, none⟩ = some v := by
      intro j v hj
      rw [Nat.zero_add]
      have := k2.cells (g := g) rfl j v hj
      rw [add_off] at this
      simpa using this
    have hle := addS_le E g 0 xs
    have hA := (h.kill_claim p).addS (b := g) (lo := 0) (vs := xs) m4 hcell (fun o cs ho hm => h.oc o cs g p _ _ ho hm hpa k1 rfl) (fun q2 v2 s2 t2 n2 xs2 hq2 hk2 hg2 _ _ => by
        exfalso
        have hne : p ≠ q2 := by rintro rfl; rw [updN_same] at hq2; cases hq2
        rw [updN_ne _ _ hne] at hq2
        exact hne (h.cc p q2 _ _ _ _ g hpa hq2 k1 hk2 rfl hg2)) (fun q2 l2 v2 s2 hq2 hk2 hg2 => by
        have hne : p ≠ q2 := by rintro rfl; rw [updN_same] at hq2; cases hq2
        rw [updN_ne _ _ hne] at hq2
        exact hne (h.cc p q2 _ _ _ _ g hpa (isAl_row hq2) k1 hk2 rfl hg2))
    refine ⟨_, hle, rfl, rfl, hA, fun sz' v hv => ?_⟩
    simp only [Rep] at hv ⊢
    rw [k1] at hv
    obtain ⟨hv, _⟩ := hv
    cases hv
    refine ⟨_, _, _, rfl, rfl, hnc, hcm', fun _ => ⟨g, 0, rfl, ?_⟩, by simp, by simp⟩
    refine (((k3.toE hf).mono hle.S).repE fun j hj => ?_)
    exact addS_at (fun i v hv => h.agree _ i v hv) hcell j hj
end Go.Proofs.Ythmocicjocjdoaa.V
