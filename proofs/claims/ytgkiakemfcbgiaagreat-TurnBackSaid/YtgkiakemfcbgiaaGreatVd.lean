/- Part 4 of the proof that: What goes on is of its form in what comes of the schema, and goes back, with what was lost, as it was; what is gone is regained. -/
import Derived.Deep.Heap
import Derived.Laws.Rows
import Derived.Test.YtgkiakemfcbgiaaGreatVc
set_option linter.unusedVariables false
set_option linter.unusedSimpArgs false
namespace Go.Proofs.YtgkiakemfcbgiaaGreat
open Go
namespace V
open Go Go.RowKit Go.Lib
set_option maxHeartbeats 4000000 in
set_option maxRecDepth 1000000 in
theorem zsg (g n cap i j : Nat) (te : TypeId) (cur : Array Value) (w : World) (hg : w.heap[g]? = some (.cells cur te (0, 0))) (hs : cur.size = cap * 2) (hn : n ≤ cap) (hc : cap ≤ maxLen) (h1 : ∀ u ∈ cur.toList.take (n * 2), u.oneCell' = true) (hi : i ≤ j) (hj : j ≤ n) :
    Calls Tryz.prog 46 #[.slice (some ⟨g, 0, none⟩) n cap, .int .i64 i, .int .i64 j] w (RowTo w (.slice (some ⟨g, 0, none⟩) n cap) 2 (n - (j - i)) (cur.toList.take (i * 2) ++ (cur.toList.drop (j * 2)).take ((n - j) * 2))) := by
  have hown : w.ownsRow 0 te 2 (.slice (some ⟨g, 0, none⟩) n cap) n (cur.toList.take (n * 2)) := ⟨by rw [List.length_take, Array.length_toList]; omega, .inr ⟨g, cap, cur, rfl, Nat.zero_le _, hg, hn, hc, hs, rfl⟩⟩
  unfold maxLen at hc
  by_cases heq : i = j
  · subst heq
    have e : cur.toList.take (i * 2) ++ (cur.toList.drop (i * 2)).take ((n - i) * 2) = cur.toList.take (n * 2) := by
      rw [← List.take_add]; congr 1; omega
    rw [e, Nat.sub_self, Nat.sub_zero]; have H := Lib.hid (z12 hown); clear hown hg hs h1 e
    rcases Nat.lt_or_ge i n with hin | hin
    · go_enter Tryz.func46, Tryz.ntmps46
      go_wp2
      all_goals (go_ret; exact H.out)
    · obtain rfl : n = i := by omega
      go_enter Tryz.func46, Tryz.ntmps46
      go_wp2
      all_goals (go_ret; exact H.out)
  · have hlt : i < j := by omega
    have hU : Tryz.prog.underlying 22 = some (.slice 57) := Tryz.underlying22
    obtain ⟨ti, hti, hz1, hz2, hz3⟩ := info_parts (by kernel_rfl : (Tryz.prog.info? 57).map (fun i => (i.zero, i.size, i.bytes)) = some (some (.agg #[.int .i64 0, .slice none 0 0]), 2, 32))
    rcases (show j < cap ∨ cap = j by omega) with hjl | rfl
    rotate_left
    · obtain rfl : n = cap := by omega
      have hcl : ∀ ty c, (Builtin.clear_ #[22] ty #[.slice (some ⟨g, i * 2, none⟩) (n - i) c]).run Tryz.prog w.drew = .ok (.tuple #[]) (w.drew.setRow g (spl cur (i * 2) (Builtin.zeroCells #[Value.int .i64 0, .slice none 0 0] (n - i)).toList)) := fun ty c =>
        z1n hU hti hz1 (by rw [hz2]; rfl) (by intro u hu; simp [Value.cells] at hu; rcases hu with rfl | rfl <;> rfl) (w := w.drew) (te := te) hg (by rw [hz2, hs]; omega) (by omega)
      have hzl : (Builtin.zeroCells #[Value.int .i64 0, .slice none 0 0] (n - i)).toList.length = (n - i) * 2 := by rw [Array.length_toList, size_zeroCells]; rfl
      have Hend : RowTo w (.slice (some ⟨g, 0, none⟩) n n) 2 (n - (n - i)) (cur.toList.take (i * 2) ++ (cur.toList.drop (n * 2)).take ((n - n) * 2)) (.returned (.slice (some ⟨g, 0, none⟩) i n)) (w.drew.setRow g (spl cur (i * 2) (Builtin.zeroCells #[Value.int .i64 0, .slice none 0 0] (n - i)).toList)) := by
        rw [show n - (n - i) = i by omega]
        refine z1o (w := w.drew) (n' := i) (cap := n) (sz := 2) (te := te) (cur := cur) rfl hg ?_ hi hc ?_ w ⟨rfl, rfl, rfl, rfl⟩ n
        · rw [zn _ _ _ (by omega), hs]
        · rw [zl]
          simp only [Nat.sub_self, Nat.zero_mul, List.take_zero, List.append_nil]
          rw [List.append_assoc, List.take_append_of_le_length (by rw [List.length_take, Array.length_toList]; omega), List.take_take, Nat.min_self]
      have Hcl := Lib.hid hcl; have HE := Lib.hid Hend
      have mixed : Tryz.prog.follows .mixedOrders = true := by kernel_rfl
      generalize (cur.toList.take (i * 2) ++ (cur.toList.drop (n * 2)).take ((n - n) * 2)) = xs at *; clear hcl Hend hzl hz1 hz2 hz3 hown hg hs h1 hti
      go_enter Tryz.func46, Tryz.ntmps46
      go_wp2_with fail
      go_region_law_o fail
      all_goals
        go_wp2_with (with_reducible refine z2k _ rfl (.tmp 31) 22 rfl (.slice (some ⟨g, i * 2, none⟩) (n - i) (n - i)) rfl (Hcl.out _ _) ?_)
        all_goals
          go_ret
          exact HE.out
    obtain ⟨news, hnews⟩ : ∃ news, news = (cur.toList.drop (j * 2)).take ((n - j) * 2) := ⟨_, rfl⟩
    have hnl : news.length = (n - j) * 2 := by rw [hnews, List.length_take, List.length_drop, Array.length_toList]; omega
    have hn1 : ∀ u ∈ news, u.oneCell' = true := by
      intro u hu; rw [hnews, List.take_drop] at hu; have := List.mem_of_mem_drop hu
      rw [show j * 2 + (n - j) * 2 = n * 2 by omega] at this
      exact h1 u this
    have hap : ∀ A c, (cap ≠ j → A = some (⟨g, j * 2, none⟩ : Addr)) → (Builtin.append_ #[22, 22] 22 #[.slice (some ⟨g, 0, none⟩) i cap, .slice A (n - j) c]).run Tryz.prog w.drew = .ok (.slice (some ⟨g, 0, none⟩) (i + (n - j)) cap) (w.drew.setRow g (spl cur (i * 2) news)) := fun A c hA => by
      have hcells : ∀ W : World, W.heap = w.drew.heap → (Builtin.firstCells 2 (n - j) (.slice A (n - j) c)).run Tryz.prog W = .ok news.toArray W := fun W hW => by
        have hgW : W.heap[g]? = some (.cells cur te (0, 0)) := by rw [hW]; exact hg
        have hs1 : SrcM Tryz.prog W 2 (n - j) (.slice A (n - j) c) news := by
          rw [hnews]
          exact ziw (te := te) (fr := (0, 0)) hgW (by omega) (by rw [← hnews]; exact hn1) A fun h0 => hA (by omega)
        have hsl := hs1.cells (n - j) (Nat.le_refl _)
        rwa [List.take_of_length_le (by omega)] at hsl
      have := z28 (P := Tryz.prog) (w := w.drew) (t := 22) (u := 22) (ty := 22) (e := 57) (e' := te) (i := ti) hU hU (.inl ⟨_, rfl⟩) hti (g := g) (sLen := i) (sCap := cap) (n := n - j) (cur := cur) hg (y := .slice A (n - j) c) (news := news)
        ⟨fun W hW => by simp [Builtin.lenOf], fun W hW => by rw [hz2]; exact hcells W hW, by rw [hnl, hz2], hn1⟩ (by omega) (by rw [hz2]; omega)
      rw [hz2] at this; exact this
    obtain ⟨W1, hW1⟩ : ∃ W1, W1 = w.drew.setRow g (spl cur (i * 2) news) := ⟨_, rfl⟩
    have hg1 : W1.heap[g]? = some (.cells (spl cur (i * 2) news) te (0, 0)) := by rw [hW1]; exact setRow_heap _ g cur _ te (0, 0) hg
    have hsz1 : (spl cur (i * 2) news).size = cap * 2 := by rw [zn _ _ _ (by omega), hs]
    have hcl : ∀ ty c, (Builtin.clear_ #[22] ty #[.slice (some ⟨g, (i + (n - j)) * 2, none⟩) (n - (i + (n - j))) c]).run Tryz.prog W1 = .ok (.tuple #[]) (W1.setRow g (spl (spl cur (i * 2) news) ((i + (n - j)) * 2) (Builtin.zeroCells #[Value.int .i64 0, .slice none 0 0] (n - (i + (n - j)))).toList)) := fun ty c =>
      z1n hU hti hz1 (by rw [hz2]; rfl) (by intro u hu; simp [Value.cells] at hu; rcases hu with rfl | rfl <;> rfl) hg1 (by rw [hz2, hsz1]; omega) (by omega)
    have hic : i ≤ cap := by omega
    have hjc : j ≤ cap := by omega
    have Hap := Lib.hid hap; have Hcl := Lib.hid hcl; have HW1 := Lib.hid hW1; have Hend : ∀ cur2, cur2 = spl (spl cur (i * 2) news) ((i + (n - j)) * 2) (Builtin.zeroCells #[Value.int .i64 0, .slice none 0 0] (n - (i + (n - j)))).toList →
        RowTo w (.slice (some ⟨g, 0, none⟩) n cap) 2 (n - (j - i)) (cur.toList.take (i * 2) ++ news) (.returned (.slice (some ⟨g, 0, none⟩) (i + (n - j)) cap)) (W1.setRow g cur2) := by
      intro cur2 hc2
      have hzl : (Builtin.zeroCells #[Value.int .i64 0, .slice none 0 0] (n - (i + (n - j)))).toList.length = (n - (i + (n - j))) * 2 := by rw [Array.length_toList, size_zeroCells]; rfl
      rw [hW1, z10, show i + (n - j) = n - (j - i) by omega]
      refine z1o (w := w.drew) (n' := n - (j - i)) (cap := cap) (sz := 2) (te := te) (cur := cur) rfl hg ?_ (by omega) hc ?_ w ⟨rfl, rfl, rfl, rfl⟩ n
      · rw [hc2, zn _ _ _ (by omega), hsz1]
      · rw [hc2, zl, zl]
        have hl1 : (cur.toList.take (i * 2) ++ news).length = (n - (j - i)) * 2 := by rw [List.length_append, List.length_take, Array.length_toList]; omega
        rw [show (i + (n - j)) * 2 = (n - (j - i)) * 2 by omega]
        rw [List.append_assoc, List.take_append_of_le_length (by rw [List.length_take, List.length_append]; omega), List.take_take, Nat.min_self, List.take_append_of_le_length (by omega), List.take_of_length_le (by omega)]
    have HE := Lib.hid Hend; rw [← hnews]
    have mixed : Tryz.prog.follows .mixedOrders = true := by kernel_rfl
    clear hap hcl hW1 Hend hnews hg1 hsz1 hz1 hz2 hz3 hnl hn1 hown hg hs h1
    · have hne : ¬ cap = j := by omega
      go_enter Tryz.func46, Tryz.ntmps46
      go_wp2_with fail
      go_region_law_o (refine z9w rfl (.tmp 22) (.tmp 25) 22 22 rfl (.slice (some ⟨g, 0, none⟩) i cap) (.slice (some ⟨g, j * 2, none⟩) (n - j) (cap - j)) (by simp [Act.eval, Act.put]) (by simp [Act.eval, Act.put]) (Hap.out (some ⟨g, j * 2, none⟩) (cap - j) (fun h => rfl)) ?_)
      all_goals
        rw [← HW1.out]
        go_wp2_with (with_reducible refine z2k _ rfl (.tmp 31) 22 rfl (.slice (some ⟨g, (i + (n - j)) * 2, none⟩) (n - (i + (n - j))) (cap - (i + (n - j)))) rfl (Hcl.out _ _) ?_)
        all_goals
          go_ret
          exact HE.out _ rfl
set_option maxHeartbeats 4000000 in
set_option maxRecDepth 1000000 in
theorem z71 (base : Option Addr) (n cap i : Nat) (b2 : Option Addr) (c2 : Nat) (w : World) (hi : i ≤ n) (hn : n ≤ cap) (hc : cap ≤ maxLen) (xs : List Value) (hR : RowTo w (.slice base n cap) 2 n xs (.returned (.slice base n cap)) w) :
    Calls Tryz.prog 44 #[.slice base n cap, .int .i64 i, .slice b2 0 c2] w (RowTo w (.slice base n cap) 2 n xs) := by
  unfold maxLen at hc
  have hic : i ≤ cap := by omega
  have H := Lib.hid hR; clear hR
  cases base with
  | none =>
    go_enter Tryz.func44, Tryz.ntmps44
    go_wp2
    all_goals (go_ret; exact H.out)
  | some b =>
    rcases (show i < cap ∨ cap = i by omega) with hlt | rfl
    · have hne : ¬ cap = i := by omega
      go_enter Tryz.func44, Tryz.ntmps44
      go_wp2
      all_goals (go_ret; exact H.out)
    · go_enter Tryz.func44, Tryz.ntmps44
      go_wp2
      all_goals (go_ret; exact H.out)
set_option maxHeartbeats 4000000 in
set_option maxRecDepth 1000000 in
theorem zpl (v : Value) (n : Nat) (xs : List Value) (te : TypeId) (b2 : Addr) (m c2 : Nat) (news : List Value) (w : World) (hown : w.ownsRow 0 te 2 v n xs) (hm : 0 < m) (hy : Src Tryz.prog w 2 m (.slice (some b2) m c2) news) (hb : (n + m) * 32 ≤ 211106232532992) :
    Calls Tryz.prog 44 #[v, .int .i64 n, .slice (some b2) m c2] w (RowTo w v 2 (n + m) (xs ++ news)) := by
  have hU : Tryz.prog.underlying 22 = some (.slice 57) := Tryz.underlying22
  obtain ⟨ti, hti, hz1, hz2, hz3⟩ := info_parts (by kernel_rfl : (Tryz.prog.info? 57).map (fun i => (i.zero, i.size, i.bytes)) = some (some (.agg #[.int .i64 0, .slice none 0 0]), 2, 32))
  obtain ⟨v', w', hap, hR⟩ := z70 (P := Tryz.prog) (w := w) (ty := 22) hU hU hti hz1 (by rw [hz2]; rfl) (by omega) (by omega) (by omega) (by rw [hz2]; exact hown) (by rw [hz2]; exact hy) (by rw [hz3]; exact hb)
  rw [hz2] at hR
  have hz4 : ¬ ((m : Int) = 0) := by omega
  have H := Lib.hid hR; have Hap := Lib.hid hap
  have mixed : Tryz.prog.follows .mixedOrders = true := by kernel_rfl
  rcases hown.2 with ⟨rfl, rfl⟩ | ⟨g, cap, cur, rfl, _, hg, hnc, hcm, hcs, htake⟩
  · clear hown hy hR hap hz1 hz2 hz3 hti hb
    go_enter Tryz.func44, Tryz.ntmps44
    go_wp2_with (at_builtin; refine z1b _ rfl _ _ 22 22 rfl _ _ rfl rfl Hap.out ?_)
    all_goals (go_ret; exact H.out)
  · unfold maxLen at hcm
    clear hown hy hR hap hz1 hz2 hz3 hti hb hg hcs htake
    rcases (show n < cap ∨ cap = n by omega) with hlt | rfl
    · have hne : ¬ cap = n := by omega
      go_enter Tryz.func44, Tryz.ntmps44
      go_wp2_with (at_builtin; refine z1b _ rfl _ _ 22 22 rfl _ _ rfl rfl Hap.out ?_)
      all_goals (go_ret; exact H.out)
    · go_enter Tryz.func44, Tryz.ntmps44
      go_wp2_with (at_builtin; refine z1b _ rfl _ _ 22 22 rfl _ _ rfl rfl Hap.out ?_)
      all_goals (go_ret; exact H.out)
set_option maxHeartbeats 4000000 in
set_option maxRecDepth 1000000 in
theorem zpm (g n cap i h m c2 : Nat) (te te2 : TypeId) (cur cur2 : Array Value) (w : World) (hg : w.heap[g]? = some (.cells cur te (0, 0))) (hs : cur.size = cap * 2) (hc : cap ≤ maxLen) (h1 : ∀ u ∈ cur.toList.take (n * 2), u.oneCell' = true)
    (hg2 : w.heap[h]? = some (.cells cur2 te2 (0, 0))) (hs2 : cur2.size = c2 * 2) (hmc : m ≤ c2) (h2 : ∀ u ∈ cur2.toList.take (m * 2), u.oneCell' = true) (hgh : h ≠ g) (hin : i < n) (hm : 0 < m) (hroom : n + m ≤ cap) :
    Calls Tryz.prog 44 #[.slice (some ⟨g, 0, none⟩) n cap, .int .i64 i, .slice (some ⟨h, 0, none⟩) m c2] w (RowTo w (.slice (some ⟨g, 0, none⟩) n cap) 2 (n + m) (cur.toList.take (i * 2) ++ cur2.toList.take (m * 2) ++ (cur.toList.drop (i * 2)).take ((n - i) * 2))) := by
  have hU : Tryz.prog.underlying 22 = some (.slice 57) := Tryz.underlying22
  obtain ⟨ti, hti, hz1, hz2, hz3⟩ := info_parts (by kernel_rfl : (Tryz.prog.info? 57).map (fun i => (i.zero, i.size, i.bytes)) = some (some (.agg #[.int .i64 0, .slice none 0 0]), 2, 32))
  unfold maxLen at hc
  have hov : ∀ lb cb, (callFunc 80 #[.slice (some ⟨h, 0, none⟩) m c2, .slice (some ⟨g, (i + m) * 2, none⟩) lb cb]).run Tryz.prog w = .ok (.value (.bool false)) w := fun lb cb => by
    rw [run_callFunc_extern Tryz.func80 (by kernel_rfl) (by kernel_rfl) (by kernel_rfl) (e := Extern.SlicesOverlaps.overlaps #[22, 22] #[4]) (by kernel_rfl),
      Lib.run_overlaps_apart w 22 4 57 hU 2 (fun w => by simp [sizeOf, typeInfo, hti, hz2]) ⟨h, 0, none⟩ ⟨g, (i + m) * 2, none⟩ m c2 lb cb hgh te2 te cur2.size cur.size (z2u hg2) (z2u hg) (by omega) (z2f hg2) (z2f hg2)]
    rfl
  obtain ⟨olds, holds⟩ : ∃ olds, olds = (cur.toList.drop (i * 2)).take ((n - i) * 2) := ⟨_, rfl⟩; obtain ⟨news, hnews⟩ : ∃ news, news = cur2.toList.take (m * 2) := ⟨_, rfl⟩
  have hol : olds.length = (n - i) * 2 := by rw [holds, List.length_take, List.length_drop, Array.length_toList]; omega
  have hnl : news.length = m * 2 := by rw [hnews, List.length_take, Array.length_toList]; omega
  have ho1 : ∀ u ∈ olds, u.oneCell' = true := by
    intro u hu; rw [holds, List.take_drop] at hu; have := List.mem_of_mem_drop hu
    rw [show i * 2 + (n - i) * 2 = n * 2 by omega] at this
    exact h1 u this
  have hcp1 : ∀ ty dc sc, (Builtin.copy_ #[22, 22] ty #[.slice (some ⟨g, (i + m) * 2, none⟩) (n + m - (i + m)) dc, .slice (some ⟨g, i * 2, none⟩) (n + m - i) sc]).run Tryz.prog w.drew = .ok (goInt ((n - i : Nat) : Int)) (w.drew.setRow g (spl cur ((i + m) * 2) olds)) := fun ty dc sc => by
    refine zq hU hti (w := w.drew) (te := te) (o := (i + m) * 2) (cur := cur) (news := olds) hg (by simp only [Nat.min_def]; split <;> omega) ?_ ho1 (by omega)
    rw [hz2, holds]
    exact zw (w := w.drew) (te := te) (fr := (0, 0)) hg (by omega)
  obtain ⟨W1, hW1⟩ : ∃ W1, W1 = w.drew.setRow g (spl cur ((i + m) * 2) olds) := ⟨_, rfl⟩
  have hg1 : W1.heap[g]? = some (.cells (spl cur ((i + m) * 2) olds) te (0, 0)) := by rw [hW1]; exact setRow_heap _ g cur _ te (0, 0) hg
  have hgh1 : W1.heap[h]? = some (.cells cur2 te2 (0, 0)) := by rw [hW1, setRow_other' _ _ _ _ hgh]; exact hg2
  have hsz1 : (spl cur ((i + m) * 2) olds).size = cap * 2 := by rw [zn _ _ _ (by omega), hs]
  have hcp2 : ∀ ty dc, (Builtin.copy_ #[22, 22] ty #[.slice (some ⟨g, i * 2, none⟩) (n + m - i) dc, .slice (some ⟨h, 0, none⟩) m c2]).run Tryz.prog W1 = .ok (goInt m) (W1.setRow g (spl (spl cur ((i + m) * 2) olds) (i * 2) news)) := fun ty dc => by
    refine zq hU hti (w := W1) (te := te) (o := i * 2) (cur := spl cur ((i + m) * 2) olds) (news := news) hg1 (by simp only [Nat.min_def]; split <;> omega) ?_ (by rw [hnews]; exact h2) (by omega)
    rw [hz2, hnews]
    exact zw (w := W1) (te := te2) (fr := (0, 0)) hgh1 (by omega)
  have Hend : RowTo w (.slice (some ⟨g, 0, none⟩) n cap) 2 (n + m) (cur.toList.take (i * 2) ++ news ++ olds) (.returned (.slice (some ⟨g, 0, none⟩) (n + m) cap)) (W1.setRow g (spl (spl cur ((i + m) * 2) olds) (i * 2) news)) := by
    have hl2 : (cur.toList.take (i * 2) ++ news ++ olds).length = (n + m) * 2 := by rw [List.length_append, List.length_append, List.length_take, Array.length_toList]; omega
    rw [hW1, z10]
    refine z1o (w := w.drew) (n' := n + m) (cap := cap) (sz := 2) (te := te) (cur := cur) rfl hg ?_ (by omega) hc ?_ w ⟨rfl, rfl, rfl, rfl⟩ n
    · rw [zn _ _ _ (by omega), hsz1]
    · rw [zl, zl]
      have e1 : (cur.toList.take ((i + m) * 2) ++ olds ++ cur.toList.drop ((i + m) * 2 + olds.length)).take (i * 2) = cur.toList.take (i * 2) := by
        rw [List.append_assoc, List.take_append_of_le_length (by rw [List.length_take, Array.length_toList]; omega), List.take_take, Nat.min_eq_left (by omega)]
      have e2 : (cur.toList.take ((i + m) * 2) ++ olds ++ cur.toList.drop ((i + m) * 2 + olds.length)).drop (i * 2 + news.length) = olds ++ cur.toList.drop ((i + m) * 2 + olds.length) := by
        rw [List.append_assoc, show i * 2 + news.length = (cur.toList.take ((i + m) * 2)).length by rw [List.length_take]; have := Array.length_toList (xs := cur); omega]
        exact List.drop_left
      rw [e1, e2, ← List.append_assoc, List.take_append_of_le_length (by omega), List.take_of_length_le (by omega)]
  have H := Lib.hid Hend; have Hcp1 := Lib.hid hcp1; have Hcp2 := Lib.hid hcp2; have HW1 := Lib.hid hW1
  have mixed : Tryz.prog.follows .mixedOrders = true := by kernel_rfl
  rw [← hnews, ← holds]
  have hq1 : ¬ ((m : Int) = 0) := by omega
  have hq2 : ¬ ((i : Int) = (n : Int)) := by omega
  have hw1 : IntKind.i64.wrap ((i : Int) + (m : Int)) = (i : Int) + (m : Int) := by rw [IntKind.wrap_i64]; omega
  have hb1 : (0 : Int) ≤ (i : Int) + (m : Int) := by omega
  have hin' : i ≤ n := by omega
  have htn : ((i : Int) + (m : Int)).toNat = i + m := by omega
  have hb2 : ¬ (cap = i + m) := by omega
  have hb3 : (i : Int) ≤ (n : Int) + (m : Int) := by omega
  have hb4 : ¬ (cap = i) := by omega
  clear Hend hcp1 hcp2 hW1 hg1 hgh1 hsz1 hnews holds hol hnl ho1 hz1 hz2 hz3 hti hg hs h1 hg2 hs2 h2
  go_enter Tryz.func44, Tryz.ntmps44
  go_wp2_with (simp only [hov])
  go_region_law_o (refine z2q rfl (.tmp 73) (.tmp 76) 22 22 rfl (.slice (some ⟨g, (i + m) * 2, none⟩) (n + m - (i + m)) (cap - (i + m))) (.slice (some ⟨g, i * 2, none⟩) (n + m - i) (cap - i)) (by simp [Act.eval, Act.put]) (by simp [Act.eval, Act.put]) (Hcp1.out _ _ _) ?_)
  all_goals
    rw [← HW1.out]
    go_wp2_with (with_reducible refine z2p _ rfl (.tmp 80) (.tmp 81) 22 22 rfl (.slice (some ⟨g, i * 2, none⟩) (n + m - i) (cap - i)) (.slice (some ⟨h, 0, none⟩) m c2) rfl rfl (Hcp2.out _ _) ?_)
    all_goals
      go_ret
      exact H.out
set_option maxHeartbeats 4000000 in
set_option maxRecDepth 1000000 in
theorem zpn (g n cap i h m c2 : Nat) (te te2 : TypeId) (cur cur2 : Array Value) (w : World) (hg : w.heap[g]? = some (.cells cur te (0, 0))) (hs : cur.size = cap * 2) (hc : cap ≤ maxLen) (h1 : ∀ u ∈ cur.toList.take (n * 2), u.oneCell' = true)
    (hg2 : w.heap[h]? = some (.cells cur2 te2 (0, 0))) (hs2 : cur2.size = c2 * 2) (hmc : m ≤ c2) (h2 : ∀ u ∈ cur2.toList.take (m * 2), u.oneCell' = true) (hgh : h ≠ g) (hin : i < n) (hm : 0 < m) (hn : n ≤ cap) (hroom : cap < n + m) (hb : (n + m) * 32 ≤ 211106232532992) :
    Calls Tryz.prog 44 #[.slice (some ⟨g, 0, none⟩) n cap, .int .i64 i, .slice (some ⟨h, 0, none⟩) m c2] w (RowTo w (.slice (some ⟨g, 0, none⟩) n cap) 2 (n + m) (cur.toList.take (i * 2) ++ cur2.toList.take (m * 2) ++ (cur.toList.drop (i * 2)).take ((n - i) * 2))) := by
  have hU : Tryz.prog.underlying 22 = some (.slice 57) := Tryz.underlying22
  obtain ⟨ti, hti, hz1, hz2, hz3⟩ := info_parts (by kernel_rfl : (Tryz.prog.info? 57).map (fun i => (i.zero, i.size, i.bytes)) = some (some (.agg #[.int .i64 0, .slice none 0 0]), 2, 32))
  unfold maxLen at hc; have hcurl := Array.length_toList (xs := cur); obtain ⟨olds, holds⟩ : ∃ olds, olds = (cur.toList.drop (i * 2)).take ((n - i) * 2) := ⟨_, rfl⟩; obtain ⟨news, hnews⟩ : ∃ news, news = cur2.toList.take (m * 2) := ⟨_, rfl⟩
  have hol : olds.length = (n - i) * 2 := by rw [holds, List.length_take, List.length_drop]; omega
  have hnl : news.length = m * 2 := by rw [hnews, List.length_take]; have := Array.length_toList (xs := cur2); omega
  have ho1 : ∀ u ∈ olds, u.oneCell' = true := by
    intro u hu; rw [holds, List.take_drop] at hu; have := List.mem_of_mem_drop hu
    rw [show i * 2 + (n - i) * 2 = n * 2 by omega] at this
    exact h1 u this
  have hkk : (n : Int) + (m : Int) - (i : Int) = ((n + m - i : Nat) : Int) := by omega
  have hik : i + (n + m - i) = n + m := by omega
  have hold : (Builtin.firstCells ti.size i (.slice (some ⟨g, 0, none⟩) i cap)).run Tryz.prog w.drew = .ok (cur.toList.take (i * 2)).toArray w.drew := by
    rw [hz2]
    have := zw (P := Tryz.prog) (w := w.drew) (sz := 2) (n := i) (cap := cap) (off := 0) (cnt := i) (te := te) (fr := (0, 0)) hg (by omega)
    rwa [List.drop_zero] at this
  obtain ⟨NC, hNC⟩ : ∃ NC, NC = grownCap w (n + m) cap 57 := ⟨_, rfl⟩
  have hge : n + m ≤ NC := by rw [hNC]; exact grownCap_ge w (n + m) cap _
  have hle : NC ≤ maxLen := by rw [hNC]; exact grownCap_le_maxLen w _ cap _ (by simp only [maxLen]; omega)
  obtain ⟨ROW, hROW⟩ : ∃ ROW : Array Value, ROW = (cur.toList.take (i * 2)).toArray ++ Builtin.zeroCells (Value.agg #[.int .i64 0, .slice none 0 0]).cells (n + m - i) ++ Builtin.zeroCells (Value.agg #[.int .i64 0, .slice none 0 0]).cells (NC - (n + m)) := ⟨_, rfl⟩
  have hrz : ∀ ty, (Builtin.append_ #[22, 3] ty #[.slice (some ⟨g, 0, none⟩) i cap, .int .i64 ((n : Int) + (m : Int) - (i : Int))]).run Tryz.prog w = .ok (.slice (some ⟨w.heap.size, 0, none⟩) (n + m) NC) (w.drew.alloc (.cells ROW 57)) := fun ty => by
    have h := Lib.run_append_grow_zeros w 22 3 ty 57 ti _ .i64 .i64 hU Tryz.underlying3 hti hz1 (some ⟨g, 0, none⟩) i cap (cur.toList.take (i * 2)) hold (n + m - i) (by omega) (by omega) (by omega) (by omega) (by rw [hz3]; omega) (by rw [hik]; exact z4k (by omega) (by omega) (by rw [hz3]; exact hb))
    rw [hik, ← hNC, ← hROW] at h; rw [hkk]; exact h
  have hRl : ROW.size = NC * 2 := by
    rw [hROW]; simp only [Array.size_append, List.size_toArray, List.length_take, z22]; have e5 : (Value.agg #[.int .i64 0, .slice none 0 0]).cells.size = 2 := rfl; rw [e5]; omega
  have hRt : ROW.toList.take (i * 2) = cur.toList.take (i * 2) := by
    rw [hROW]; simp only [Array.toList_append, List.append_assoc]
    rw [List.take_append_of_le_length (by rw [List.length_take]; omega), List.take_take, Nat.min_self]
  have hRtl := Array.length_toList (xs := ROW); have hgw : g < w.heap.size := (Array.getElem?_eq_some_iff.1 hg).1; have hhw : h < w.heap.size := (Array.getElem?_eq_some_iff.1 hg2).1; obtain ⟨G, hG⟩ : ∃ G, G = w.heap.size := ⟨_, rfl⟩; obtain ⟨W1, hW1⟩ : ∃ W1, W1 = w.drew.alloc (.cells ROW 57) := ⟨_, rfl⟩
  have hN1 : W1.heap[G]? = some (.cells ROW 57 (0, 0)) := by rw [hW1, hG]; exact heap_alloc_new w.drew _
  have hH1 : W1.heap[h]? = some (.cells cur2 te2 (0, 0)) := by rw [hW1, heap_alloc_old w.drew _ (by exact hhw)]; exact hg2
  have hO1 : W1.heap[g]? = some (.cells cur te (0, 0)) := by rw [hW1, heap_alloc_old w.drew _ (by exact hgw)]; exact hg
  have hcp1 : ∀ ty dc, (Builtin.copy_ #[22, 22] ty #[.slice (some ⟨G, i * 2, none⟩) (n + m - i) dc, .slice (some ⟨h, 0, none⟩) m c2]).run Tryz.prog W1 = .ok (goInt ((m : Nat) : Int)) (W1.setRow G (spl ROW (i * 2) news)) := fun ty dc => by
    refine zq hU hti (w := W1) (te := 57) (o := i * 2) (cur := ROW) (news := news) hN1 (by simp only [Nat.min_def]; split <;> omega) ?_ (by rw [hnews]; exact h2) (by omega)
    rw [hz2, hnews]
    exact zw (w := W1) (te := te2) (fr := (0, 0)) hH1 (by omega)
  obtain ⟨W2, hW2⟩ : ∃ W2, W2 = W1.setRow G (spl ROW (i * 2) news) := ⟨_, rfl⟩
  have hN2 : W2.heap[G]? = some (.cells (spl ROW (i * 2) news) 57 (0, 0)) := by rw [hW2]; exact setRow_heap _ G ROW _ _ (0, 0) hN1
  have hO2 : W2.heap[g]? = some (.cells cur te (0, 0)) := by rw [hW2, setRow_other' _ _ _ _ (by omega)]; exact hO1
  have hs2' : (spl ROW (i * 2) news).size = NC * 2 := by rw [zn _ _ _ (by omega), hRl]
  have hcp2 : ∀ ty dc sc, (Builtin.copy_ #[22, 22] ty #[.slice (some ⟨G, (i + m) * 2, none⟩) (n + m - (i + m)) dc, .slice (some ⟨g, i * 2, none⟩) (n - i) sc]).run Tryz.prog W2.drew = .ok (goInt ((n - i : Nat) : Int)) (W2.drew.setRow G (spl (spl ROW (i * 2) news) ((i + m) * 2) olds)) := fun ty dc sc => by
    refine zq hU hti (w := W2.drew) (te := 57) (o := (i + m) * 2) (cur := spl ROW (i * 2) news) (news := olds) hN2 (by simp only [Nat.min_def]; split <;> omega) ?_ ho1 (by omega)
    rw [hz2, holds]
    exact zw (w := W2.drew) (te := te) (fr := (0, 0)) hO2 (by omega)
  have Hend : RowTo w (.slice (some ⟨g, 0, none⟩) n cap) 2 (n + m) (cur.toList.take (i * 2) ++ news ++ olds) (.returned (.slice (some ⟨G, 0, none⟩) (n + m) NC)) (W2.drew.setRow G (spl (spl ROW (i * 2) news) ((i + m) * 2) olds)) := by
    have eW : W2.drew.setRow G (spl (spl ROW (i * 2) news) ((i + m) * 2) olds) = (w.drew.drew).alloc (.cells (spl (spl ROW (i * 2) news) ((i + m) * 2) olds) 57) := by
      rw [hW2, hW1, hG]; have e1 : (((w.drew.alloc (.cells ROW 57)).setRow w.heap.size (spl ROW (i * 2) news)).drew).setRow w.heap.size (spl (spl ROW (i * 2) news) ((i + m) * 2) olds) = ((w.drew.drew.alloc (.cells ROW 57)).setRow w.heap.size (spl ROW (i * 2) news)).setRow w.heap.size (spl (spl ROW (i * 2) news) ((i + m) * 2) olds) := rfl; rw [e1, z10]; exact World.setRow_alloc_new w.drew.drew _ _ _
    rw [eW, hG]
    have hl2 : (cur.toList.take (i * 2) ++ news ++ olds).length = (n + m) * 2 := by rw [List.length_append, List.length_append, List.length_take]; omega
    refine z39 (w := w.drew.drew) (w0 := w) (cap := NC) rfl ⟨rfl, rfl, rfl, rfl⟩ ?_ hge hle ?_ _
    · rw [zn _ _ _ (by omega), hs2']
    · rw [zl, zl]
      have e1 : (ROW.toList.take (i * 2) ++ news ++ ROW.toList.drop (i * 2 + news.length)).take ((i + m) * 2) = cur.toList.take (i * 2) ++ news := by
        rw [hRt, List.take_append_of_le_length (by rw [List.length_append, List.length_take]; omega), List.take_of_length_le (by rw [List.length_append, List.length_take]; omega)]
      rw [e1, List.take_append_of_le_length (by omega), List.take_of_length_le (by omega)]
  have H := Lib.hid Hend; have Hrz := Lib.hid hrz; have Hcp1 := Lib.hid hcp1; have Hcp2 := Lib.hid hcp2; have HW1 := Lib.hid hW1; have HW2 := Lib.hid hW2; have HG := Lib.hid hG
  have mixed : Tryz.prog.follows .mixedOrders = true := by kernel_rfl
  rw [← hnews, ← holds]
  have hq1 : ¬ ((m : Int) = 0) := by omega
  have hq2 : ¬ ((i : Int) = (n : Int)) := by omega
  have hq3 : (cap : Int) < (n : Int) + (m : Int) := by omega
  have hw1 : IntKind.i64.wrap ((n : Int) + (m : Int)) = (n : Int) + (m : Int) := by rw [IntKind.wrap_i64]; omega
  have hw2 : IntKind.i64.wrap ((n : Int) + (m : Int) - (i : Int)) = (n : Int) + (m : Int) - (i : Int) := by rw [IntKind.wrap_i64]; omega
  have hw3 : IntKind.i64.wrap ((i : Int) + (m : Int)) = (i : Int) + (m : Int) := by rw [IntKind.wrap_i64]; omega
  have hb1 : (0 : Int) ≤ (i : Int) + (m : Int) := by omega
  have hin' : i ≤ n := by omega
  have hic : i ≤ cap := by omega
  have htn : ((i : Int) + (m : Int)).toNat = i + m := by omega
  have hb2 : ¬ (NC = i + m) := by omega
  have hb3 : (i : Int) ≤ (n : Int) := by omega
  have hb4 : ¬ (cap = i) := by omega
  have hb5 : ¬ (NC = i) := by omega
  have hb6 : i ≤ n + m := by omega
  have hb7 : i + m ≤ n + m := by omega
  have hb8 : (i : Int) + (m : Int) ≤ (n : Int) + (m : Int) := by omega
  unfold maxLen at hle; clear Hend hrz hcp1 hcp2 hW1 hW2 hG hN1 hH1 hO1 hN2 hO2 hs2' hRl hRt hRtl hROW hNC hnews holds hol hnl ho1 hz1 hz2 hz3 hti hg hs h1 hg2 hs2 h2 hcurl hold hkk hik hgw hhw
  go_enter Tryz.func44, Tryz.ntmps44
  go_wp2_with (first | (at_builtin; refine z1b _ rfl _ _ 22 3 rfl _ _ rfl rfl (Hrz.out _) ?_; rw [← HW1.out, ← HG.out]) | (with_reducible refine z2p _ rfl (.tmp 43) (.tmp 44) 22 22 rfl (.slice (some ⟨G, i * 2, none⟩) (n + m - i) (NC - i)) (.slice (some ⟨h, 0, none⟩) m c2) rfl rfl (Hcp1.out _ _) ?_; rw [← HW2.out]))
  go_region_law_o (refine z2q rfl (.tmp 50) (.tmp 53) 22 22 rfl (.slice (some ⟨G, (i + m) * 2, none⟩) (n + m - (i + m)) (NC - (i + m))) (.slice (some ⟨g, i * 2, none⟩) (n - i) (cap - i)) (by simp [Act.eval, Act.put]) (by simp [Act.eval, Act.put]) (Hcp2.out _ _ _) ?_)
  all_goals
    go_wp2
    all_goals
      go_ret
      first | exact H.out | exact (List.append_assoc _ _ _ ▸ H.out)
theorem zsh (v u : Value) (n m i : Nat) (xs ys : List Value) (te te2 : TypeId) (w : World) (hv : w.ownsRow 0 te 2 v n xs) (hu : w.ownsRow 0 te2 2 u m ys) (hvu : ∀ g, v.ownBlock = some g → u.ownBlock ≠ some g) (h1 : ∀ x ∈ xs, x.oneCell' = true) (h2 : ∀ y ∈ ys, y.oneCell' = true) (hi : i ≤ n) (hb : (n + m) * 32 ≤ 211106232532992) :
    Calls Tryz.prog 44 #[v, .int .i64 i, u] w (RowTo w v 2 (n + m) (xs.take (i * 2) ++ ys ++ xs.drop (i * 2))) := by
  have hv0 := hv; have hu0 := hu; obtain ⟨hxl, hv⟩ := hv; obtain ⟨hyl, hu⟩ := hu
  rcases hu with ⟨rfl, rfl⟩ | ⟨h, c2, cur2, rfl, _, hg2, hmc, hmc2, hs2, ht2⟩
  · have hy0 : ys = [] := List.eq_nil_of_length_eq_zero (by simp [hyl])
    subst hy0; rw [List.append_nil, List.take_append_drop, Nat.add_zero]
    rcases hv with ⟨rfl, rfl⟩ | ⟨g, cap, cur, rfl, _, hg, hnc, hcm, hcs, ht⟩
    · exact z71 none 0 0 i none 0 w hi (Nat.le_refl _) (Nat.zero_le _) xs (z12 hv0)
    · exact z71 _ n cap i none 0 w hi hnc hcm xs (z12 hv0)
  · by_cases hm : m = 0
    · subst hm
      have hy0 : ys = [] := List.eq_nil_of_length_eq_zero (by simp [hyl])
      subst hy0; rw [List.append_nil, List.take_append_drop, Nat.add_zero]
      rcases hv with ⟨rfl, rfl⟩ | ⟨g, cap, cur, rfl, _, hg, hnc, hcm, hcs, ht⟩
      · exact z71 none 0 0 i _ c2 w hi (Nat.le_refl _) (Nat.zero_le _) xs (z12 hv0)
      · exact z71 _ n cap i _ c2 w hi hnc hcm xs (z12 hv0)
    · by_cases hin : i = n
      · subst hin
        rw [List.take_of_length_le (by omega), List.drop_of_length_le (by omega), List.append_nil]
        refine zpl v i xs te _ m c2 ys w hv0 (by omega) ⟨fun W hW => by simp [Builtin.lenOf], fun W hW => ?_, hyl, h2⟩ hb
        have hgW : W.heap[h]? = some (.cells cur2 te2 (0, 0)) := by rw [hW]; exact hg2
        have := zw (P := Tryz.prog) (w := W) (sz := 2) (n := m) (cap := c2) (off := 0) (cnt := m) (te := te2) (fr := (0, 0)) hgW (by omega)
        rw [List.drop_zero, ht2] at this; exact this
      · rcases hv with ⟨rfl, rfl⟩ | ⟨g, cap, cur, rfl, _, hg, hnc, hcm, hcs, ht⟩
        · omega
        · have hgh : h ≠ g := fun e => hvu g rfl (by rw [e]; rfl)
          have e1 : xs.take (i * 2) = cur.toList.take (i * 2) := by rw [← ht, List.take_take, Nat.min_eq_left (by omega)]
          have e2 : xs.drop (i * 2) = (cur.toList.drop (i * 2)).take ((n - i) * 2) := by rw [← ht, List.drop_take]; congr 1; omega
          rw [e1, e2, ← ht2]
          by_cases hroom : n + m ≤ cap
          · exact zpm g n cap i h m c2 te te2 cur cur2 w hg hcs hcm (by rw [ht]; exact h1) hg2 hs2 hmc (by rw [ht2]; exact h2) hgh (by omega) (by omega) hroom
          · exact zpn g n cap i h m c2 te te2 cur cur2 w hg hcs hcm (by rw [ht]; exact h1) hg2 hs2 hmc (by rw [ht2]; exact h2) hgh (by omega) (by omega) hnc (by omega) hb
end V
namespace V
open Go Go.RowKit Go.Lib
set_option maxHeartbeats 4000000 in
set_option maxRecDepth 1000000 in
theorem zny (w : World) : Calls Tryz.prog 85 #[.slice none 0 0, .int .i64 0, .int .i64 0] w (RowTo w (.slice none 0 0) 5 0 []) := by
  have H := Lib.hid (z12 (w := w) (World.ownsRow_nil w 0 0 5))
  go_enter Tryz.func85, Tryz.ntmps85
  go_wp2
  all_goals (go_ret; exact H.out)
set_option maxHeartbeats 4000000 in
set_option maxRecDepth 1000000 in
theorem zpo (w : World) : Calls Tryz.prog 46 #[.slice none 0 0, .int .i64 0, .int .i64 0] w (RowTo w (.slice none 0 0) 2 0 []) := by
  have H := Lib.hid (z12 (w := w) (World.ownsRow_nil w 0 0 2))
  go_enter Tryz.func46, Tryz.ntmps46
  go_wp2
  all_goals (go_ret; exact H.out)
def X0 : CT := fun f args ins =>
  bif Nat.beq f 84 then insX 5 40 args ins else bif Nat.beq f 85 then delX 5 args ins else bif Nat.beq f 87 then repX 5 40 args ins
  else bif Nat.beq f 44 then insX 2 32 args ins else bif Nat.beq f 46 then delX 2 args ins else none
theorem X0_ok (f : Nat) (args : List AV) (ins : List (Nat × List AV)) (r : List AV) (o : List (Nat × List AV)) (h : X0 f args ins = some (r, o)) : Sem Tryz.prog f args ins (fun r' o' => r' = r ∧ o' = o) := by
  unfold X0 at h
  cases h1 : Nat.beq f 84 with
  | true => rw [h1] at h; rw [Nat.beq_eq] at h1; subst h1; exact zff zgh h
  | false =>
    rw [h1] at h; simp only [cond_false] at h
    cases h2 : Nat.beq f 85 with
    | true => rw [h2] at h; rw [Nat.beq_eq] at h2; subst h2; exact zm1 zpj zny h
    | false =>
      rw [h2] at h; simp only [cond_false] at h
      cases h3 : Nat.beq f 87 with
      | true => rw [h3] at h; rw [Nat.beq_eq] at h3; subst h3; exact zvd zpk h
      | false =>
        rw [h3] at h; simp only [cond_false] at h
        cases h4 : Nat.beq f 44 with
        | true => rw [h4] at h; rw [Nat.beq_eq] at h4; subst h4; exact zff zsh h
        | false =>
          rw [h4] at h; simp only [cond_false] at h
          cases h5 : Nat.beq f 46 with
          | true => rw [h5] at h; rw [Nat.beq_eq] at h5; subst h5; exact zm1 zsg zpo h
          | false => rw [h5] at h; cases h
end V
namespace V
open Go Go.RowKit Go.Lib
def RowAt (te : TypeId) (w : World) (g n cap sz n' : Nat) (xs : List Value) (e : Ending) (w' : World) : Prop :=
  e = .returned (.slice (some ⟨g, 0, none⟩) n' cap) ∧ ∃ cur', w'.heap[g]? = some (.cells cur' te (0, 0)) ∧ cur'.size = cap * sz ∧ cur'.toList.take (n * sz) = xs ++ (Builtin.zeroCells #[Value.int .i64 0, .string ⟨#[]⟩] (n - n')).toList ∧ w.grownBy w' (some g)
theorem znz {w : World} {g n cap sz : Nat} {te : TypeId} {cur : Array Value} (hg : w.heap[g]? = some (.cells cur te (0, 0))) (hs : cur.size = cap * sz) (hn : n ≤ cap) : RowAt te w g n cap sz n (cur.toList.take (n * sz)) (.returned (.slice (some ⟨g, 0, none⟩) n cap)) w :=
  ⟨rfl, cur, hg, hs, by rw [Nat.sub_self, List.eq_nil_of_length_eq_zero (l := (Builtin.zeroCells _ 0).toList) (by rw [Array.length_toList, size_zeroCells, Nat.zero_mul]), List.append_nil], ⟨rfl, rfl, rfl, Nat.le_refl _, fun _ _ _ => rfl⟩⟩
theorem zgi {w W : World} {g n n' cap sz : Nat} {xs : List Value} {te : TypeId} {cur cur' : Array Value} (hW : W = w.setRow g cur') (hg : w.heap[g]? = some (.cells cur te (0, 0))) (hs : cur'.size = cap * sz) (hx : cur'.toList.take (n * sz) = xs ++ (Builtin.zeroCells #[Value.int .i64 0, .string ⟨#[]⟩] (n - n')).toList) (w0 : World) (hw0 : w0.heap = w.heap ∧ w0.os = w.os ∧ w0.tape = w.tape ∧ w0.output = w.output) :
    RowAt te w0 g n cap sz n' xs (.returned (.slice (some ⟨g, 0, none⟩) n' cap)) W := by
  obtain ⟨e1, e2, e3, e4⟩ := hw0; subst hW; refine ⟨rfl, cur', setRow_heap w g cur cur' te (0, 0) hg, hs, hx, ⟨e2.symm, e3.symm, e4.symm, ?_, ?_⟩⟩
  · rw [size_setRow, e1]; exact Nat.le_refl _
  · intro k hk hne
    rw [setRow_other' w g k cur' (fun h => hne (by rw [h])), e1]
set_option maxHeartbeats 4000000 in
set_option maxRecDepth 1000000 in
theorem zpp (g n cap i j : Nat) (te : TypeId) (cur : Array Value) (w : World) (hg : w.heap[g]? = some (.cells cur te (0, 0))) (hs : cur.size = cap * 2) (hn : n ≤ cap) (hc : cap ≤ maxLen) (h1 : ∀ u ∈ cur.toList.take (n * 2), u.oneCell' = true) (hi : i ≤ j) (hj : j ≤ n) :
    Calls Tryz.prog 97 #[.slice (some ⟨g, 0, none⟩) n cap, .int .i64 i, .int .i64 j] w (RowAt te w g n cap 2 (n - (j - i)) (cur.toList.take (i * 2) ++ (cur.toList.drop (j * 2)).take ((n - j) * 2))) := by
  have hown : w.ownsRow 0 te 2 (.slice (some ⟨g, 0, none⟩) n cap) n (cur.toList.take (n * 2)) := ⟨by rw [List.length_take, Array.length_toList]; omega, .inr ⟨g, cap, cur, rfl, Nat.zero_le _, hg, hn, hc, hs, rfl⟩⟩
  unfold maxLen at hc
  by_cases heq : i = j
  · subst heq
    have e : cur.toList.take (i * 2) ++ (cur.toList.drop (i * 2)).take ((n - i) * 2) = cur.toList.take (n * 2) := by
      rw [← List.take_add]; congr 1; omega
    rw [e, Nat.sub_self, Nat.sub_zero]; have H := Lib.hid (znz (w := w) hg hs hn); clear hown hg hs h1 e
    rcases Nat.lt_or_ge i n with hin | hin
    · go_enter Tryz.func97, Tryz.ntmps97
      go_wp2
      all_goals (go_ret; exact H.out)
    · obtain rfl : n = i := by omega
      go_enter Tryz.func97, Tryz.ntmps97
      go_wp2
      all_goals (go_ret; exact H.out)
  · have hlt : i < j := by omega
    have hU : Tryz.prog.underlying 33 = some (.slice 28) := Tryz.underlying33
    obtain ⟨ti, hti, hz1, hz2, hz3⟩ := info_parts (by kernel_rfl : (Tryz.prog.info? 28).map (fun i => (i.zero, i.size, i.bytes)) = some (some (.agg #[.int .i64 0, .string ⟨#[]⟩]), 2, 24))
    rcases (show j < cap ∨ cap = j by omega) with hjl | rfl
    rotate_left
    · obtain rfl : n = cap := by omega
      have hcl : ∀ ty c, (Builtin.clear_ #[33] ty #[.slice (some ⟨g, i * 2, none⟩) (n - i) c]).run Tryz.prog w.drew = .ok (.tuple #[]) (w.drew.setRow g (spl cur (i * 2) (Builtin.zeroCells #[Value.int .i64 0, .string ⟨#[]⟩] (n - i)).toList)) := fun ty c =>
        z1n hU hti hz1 (by rw [hz2]; rfl) (by intro u hu; simp [Value.cells] at hu; rcases hu with rfl | rfl <;> rfl) (w := w.drew) (te := te) hg (by rw [hz2, hs]; omega) (by omega)
      have hzl : (Builtin.zeroCells #[Value.int .i64 0, .string ⟨#[]⟩] (n - i)).toList.length = (n - i) * 2 := by rw [Array.length_toList, size_zeroCells]; rfl
      have Hend : RowAt te w g n n 2 (n - (n - i)) (cur.toList.take (i * 2) ++ (cur.toList.drop (n * 2)).take ((n - n) * 2)) (.returned (.slice (some ⟨g, 0, none⟩) i n)) (w.drew.setRow g (spl cur (i * 2) (Builtin.zeroCells #[Value.int .i64 0, .string ⟨#[]⟩] (n - i)).toList)) := by
        rw [show n - (n - i) = i by omega]
        refine zgi (w := w.drew) (n' := i) (cap := n) (te := te) (cur := cur) rfl hg ?_ ?_ w ⟨rfl, rfl, rfl, rfl⟩
        · rw [zn _ _ _ (by omega), hs]
        · rw [zl]
          simp only [Nat.sub_self, Nat.zero_mul, List.take_zero, List.append_nil]
          rw [List.take_append_of_le_length (by rw [List.length_append, List.length_take, Array.length_toList, hzl]; omega), List.take_of_length_le (by rw [List.length_append, List.length_take, Array.length_toList, hzl]; omega)]
      have Hcl := Lib.hid hcl; have HE := Lib.hid Hend
      have mixed : Tryz.prog.follows .mixedOrders = true := by kernel_rfl
      generalize (cur.toList.take (i * 2) ++ (cur.toList.drop (n * 2)).take ((n - n) * 2)) = xs at *; clear hcl Hend hzl hz1 hz2 hz3 hown hg hs h1 hti
      go_enter Tryz.func97, Tryz.ntmps97
      go_wp2_with fail
      go_region_law_o fail
      all_goals
        go_wp2_with (with_reducible refine z2k _ rfl (.tmp 31) 33 rfl (.slice (some ⟨g, i * 2, none⟩) (n - i) (n - i)) rfl (Hcl.out _ _) ?_)
        all_goals
          go_ret
          exact HE.out
    obtain ⟨news, hnews⟩ : ∃ news, news = (cur.toList.drop (j * 2)).take ((n - j) * 2) := ⟨_, rfl⟩
    have hnl : news.length = (n - j) * 2 := by rw [hnews, List.length_take, List.length_drop, Array.length_toList]; omega
    have hn1 : ∀ u ∈ news, u.oneCell' = true := by
      intro u hu; rw [hnews, List.take_drop] at hu; have := List.mem_of_mem_drop hu
      rw [show j * 2 + (n - j) * 2 = n * 2 by omega] at this
      exact h1 u this
    have hap : ∀ A c, (cap ≠ j → A = some (⟨g, j * 2, none⟩ : Addr)) → (Builtin.append_ #[33, 33] 33 #[.slice (some ⟨g, 0, none⟩) i cap, .slice A (n - j) c]).run Tryz.prog w.drew = .ok (.slice (some ⟨g, 0, none⟩) (i + (n - j)) cap) (w.drew.setRow g (spl cur (i * 2) news)) := fun A c hA => by
      have hcells : ∀ W : World, W.heap = w.drew.heap → (Builtin.firstCells 2 (n - j) (.slice A (n - j) c)).run Tryz.prog W = .ok news.toArray W := fun W hW => by
        have hgW : W.heap[g]? = some (.cells cur te (0, 0)) := by rw [hW]; exact hg
        have hs1 : SrcM Tryz.prog W 2 (n - j) (.slice A (n - j) c) news := by
          rw [hnews]
          exact ziw (te := te) (fr := (0, 0)) hgW (by omega) (by rw [← hnews]; exact hn1) A fun h0 => hA (by omega)
        have hsl := hs1.cells (n - j) (Nat.le_refl _)
        rwa [List.take_of_length_le (by omega)] at hsl
      have := z28 (P := Tryz.prog) (w := w.drew) (t := 33) (u := 33) (ty := 33) (e := 28) (e' := te) (i := ti) hU hU (.inl ⟨_, rfl⟩) hti (g := g) (sLen := i) (sCap := cap) (n := n - j) (cur := cur) hg (y := .slice A (n - j) c) (news := news)
        ⟨fun W hW => by simp [Builtin.lenOf], fun W hW => by rw [hz2]; exact hcells W hW, by rw [hnl, hz2], hn1⟩ (by omega) (by rw [hz2]; omega)
      rw [hz2] at this; exact this
    obtain ⟨W1, hW1⟩ : ∃ W1, W1 = w.drew.setRow g (spl cur (i * 2) news) := ⟨_, rfl⟩
    have hg1 : W1.heap[g]? = some (.cells (spl cur (i * 2) news) te (0, 0)) := by rw [hW1]; exact setRow_heap _ g cur _ te (0, 0) hg
    have hsz1 : (spl cur (i * 2) news).size = cap * 2 := by rw [zn _ _ _ (by omega), hs]
    have hcl : ∀ ty c, (Builtin.clear_ #[33] ty #[.slice (some ⟨g, (i + (n - j)) * 2, none⟩) (n - (i + (n - j))) c]).run Tryz.prog W1 = .ok (.tuple #[]) (W1.setRow g (spl (spl cur (i * 2) news) ((i + (n - j)) * 2) (Builtin.zeroCells #[Value.int .i64 0, .string ⟨#[]⟩] (n - (i + (n - j)))).toList)) := fun ty c =>
      z1n hU hti hz1 (by rw [hz2]; rfl) (by intro u hu; simp [Value.cells] at hu; rcases hu with rfl | rfl <;> rfl) hg1 (by rw [hz2, hsz1]; omega) (by omega)
    have hic : i ≤ cap := by omega
    have hjc : j ≤ cap := by omega
    have Hap := Lib.hid hap; have Hcl := Lib.hid hcl; have HW1 := Lib.hid hW1; have Hend : ∀ cur2, cur2 = spl (spl cur (i * 2) news) ((i + (n - j)) * 2) (Builtin.zeroCells #[Value.int .i64 0, .string ⟨#[]⟩] (n - (i + (n - j)))).toList →
        RowAt te w g n cap 2 (n - (j - i)) (cur.toList.take (i * 2) ++ news) (.returned (.slice (some ⟨g, 0, none⟩) (i + (n - j)) cap)) (W1.setRow g cur2) := by
      intro cur2 hc2
      have hzl : (Builtin.zeroCells #[Value.int .i64 0, .string ⟨#[]⟩] (n - (i + (n - j)))).toList.length = (n - (i + (n - j))) * 2 := by rw [Array.length_toList, size_zeroCells]; rfl
      rw [hW1, z10, show i + (n - j) = n - (j - i) by omega]
      refine zgi (w := w.drew) (n' := n - (j - i)) (cap := cap) (te := te) (cur := cur) rfl hg ?_ ?_ w ⟨rfl, rfl, rfl, rfl⟩
      · rw [hc2, zn _ _ _ (by omega), hsz1]
      · rw [hc2, zl, zl]
        have hl1 : (cur.toList.take (i * 2) ++ news).length = (n - (j - i)) * 2 := by rw [List.length_append, List.length_take, Array.length_toList]; omega
        rw [show n - (n - (j - i)) = n - (i + (n - j)) by omega]
        rw [show (i + (n - j)) * 2 = (n - (j - i)) * 2 by omega]
        have e : ((cur.toList.take (i * 2) ++ news ++ cur.toList.drop (i * 2 + news.length)).take ((n - (j - i)) * 2)) = cur.toList.take (i * 2) ++ news := by
          rw [List.take_append_of_le_length (by omega), List.take_of_length_le (by omega)]
        rw [e, List.take_append_of_le_length (by rw [List.length_append, hl1, hzl]; omega), List.take_of_length_le (by rw [List.length_append, hl1, hzl]; omega)]
    have HE := Lib.hid Hend; rw [← hnews]
    have mixed : Tryz.prog.follows .mixedOrders = true := by kernel_rfl
    clear hap hcl hW1 Hend hnews hg1 hsz1 hz1 hz2 hz3 hnl hn1 hown hg hs h1
    · have hne : ¬ cap = j := by omega
      go_enter Tryz.func97, Tryz.ntmps97
      go_wp2_with fail
      go_region_law_o (refine z9w rfl (.tmp 22) (.tmp 25) 33 33 rfl (.slice (some ⟨g, 0, none⟩) i cap) (.slice (some ⟨g, j * 2, none⟩) (n - j) (cap - j)) (by simp [Act.eval, Act.put]) (by simp [Act.eval, Act.put]) (Hap.out (some ⟨g, j * 2, none⟩) (cap - j) (fun h => rfl)) ?_)
      all_goals
        rw [← HW1.out]
        go_wp2_with (with_reducible refine z2k _ rfl (.tmp 31) 33 rfl (.slice (some ⟨g, (i + (n - j)) * 2, none⟩) (n - (i + (n - j))) (cap - (i + (n - j)))) rfl (Hcl.out _ _) ?_)
        all_goals
          go_ret
          exact HE.out _ rfl
set_option maxHeartbeats 4000000 in
set_option maxRecDepth 1000000 in
theorem z5w (base : Option Addr) (n cap i : Nat) (b2 : Option Addr) (c2 : Nat) (w : World) (hi : i ≤ n) (hn : n ≤ cap) (hc : cap ≤ maxLen) (xs : List Value) (hR : RowTo w (.slice base n cap) 2 n xs (.returned (.slice base n cap)) w) :
    Calls Tryz.prog 96 #[.slice base n cap, .int .i64 i, .slice b2 0 c2] w (RowTo w (.slice base n cap) 2 n xs) := by
  unfold maxLen at hc
  have hic : i ≤ cap := by omega
  have H := Lib.hid hR; clear hR
  cases base with
  | none =>
    go_enter Tryz.func96, Tryz.ntmps96
    go_wp2
    all_goals (go_ret; exact H.out)
  | some b =>
    rcases (show i < cap ∨ cap = i by omega) with hlt | rfl
    · have hne : ¬ cap = i := by omega
      go_enter Tryz.func96, Tryz.ntmps96
      go_wp2
      all_goals (go_ret; exact H.out)
    · go_enter Tryz.func96, Tryz.ntmps96
      go_wp2
      all_goals (go_ret; exact H.out)
set_option maxHeartbeats 4000000 in
set_option maxRecDepth 1000000 in
theorem zo0 (v : Value) (n : Nat) (xs : List Value) (te : TypeId) (b2 : Addr) (m c2 : Nat) (news : List Value) (w : World) (hown : w.ownsRow 0 te 2 v n xs) (hm : 0 < m) (hy : Src Tryz.prog w 2 m (.slice (some b2) m c2) news) (hb : (n + m) * 24 ≤ 211106232532992) :
    Calls Tryz.prog 96 #[v, .int .i64 n, .slice (some b2) m c2] w (RowTo w v 2 (n + m) (xs ++ news)) := by
  have hU : Tryz.prog.underlying 33 = some (.slice 28) := Tryz.underlying33
  obtain ⟨ti, hti, hz1, hz2, hz3⟩ := info_parts (by kernel_rfl : (Tryz.prog.info? 28).map (fun i => (i.zero, i.size, i.bytes)) = some (some (.agg #[.int .i64 0, .string ⟨#[]⟩]), 2, 24))
  obtain ⟨v', w', hap, hR⟩ := z70 (P := Tryz.prog) (w := w) (ty := 33) hU hU hti hz1 (by rw [hz2]; rfl) (by omega) (by omega) (by omega) (by rw [hz2]; exact hown) (by rw [hz2]; exact hy) (by rw [hz3]; exact hb)
  rw [hz2] at hR
  have hz4 : ¬ ((m : Int) = 0) := by omega
  have H := Lib.hid hR; have Hap := Lib.hid hap
  have mixed : Tryz.prog.follows .mixedOrders = true := by kernel_rfl
  rcases hown.2 with ⟨rfl, rfl⟩ | ⟨g, cap, cur, rfl, _, hg, hnc, hcm, hcs, htake⟩
  · clear hown hy hR hap hz1 hz2 hz3 hti hb
    go_enter Tryz.func96, Tryz.ntmps96
    go_wp2_with (at_builtin; refine z1b _ rfl _ _ 33 33 rfl _ _ rfl rfl Hap.out ?_)
    all_goals (go_ret; exact H.out)
  · unfold maxLen at hcm
    clear hown hy hR hap hz1 hz2 hz3 hti hb hg hcs htake
    rcases (show n < cap ∨ cap = n by omega) with hlt | rfl
    · have hne : ¬ cap = n := by omega
      go_enter Tryz.func96, Tryz.ntmps96
      go_wp2_with (at_builtin; refine z1b _ rfl _ _ 33 33 rfl _ _ rfl rfl Hap.out ?_)
      all_goals (go_ret; exact H.out)
    · go_enter Tryz.func96, Tryz.ntmps96
      go_wp2_with (at_builtin; refine z1b _ rfl _ _ 33 33 rfl _ _ rfl rfl Hap.out ?_)
      all_goals (go_ret; exact H.out)
set_option maxHeartbeats 4000000 in
set_option maxRecDepth 1000000 in
theorem zo1 (g n cap i h m c2 : Nat) (te te2 : TypeId) (cur cur2 : Array Value) (w : World) (hg : w.heap[g]? = some (.cells cur te (0, 0))) (hs : cur.size = cap * 2) (hc : cap ≤ maxLen) (h1 : ∀ u ∈ cur.toList.take (n * 2), u.oneCell' = true)
    (hg2 : w.heap[h]? = some (.cells cur2 te2 (0, 0))) (hs2 : cur2.size = c2 * 2) (hmc : m ≤ c2) (h2 : ∀ u ∈ cur2.toList.take (m * 2), u.oneCell' = true) (hgh : h ≠ g) (hin : i < n) (hm : 0 < m) (hroom : n + m ≤ cap) :
    Calls Tryz.prog 96 #[.slice (some ⟨g, 0, none⟩) n cap, .int .i64 i, .slice (some ⟨h, 0, none⟩) m c2] w (RowTo w (.slice (some ⟨g, 0, none⟩) n cap) 2 (n + m) (cur.toList.take (i * 2) ++ cur2.toList.take (m * 2) ++ (cur.toList.drop (i * 2)).take ((n - i) * 2))) := by
  have hU : Tryz.prog.underlying 33 = some (.slice 28) := Tryz.underlying33
  obtain ⟨ti, hti, hz1, hz2, hz3⟩ := info_parts (by kernel_rfl : (Tryz.prog.info? 28).map (fun i => (i.zero, i.size, i.bytes)) = some (some (.agg #[.int .i64 0, .string ⟨#[]⟩]), 2, 24))
  unfold maxLen at hc
  have hov : ∀ lb cb, (callFunc 111 #[.slice (some ⟨h, 0, none⟩) m c2, .slice (some ⟨g, (i + m) * 2, none⟩) lb cb]).run Tryz.prog w = .ok (.value (.bool false)) w := fun lb cb => by
    rw [run_callFunc_extern Tryz.func111 (by kernel_rfl) (by kernel_rfl) (by kernel_rfl) (e := Extern.SlicesOverlaps.overlaps #[33, 33] #[4]) (by kernel_rfl),
      Lib.run_overlaps_apart w 33 4 28 hU 2 (fun w => by simp [sizeOf, typeInfo, hti, hz2]) ⟨h, 0, none⟩ ⟨g, (i + m) * 2, none⟩ m c2 lb cb hgh te2 te cur2.size cur.size (z2u hg2) (z2u hg) (by omega) (z2f hg2) (z2f hg2)]
    rfl
  obtain ⟨olds, holds⟩ : ∃ olds, olds = (cur.toList.drop (i * 2)).take ((n - i) * 2) := ⟨_, rfl⟩; obtain ⟨news, hnews⟩ : ∃ news, news = cur2.toList.take (m * 2) := ⟨_, rfl⟩
  have hol : olds.length = (n - i) * 2 := by rw [holds, List.length_take, List.length_drop, Array.length_toList]; omega
  have hnl : news.length = m * 2 := by rw [hnews, List.length_take, Array.length_toList]; omega
  have ho1 : ∀ u ∈ olds, u.oneCell' = true := by
    intro u hu; rw [holds, List.take_drop] at hu; have := List.mem_of_mem_drop hu
    rw [show i * 2 + (n - i) * 2 = n * 2 by omega] at this
    exact h1 u this
  have hcp1 : ∀ ty dc sc, (Builtin.copy_ #[33, 33] ty #[.slice (some ⟨g, (i + m) * 2, none⟩) (n + m - (i + m)) dc, .slice (some ⟨g, i * 2, none⟩) (n + m - i) sc]).run Tryz.prog w.drew = .ok (goInt ((n - i : Nat) : Int)) (w.drew.setRow g (spl cur ((i + m) * 2) olds)) := fun ty dc sc => by
    refine zq hU hti (w := w.drew) (te := te) (o := (i + m) * 2) (cur := cur) (news := olds) hg (by simp only [Nat.min_def]; split <;> omega) ?_ ho1 (by omega)
    rw [hz2, holds]
    exact zw (w := w.drew) (te := te) (fr := (0, 0)) hg (by omega)
  obtain ⟨W1, hW1⟩ : ∃ W1, W1 = w.drew.setRow g (spl cur ((i + m) * 2) olds) := ⟨_, rfl⟩
  have hg1 : W1.heap[g]? = some (.cells (spl cur ((i + m) * 2) olds) te (0, 0)) := by rw [hW1]; exact setRow_heap _ g cur _ te (0, 0) hg
  have hgh1 : W1.heap[h]? = some (.cells cur2 te2 (0, 0)) := by rw [hW1, setRow_other' _ _ _ _ hgh]; exact hg2
  have hsz1 : (spl cur ((i + m) * 2) olds).size = cap * 2 := by rw [zn _ _ _ (by omega), hs]
  have hcp2 : ∀ ty dc, (Builtin.copy_ #[33, 33] ty #[.slice (some ⟨g, i * 2, none⟩) (n + m - i) dc, .slice (some ⟨h, 0, none⟩) m c2]).run Tryz.prog W1 = .ok (goInt m) (W1.setRow g (spl (spl cur ((i + m) * 2) olds) (i * 2) news)) := fun ty dc => by
    refine zq hU hti (w := W1) (te := te) (o := i * 2) (cur := spl cur ((i + m) * 2) olds) (news := news) hg1 (by simp only [Nat.min_def]; split <;> omega) ?_ (by rw [hnews]; exact h2) (by omega)
    rw [hz2, hnews]
    exact zw (w := W1) (te := te2) (fr := (0, 0)) hgh1 (by omega)
  have Hend : RowTo w (.slice (some ⟨g, 0, none⟩) n cap) 2 (n + m) (cur.toList.take (i * 2) ++ news ++ olds) (.returned (.slice (some ⟨g, 0, none⟩) (n + m) cap)) (W1.setRow g (spl (spl cur ((i + m) * 2) olds) (i * 2) news)) := by
    have hl2 : (cur.toList.take (i * 2) ++ news ++ olds).length = (n + m) * 2 := by rw [List.length_append, List.length_append, List.length_take, Array.length_toList]; omega
    rw [hW1, z10]
    refine z1o (w := w.drew) (n' := n + m) (cap := cap) (sz := 2) (te := te) (cur := cur) rfl hg ?_ (by omega) hc ?_ w ⟨rfl, rfl, rfl, rfl⟩ n
    · rw [zn _ _ _ (by omega), hsz1]
    · rw [zl, zl]
      have e1 : (cur.toList.take ((i + m) * 2) ++ olds ++ cur.toList.drop ((i + m) * 2 + olds.length)).take (i * 2) = cur.toList.take (i * 2) := by
        rw [List.append_assoc, List.take_append_of_le_length (by rw [List.length_take, Array.length_toList]; omega), List.take_take, Nat.min_eq_left (by omega)]
      have e2 : (cur.toList.take ((i + m) * 2) ++ olds ++ cur.toList.drop ((i + m) * 2 + olds.length)).drop (i * 2 + news.length) = olds ++ cur.toList.drop ((i + m) * 2 + olds.length) := by
        rw [List.append_assoc, show i * 2 + news.length = (cur.toList.take ((i + m) * 2)).length by rw [List.length_take]; have := Array.length_toList (xs := cur); omega]
        exact List.drop_left
      rw [e1, e2, ← List.append_assoc, List.take_append_of_le_length (by omega), List.take_of_length_le (by omega)]
  have H := Lib.hid Hend; have Hcp1 := Lib.hid hcp1; have Hcp2 := Lib.hid hcp2; have HW1 := Lib.hid hW1
  have mixed : Tryz.prog.follows .mixedOrders = true := by kernel_rfl
  rw [← hnews, ← holds]
  have hq1 : ¬ ((m : Int) = 0) := by omega
  have hq2 : ¬ ((i : Int) = (n : Int)) := by omega
  have hw1 : IntKind.i64.wrap ((i : Int) + (m : Int)) = (i : Int) + (m : Int) := by rw [IntKind.wrap_i64]; omega
  have hb1 : (0 : Int) ≤ (i : Int) + (m : Int) := by omega
  have hin' : i ≤ n := by omega
  have htn : ((i : Int) + (m : Int)).toNat = i + m := by omega
  have hb2 : ¬ (cap = i + m) := by omega
  have hb3 : (i : Int) ≤ (n : Int) + (m : Int) := by omega
  have hb4 : ¬ (cap = i) := by omega
  clear Hend hcp1 hcp2 hW1 hg1 hgh1 hsz1 hnews holds hol hnl ho1 hz1 hz2 hz3 hti hg hs h1 hg2 hs2 h2
  go_enter Tryz.func96, Tryz.ntmps96
  go_wp2_with (simp only [hov])
  go_region_law_o (refine z2q rfl (.tmp 73) (.tmp 76) 33 33 rfl (.slice (some ⟨g, (i + m) * 2, none⟩) (n + m - (i + m)) (cap - (i + m))) (.slice (some ⟨g, i * 2, none⟩) (n + m - i) (cap - i)) (by simp [Act.eval, Act.put]) (by simp [Act.eval, Act.put]) (Hcp1.out _ _ _) ?_)
  all_goals
    rw [← HW1.out]
    go_wp2_with (with_reducible refine z2p _ rfl (.tmp 80) (.tmp 81) 33 33 rfl (.slice (some ⟨g, i * 2, none⟩) (n + m - i) (cap - i)) (.slice (some ⟨h, 0, none⟩) m c2) rfl rfl (Hcp2.out _ _) ?_)
    all_goals
      go_ret
      exact H.out
set_option maxHeartbeats 4000000 in
set_option maxRecDepth 1000000 in
theorem zo2 (g n cap i h m c2 : Nat) (te te2 : TypeId) (cur cur2 : Array Value) (w : World) (hg : w.heap[g]? = some (.cells cur te (0, 0))) (hs : cur.size = cap * 2) (hc : cap ≤ maxLen) (h1 : ∀ u ∈ cur.toList.take (n * 2), u.oneCell' = true)
    (hg2 : w.heap[h]? = some (.cells cur2 te2 (0, 0))) (hs2 : cur2.size = c2 * 2) (hmc : m ≤ c2) (h2 : ∀ u ∈ cur2.toList.take (m * 2), u.oneCell' = true) (hgh : h ≠ g) (hin : i < n) (hm : 0 < m) (hn : n ≤ cap) (hroom : cap < n + m) (hb : (n + m) * 24 ≤ 211106232532992) :
    Calls Tryz.prog 96 #[.slice (some ⟨g, 0, none⟩) n cap, .int .i64 i, .slice (some ⟨h, 0, none⟩) m c2] w (RowTo w (.slice (some ⟨g, 0, none⟩) n cap) 2 (n + m) (cur.toList.take (i * 2) ++ cur2.toList.take (m * 2) ++ (cur.toList.drop (i * 2)).take ((n - i) * 2))) := by
  have hU : Tryz.prog.underlying 33 = some (.slice 28) := Tryz.underlying33
  obtain ⟨ti, hti, hz1, hz2, hz3⟩ := info_parts (by kernel_rfl : (Tryz.prog.info? 28).map (fun i => (i.zero, i.size, i.bytes)) = some (some (.agg #[.int .i64 0, .string ⟨#[]⟩]), 2, 24))
  unfold maxLen at hc; have hcurl := Array.length_toList (xs := cur); obtain ⟨olds, holds⟩ : ∃ olds, olds = (cur.toList.drop (i * 2)).take ((n - i) * 2) := ⟨_, rfl⟩; obtain ⟨news, hnews⟩ : ∃ news, news = cur2.toList.take (m * 2) := ⟨_, rfl⟩
  have hol : olds.length = (n - i) * 2 := by rw [holds, List.length_take, List.length_drop]; omega
  have hnl : news.length = m * 2 := by rw [hnews, List.length_take]; have := Array.length_toList (xs := cur2); omega
  have ho1 : ∀ u ∈ olds, u.oneCell' = true := by
    intro u hu; rw [holds, List.take_drop] at hu; have := List.mem_of_mem_drop hu
    rw [show i * 2 + (n - i) * 2 = n * 2 by omega] at this
    exact h1 u this
  have hkk : (n : Int) + (m : Int) - (i : Int) = ((n + m - i : Nat) : Int) := by omega
  have hik : i + (n + m - i) = n + m := by omega
  have hold : (Builtin.firstCells ti.size i (.slice (some ⟨g, 0, none⟩) i cap)).run Tryz.prog w.drew = .ok (cur.toList.take (i * 2)).toArray w.drew := by
    rw [hz2]
    have := zw (P := Tryz.prog) (w := w.drew) (sz := 2) (n := i) (cap := cap) (off := 0) (cnt := i) (te := te) (fr := (0, 0)) hg (by omega)
    rwa [List.drop_zero] at this
  obtain ⟨NC, hNC⟩ : ∃ NC, NC = grownCap w (n + m) cap 28 := ⟨_, rfl⟩
  have hge : n + m ≤ NC := by rw [hNC]; exact grownCap_ge w (n + m) cap _
  have hle : NC ≤ maxLen := by rw [hNC]; exact grownCap_le_maxLen w _ cap _ (by simp only [maxLen]; omega)
  obtain ⟨ROW, hROW⟩ : ∃ ROW : Array Value, ROW = (cur.toList.take (i * 2)).toArray ++ Builtin.zeroCells (Value.agg #[.int .i64 0, .string ⟨#[]⟩]).cells (n + m - i) ++ Builtin.zeroCells (Value.agg #[.int .i64 0, .string ⟨#[]⟩]).cells (NC - (n + m)) := ⟨_, rfl⟩
  have hrz : ∀ ty, (Builtin.append_ #[33, 3] ty #[.slice (some ⟨g, 0, none⟩) i cap, .int .i64 ((n : Int) + (m : Int) - (i : Int))]).run Tryz.prog w = .ok (.slice (some ⟨w.heap.size, 0, none⟩) (n + m) NC) (w.drew.alloc (.cells ROW 28)) := fun ty => by
    have h := Lib.run_append_grow_zeros w 33 3 ty 28 ti _ .i64 .i64 hU Tryz.underlying3 hti hz1 (some ⟨g, 0, none⟩) i cap (cur.toList.take (i * 2)) hold (n + m - i) (by omega) (by omega) (by omega) (by omega) (by rw [hz3]; omega) (by rw [hik]; exact z4k (by omega) (by omega) (by rw [hz3]; exact hb))
    rw [hik, ← hNC, ← hROW] at h; rw [hkk]; exact h
  have hRl : ROW.size = NC * 2 := by
    rw [hROW]; simp only [Array.size_append, List.size_toArray, List.length_take, z22]; have e5 : (Value.agg #[.int .i64 0, .string ⟨#[]⟩]).cells.size = 2 := rfl; rw [e5]; omega
  have hRt : ROW.toList.take (i * 2) = cur.toList.take (i * 2) := by
    rw [hROW]; simp only [Array.toList_append, List.append_assoc]
    rw [List.take_append_of_le_length (by rw [List.length_take]; omega), List.take_take, Nat.min_self]
  have hRtl := Array.length_toList (xs := ROW); have hgw : g < w.heap.size := (Array.getElem?_eq_some_iff.1 hg).1; have hhw : h < w.heap.size := (Array.getElem?_eq_some_iff.1 hg2).1; obtain ⟨G, hG⟩ : ∃ G, G = w.heap.size := ⟨_, rfl⟩; obtain ⟨W1, hW1⟩ : ∃ W1, W1 = w.drew.alloc (.cells ROW 28) := ⟨_, rfl⟩
  have hN1 : W1.heap[G]? = some (.cells ROW 28 (0, 0)) := by rw [hW1, hG]; exact heap_alloc_new w.drew _
  have hH1 : W1.heap[h]? = some (.cells cur2 te2 (0, 0)) := by rw [hW1, heap_alloc_old w.drew _ (by exact hhw)]; exact hg2
  have hO1 : W1.heap[g]? = some (.cells cur te (0, 0)) := by rw [hW1, heap_alloc_old w.drew _ (by exact hgw)]; exact hg
  have hcp1 : ∀ ty dc, (Builtin.copy_ #[33, 33] ty #[.slice (some ⟨G, i * 2, none⟩) (n + m - i) dc, .slice (some ⟨h, 0, none⟩) m c2]).run Tryz.prog W1 = .ok (goInt ((m : Nat) : Int)) (W1.setRow G (spl ROW (i * 2) news)) := fun ty dc => by
    refine zq hU hti (w := W1) (te := 28) (o := i * 2) (cur := ROW) (news := news) hN1 (by simp only [Nat.min_def]; split <;> omega) ?_ (by rw [hnews]; exact h2) (by omega)
    rw [hz2, hnews]
    exact zw (w := W1) (te := te2) (fr := (0, 0)) hH1 (by omega)
  obtain ⟨W2, hW2⟩ : ∃ W2, W2 = W1.setRow G (spl ROW (i * 2) news) := ⟨_, rfl⟩
  have hN2 : W2.heap[G]? = some (.cells (spl ROW (i * 2) news) 28 (0, 0)) := by rw [hW2]; exact setRow_heap _ G ROW _ _ (0, 0) hN1
  have hO2 : W2.heap[g]? = some (.cells cur te (0, 0)) := by rw [hW2, setRow_other' _ _ _ _ (by omega)]; exact hO1
  have hs2' : (spl ROW (i * 2) news).size = NC * 2 := by rw [zn _ _ _ (by omega), hRl]
  have hcp2 : ∀ ty dc sc, (Builtin.copy_ #[33, 33] ty #[.slice (some ⟨G, (i + m) * 2, none⟩) (n + m - (i + m)) dc, .slice (some ⟨g, i * 2, none⟩) (n - i) sc]).run Tryz.prog W2.drew = .ok (goInt ((n - i : Nat) : Int)) (W2.drew.setRow G (spl (spl ROW (i * 2) news) ((i + m) * 2) olds)) := fun ty dc sc => by
    refine zq hU hti (w := W2.drew) (te := 28) (o := (i + m) * 2) (cur := spl ROW (i * 2) news) (news := olds) hN2 (by simp only [Nat.min_def]; split <;> omega) ?_ ho1 (by omega)
    rw [hz2, holds]
    exact zw (w := W2.drew) (te := te) (fr := (0, 0)) hO2 (by omega)
  have Hend : RowTo w (.slice (some ⟨g, 0, none⟩) n cap) 2 (n + m) (cur.toList.take (i * 2) ++ news ++ olds) (.returned (.slice (some ⟨G, 0, none⟩) (n + m) NC)) (W2.drew.setRow G (spl (spl ROW (i * 2) news) ((i + m) * 2) olds)) := by
    have eW : W2.drew.setRow G (spl (spl ROW (i * 2) news) ((i + m) * 2) olds) = (w.drew.drew).alloc (.cells (spl (spl ROW (i * 2) news) ((i + m) * 2) olds) 28) := by
      rw [hW2, hW1, hG]; have e1 : (((w.drew.alloc (.cells ROW 28)).setRow w.heap.size (spl ROW (i * 2) news)).drew).setRow w.heap.size (spl (spl ROW (i * 2) news) ((i + m) * 2) olds) = ((w.drew.drew.alloc (.cells ROW 28)).setRow w.heap.size (spl ROW (i * 2) news)).setRow w.heap.size (spl (spl ROW (i * 2) news) ((i + m) * 2) olds) := rfl; rw [e1, z10]; exact World.setRow_alloc_new w.drew.drew _ _ _
    rw [eW, hG]
    have hl2 : (cur.toList.take (i * 2) ++ news ++ olds).length = (n + m) * 2 := by rw [List.length_append, List.length_append, List.length_take]; omega
    refine z39 (w := w.drew.drew) (w0 := w) (cap := NC) rfl ⟨rfl, rfl, rfl, rfl⟩ ?_ hge hle ?_ _
    · rw [zn _ _ _ (by omega), hs2']
    · rw [zl, zl]
      have e1 : (ROW.toList.take (i * 2) ++ news ++ ROW.toList.drop (i * 2 + news.length)).take ((i + m) * 2) = cur.toList.take (i * 2) ++ news := by
        rw [hRt, List.take_append_of_le_length (by rw [List.length_append, List.length_take]; omega), List.take_of_length_le (by rw [List.length_append, List.length_take]; omega)]
      rw [e1, List.take_append_of_le_length (by omega), List.take_of_length_le (by omega)]
  have H := Lib.hid Hend; have Hrz := Lib.hid hrz; have Hcp1 := Lib.hid hcp1; have Hcp2 := Lib.hid hcp2; have HW1 := Lib.hid hW1; have HW2 := Lib.hid hW2; have HG := Lib.hid hG
  have mixed : Tryz.prog.follows .mixedOrders = true := by kernel_rfl
  rw [← hnews, ← holds]
  have hq1 : ¬ ((m : Int) = 0) := by omega
  have hq2 : ¬ ((i : Int) = (n : Int)) := by omega
  have hq3 : (cap : Int) < (n : Int) + (m : Int) := by omega
  have hw1 : IntKind.i64.wrap ((n : Int) + (m : Int)) = (n : Int) + (m : Int) := by rw [IntKind.wrap_i64]; omega
  have hw2 : IntKind.i64.wrap ((n : Int) + (m : Int) - (i : Int)) = (n : Int) + (m : Int) - (i : Int) := by rw [IntKind.wrap_i64]; omega
  have hw3 : IntKind.i64.wrap ((i : Int) + (m : Int)) = (i : Int) + (m : Int) := by rw [IntKind.wrap_i64]; omega
  have hb1 : (0 : Int) ≤ (i : Int) + (m : Int) := by omega
  have hin' : i ≤ n := by omega
  have hic : i ≤ cap := by omega
  have htn : ((i : Int) + (m : Int)).toNat = i + m := by omega
  have hb2 : ¬ (NC = i + m) := by omega
  have hb3 : (i : Int) ≤ (n : Int) := by omega
  have hb4 : ¬ (cap = i) := by omega
  have hb5 : ¬ (NC = i) := by omega
  have hb6 : i ≤ n + m := by omega
  have hb7 : i + m ≤ n + m := by omega
  have hb8 : (i : Int) + (m : Int) ≤ (n : Int) + (m : Int) := by omega
  unfold maxLen at hle; clear Hend hrz hcp1 hcp2 hW1 hW2 hG hN1 hH1 hO1 hN2 hO2 hs2' hRl hRt hRtl hROW hNC hnews holds hol hnl ho1 hz1 hz2 hz3 hti hg hs h1 hg2 hs2 h2 hcurl hold hkk hik hgw hhw
  go_enter Tryz.func96, Tryz.ntmps96
  go_wp2_with (first | (at_builtin; refine z1b _ rfl _ _ 33 3 rfl _ _ rfl rfl (Hrz.out _) ?_; rw [← HW1.out, ← HG.out]) | (with_reducible refine z2p _ rfl (.tmp 43) (.tmp 44) 33 33 rfl (.slice (some ⟨G, i * 2, none⟩) (n + m - i) (NC - i)) (.slice (some ⟨h, 0, none⟩) m c2) rfl rfl (Hcp1.out _ _) ?_; rw [← HW2.out]))
  go_region_law_o (refine z2q rfl (.tmp 50) (.tmp 53) 33 33 rfl (.slice (some ⟨G, (i + m) * 2, none⟩) (n + m - (i + m)) (NC - (i + m))) (.slice (some ⟨g, i * 2, none⟩) (n - i) (cap - i)) (by simp [Act.eval, Act.put]) (by simp [Act.eval, Act.put]) (Hcp2.out _ _ _) ?_)
  all_goals
    go_wp2
    all_goals
      go_ret
      first | exact H.out | exact (List.append_assoc _ _ _ ▸ H.out)
theorem zpq (v u : Value) (n m i : Nat) (xs ys : List Value) (te te2 : TypeId) (w : World) (hv : w.ownsRow 0 te 2 v n xs) (hu : w.ownsRow 0 te2 2 u m ys) (hvu : ∀ g, v.ownBlock = some g → u.ownBlock ≠ some g) (h1 : ∀ x ∈ xs, x.oneCell' = true) (h2 : ∀ y ∈ ys, y.oneCell' = true) (hi : i ≤ n) (hb : (n + m) * 24 ≤ 211106232532992) :
    Calls Tryz.prog 96 #[v, .int .i64 i, u] w (RowTo w v 2 (n + m) (xs.take (i * 2) ++ ys ++ xs.drop (i * 2))) := by
  have hv0 := hv; have hu0 := hu; obtain ⟨hxl, hv⟩ := hv; obtain ⟨hyl, hu⟩ := hu
  rcases hu with ⟨rfl, rfl⟩ | ⟨h, c2, cur2, rfl, _, hg2, hmc, hmc2, hs2, ht2⟩
  · have hy0 : ys = [] := List.eq_nil_of_length_eq_zero (by simp [hyl])
    subst hy0; rw [List.append_nil, List.take_append_drop, Nat.add_zero]
    rcases hv with ⟨rfl, rfl⟩ | ⟨g, cap, cur, rfl, _, hg, hnc, hcm, hcs, ht⟩
    · exact z5w none 0 0 i none 0 w hi (Nat.le_refl _) (Nat.zero_le _) xs (z12 hv0)
    · exact z5w _ n cap i none 0 w hi hnc hcm xs (z12 hv0)
  · by_cases hm : m = 0
    · subst hm
      have hy0 : ys = [] := List.eq_nil_of_length_eq_zero (by simp [hyl])
      subst hy0; rw [List.append_nil, List.take_append_drop, Nat.add_zero]
      rcases hv with ⟨rfl, rfl⟩ | ⟨g, cap, cur, rfl, _, hg, hnc, hcm, hcs, ht⟩
      · exact z5w none 0 0 i _ c2 w hi (Nat.le_refl _) (Nat.zero_le _) xs (z12 hv0)
      · exact z5w _ n cap i _ c2 w hi hnc hcm xs (z12 hv0)
    · by_cases hin : i = n
      · subst hin
        rw [List.take_of_length_le (by omega), List.drop_of_length_le (by omega), List.append_nil]
        refine zo0 v i xs te _ m c2 ys w hv0 (by omega) ⟨fun W hW => by simp [Builtin.lenOf], fun W hW => ?_, hyl, h2⟩ hb
        have hgW : W.heap[h]? = some (.cells cur2 te2 (0, 0)) := by rw [hW]; exact hg2
        have := zw (P := Tryz.prog) (w := W) (sz := 2) (n := m) (cap := c2) (off := 0) (cnt := m) (te := te2) (fr := (0, 0)) hgW (by omega)
        rw [List.drop_zero, ht2] at this; exact this
      · rcases hv with ⟨rfl, rfl⟩ | ⟨g, cap, cur, rfl, _, hg, hnc, hcm, hcs, ht⟩
        · omega
        · have hgh : h ≠ g := fun e => hvu g rfl (by rw [e]; rfl)
          have e1 : xs.take (i * 2) = cur.toList.take (i * 2) := by rw [← ht, List.take_take, Nat.min_eq_left (by omega)]
          have e2 : xs.drop (i * 2) = (cur.toList.drop (i * 2)).take ((n - i) * 2) := by rw [← ht, List.drop_take]; congr 1; omega
          rw [e1, e2, ← ht2]
          by_cases hroom : n + m ≤ cap
          · exact zo1 g n cap i h m c2 te te2 cur cur2 w hg hcs hcm (by rw [ht]; exact h1) hg2 hs2 hmc (by rw [ht2]; exact h2) hgh (by omega) (by omega) hroom
          · exact zo2 g n cap i h m c2 te te2 cur cur2 w hg hcs hcm (by rw [ht]; exact h1) hg2 hs2 hmc (by rw [ht2]; exact h2) hgh (by omega) (by omega) hnc (by omega) hb
end V
namespace V
open Go Go.RowKit Go.Lib
def XV0 : CT := fun f args ins => bif Nat.beq f 96 then insX 2 24 args ins else X0 f args ins
theorem zy0 (f : Nat) (args : List AV) (ins : List (Nat × List AV)) (r : List AV) (o : List (Nat × List AV)) (h : XV0 f args ins = some (r, o)) : Sem Tryz.prog f args ins (fun r' o' => r' = r ∧ o' = o) := by
  unfold XV0 at h
  cases h1 : Nat.beq f 96 with
  | true => rw [h1] at h; rw [Nat.beq_eq] at h1; subst h1; exact zff zpq h
  | false =>
    rw [h1] at h; exact X0_ok f args ins r o h
end V
namespace V
open Go Go.RowKit Go.Lib
set_option maxHeartbeats 4000000 in
set_option maxRecDepth 1000000 in
theorem zy1 : PinAt Tryz.prog 56 2 0 := by
  intro w b g n cap p tb hb hp
  have c0 : w.cell? ⟨b, 0, none⟩ = some (.slice (some ⟨g, 0, none⟩) n cap) := by simp [World.cell?, hb]
  have c1 : w.cell? ⟨b, 1, none⟩ = some (.int .i64 (p : Int)) := by simp [World.cell?, hb]
  have mixed : Tryz.prog.follows .mixedOrders = true := by kernel_rfl
  have hend : ∀ v : Value, v = .pointer (some ⟨g, p * 2, none⟩) → (Ending.returned v = .returned (.pointer (some ⟨g, p * 2 + 0, none⟩)) ∧ ∃ m, w.drew = { w with drawn := w.drawn + m }) := fun v hv => ⟨by rw [hv]; rfl, 1, rfl⟩
  have H := Lib.hid hend; clear hb hend
  go_enter Tryz.func56, Tryz.ntmps56
  go_wp2_with fail
  go_region_law_o fail
  all_goals
    go_wp2_with fail
  all_goals
    go_ret
  all_goals exact H.out _ rfl
end V
namespace V
open Go Go.RowKit Go.Lib
theorem _root_.Array.getElem?_push_lt' {α : Type} {xs : Array α} {x : α} {i : Nat} (h : i < xs.size) : (xs.push x)[i]? = xs[i]? := by
  rw [Array.getElem?_push, if_neg (by omega)]
theorem zve {P : Program} {ops : Array Oper} {o : Oper} {a : Act} {w : World} {K : Act → World → Prop} {Q : Exit → Act → World → Prop} {E : Prop} (hg : o.guard = none) {fn : Func} {body : Code} {f : Nat} {args : Array Operand} {ats : Array TypeId} (hop : o.op = .call { callee := .value (.func f), args := args, argTypes := ats })
    (h1 : P.funcs[f]? = some fn) (h2 : fn.body = some body) (h3 : (fn.name == "runtime.NumGoroutine") = false) (vals : Array Value) (hv : args.map a.eval = vals) {R : Ending → World → Prop} (hc : Calls P f vals w R) (hk : ∀ e w', R e w' → ∃ v, e = .returned v ∧ K (a.put o.dst v) w') : if Region.wanted o (yielded ops a.tmps) = true then Oper.wp P o a w K Q else E := by
  have hw : Region.wanted o (yielded ops a.tmps) = true := by simp [Region.wanted, hg]
  rw [if_pos hw]
  have h2' : fn.body.isNone = false := by rw [h2]; rfl
  have h3' : ¬ fn.name = "runtime.NumGoroutine" := by simpa using h3
  have hrun : (execOp a.eval o).run P w = .ok (.enter f vals) w := by
    unfold execOp; simp only [hop]; simp [resolve, Act.eval, Deferred.ofValue, invoke, callFunc, h1, h3', h2]; exact hv
  unfold Oper.wp; rw [hrun, Oper.upon_enter]; refine hc.mono ?_; intro e w' h; obtain ⟨v, rfl, hK⟩ := hk e w' h; exact hK
theorem zvf {X : World} {b c : Nat} {v a0 a1 z0 z1 : Value} {t : TypeId} (hne : ¬ b = c) (h : X.heap[c]? = some (.cells #[z0, z1] t (0, 0))) : (((X.setCell ⟨b, 0, none⟩ v).setCell ⟨c, 0, none⟩ a0).setCell ⟨c, 1, none⟩ a1).heap[c]? = some (.cells #[a0, a1] t (0, 0)) := by
  simp [World.setCell, Array.getElem?_modify, hne, h]
theorem zo3 (n : Nat) (h : n ≤ 9223372036854775807) : IntKind.i64.wrap (n : Int) = (n : Int) := by
  have h1 : ((n : Int) % 2 ^ 64) = (n : Int) := by omega
  simp only [IntKind.wrap, IntKind.bits, IntKind.signed, h1]
  rw [if_neg (by simp; omega)]
def OutR (te : TypeId) (b g n cap p : Nat) (cur : Array Value) (a0 a1 : Value) (w W0 : World) (e : Ending) (w' : World) : Prop :=
  e = .returned (.slice (some ⟨g, 0, none⟩) (n - 1) cap) ∧ RowAt te W0 g n cap 2 (n - 1) (cur.toList.take (p * 2) ++ (cur.toList.drop ((p + 1) * 2)).take ((n - (p + 1)) * 2)) e w' ∧
      w'.cell? ⟨b, 0, none⟩ = some (.slice (some ⟨g, 0, none⟩) n cap) ∧ w'.cell? ⟨b, 1, none⟩ = some (.int .i64 (p : Int)) ∧ w'.cell? ⟨w.heap.size, 0, none⟩ = some (.int .i64 0) ∧ w'.cell? ⟨w.heap.size, 1, none⟩ = some (.string ⟨#[]⟩) ∧ w'.cell? ⟨w.heap.size + 1, 0, none⟩ = some a0 ∧ w'.cell? ⟨w.heap.size + 1, 1, none⟩ = some a1 ∧ (∀ i, w'.frozen? ⟨b, i, none⟩ = false) ∧ (∀ i, w'.frozen? ⟨w.heap.size, i, none⟩ = false) ∧ w'.heap[w.heap.size]? = some (.cells #[.int .i64 0, .string ⟨#[]⟩] 28 (0, 0))
theorem zvg (w : World) (b g n cap p : Nat) (tb te : TypeId) (cur : Array Value) (a0 a1 : Value) (h0 : w.heap[b]? = some (.cells #[.slice (some ⟨g, 0, none⟩) n cap, .int .i64 (p : Int)] tb (0, 0))) (hg : w.heap[g]? = some (.cells cur te (0, 0))) (hbg : b ≠ g) (hcs : cur.size = cap * 2) (hp : p < n) (hn : n ≤ cap) (hc : cap ≤ maxLen)
    (h1 : ∀ u ∈ cur.toList.take (n * 2), u.oneCell' = true) :
    Calls Tryz.prog 97 #[.slice (some ⟨g, 0, none⟩) n cap, .int .i64 p, .int .i64 (IntKind.i64.wrap (↑p + 1))] ((w.alloc (.cells #[.int .i64 0, .string ⟨#[]⟩] 28)).alloc (.cells #[a0, a1] 28)).drew.drew (OutR te b g n cap p cur a0 a1 w ((w.alloc (.cells #[.int .i64 0, .string ⟨#[]⟩] 28)).alloc (.cells #[a0, a1] 28)).drew.drew) := by
  have hb : b < w.heap.size := (Array.getElem?_eq_some_iff.1 h0).1; have hgl : g < w.heap.size := (Array.getElem?_eq_some_iff.1 hg).1; obtain ⟨W0, hW0⟩ : ∃ W0, W0 = ((w.alloc (.cells #[.int .i64 0, .string ⟨#[]⟩] 28)).alloc (.cells #[a0, a1] 28)).drew.drew := ⟨_, rfl⟩
  have hold : ∀ k, k < w.heap.size → W0.heap[k]? = w.heap[k]? := fun k hk => by
    rw [hW0]; show ((w.heap.push _).push _)[k]? = _
    rw [Array.getElem?_push_lt' (by rw [Array.size_push]; omega), Array.getElem?_push_lt' hk]
  have hW0s : W0.heap.size = w.heap.size + 2 := by rw [hW0]; show ((w.heap.push _).push _).size = _; simp
  have hW1 : W0.heap[w.heap.size]? = some (.cells #[.int .i64 0, .string ⟨#[]⟩] 28 (0, 0)) := by
    rw [hW0]; show ((w.heap.push _).push _)[w.heap.size]? = _
    rw [Array.getElem?_push_lt' (by rw [Array.size_push]; omega), Array.getElem?_push, if_pos rfl]
  have hW2 : W0.heap[w.heap.size + 1]? = some (.cells #[a0, a1] 28 (0, 0)) := by
    rw [hW0]; show ((w.heap.push _).push _)[w.heap.size + 1]? = _
    rw [Array.getElem?_push, if_pos (by rw [Array.size_push])]
  rw [← hW0]
  have e1 : IntKind.i64.wrap ((p : Int) + 1) = ((p + 1 : Nat) : Int) := by
    unfold maxLen at hc
    have := zo3 (p + 1) (by omega)
    simpa using this
  have h := zpp g n cap p (p + 1) te cur W0 (by rw [hold g hgl]; exact hg) hcs hn hc h1 (by omega) (by omega)
  rw [e1]; refine h.mono ?_; intro e w' hR
  have e2 : n - (p + 1 - p) = n - 1 := by omega
  rw [e2] at hR; have hR' := hR; obtain ⟨r1, cur', r2, r3, r4, r5⟩ := hR; have r6 := r5.block
  have old : ∀ k, k < W0.heap.size → k ≠ g → ∀ i, w'.cell? ⟨k, i, none⟩ = W0.cell? ⟨k, i, none⟩ := fun k hk hne i => by
    simp only [World.cell?]
    rw [r6 k hk (fun h => hne (by cases h; rfl))]
  refine ⟨r1, hR', ?_, ?_, ?_, ?_, ?_, ?_, fun i => ?_, fun i => ?_, ?_⟩
  · rw [old b (by omega) hbg]; simp only [World.cell?]; rw [hold b hb, h0]; rfl
  · rw [old b (by omega) hbg]; simp only [World.cell?]; rw [hold b hb, h0]; rfl
  · rw [old _ (by omega) (by omega)]; simp only [World.cell?]; rw [hW1]; rfl
  · rw [old _ (by omega) (by omega)]; simp only [World.cell?]; rw [hW1]; rfl
  · rw [old _ (by omega) (by omega)]; simp only [World.cell?]; rw [hW2]; rfl
  · rw [old _ (by omega) (by omega)]; simp only [World.cell?]; rw [hW2]; rfl
  · simp only [World.frozen?]
    rw [r6 b (by omega) (fun h => hbg (by cases h; rfl)), hold b hb, h0]
    simp
  · simp only [World.frozen?]
    rw [r6 _ (by omega) (fun h => (by cases h; omega)), hW1]
    simp
  · rw [r6 _ (by omega) (fun h => (by cases h; omega)), hW1]
set_option maxHeartbeats 8000000 in
set_option maxRecDepth 1000000 in
theorem zsi (w : World) (b g n cap p : Nat) (a0 a1 : Value) (hb : b < w.heap.size) (hgl : g < w.heap.size) (hp : p < n) (R : World → Prop)
    (c0 : w.cell? ⟨b, 0, none⟩ = some (.slice (some ⟨g, 0, none⟩) n cap)) (c1 : w.cell? ⟨b, 1, none⟩ = some (.int .i64 (p : Int)))
    (e0 : w.cell? ⟨g, p * 2, none⟩ = some a0) (e1 : w.cell? ⟨g, p * 2 + 1, none⟩ = some a1) (o0 : a0.oneCell' = true) (o1 : a1.oneCell' = true)
    (hdel : Hid (Calls Tryz.prog 97 #[.slice (some ⟨g, 0, none⟩) n cap, .int .i64 p, .int .i64 (IntKind.i64.wrap (↑p + 1))] ((w.alloc (.cells #[.int .i64 0, .string ⟨#[]⟩] 28)).alloc (.cells #[a0, a1] 28)).drew.drew fun e w' => e = .returned (.slice (some ⟨g, 0, none⟩) (n - 1) cap) ∧ Hid (R w') ∧
      w'.cell? ⟨b, 0, none⟩ = some (.slice (some ⟨g, 0, none⟩) n cap) ∧ w'.cell? ⟨b, 1, none⟩ = some (.int .i64 (p : Int)) ∧ w'.cell? ⟨w.heap.size, 0, none⟩ = some (.int .i64 0) ∧ w'.cell? ⟨w.heap.size, 1, none⟩ = some (.string ⟨#[]⟩) ∧ w'.cell? ⟨w.heap.size + 1, 0, none⟩ = some a0 ∧ w'.cell? ⟨w.heap.size + 1, 1, none⟩ = some a1 ∧ (∀ i, w'.frozen? ⟨b, i, none⟩ = false) ∧ (∀ i, w'.frozen? ⟨w.heap.size, i, none⟩ = false) ∧ Hid (w'.heap[w.heap.size]? = some (.cells #[.int .i64 0, .string ⟨#[]⟩] 28 (0, 0))))) :
      Calls Tryz.prog 55 #[.pointer (some ⟨b, 0, none⟩)] w fun e w'' => e = .returned (.agg #[a0, a1]) ∧ ∃ w', R w' ∧ w'' = ((w'.setCell ⟨b, 0, none⟩ (.slice (some ⟨g, 0, none⟩) (n - 1) cap)).setCell ⟨w.heap.size, 0, none⟩ a0).setCell ⟨w.heap.size, 1, none⟩ a1 := by
  have al : ∀ o k i, k < w.heap.size → (w.alloc o).cell? ⟨k, i, none⟩ = w.cell? ⟨k, i, none⟩ := fun o k i hk => by
    simp only [World.cell?, World.alloc]; rw [Array.getElem?_push_lt' hk]
  have n1 : ¬ b = w.heap.size := by omega
  have n2 : ¬ b = w.heap.size + 1 := by omega
  have n3 : ¬ w.heap.size = b := by omega
  have n4 : ¬ w.heap.size + 1 = b := by omega
  have s0 : ∀ W a m, (store a a0 m).run Tryz.prog W = stored Tryz.prog W a a0 m := fun W a m => run_store Tryz.prog W a a0 m o0; have s1 : ∀ W a m, (store a a1 m).run Tryz.prog W = stored Tryz.prog W a a1 m := fun W a m => run_store Tryz.prog W a a1 m o1; have hst : ∀ (ops : Array Oper) (o : Oper) (a : Act) (K : Act → World → Prop) (Q : Exit → Act → World → Prop) (E : Prop) (x y z : Operand) (ats : Array TypeId), o.guard = none → o.op = .call { callee := .value (.func 97), args := #[x, y, z], argTypes := ats } → a.eval x = .slice (some ⟨g, 0, none⟩) n cap → a.eval y = .int .i64 p → a.eval z = .int .i64 (IntKind.i64.wrap (↑p + 1)) →
      (∀ w' : World, Hid (R w') → w'.cell? ⟨b, 0, none⟩ = some (.slice (some ⟨g, 0, none⟩) n cap) → w'.cell? ⟨b, 1, none⟩ = some (.int .i64 (p : Int)) → w'.cell? ⟨w.heap.size, 0, none⟩ = some (.int .i64 0) → w'.cell? ⟨w.heap.size, 1, none⟩ = some (.string ⟨#[]⟩) → w'.cell? ⟨w.heap.size + 1, 0, none⟩ = some a0 → w'.cell? ⟨w.heap.size + 1, 1, none⟩ = some a1 → (∀ i, w'.frozen? ⟨b, i, none⟩ = false) → (∀ i, w'.frozen? ⟨w.heap.size, i, none⟩ = false) → Hid (w'.heap[w.heap.size]? = some (.cells #[.int .i64 0, .string ⟨#[]⟩] 28 (0, 0))) → K (a.put o.dst (.slice (some ⟨g, 0, none⟩) (n - 1) cap)) w') →
      if Region.wanted o (yielded ops a.tmps) = true then Oper.wp Tryz.prog o a ((w.alloc (.cells #[.int .i64 0, .string ⟨#[]⟩] 28)).alloc (.cells #[a0, a1] 28)).drew.drew K Q else E := by
    intro ops o a K Q E x y z ats hg hop hx hy hz hk
    refine zve hg hop Tryz.func97 rfl (by kernel_rfl) _ (by simp only [List.map_toArray, List.map_cons, List.map_nil, hx, hy, hz]) hdel.out ?_
    rintro e w' ⟨rfl, hR, k0, k1, k2, k3, k4, k5, k6, k7, k8⟩; exact ⟨_, rfl, hk w' hR k0 k1 k2 k3 k4 k5 k6 k7 k8⟩
  have Hst := Lib.hid hst; clear hst hdel
  have mixed : Tryz.prog.follows .mixedOrders = true := by kernel_rfl
  go_enter Tryz.func55, Tryz.ntmps55
  go_wp2_with fail
  go_region_law_o fail
  all_goals go_wp2_with fail
  all_goals go_region_law_o (refine Hst.out _ _ _ _ _ _ _ _ _ _ rfl rfl (by simp [Act.eval, Act.put]) (by simp [Act.eval, Act.put]) (by simp [Act.eval, Act.put]) ?_; clear Hst c0 c1 e0 e1 al; intro w' hR k0 k1 k2 k3 k4 k5 k6 k7 k8)
  all_goals go_wp2_with fail
  all_goals
    refine ⟨rfl, .agg #[a0, a1], ?_, rfl, w', hR.out, rfl⟩
    exact results_cell_row rfl _ _ w.heap.size 28 #[a0, a1] (0, 0) _ rfl (zvf n1 k8.out) Tryz.underlying28 rfl (by kernel_rfl)
end V
namespace V
open Go Go.RowKit Go.Lib
theorem zy2 : SpcOK Tryz.prog 55 (.out 2 (.agg [.int .i64, .str]) (.agg [.int .i64 0, .str []])) := by
  refine ⟨⟨_, rfl⟩, rfl, [.int .i64 0, .string ⟨#[]⟩], rfl, fun E => ⟨rfl, ?_⟩, ?_⟩
  · intro i x hx
    have hi : i = 0 := by
      cases i with
      | zero => rfl
      | succ i => simp at hx
    subst hi; simp at hx; subst hx; refine ⟨.inl rfl, .agg #[.int .i64 0, .string ⟨#[]⟩], ?_, rfl, fun j hj => ?_⟩
    · simp only [Rep, RepL]
      exact ⟨_, rfl, _, _, rfl, rfl, rfl, rfl, _, _, rfl, rfl, rfl, ⟨rfl, Nat.zero_le _⟩, rfl⟩
    · rcases j with _ | _ | j
      · rfl
      · rfl
      · omega
  · intro w b g n cap p tb te cur h0 hg hbg hcs hp hn hc h1
    have hb : b < w.heap.size := (Array.getElem?_eq_some_iff.1 h0).1; have hgl : g < w.heap.size := (Array.getElem?_eq_some_iff.1 hg).1; have hcl : cur.toList.length = cur.size := Array.length_toList
    obtain ⟨a0, a1, ea, m0, m1⟩ : ∃ a0 a1, (cur.toList.drop (p * 2)).take 2 = [a0, a1] ∧ cur[p * 2]? = some a0 ∧ cur[p * 2 + 1]? = some a1 := by
      have l0 : p * 2 < cur.size := by omega
      have l1 : p * 2 + 1 < cur.size := by omega
      refine ⟨cur[p * 2], cur[p * 2 + 1], ?_, by simp [l0], by simp [l1]⟩
      apply List.ext_getElem?; intro j
      rcases j with _ | _ | j
      · rw [List.getElem?_take_of_lt (by omega), List.getElem?_drop]; simp [l0]
      · rw [List.getElem?_take_of_lt (by omega), List.getElem?_drop]; simp [l1]
      · rw [List.getElem?_eq_none (by rw [List.length_take]; omega)]; rfl
    have ho : ∀ i u, cur[i]? = some u → i < n * 2 → u.oneCell' = true := fun i u hi hl => h1 u (List.mem_of_getElem? (i := i) (by rw [List.getElem?_take_of_lt hl, Array.getElem?_toList]; exact hi))
    obtain ⟨W0, hW0⟩ : ∃ W0, W0 = ((w.alloc (.cells #[.int .i64 0, .string ⟨#[]⟩] 28)).alloc (.cells #[a0, a1] 28)).drew.drew := ⟨_, rfl⟩
    have hold : ∀ k, k < w.heap.size → W0.heap[k]? = w.heap[k]? := fun k hk => by
      rw [hW0]; show ((w.heap.push _).push _)[k]? = _
      rw [Array.getElem?_push_lt' (by rw [Array.size_push]; omega), Array.getElem?_push_lt' hk]
    have hW0s : W0.heap.size = w.heap.size + 2 := by rw [hW0]; show ((w.heap.push _).push _).size = _; simp
    have hW0o : W0.os = w.os ∧ W0.tape = w.tape ∧ W0.output = w.output := by rw [hW0]; exact ⟨rfl, rfl, rfl⟩
    refine (zsi w b g n cap p a0 a1 hb hgl hp (fun w' => RowAt te W0 g n cap 2 (n - 1) (cur.toList.take (p * 2) ++ (cur.toList.drop ((p + 1) * 2)).take ((n - (p + 1)) * 2)) (.returned (.slice (some ⟨g, 0, none⟩) (n - 1) cap)) w')
      (by simp [World.cell?, h0]) (by simp [World.cell?, h0]) (by simp only [World.cell?, hg]; exact m0) (by simp only [World.cell?, hg]; exact m1) (ho _ _ m0 (by omega)) (ho _ _ m1 (by omega)) (Lib.hid ?_)).mono ?_
    · refine (zvg w b g n cap p tb te cur a0 a1 h0 hg hbg hcs hp hn hc h1).mono ?_
      rintro e w' ⟨rfl, r2, r3⟩; rw [← hW0] at r2; obtain ⟨k0, k1, k2, k3, k4, k5, k6, k7, k8⟩ := r3; exact ⟨rfl, Lib.hid r2, k0, k1, k2, k3, k4, k5, k6, k7, Lib.hid k8⟩
    · rintro e w'' ⟨rfl, w', ⟨_, cur', r2, r3, r4, r5⟩, rfl⟩
      refine ⟨by rw [ea], cur', by rw [r3, hcs], ?_, ?_, ?_, ?_, ?_, ?_, ?_, ?_⟩
      · rw [r4, show n - (n - 1) = 1 by omega, show (Builtin.zeroCells #[Value.int .i64 0, .string ⟨#[]⟩] 1).toList = [Value.int .i64 0, .string ⟨#[]⟩] by kernel_rfl]
      · rw [Deep.blk_setCell_other _ _ _ _ (by show g ≠ w.heap.size; omega), Deep.blk_setCell_other _ _ _ _ (by show g ≠ w.heap.size; omega), Deep.blk_setCell_other _ _ _ _ (Ne.symm hbg)]
        exact r2
      · rw [Deep.blk_setCell_other _ _ _ _ (by show b ≠ w.heap.size; omega), Deep.blk_setCell_other _ _ _ _ (by show b ≠ w.heap.size; omega)]
        have hwb : w'.heap[b]? = some (.cells #[.slice (some ⟨g, 0, none⟩) n cap, .int .i64 (p : Int)] tb (0, 0)) := by
          rw [r5.block b (by omega) (fun h => hbg (by cases h; rfl)), hold b hb, h0]
        simp [World.setCell, Array.getElem?_modify, hwb]
      · rw [Deep.nblk_setCell, Deep.nblk_setCell, Deep.nblk_setCell]
        have := r5.size; omega
      · intro k hk hkg hkb
        rw [Deep.blk_setCell_other _ _ _ _ (by show k ≠ w.heap.size; omega), Deep.blk_setCell_other _ _ _ _ (by show k ≠ w.heap.size; omega), Deep.blk_setCell_other _ _ _ _ hkb]
        rw [r5.block k (by omega) (fun h => hkg (by cases h; rfl)), hold k hk]
      · exact r5.os.trans hW0o.1
      · exact r5.tape.trans hW0o.2.1
      · exact r5.output.trans hW0o.2.2
end V
namespace V
def oshT : List (Nat × List Sh) := [(32, [.int .i64, .int .i64, .int .i64, .int .i64, .int .i64, .int .i64, .int .i64, .int .i64, .int .i64, .int .i64, .int .i64, .int .i64, .int .i64, .str, .own 1, .own 5]), (64, [.uq 2, .int .i64]), (97, [.int .i64, .int .i64, .int .i64, .int .i64, .int .i64, .int .i64, .int .i64, .int .i64, .int .i64, .int .i64, .int .i64, .int .i64, .int .i64, .str, .lst 1, .lst 5, .int .i64, .uq 2, .int .i64, .int .i64])]
def resT : List (Nat × List Sh) := [(18, [.agg [.int .i64, .lst 5], .agg [.uq 2, .int .i64], .int .i64]), (42, [.agg [.int .i64, .uq 2]]), (44, [.uq 2]), (45, [.uq 5]), (46, [.uq 2]), (49, [.uq 2]), (84, [.uq 5]), (85, [.uq 5]), (86, [.uq 5, .int .i64, .bool]), (87, [.uq 5]), (96, [.uq 2])]
def ashT : List (Nat × List Sh) := [(44, [.uq 2, .int .i64, .uq 2]), (46, [.uq 2, .int .i64, .int .i64]), (84, [.uq 5, .int .i64, .uq 5]), (85, [.uq 5, .int .i64, .int .i64]), (87, [.uq 5, .int .i64, .int .i64, .uq 5]), (96, [.uq 2, .int .i64, .uq 2])]
def frzL : List (Nat × Nat) → Nat → List Nat
  | [], _ => []
  | (o, r) :: l, i => bif Nat.beq r i then frzL l i else o :: frzL l i
def isIn : List Nat → Nat → Bool
  | [], _ => false
  | k :: l, j => bif Nat.beq k j then true else isIn l j
def T1 : Tab := tabOf tyTab (fun e => (ofL oshT e).getD ((shTab[e]?).getD [])) (fun f => (ofL resT f).getD ((resTab[f]?).getD [])) fnTab (fun f => (ofL ashT f).getD [])
def spcT (f : Nat) : Option Spc := bif Nat.beq f 56 then some (.pin 2 0) else bif Nat.beq f 55 then some (.out 2 (.agg [.int .i64, .str]) (.agg [.int .i64 0, .str []])) else none
def T0 : Tab := { T1 with spc := spcT }
def an3 : Ann := ⟨fun i => (ofL [] i).getD ([], []), fun i => (ofL [] i).getD [], ofL [(5, 2)], fun i => isIn [] i, fun i => frzL [(1001, 0), (1003, 3), (1005, 4)] i, fun _ => 0, fun _ => [], fun _ => false, fun _ => false⟩
def an4 : Ann := ⟨fun i => (ofL [] i).getD ([], []), fun i => (ofL [] i).getD [], ofL [(5, 2), (8, 2), (14, 2)], fun i => isIn [] i, fun i => frzL [(1001, 0), (1003, 3), (1005, 7), (1007, 9), (1010, 13)] i, fun _ => 0, fun _ => [], fun _ => false, fun _ => false⟩
def an5 : Ann := ⟨fun i => (ofL [(2, ([(1, .at 1001 0), (3, (Sh.int IntKind.i64))], [(1001, [.at 0 0, (Sh.int IntKind.i64), (Sh.lst 2), (Sh.int IntKind.i64), (Sh.int IntKind.i64), (Sh.int IntKind.i64), (Sh.int IntKind.i64), (Sh.int IntKind.i64), (Sh.int IntKind.i64), (Sh.int IntKind.i64), (Sh.int IntKind.i64), (Sh.int IntKind.i64), (Sh.int IntKind.i64), (Sh.int IntKind.i64), (Sh.int IntKind.i64), (Sh.int IntKind.i64), Sh.str, (Sh.lst 1), (Sh.lst 5), (Sh.int IntKind.i64), (Sh.lst 2)])]))] i).getD ([], []), fun i => (ofL [(2, [(none, ([(2, Sh.bool)], [])), (some 0, ([(1, .at 1001 0)], [(1001, [.at 0 0, (Sh.int IntKind.i64), (Sh.lst 2), (Sh.int IntKind.i64), (Sh.int IntKind.i64), (Sh.int IntKind.i64), (Sh.int IntKind.i64), (Sh.int IntKind.i64), (Sh.int IntKind.i64), (Sh.int IntKind.i64), (Sh.int IntKind.i64), (Sh.int IntKind.i64), (Sh.int IntKind.i64), (Sh.int IntKind.i64), (Sh.int IntKind.i64), (Sh.int IntKind.i64), Sh.str, (Sh.lst 1), (Sh.lst 5), (Sh.int IntKind.i64), (Sh.lst 2)])]))])] i).getD [], ofL [(2, 13)], fun i => isIn [] i, fun i => frzL [(1001, 0)] i, fun _ => 0, fun _ => [], fun _ => false, fun _ => false⟩
def an6 : Ann := ⟨fun i => (ofL [] i).getD ([], []), fun i => (ofL [] i).getD [], ofL [(6, 0)], fun i => isIn [] i, fun i => frzL [] i, fun _ => 0, fun _ => [], fun _ => false, fun _ => false⟩
def an7 : Ann := ⟨fun i => (ofL [] i).getD ([], []), fun i => (ofL [] i).getD [], ofL [], fun i => isIn [] i, fun i => frzL [(1003, 0), (1004, 0), (1005, 0), (1008, 1), (1010, 4)] i, fun _ => 0, fun i => (ofL [(13, [11])] i).getD [], fun _ => false, fun _ => false⟩
def an8 : Ann := ⟨fun i => (ofL [(1000031, ([(5, .at 1005 0), (6, .at 1006 0), (12, (Sh.lst 2)), (14, .at 1014 0)], [(1005, [.at 0 0, (Sh.int IntKind.i64), (Sh.lst 2)]), (1006, [(Sh.int IntKind.i64), (Sh.lst 2), Sh.bool, Sh.bool, Sh.str]), (1014, [(Sh.int IntKind.i64), (Sh.lst 2), Sh.bool, Sh.bool, Sh.str])]))] i).getD ([], []), fun i => (ofL [(1000031, [(none, ([(6, .at 1006 0), (7, (Sh.int IntKind.i64))], [(1006, [(Sh.int IntKind.i64), (Sh.lst 2), Sh.bool, Sh.bool, Sh.str])]))])] i).getD [], ofL [], fun i => isIn [31] i, fun i => frzL [(1003, 0), (1004, 0), (1005, 0), (1008, 1), (1011, 7)] i, fun _ => 0, fun _ => [], fun _ => false, fun _ => false⟩
def an9 : Ann := ⟨fun i => (ofL [] i).getD ([], []), fun i => (ofL [] i).getD [], ofL [(1, 4)], fun i => isIn [] i, fun i => frzL [(1002, 0), (1003, 0)] i, fun _ => 0, fun _ => [], fun _ => false, fun _ => false⟩
def an10 : Ann := ⟨fun i => (ofL [] i).getD ([], []), fun i => (ofL [] i).getD [], ofL [], fun i => isIn [] i, fun i => frzL [(1003, 0), (1004, 0), (1008, 1), (1010, 6), (1012, 7)] i, fun _ => 0, fun _ => [], fun _ => false, fun _ => false⟩
def an11 : Ann := ⟨fun i => (ofL [(4, ([(2, .at 1002 0), (3, .at 1003 0), (5, (Sh.int IntKind.i64))], [(1002, [.at 0 0, (Sh.int IntKind.i64), (Sh.lst 2)]), (1003, [.at 0 0, (Sh.int IntKind.i64), (Sh.lst 2)])]))] i).getD ([], []), fun i => (ofL [(4, [(none, ([(4, Sh.bool)], [])), (some 0, ([], []))])] i).getD [], ofL [(1, 19)], fun i => isIn [] i, fun i => frzL [(1002, 0), (1003, 0)] i, fun _ => 0, fun _ => [], fun _ => false, fun _ => false⟩
def an12 : Ann := ⟨fun i => (ofL [(17, ([(2, .at 1002 0), (4, .at 1004 0), (7, .at 1007 0), (9, (Sh.int IntKind.i64)), (10, (Sh.lst 5)), (12, (Sh.int IntKind.i64))], [(1002, [.at 0 0, (Sh.int IntKind.i64), (Sh.lst 2)]), (1004, [(Sh.int IntKind.i64), (Sh.lst 2)]), (1007, [(Sh.int IntKind.i64), (Sh.lst 5)])])), (1000028, ([(2, .at 1002 0), (4, .at 1004 0), (7, .at 1007 0)], [(1002, [.at 0 0, (Sh.int IntKind.i64), (Sh.lst 2)]), (1004, [(Sh.int IntKind.i64), (Sh.lst 2)]), (1007, [(Sh.int IntKind.i64), (Sh.lst 5)])]))] i).getD ([], []), fun i => (ofL [(17, [(some 1, ([(2, .at 1002 0), (4, .at 1004 0), (7, .at 1007 0)], [(1002, [.at 0 0, (Sh.int IntKind.i64), (Sh.lst 2)]), (1004, [(Sh.int IntKind.i64), (Sh.lst 2)]), (1007, [(Sh.int IntKind.i64), (Sh.lst 5)])]))]), (1000028, [(none, ([(4, .at 1004 0), (5, (Sh.int IntKind.i64))], [(1004, [(Sh.int IntKind.i64), (Sh.lst 2)])]))])] i).getD [], ofL [(1, 26)], fun i => isIn [28] i, fun i => frzL [(1002, 0), (1003, 0), (1013, 28)] i, fun _ => 0, fun _ => [], fun _ => false, fun _ => false⟩
def an13 : Ann := ⟨fun i => (ofL [(2, ([(1, (Sh.int IntKind.i64)), (2, .at 1002 0), (5, (Sh.int IntKind.i64))], [(1002, [.at 0 0, (Sh.int IntKind.i64), (Sh.lst 2)])]))] i).getD ([], []), fun i => (ofL [(2, [(none, ([(4, (Sh.int IntKind.i64))], [])), (some 0, ([], []))])] i).getD [], ofL [], fun i => isIn [] i, fun i => frzL [(1002, 0)] i, fun _ => 0, fun _ => [], fun _ => false, fun _ => false⟩
def an14 : Ann := ⟨fun i => (ofL [(4, ([(2, .at 1002 0), (3, .at 1003 0), (5, (Sh.int IntKind.i64))], [(1002, [.at 0 0, (Sh.int IntKind.i64), (Sh.lst 5)]), (1003, [.at 0 0, (Sh.int IntKind.i64), (Sh.lst 2)])]))] i).getD ([], []), fun i => (ofL [(4, [(none, ([(4, Sh.bool)], [])), (some 0, ([], []))])] i).getD [], ofL [(1, 24)], fun i => isIn [] i, fun i => frzL [(1002, 0), (1003, 0)] i, fun _ => 0, fun _ => [], fun _ => false, fun _ => false⟩
def an15 : Ann := ⟨fun i => (ofL [] i).getD ([], []), fun i => (ofL [] i).getD [], ofL [], fun i => isIn [] i, fun i => frzL [(1005, 0), (1006, 0), (1007, 0), (1012, 1), (1014, 4), (1015, 7)] i, fun _ => 0, fun i => (ofL [(14, [16])] i).getD [], fun _ => false, fun _ => false⟩
def an16 : Ann := ⟨fun i => (ofL [(2, ([(0, (Sh.lst 16)), (3, (Sh.int IntKind.i64))], []))] i).getD ([], []), fun i => (ofL [(2, [(none, ([(2, Sh.bool)], [])), (some 0, ([(0, (Sh.lst 16))], []))])] i).getD [], ofL [(2, 11), (4, 29)], fun i => isIn [] i, fun i => frzL [] i, fun _ => 0, fun _ => [], fun _ => false, fun _ => false⟩
def an17 : Ann := ⟨fun i => (ofL [] i).getD ([], []), fun i => (ofL [] i).getD [], ofL [(1, 25)], fun i => isIn [] i, fun i => frzL [(1002, 0), (1003, 0)] i, fun _ => 0, fun i => (ofL [(14, [6])] i).getD [], fun i => isIn [62] i, fun i => isIn [60] i⟩
def an18 : Ann := ⟨fun i => (ofL [] i).getD ([], []), fun i => (ofL [] i).getD [], ofL [(2, 25)], fun i => isIn [] i, fun i => frzL [(1003, 0), (1004, 0), (1009, 1)] i, fun _ => 0, fun _ => [], fun _ => false, fun _ => false⟩
def an19 : Ann := ⟨fun i => (ofL [(7, ([(2, .at 1002 0), (6, .uq 1), (24, (Sh.lst 2)), (25, (Sh.int IntKind.i64)), (26, (Sh.int IntKind.i64))], [(1002, [.at 0 0, (Sh.int IntKind.i64), (Sh.lst 5)])]))] i).getD ([], []), fun i => (ofL [(7, [(none, ([(4, (Sh.lst 1)), (5, (Sh.int IntKind.i64))], [])), (some 1, ([(6, .uq 1)], []))])] i).getD [], ofL [], fun i => isIn [] i, fun i => frzL [(1002, 0), (1003, 0), (1008, 8)] i, fun _ => 0, fun _ => [], fun _ => false, fun i => isIn [48] i⟩
def an20 : Ann := ⟨fun i => (ofL [] i).getD ([], []), fun i => (ofL [] i).getD [], ofL [], fun i => isIn [] i, fun i => frzL [(1004, 0), (1005, 0), (1008, 5), (1011, 9)] i, fun _ => 0, fun _ => [], fun _ => false, fun _ => false⟩
def an20n : Ann := ⟨fun i => (ofL [] i).getD ([], []), fun i => (ofL [] i).getD [], ofL [], fun i => isIn [] i, fun i => frzL [(1004, 0), (1005, 0), (1008, 5), (1011, 9)] i, fun _ => 0, fun _ => [], fun _ => false, fun _ => false⟩
def an21 : Ann := ⟨fun i => (ofL [(3, ([(2, .at 1002 0), (3, .at 1003 0), (5, (Sh.own 1)), (6, (Sh.int IntKind.i64))], [(1002, [.at 0 0, (Sh.int IntKind.i64), (Sh.lst 5)]), (1003, [.at 0 0, (Sh.int IntKind.i64), (Sh.lst 2)])]))] i).getD ([], []), fun i => (ofL [(3, [(some 0, ([(5, (Sh.own 1))], []))])] i).getD [], ofL [], fun i => isIn [] i, fun i => frzL [(1002, 0), (1003, 0)] i, fun _ => 0, fun _ => [], fun _ => false, fun _ => false⟩
def an22 : Ann := ⟨fun i => (ofL [(2, ([(1, (Sh.int IntKind.i64)), (2, .at 1002 0), (5, (Sh.int IntKind.i64))], [(1002, [.at 0 0, (Sh.int IntKind.i64), (Sh.lst 5)])]))] i).getD ([], []), fun i => (ofL [(2, [(none, ([(4, (Sh.int IntKind.i64))], [])), (some 0, ([], []))])] i).getD [], ofL [], fun i => isIn [] i, fun i => frzL [(1002, 0)] i, fun _ => 0, fun _ => [], fun _ => false, fun _ => false⟩
def an23 : Ann := ⟨fun i => (ofL [] i).getD ([], []), fun i => (ofL [] i).getD [], ofL [], fun i => isIn [] i, fun i => frzL [(1005, 0)] i, fun _ => 0, fun _ => [], fun _ => false, fun _ => false⟩
def an24 : Ann := ⟨fun i => (ofL [(7, ([(2, .at 1002 0), (9, (Sh.int IntKind.i64)), (10, (Sh.lst 1)), (11, (Sh.int IntKind.i64))], [(1002, [.at 0 0, (Sh.int IntKind.i64), (Sh.int IntKind.i64), (Sh.int IntKind.i64), (Sh.int IntKind.i64), (Sh.int IntKind.i64)])]))] i).getD ([], []), fun i => (ofL [(7, [(some 0, ([(10, (Sh.lst 1))], []))])] i).getD [], ofL [], fun i => isIn [] i, fun i => frzL [(1002, 0), (1003, 0)] i, fun _ => 0, fun _ => [], fun _ => false, fun _ => false⟩
def an27 : Ann := ⟨fun i => (ofL [(2, ([(1, (Sh.int IntKind.i64)), (4, .at 1004 0), (9, (Sh.lst 2)), (10, (Sh.int IntKind.i64)), (11, (Sh.int IntKind.i64))], [(1004, [(Sh.int IntKind.i64), (Sh.lst 5)])]))] i).getD ([], []), fun i => (ofL [(2, [(none, ([(4, .at 1004 0), (5, Sh.bool)], [(1004, [(Sh.int IntKind.i64), (Sh.lst 5)])])), (some 0, ([(4, .at 1004 0)], [(1004, [(Sh.int IntKind.i64), (Sh.lst 5)])]))])] i).getD [], ofL [], fun i => isIn [] i, fun i => frzL [(1002, 0), (1007, 3)] i, fun _ => 0, fun _ => [], fun _ => false, fun _ => false⟩
def an28 : Ann := ⟨fun i => (ofL [(5, ([(1, (Sh.lst 1)), (4, .at 1004 0), (6, .at 1006 0), (20, (Sh.lst 5)), (21, (Sh.int IntKind.i64)), (22, (Sh.int IntKind.i64))], [(1004, [(Sh.int IntKind.i64), (Sh.lst 2)]), (1006, [.int .i64, .own 2])]))] i).getD ([], []), fun i => (ofL [(5, [(none, ([(4, .at 1004 0), (5, (Sh.int IntKind.i64))], [(1004, [(Sh.int IntKind.i64), (Sh.lst 2)])])), (some 0, ([(1, (Sh.lst 1)), (4, .at 1004 0), (6, .at 1006 0)], [(1004, [(Sh.int IntKind.i64), (Sh.lst 2)]), (1006, [.int .i64, .own 2])]))])] i).getD [], ofL [], fun i => isIn [] i, fun i => frzL [(1002, 0), (1008, 6), (1009, 7)] i, fun _ => 0, fun _ => [], fun _ => false, fun _ => false⟩
def an29 : Ann := ⟨fun i => (ofL [(4, ([(1, .at 1001 0), (3, (Sh.int IntKind.i64))], [(1001, [.at 0 0, (Sh.int IntKind.i64), (Sh.lst 2)])]))] i).getD ([], []), fun i => (ofL [(4, [(none, ([(2, Sh.bool)], [])), (some 0, ([], []))])] i).getD [], ofL [(1, 17)], fun i => isIn [] i, fun i => frzL [(1001, 0)] i, fun _ => 0, fun _ => [], fun _ => false, fun _ => false⟩
def an30 : Ann := ⟨fun i => (ofL [] i).getD ([], []), fun i => (ofL [] i).getD [], ofL [(1, 40), (3, 61), (5, 77), (7, 94), (9, 110), (11, 2)], fun i => isIn [] i, fun i => frzL [(1001, 0)] i, fun _ => 0, fun _ => [], fun _ => false, fun _ => false⟩
def an31 : Ann := ⟨fun i => (ofL [] i).getD ([], []), fun i => (ofL [] i).getD [], ofL [(9, 32), (11, 60), (13, 84)], fun i => isIn [] i, fun i => frzL [(1002, 0), (1003, 0), (1006, 8)] i, fun _ => 0, fun _ => [], fun _ => false, fun _ => false⟩
def an32 : Ann := ⟨fun i => (ofL [] i).getD ([], []), fun i => (ofL [] i).getD [], ofL [], fun i => isIn [] i, fun i => frzL [(1005, 0)] i, fun _ => 0, fun _ => [], fun _ => false, fun _ => false⟩
def an33 : Ann := ⟨fun i => (ofL [] i).getD ([], []), fun i => (ofL [] i).getD [], ofL [], fun i => isIn [] i, fun i => frzL [(1003, 0), (1008, 8), (1009, 13), (1010, 14)] i, fun _ => 0, fun _ => [], fun _ => false, fun _ => false⟩
def an35 : Ann := ⟨fun i => (ofL [(4, ([(2, .at 1002 0), (3, .at 1003 0), (4, .at 1004 0), (5, .at 1005 0), (6, Sh.bool), (7, (Sh.int IntKind.i64))], [(1002, [.at 0 0, (Sh.int IntKind.i64), (Sh.lst 2)]), (1003, [.at 0 0, (Sh.int IntKind.i64), (Sh.lst 5)]), (1004, [(Sh.int IntKind.i64), (Sh.lst 2)]), (1005, [.int .i64, .own 2])]))] i).getD ([], []), fun i => (ofL [(4, [(some 0, ([(3, .at 1003 0), (4, .at 1004 0), (5, .at 1005 0), (6, Sh.bool)], [(1003, [.at 0 0, (Sh.int IntKind.i64), (Sh.lst 5)]), (1004, [(Sh.int IntKind.i64), (Sh.lst 2)]), (1005, [.int .i64, .own 2])]))])] i).getD [], ofL [(6, 34)], fun i => isIn [] i, fun i => frzL [(1002, 0), (1003, 0)] i, fun _ => 0, fun _ => [], fun _ => false, fun _ => false⟩
def an36 : Ann := ⟨fun i => (ofL [(4, ([(1, .at 1001 0), (3, (Sh.int IntKind.i64))], [(1001, [.at 0 0, (Sh.int IntKind.i64), (Sh.lst 5)])]))] i).getD ([], []), fun i => (ofL [(4, [(none, ([(2, Sh.bool)], [])), (some 0, ([(1, .at 1001 0)], [(1001, [.at 0 0, (Sh.int IntKind.i64), (Sh.lst 5)])]))])] i).getD [], ofL [(1, 23)], fun i => isIn [] i, fun i => frzL [(1001, 0)] i, fun _ => 0, fun _ => [], fun _ => false, fun _ => false⟩
def an37 : Ann := ⟨fun i => (ofL [] i).getD ([], []), fun i => (ofL [] i).getD [], ofL [(2, 4)], fun i => isIn [] i, fun i => frzL [(1002, 0), (1003, 0)] i, fun _ => 0, fun _ => [], fun _ => false, fun _ => false⟩
def an38 : Ann := ⟨fun i => (ofL [] i).getD ([], []), fun i => (ofL [] i).getD [], ofL [], fun i => isIn [] i, fun i => frzL [(1002, 0), (1003, 0), (1006, 1), (1008, 4), (1011, 26)] i, fun _ => 0, fun _ => [], fun _ => false, fun i => isIn [108] i⟩
def an39 : Ann := ⟨fun i => (ofL [] i).getD ([], []), fun i => (ofL [] i).getD [], ofL [(8, 44)], fun i => isIn [] i, fun i => frzL [] i, fun _ => 0, fun _ => [], fun _ => false, fun _ => false⟩
def an39n : Ann := ⟨fun i => (ofL [] i).getD ([], []), fun i => (ofL [] i).getD [], ofL [(8, 44)], fun i => isIn [] i, fun i => frzL [] i, fun _ => 0, fun _ => [], fun _ => false, fun _ => false⟩
def an40 : Ann := ⟨fun i => (ofL [(5, ([(3, (Sh.int IntKind.i64)), (21, (Sh.lst 2)), (22, (Sh.int IntKind.i64)), (23, (Sh.int IntKind.i64))], []))] i).getD ([], []), fun i => (ofL [(5, [(none, ([(2, Sh.bool)], [])), (some 0, ([], []))])] i).getD [], ofL [(1, 19), (7, 35)], fun i => isIn [] i, fun i => frzL [(1001, 0), (1005, 6)] i, fun _ => 0, fun _ => [], fun _ => false, fun _ => false⟩
def an41 : Ann := ⟨fun i => (ofL [(3, ([(1, .at 1001 0), (3, (Sh.lst 1)), (9, (Sh.lst 1)), (10, (Sh.int IntKind.i64)), (11, (Sh.int IntKind.i64))], [(1001, [.at 0 0, (Sh.int IntKind.i64), (Sh.int IntKind.i64), (Sh.int IntKind.i64), (Sh.int IntKind.i64), (Sh.int IntKind.i64), (Sh.int IntKind.i64), (Sh.int IntKind.i64), (Sh.int IntKind.i64), (Sh.int IntKind.i64), (Sh.int IntKind.i64), (Sh.int IntKind.i64), (Sh.int IntKind.i64), (Sh.int IntKind.i64), Sh.str, (Sh.lst 1), (Sh.lst 5)])]))] i).getD ([], []), fun i => (ofL [(3, [(none, ([(2, Sh.bool)], [])), (some 0, ([(1, .at 1001 0), (3, (Sh.lst 1))], [(1001, [.at 0 0, (Sh.int IntKind.i64), (Sh.int IntKind.i64), (Sh.int IntKind.i64), (Sh.int IntKind.i64), (Sh.int IntKind.i64), (Sh.int IntKind.i64), (Sh.int IntKind.i64), (Sh.int IntKind.i64), (Sh.int IntKind.i64), (Sh.int IntKind.i64), (Sh.int IntKind.i64), (Sh.int IntKind.i64), (Sh.int IntKind.i64), Sh.str, (Sh.lst 1), (Sh.lst 5)])]))])] i).getD [], ofL [], fun i => isIn [] i, fun i => frzL [(1001, 0)] i, fun _ => 0, fun _ => [], fun _ => false, fun _ => false⟩
def an42 : Ann := ⟨fun i => (ofL [(3, ([(2, .at 1002 0), (3, .at 1003 0), (10, (Sh.lst 2)), (11, (Sh.int IntKind.i64)), (12, (Sh.int IntKind.i64))], [(1002, [(Sh.int IntKind.i64), (Sh.lst 2)]), (1003, [.int .i64, .uq 2])]))] i).getD ([], []), fun i => (ofL [(3, [(some 0, ([(2, .at 1002 0), (3, .at 1003 0)], [(1002, [(Sh.int IntKind.i64), (Sh.lst 2)]), (1003, [.int .i64, .uq 2])]))])] i).getD [], ofL [], fun i => isIn [] i, fun i => frzL [(1001, 0), (1005, 4)] i, fun _ => 0, fun _ => [], fun i => isIn [25] i, fun i => isIn [22] i⟩
def an43 : Ann := ⟨fun i => (ofL [(1000020, ([(0, .at 0 0), (4, .at 1004 0), (5, (Sh.int IntKind.i64))], [(0, [.int .i64, .int .i64, .int .i64, .int .i64, .int .i64, .int .i64, .int .i64, .int .i64, .int .i64, .int .i64, .int .i64, .int .i64, .int .i64, .str, .lst 1, .lst 5, .int .i64, .uq 2, .int .i64, .int .i64]), (1004, [.at 0 0, (Sh.int IntKind.i64), (Sh.lst 5)])]))] i).getD ([], []), fun i => (ofL [(1000020, [(none, ([(2, (Sh.int IntKind.i64))], [(0, [.int .i64, .int .i64, .int .i64, .int .i64, .int .i64, .int .i64, .int .i64, .int .i64, .int .i64, .int .i64, .int .i64, .int .i64, .int .i64, .str, .lst 1, .lst 5, .int .i64, .uq 2, .int .i64, .int .i64])]))])] i).getD [], ofL [(22, 78), (24, 87), (25, 87)], fun i => isIn [20] i, fun i => frzL [(1004, 8)] i, fun _ => 0, fun _ => [], fun _ => false, fun _ => false⟩
def an43n : Ann := ⟨fun i => (ofL [(1000020, ([(0, .nilp), (4, .at 1004 0), (5, (Sh.int IntKind.i64))], [(1004, [.at 0 0, (Sh.int IntKind.i64), (Sh.lst 5)])]))] i).getD ([], []), fun i => (ofL [(1000020, [(none, ([(2, (Sh.int IntKind.i64))], []))])] i).getD [], ofL [(22, 78), (24, 87), (25, 87)], fun i => isIn [20] i, fun i => frzL [(1004, 8)] i, fun _ => 0, fun _ => [], fun _ => false, fun _ => false⟩
def an45 : Ann := ⟨fun i => (ofL [] i).getD ([], []), fun i => (ofL [] i).getD [], ofL [], fun i => isIn [] i, fun i => frzL [] i, fun _ => 0, fun _ => [], fun i => isIn [5, 7] i, fun _ => false⟩
def an47 : Ann := ⟨fun i => (ofL [] i).getD ([], []), fun i => (ofL [] i).getD [], ofL [], fun i => isIn [] i, fun i => frzL [(1004, 3)] i, fun _ => 0, fun i => (ofL [(9, [3])] i).getD [], fun i => isIn [36] i, fun _ => false⟩
def an47n : Ann := ⟨fun i => (ofL [] i).getD ([], []), fun i => (ofL [] i).getD [], ofL [], fun i => isIn [] i, fun i => frzL [(1004, 3)] i, fun _ => 0, fun i => (ofL [(9, [3])] i).getD [], fun i => isIn [36] i, fun _ => false⟩
def an48 : Ann := ⟨fun i => (ofL [] i).getD ([], []), fun i => (ofL [] i).getD [], ofL [(1, 4)], fun i => isIn [] i, fun i => frzL [(1002, 0), (1003, 0)] i, fun _ => 0, fun _ => [], fun _ => false, fun _ => false⟩
def an49 : Ann := ⟨fun i => (ofL [] i).getD ([], []), fun i => (ofL [] i).getD [], ofL [], fun i => isIn [] i, fun i => frzL [] i, fun _ => 0, fun _ => [], fun i => isIn [5, 7] i, fun _ => false⟩
def an50 : Ann := ⟨fun i => (ofL [] i).getD ([], []), fun i => (ofL [] i).getD [], ofL [], fun i => isIn [] i, fun i => frzL [(1002, 0), (1003, 0)] i, fun _ => 0, fun _ => [], fun _ => false, fun _ => false⟩
def an51 : Ann := ⟨fun i => (ofL [(5, ([(3, .at 1003 0), (32, (Sh.lst 5)), (33, (Sh.int IntKind.i64)), (34, (Sh.int IntKind.i64))], [(1003, [Sh.arr])]))] i).getD ([], []), fun i => (ofL [(5, [(none, ([(2, Sh.bool)], [])), (some 0, ([], []))])] i).getD [], ofL [(1, 30), (7, 46)], fun i => isIn [] i, fun i => frzL [(1001, 0), (1005, 6)] i, fun _ => 0, fun _ => [], fun _ => false, fun _ => false⟩
def an52 : Ann := ⟨fun i => (ofL [(3, ([(3, (Sh.int IntKind.i64)), (7, (Sh.lst 5)), (8, (Sh.int IntKind.i64)), (9, (Sh.int IntKind.i64))], []))] i).getD ([], []), fun i => (ofL [(3, [(some 0, ([(3, (Sh.int IntKind.i64))], []))])] i).getD [], ofL [], fun i => isIn [] i, fun i => frzL [(1001, 0), (1005, 4)] i, fun _ => 0, fun _ => [], fun _ => false, fun _ => false⟩
def an53 : Ann := ⟨fun i => (ofL [(10, ([(8, .uq 1), (9, (Sh.int IntKind.i64)), (10, (Sh.int IntKind.i64))], []))] i).getD ([], []), fun i => (ofL [(10, [(some 1, ([(8, .uq 1)], []))])] i).getD [], ofL [], fun i => isIn [] i, fun i => frzL [(1002, 0), (1003, 0)] i, fun _ => 0, fun _ => [], fun _ => false, fun i => isIn [59] i⟩
def an54 : Ann := ⟨fun i => (ofL [] i).getD ([], []), fun i => (ofL [] i).getD [], ofL [], fun i => isIn [] i, fun i => frzL [(1005, 0)] i, fun _ => 0, fun _ => [], fun i => isIn [13] i, fun _ => false⟩
def an54n : Ann := ⟨fun i => (ofL [] i).getD ([], []), fun i => (ofL [] i).getD [], ofL [], fun i => isIn [] i, fun i => frzL [(1005, 0)] i, fun _ => 0, fun _ => [], fun i => isIn [13] i, fun _ => false⟩
def an55 : Ann := ⟨fun i => (ofL [] i).getD ([], []), fun i => (ofL [] i).getD [], ofL [], fun i => isIn [] i, fun i => frzL [(1003, 1)] i, fun _ => 0, fun _ => [], fun _ => false, fun _ => false⟩
def an55n : Ann := ⟨fun i => (ofL [] i).getD ([], []), fun i => (ofL [] i).getD [], ofL [], fun i => isIn [] i, fun i => frzL [(1003, 1)] i, fun _ => 0, fun _ => [], fun _ => false, fun _ => false⟩
def an57 : Ann := ⟨fun i => (ofL [] i).getD ([], []), fun i => (ofL [] i).getD [], ofL [(1, 6)], fun i => isIn [] i, fun i => frzL [(1001, 0)] i, fun _ => 0, fun _ => [], fun _ => false, fun _ => false⟩
def an58 : Ann := ⟨fun i => (ofL [] i).getD ([], []), fun i => (ofL [] i).getD [], ofL [], fun i => isIn [] i, fun i => frzL [(1001, 0)] i, fun _ => 0, fun _ => [], fun _ => false, fun _ => false⟩
def an59 : Ann := ⟨fun i => (ofL [(10, ([(1, (Sh.lst 1)), (2, .at 1002 0), (4, .at 1004 0), (7, (Sh.int IntKind.i64)), (8, Sh.bool), (9, (Sh.int IntKind.i64)), (31, (Sh.lst 1)), (32, (Sh.int IntKind.i64)), (33, (Sh.int IntKind.i64))], [(1002, [.at 0 0, (Sh.int IntKind.i64), (Sh.int IntKind.i64), (Sh.int IntKind.i64), (Sh.int IntKind.i64), (Sh.int IntKind.i64)]), (1004, [(Sh.int IntKind.i64), Sh.str])])), (1000006, ([(1, (Sh.lst 1)), (2, .at 1002 0), (4, .at 1004 0), (7, (Sh.int IntKind.i64)), (8, Sh.bool)], [(1002, [.at 0 0, (Sh.int IntKind.i64), (Sh.int IntKind.i64), (Sh.int IntKind.i64), (Sh.int IntKind.i64), (Sh.int IntKind.i64)]), (1004, [(Sh.int IntKind.i64), Sh.str])]))] i).getD ([], []), fun i => (ofL [(10, [(some 0, ([(1, (Sh.lst 1)), (2, .at 1002 0), (4, .at 1004 0), (7, (Sh.int IntKind.i64)), (8, Sh.bool), (9, (Sh.int IntKind.i64))], [(1002, [.at 0 0, (Sh.int IntKind.i64), (Sh.int IntKind.i64), (Sh.int IntKind.i64), (Sh.int IntKind.i64), (Sh.int IntKind.i64)]), (1004, [(Sh.int IntKind.i64), Sh.str])]))]), (1000006, [(none, ([(4, .at 1004 0), (5, (Sh.int IntKind.i64)), (6, (Sh.int IntKind.i64))], [(1004, [(Sh.int IntKind.i64), Sh.str])]))])] i).getD [], ofL [(15, 48)], fun i => isIn [6] i, fun i => frzL [(1002, 0)] i, fun _ => 0, fun _ => [], fun _ => false, fun _ => false⟩
def an60 : Ann := ⟨fun i => (ofL [(1000004, ([(3, (Sh.int IntKind.i64)), (4, Sh.bool)], [])), (1000009, ([(3, (Sh.int IntKind.i64)), (9, Sh.bool)], []))] i).getD ([], []), fun i => (ofL [(1000004, [(some 50000, ([], [])), (none, ([(2, Sh.str)], []))]), (1000009, [(some 50000, ([], [])), (none, ([(2, Sh.str)], []))])] i).getD [], ofL [], fun i => isIn [4, 9] i, fun i => frzL [] i, fun _ => 0, fun _ => [], fun _ => false, fun _ => false⟩
def an61 : Ann := ⟨fun i => (ofL [] i).getD ([], []), fun i => (ofL [] i).getD [], ofL [(1, 3), (2, 3), (3, 3), (4, 2)], fun i => isIn [] i, fun i => frzL [(1001, 0)] i, fun _ => 0, fun _ => [], fun _ => false, fun _ => false⟩
def an62 : Ann := ⟨fun i => (ofL [] i).getD ([], []), fun i => (ofL [] i).getD [], ofL [(1, 6)], fun i => isIn [] i, fun i => frzL [] i, fun _ => 0, fun _ => [], fun _ => false, fun _ => false⟩
def an63 : Ann := ⟨fun i => (ofL [] i).getD ([], []), fun i => (ofL [] i).getD [], ofL [(1, 10), (2, 2), (3, 31), (6, 2)], fun i => isIn [] i, fun i => frzL [(1001, 0)] i, fun _ => 0, fun _ => [], fun _ => false, fun _ => false⟩
def an64 : Ann := ⟨fun i => (ofL [(3, ([(1, (Sh.int IntKind.u8)), (5, Sh.str), (6, (Sh.int IntKind.i64))], []))] i).getD ([], []), fun i => (ofL [(3, [(none, ([(4, Sh.bool)], [])), (some 0, ([], []))])] i).getD [], ofL [], fun i => isIn [] i, fun i => frzL [] i, fun _ => 0, fun _ => [], fun _ => false, fun _ => false⟩
def an65 : Ann := ⟨fun i => (ofL [] i).getD ([], []), fun i => (ofL [] i).getD [], ofL [], fun i => isIn [] i, fun i => frzL [(1001, 0)] i, fun _ => 0, fun _ => [], fun _ => false, fun _ => false⟩
def an66 : Ann := ⟨fun i => (ofL [] i).getD ([], []), fun i => (ofL [] i).getD [], ofL [(1, 2)], fun i => isIn [] i, fun i => frzL [] i, fun _ => 0, fun _ => [], fun _ => false, fun _ => false⟩
def an67 : Ann := ⟨fun i => (ofL [] i).getD ([], []), fun i => (ofL [] i).getD [], ofL [(3, 4)], fun i => isIn [] i, fun i => frzL [(1002, 0), (1003, 0)] i, fun _ => 0, fun _ => [], fun _ => false, fun _ => false⟩
def an68 : Ann := ⟨fun i => (ofL [(3, ([(1, .at 1001 0), (3, (Sh.int IntKind.i64)), (4, (Sh.int IntKind.i64))], [(1001, [.at 0 0, (Sh.int IntKind.i64), (Sh.lst 5)])]))] i).getD ([], []), fun i => (ofL [(3, [(some 0, ([(3, (Sh.int IntKind.i64))], []))])] i).getD [], ofL [], fun i => isIn [] i, fun i => frzL [(1001, 0)] i, fun _ => 0, fun _ => [], fun _ => false, fun _ => false⟩
def an69 : Ann := ⟨fun i => (ofL [] i).getD ([], []), fun i => (ofL [] i).getD [], ofL [], fun i => isIn [] i, fun i => frzL [(1002, 0), (1003, 0), (1006, 1)] i, fun _ => 0, fun _ => [], fun _ => false, fun _ => false⟩
def an72 : Ann := ⟨fun i => (ofL [] i).getD ([], []), fun i => (ofL [] i).getD [], ofL [(5, 4)], fun i => isIn [] i, fun i => frzL [(1002, 0), (1003, 0)] i, fun _ => 0, fun _ => [], fun _ => false, fun _ => false⟩
def an73 : Ann := ⟨fun i => (ofL [(2, ([(0, (Sh.lst 1)), (1, Sh.any), (7, (Sh.int IntKind.i64)), (8, (Sh.int IntKind.i64))], []))] i).getD ([], []), fun i => (ofL [(2, [(none, ([(4, (Sh.int IntKind.i64))], [])), (some 0, ([], []))])] i).getD [], ofL [], fun i => isIn [] i, fun i => frzL [] i, fun _ => 0, fun _ => [], fun _ => false, fun _ => false⟩
def an75 : Ann := ⟨fun i => (ofL [(1000004, ([(3, (Sh.int IntKind.i64)), (4, Sh.bool)], [])), (1000009, ([(3, (Sh.int IntKind.i64)), (11, Sh.bool)], []))] i).getD ([], []), fun i => (ofL [(1000004, [(some 50000, ([], [])), (none, ([(2, (Sh.lst 1))], []))]), (1000009, [(some 50000, ([], [])), (none, ([(2, (Sh.lst 1))], []))])] i).getD [], ofL [], fun i => isIn [4, 9] i, fun i => frzL [] i, fun _ => 0, fun _ => [], fun _ => false, fun _ => false⟩
def an76 : Ann := ⟨fun i => (ofL [] i).getD ([], []), fun i => (ofL [] i).getD [], ofL [(9, 4), (11, 4), (13, 4), (15, 5), (16, 4), (19, 4)], fun i => isIn [] i, fun i => frzL [(1002, 0)] i, fun _ => 0, fun _ => [], fun _ => false, fun _ => false⟩
def an77 : Ann := ⟨fun i => (ofL [] i).getD ([], []), fun i => (ofL [] i).getD [], ofL [(1, 5), (3, 4)], fun i => isIn [] i, fun i => frzL [(1002, 0), (1003, 0), (1006, 2)] i, fun _ => 0, fun _ => [], fun _ => false, fun _ => false⟩
def an78 : Ann := ⟨fun i => (ofL [(3, ([(1, .at 1001 0), (2, .at 1002 0), (3, .at 1003 0), (11, (Sh.lst 1)), (12, (Sh.int IntKind.i64)), (13, (Sh.int IntKind.i64))], [(1001, [.at 0 0, (Sh.int IntKind.i64), (Sh.int IntKind.i64), (Sh.int IntKind.i64), (Sh.int IntKind.i64), (Sh.int IntKind.i64), (Sh.int IntKind.i64), (Sh.int IntKind.i64), (Sh.int IntKind.i64), (Sh.int IntKind.i64), (Sh.int IntKind.i64), (Sh.int IntKind.i64), (Sh.int IntKind.i64), (Sh.int IntKind.i64), Sh.str, (Sh.lst 1), (Sh.lst 5)]), (1002, [(Sh.int IntKind.i64), (Sh.int IntKind.i64), (Sh.int IntKind.i64), (Sh.int IntKind.i64), (Sh.int IntKind.i64), (Sh.int IntKind.i64), (Sh.int IntKind.i64), (Sh.int IntKind.i64), (Sh.int IntKind.i64), (Sh.int IntKind.i64), (Sh.int IntKind.i64), (Sh.int IntKind.i64), (Sh.int IntKind.i64), Sh.str, (Sh.lst 1), (Sh.lst 5)]), (1003, [(Sh.int IntKind.i64), (Sh.int IntKind.i64), (Sh.int IntKind.i64), (Sh.int IntKind.i64), (Sh.int IntKind.i64), (Sh.int IntKind.i64), (Sh.int IntKind.i64), (Sh.int IntKind.i64), (Sh.int IntKind.i64), (Sh.int IntKind.i64), (Sh.int IntKind.i64), (Sh.int IntKind.i64), (Sh.int IntKind.i64), Sh.str, (Sh.lst 1), (Sh.lst 5)])]))] i).getD ([], []), fun i => (ofL [(3, [(some 0, ([(2, .at 1002 0), (3, .at 1003 0)], [(1002, [(Sh.int IntKind.i64), (Sh.int IntKind.i64), (Sh.int IntKind.i64), (Sh.int IntKind.i64), (Sh.int IntKind.i64), (Sh.int IntKind.i64), (Sh.int IntKind.i64), (Sh.int IntKind.i64), (Sh.int IntKind.i64), (Sh.int IntKind.i64), (Sh.int IntKind.i64), (Sh.int IntKind.i64), (Sh.int IntKind.i64), Sh.str, (Sh.lst 1), (Sh.lst 5)]), (1003, [(Sh.int IntKind.i64), (Sh.int IntKind.i64), (Sh.int IntKind.i64), (Sh.int IntKind.i64), (Sh.int IntKind.i64), (Sh.int IntKind.i64), (Sh.int IntKind.i64), (Sh.int IntKind.i64), (Sh.int IntKind.i64), (Sh.int IntKind.i64), (Sh.int IntKind.i64), (Sh.int IntKind.i64), (Sh.int IntKind.i64), Sh.str, (Sh.lst 1), (Sh.lst 5)])]))])] i).getD [], ofL [], fun i => isIn [] i, fun i => frzL [(1001, 0)] i, fun _ => 0, fun _ => [], fun _ => false, fun _ => false⟩
def an79 : Ann := ⟨fun i => (ofL [(2, ([(0, .at 0 0)], [(0, [.int .i64, .int .i64, .int .i64, .int .i64, .int .i64, .int .i64, .int .i64, .int .i64, .int .i64, .int .i64, .int .i64, .int .i64, .int .i64, .str, .lst 1, .lst 5, .int .i64, .uq 2, .int .i64, .int .i64])]))] i).getD ([], []), fun i => (ofL [(2, [(some 0, ([(0, .at 0 0)], [(0, [.int .i64, .int .i64, .int .i64, .int .i64, .int .i64, .int .i64, .int .i64, .int .i64, .int .i64, .int .i64, .int .i64, .int .i64, .int .i64, .str, .lst 1, .lst 5, .int .i64, .uq 2, .int .i64, .int .i64])]))])] i).getD [], ofL [(2, 36), (4, 2)], fun i => isIn [] i, fun i => frzL [] i, fun _ => 0, fun _ => [], fun _ => false, fun _ => false⟩
def an79n : Ann := ⟨fun i => (ofL [(2, ([(0, .nilp)], []))] i).getD ([], []), fun i => (ofL [(2, [(some 0, ([(0, .nilp)], []))])] i).getD [], ofL [(2, 36), (4, 2)], fun i => isIn [] i, fun i => frzL [] i, fun _ => 0, fun _ => [], fun _ => false, fun _ => false⟩
def an86 : Ann := ⟨fun i => (ofL [] i).getD ([], []), fun i => (ofL [] i).getD [], ofL [(16, 9), (21, 11)], fun i => isIn [] i, fun i => frzL [(1005, 1), (1010, 20)] i, fun _ => 0, fun _ => [], fun i => isIn [21, 36, 57, 76, 105, 111] i, fun _ => false⟩
def an86n : Ann := ⟨fun i => (ofL [] i).getD ([], []), fun i => (ofL [] i).getD [], ofL [(16, 9), (21, 11)], fun i => isIn [] i, fun i => frzL [(1005, 1), (1010, 20)] i, fun _ => 0, fun _ => [], fun i => isIn [21, 36, 57, 76, 105, 111] i, fun _ => false⟩
def an88 : Ann := ⟨fun i => (ofL [(4, ([(1, (Sh.lst 5)), (2, Sh.any), (15, (Sh.lst 2)), (16, (Sh.int IntKind.i64)), (17, (Sh.int IntKind.i64))], []))] i).getD ([], []), fun i => (ofL [(4, [(none, ([(6, Sh.bool)], [])), (some 0, ([], []))])] i).getD [], ofL [], fun i => isIn [] i, fun i => frzL [(1008, 5), (1009, 6)] i, fun _ => 0, fun _ => [], fun _ => false, fun _ => false⟩
def an89 : Ann := ⟨fun i => (ofL [] i).getD ([], []), fun i => (ofL [] i).getD [], ofL [], fun i => isIn [] i, fun i => frzL [(1002, 0), (1003, 0)] i, fun _ => 0, fun _ => [], fun _ => false, fun _ => false⟩
def an90 : Ann := ⟨fun i => (ofL [(2, ([(0, (Sh.lst 5)), (1, Sh.any), (7, (Sh.int IntKind.i64)), (8, (Sh.int IntKind.i64))], []))] i).getD ([], []), fun i => (ofL [(2, [(none, ([(4, (Sh.int IntKind.i64))], [])), (some 0, ([], []))])] i).getD [], ofL [], fun i => isIn [] i, fun i => frzL [] i, fun _ => 0, fun _ => [], fun _ => false, fun _ => false⟩
def an91 : Ann := ⟨fun i => (ofL [] i).getD ([], []), fun i => (ofL [] i).getD [], ofL [], fun i => isIn [] i, fun i => frzL [(1002, 0)] i, fun _ => 0, fun _ => [], fun _ => false, fun _ => false⟩
def an92 : Ann := ⟨fun i => (ofL [] i).getD ([], []), fun i => (ofL [] i).getD [], ofL [(1, 11), (3, 3), (6, 2), (8, 2), (10, 2), (12, 2)], fun i => isIn [] i, fun i => frzL [(1001, 0)] i, fun _ => 0, fun _ => [], fun _ => false, fun _ => false⟩
def an93 : Ann := ⟨fun i => (ofL [] i).getD ([], []), fun i => (ofL [] i).getD [], ofL [], fun i => isIn [] i, fun i => frzL [(1001, 0)] i, fun _ => 0, fun _ => [], fun _ => false, fun _ => false⟩
def an94 : Ann := ⟨fun i => (ofL [] i).getD ([], []), fun i => (ofL [] i).getD [], ofL [], fun i => isIn [] i, fun i => frzL [(1001, 0)] i, fun _ => 0, fun _ => [], fun _ => false, fun _ => false⟩
def an95 : Ann := ⟨fun i => (ofL [] i).getD ([], []), fun i => (ofL [] i).getD [], ofL [], fun i => isIn [] i, fun i => frzL [(1001, 0)] i, fun _ => 0, fun _ => [], fun _ => false, fun _ => false⟩
def an98 : Ann := ⟨fun i => (ofL [(2, ([(0, (Sh.int IntKind.i64)), (3, (Sh.int IntKind.i64))], []))] i).getD ([], []), fun i => (ofL [(2, [(some 0, ([(3, (Sh.int IntKind.i64))], []))])] i).getD [], ofL [], fun i => isIn [] i, fun i => frzL [] i, fun _ => 0, fun _ => [], fun _ => false, fun _ => false⟩
def an99 : Ann := ⟨fun i => (ofL [(7, ([(0, (Sh.lst 1)), (1, (Sh.int IntKind.i64)), (5, (Sh.int IntKind.i64)), (6, (Sh.int IntKind.i64))], [])), (2, ([(0, (Sh.lst 1)), (1, (Sh.int IntKind.i64)), (5, (Sh.int IntKind.i64))], []))] i).getD ([], []), fun i => (ofL [(7, [(none, ([(4, Sh.bool)], [])), (some 2, ([(0, (Sh.lst 1)), (1, (Sh.int IntKind.i64)), (5, (Sh.int IntKind.i64))], []))]), (2, [(none, ([(4, Sh.bool)], [])), (some 0, ([(0, (Sh.lst 1))], []))])] i).getD [], ofL [(11, 4)], fun i => isIn [] i, fun i => frzL [] i, fun _ => 0, fun _ => [], fun _ => false, fun _ => false⟩
def an100 : Ann := ⟨fun i => (ofL [] i).getD ([], []), fun i => (ofL [] i).getD [], ofL [(1, 6)], fun i => isIn [] i, fun i => frzL [] i, fun _ => 0, fun _ => [], fun _ => false, fun _ => false⟩
def an101 : Ann := ⟨fun i => (ofL [(3, ([(0, (Sh.lst 1)), (1, (Sh.int IntKind.i64)), (5, .at 1005 0), (8, (Sh.lst 1)), (9, (Sh.int IntKind.i64)), (10, (Sh.int IntKind.i64))], [(1005, [Sh.arr])]))] i).getD ([], []), fun i => (ofL [(3, [(none, ([(4, Sh.bool)], [])), (some 0, ([(0, (Sh.lst 1))], []))])] i).getD [], ofL [(5, 23)], fun i => isIn [] i, fun i => frzL [] i, fun _ => 0, fun _ => [], fun _ => false, fun _ => false⟩
def an102 : Ann := ⟨fun i => (ofL [(4, ([(0, (Sh.lst 1)), (1, (Sh.lst 1)), (12, (Sh.int IntKind.i64)), (13, (Sh.int IntKind.i64))], []))] i).getD ([], []), fun i => (ofL [(4, [(none, ([(4, Sh.bool)], [])), (some 0, ([], []))])] i).getD [], ofL [], fun i => isIn [] i, fun i => frzL [] i, fun _ => 0, fun _ => [], fun _ => false, fun _ => false⟩
def an103 : Ann := ⟨fun i => (ofL [(4, ([(0, (Sh.lst 5)), (1, (Sh.lst 5)), (12, (Sh.int IntKind.i64)), (13, (Sh.int IntKind.i64))], []))] i).getD ([], []), fun i => (ofL [(4, [(none, ([(4, Sh.bool)], [])), (some 0, ([], []))])] i).getD [], ofL [], fun i => isIn [] i, fun i => frzL [] i, fun _ => 0, fun _ => [], fun _ => false, fun _ => false⟩
def an107 : Ann := ⟨fun i => (ofL [] i).getD ([], []), fun i => (ofL [] i).getD [], ofL [(1, 23), (5, 4)], fun i => isIn [] i, fun i => frzL [(1002, 0), (1003, 0)] i, fun _ => 0, fun _ => [], fun _ => false, fun _ => false⟩
def an109 : Ann := ⟨fun i => (ofL [(3, ([(0, (Sh.lst 5)), (10, (Sh.int IntKind.i64)), (11, (Sh.int IntKind.i64))], []))] i).getD ([], []), fun i => (ofL [(3, [(none, ([(4, (Sh.int IntKind.i64))], [])), (some 0, ([], []))])] i).getD [], ofL [], fun i => isIn [] i, fun i => frzL [] i, fun _ => 0, fun _ => [], fun _ => false, fun _ => false⟩
def an110 : Ann := ⟨fun i => (ofL [(2, ([(0, (Sh.int IntKind.i64)), (3, (Sh.int IntKind.i64))], []))] i).getD ([], []), fun i => (ofL [(2, [(some 0, ([(3, (Sh.int IntKind.i64))], []))])] i).getD [], ofL [], fun i => isIn [] i, fun i => frzL [] i, fun _ => 0, fun _ => [], fun _ => false, fun _ => false⟩
def an113 : Ann := ⟨fun i => (ofL [(1, ([(0, (Sh.lst 2)), (2, (Sh.int IntKind.i64)), (3, (Sh.int IntKind.i64))], []))] i).getD ([], []), fun i => (ofL [(1, [(some 0, ([], []))])] i).getD [], ofL [], fun i => isIn [] i, fun i => frzL [] i, fun _ => 0, fun _ => [], fun _ => false, fun _ => false⟩
def an116 : Ann := ⟨fun i => (ofL [(1, ([(0, (Sh.lst 5)), (2, (Sh.int IntKind.i64)), (3, (Sh.int IntKind.i64))], []))] i).getD ([], []), fun i => (ofL [(1, [(some 0, ([], []))])] i).getD [], ofL [], fun i => isIn [] i, fun i => frzL [] i, fun _ => 0, fun _ => [], fun _ => false, fun _ => false⟩
def an117 : Ann := ⟨fun i => (ofL [(1, ([(0, (Sh.lst 2)), (2, (Sh.int IntKind.i64)), (3, (Sh.int IntKind.i64))], []))] i).getD ([], []), fun i => (ofL [(1, [(some 0, ([], []))])] i).getD [], ofL [], fun i => isIn [] i, fun i => frzL [] i, fun _ => 0, fun _ => [], fun _ => false, fun _ => false⟩
def anN : Ann := ⟨fun _ => ([], []), fun _ => [], fun _ => none, fun _ => false, fun _ => [], fun _ => 0, fun _ => [], fun _ => false, fun _ => false⟩
def annT : List (Nat × Ann) := [(6, an3), (8, an4), (10, an5), (12, an6), (14, an7), (16, an8), (18, an9), (20, an10), (22, an11), (24, an12), (26, an13), (28, an14), (30, an15), (32, an16), (34, an17), (36, an18), (38, an19), (40, an20), (41, an20n), (42, an21), (44, an22), (46, an23), (48, an24), (54, an27), (56, an28), (58, an29), (60, an30), (62, an31), (64, an32), (66, an33), (70, an35), (72, an36), (74, an37), (76, an38), (78, an39), (79, an39n), (80, an40), (82, an41), (84, an42), (86, an43), (87, an43n), (90, an45), (94, an47), (95, an47n), (96, an48), (98, an49), (100, an50), (102, an51), (104, an52), (106, an53), (108, an54), (109, an54n), (110, an55), (111, an55n), (114, an57), (116, an58), (118, an59), (120, an60), (122, an61), (124, an62), (126, an63), (128, an64), (130, an65), (132, an66), (134, an67), (136, an68), (138, an69), (144, an72), (146, an73), (150, an75), (152, an76), (154, an77), (156, an78), (158, an79), (159, an79n), (172, an86), (173, an86n), (176, an88), (178, an89), (180, an90), (182, an91), (184, an92), (186, an93), (188, an94), (190, an95), (196, an98), (198, an99), (200, an100), (202, an101), (204, an102), (206, an103), (214, an107), (218, an109), (220, an110), (226, an113), (232, an116), (234, an117)]
def isNilA (v : AV) : Bool := match v with | .nilp => true | _ => false
noncomputable def E0 : Env := ⟨Tryz.prog, T0, fun f k => (ofL annT (2 * f + k)).getD anN, fun _ args => bif args.any isNilA then 1 else 0, XV0⟩
theorem zvh (f : Nat) (s : Spc) (h : spcT f = some s) : SpcOK Tryz.prog f s := by
  unfold spcT at h
  cases hb : Nat.beq f 56 with
  | true => rw [hb] at h; cases h; have := Nat.eq_of_beq_eq_true hb; subst this; exact zy1
  | false =>
  rw [hb] at h; simp only [cond_false] at h; clear hb
  cases hb : Nat.beq f 55 with
  | true => rw [hb] at h; cases h; have := Nat.eq_of_beq_eq_true hb; subst this; exact zy2
  | false =>
  rw [hb] at h; simp only [cond_false] at h; clear hb
  cases h
theorem E0_ok : EnvOK' E0 := ⟨zvc (T := T1) (zxz zse) spcT, zxt (T := T1) (fn_ok zsf) spcT zvh, by kernel_rfl, zy0⟩
end V
namespace V
theorem zy3 {E : Env} {f : Nat} {fn : Func} {body : Code} {args : List AV} {ins : List (Nat × List AV)} {r : CR} (hf : E.P.funcs[f]? = some fn) (hb : fn.body = some body) (hc : (codeOK fn.ntmps body && ckOK (E.an f (E.key f args)) body && Nat.ble args.length fn.ntmps) = true)
    (hX : E.X f args ins = none)
    (h : runF (OA (tbl E) (ltbl E f (E.key f args))) E.T (E.an f (E.key f args)) fn body (E.T.res f) (oshOf E.T 0 args fn.params.toList) args ins (fun r o => some (r, o)) = some r) : tbl E f args ins = some r := by
  refine ziu ?_; unfold stepC; rw [hX]; unfold stepC0 withB
  rw [hf]; dsimp only; rw [hb]; dsimp only; rw [hc]; exact h
theorem zvi {E : Env} {f key id : Nat} {fn : Func} {body : Code} {vs : List AV} {os : List (List AV)} {r : LR} (hf : E.P.funcs[f]? = some fn) (hb : fn.body = some body) (hc : (codeOK fn.ntmps (loopB (E.an f key) body id) && ckOK (E.an f key) body) = true)
    (h : roundV (OA (tbl E) (ltbl E f key)) id ((E.an f key).loop id) ((E.an f key).out id) (fun env objs cl k => run (OA (tbl E) (ltbl E f key)) E.T (E.an f key) (loopB (E.an f key) body id) env objs cl k) vs os (fun vs os => ltbl E f key id vs os) (fun j vs os => some (j, vs, os)) = some r) : ltbl E f key id vs os = some r := by
  refine zpg ?_; unfold stepL withB
  rw [hf]; dsimp only; rw [hb]; dsimp only; rw [hc]; exact h
def asRef0 {α : Type} (A : Alg α) (v : AV) (k : Nat → α) : α := match v with | .ref o 0 => k o | _ => A.fail
section
variable {R : Type} [Tok R] {c : CT} {l : LT}
@[simp] theorem z10j : (OA (R := R) c l).fail = none := Eq.trans rfl rfl
@[simp] theorem z9 (b : Bool) (x : Option R) : (OA c l).chk b x = bif b then x else none := Eq.trans rfl rfl
@[simp] theorem zo (p : Prop) (x : Option R) : (OA c l).asm p x = x := Eq.trans rfl rfl
@[simp] theorem zr (f : Nat) (as1 : List AV) (ins : List (Nat × List AV)) (k : List AV → List (Nat × List AV) → Option R) : (OA c l).call f as1 ins k = (c f as1 ins).bind fun ro => k ro.1 ro.2 := Eq.trans rfl rfl
@[simp] theorem za (f : Nat) (as1 : List AV) (k : List AV → Option R) : (OA c l).callx f as1 k = (c f as1 []).bind fun ro => match ro.2 with | [] => k ro.1 | _ => none := Eq.trans rfl rfl
@[simp] theorem ze (id : Nat) (vs : List AV) (os : List (List AV)) (k : Nat → List AV → List (List AV) → Option R) : (OA c l).loop id vs os k = (l id vs os).bind fun x => k x.1 x.2.1 x.2.2 := Eq.trans rfl rfl
theorem zm2 (x y : Option R) : (OA c l).both x y = bif sameO x y then x else none := rfl
theorem zy4 (f : Bool → Option R) : (OA c l).amb f = bif sameO (f true) (f false) then f true else none := rfl
@[simp] theorem zh (f : (Bool → Option R) → Option R) (k : Bool → Option R) : (OA c l).join f k = (f fun b => some (Tok.tok b)).bind fun r => (Tok.untok r).bind k := Eq.trans rfl rfl
@[simp] theorem ze0 (x : R) : sameO (some x) (some x) = true := Tok.same_refl x
theorem zix {x y : Option R} {r : R} (hx : x = some r) (hy : y = some r) : (OA c l).both x y = some r := by rw [zm2, hx, hy, ze0]; rfl
@[simp] theorem z17 (x : Option R) : (OA c l).both x x = x := by cases x <;> simp [zm2, sameO, Tok.same_refl]
def dbl {α : Type} (A : Alg α) (x : α) : α := A.both x x
@[simp] theorem z13 (x : Option R) : dbl (OA c l) x = x := Eq.trans rfl (z17 x)
@[simp] theorem z1v (r : R) : (OA c l).both (some r) (some r) = some r := zix rfl rfl
theorem z7h {f : Bool → Option R} {r : R} (h : ∀ b, f b = some r) : (OA c l).amb f = some r := by rw [zy4, h, h, ze0]; rfl
attribute [simp] Tok.untok_tok
@[simp] theorem z30 (b x y : Bool) : (bif b then some (Tok.tok (R := R) x) else some (Tok.tok y)) = some (Tok.tok (bif b then x else y)) := by cases b <;> rfl
@[simp] theorem z10k (p : Prop) [Decidable p] (x y : Bool) : (if p then some (Tok.tok (R := R) x) else some (Tok.tok y)) = some (Tok.tok (if p then x else y)) := by by_cases h : p <;> simp [h]
end
section
variable {α : Type} {A : Alg α}
@[simp] theorem u_asC {β : Type} (x : β) (r : List β) (k : β → List β → α) : asC A (x :: r) k = k x r := Eq.trans rfl rfl
@[simp] theorem u_asN {β : Type} (k : α) : asN A ([] : List β) k = k := Eq.trans rfl rfl
@[simp] theorem u_asI (ik : IntKind) (n : Int) (k : Int → α) : asI A ik (.int ik n) k = k n := by simp [asI, lit]
@[simp] theorem u_asB (b : Bool) (k : Bool → α) : asB A (.bool b) k = k b := Eq.trans rfl rfl
@[simp] theorem u_asS (b : List UInt8) (k : List UInt8 → α) : asS A (.str b) k = k b := Eq.trans rfl rfl
@[simp] theorem u_asL (w : Nat) (l : List AV) (k : List AV → α) : asL A w (.lst .ro w l) k = k l := by simp [asL, lit]
@[simp] theorem zfg (w : Nat) (q : Nm) (l : List AV) (k : Nm → List AV → α) : asOwn A w (.lst (.own q) w l) k = k q l := by simp [asOwn, lit]
@[simp] theorem u_asA (l : List AV) (k : List AV → α) : asA A (.agg l) k = k l := Eq.trans rfl rfl
@[simp] theorem zd (w : Nat) (l : List AV) (k : List AV → α) : asUq A w (.lst .uq w l) k = k l := by simp [asUq, lit]
@[simp] theorem z10l (l : List AV) (k : List AV → α) : asRow A (some (.row l)) k = k l := Eq.trans rfl rfl
@[simp] theorem z108 (k : α) : asNilp A .nilp k = k := Eq.trans rfl rfl
@[simp] theorem z109 (o : Nat) (k : Nat → α) : asRef0 A (.ref o 0) k = k o := Eq.trans rfl rfl
@[simp] theorem ze1 (x : AV) (l : List AV) (k : Bool → α) : nilEq A .ro (x :: l) k = k false := Eq.trans rfl rfl
@[simp] theorem zzs (q : Nm) (x : AV) (l : List AV) (k : Bool → α) : nilEq A (.own q) (x :: l) k = k false := Eq.trans rfl rfl
end
abbrev iV (n : Int) : AV := .int .i64 n
abbrev aI {α : Type} (A : Alg α) (l : List AV) (f : Int → List AV → α) : α := asC A l fun v l => asI A .i64 v fun n => f n l
abbrev aB {α : Type} (A : Alg α) (l : List AV) (f : Bool → List AV → α) : α := asC A l fun v l => asB A v fun n => f n l
abbrev aA {α : Type} (A : Alg α) (l : List AV) (f : List AV → List AV → α) : α := asC A l fun v l => asA A v fun n => f n l
abbrev aS {α : Type} (A : Alg α) (l : List AV) (f : List UInt8 → List AV → α) : α := asC A l fun v l => asS A v fun n => f n l
abbrev aL {α : Type} (A : Alg α) (w : Nat) (l : List AV) (f : List AV → List AV → α) : α := asC A l fun v l => asL A w v fun n => f n l
abbrev aU {α : Type} (A : Alg α) (w : Nat) (l : List AV) (f : List AV → List AV → α) : α := asC A l fun v l => asUq A w v fun n => f n l
theorem tblF {E : Env} {f : Nat} {fn : Func} {args : List AV} {ins : List (Nat × List AV)} {r : CR} {X : Option CR} (hf : E.P.funcs[f]? = some fn) (h : X = some r) (hb : fn.body = some (bodyOf fn) := by kernel_rfl)
    (hc : (codeOK fn.ntmps (bodyOf fn) && ckOK (E.an f (E.key f args)) (bodyOf fn) && Nat.ble args.length fn.ntmps) = true := by kernel_rfl) (hX : E.X f args ins = none := by kernel_rfl)
    (hr : runF (OA (tbl E) (ltbl E f (E.key f args))) E.T (E.an f (E.key f args)) fn (bodyOf fn) (E.T.res f) (oshOf E.T 0 args fn.params.toList) args ins (fun r o => some (r, o)) = X := by kernel_rfl) : tbl E f args ins = some r :=
  zy3 hf hb hc hX (hr.trans h)
theorem ltblF {E : Env} {f key id : Nat} {fn : Func} {vs : List AV} {os : List (List AV)} {r : LR} {X : Option LR} (hf : E.P.funcs[f]? = some fn) (h : X = some r) (hb : fn.body = some (bodyOf fn) := by kernel_rfl)
    (hc : (codeOK fn.ntmps (loopB (E.an f key) (bodyOf fn) id) && ckOK (E.an f key) (bodyOf fn)) = true := by kernel_rfl)
    (hr : roundV (OA (tbl E) (ltbl E f key)) id ((E.an f key).loop id) ((E.an f key).out id) (fun env objs cl k => run (OA (tbl E) (ltbl E f key)) E.T (E.an f key) (loopB (E.an f key) (bodyOf fn) id) env objs cl k) vs os (fun vs os => ltbl E f key id vs os) (fun j vs os => some (j, vs, os)) = X := by kernel_rfl) : ltbl E f key id vs os = some r :=
  zvi hf hb hc (hr.trans h)
@[simp] theorem r_b0' {β : Type} (x y : β) : (bif Nat.beq 0 0 then x else y) = x := Eq.trans rfl rfl
@[simp] theorem nbeq (a b : Nat) : Nat.beq a b = decide (a = b) := by rw [Bool.eq_iff_iff, Nat.beq_eq, decide_eq_true_eq]
theorem beq_f {α : Type} [BEq α] [LawfulBEq α] {a b : α} (h : a ≠ b) : (a == b) = false := by simpa using h
theorem bne_t {α : Type} [BEq α] [LawfulBEq α] {a b : α} (h : a ≠ b) : (a != b) = true := by simpa using h
@[simp] theorem zsj {α β : Type} [DecidableEq α] [BEq α] [LawfulBEq α] (a b : α) (x y : β) : (bif a == b then x else y) = if a = b then x else y := by
  by_cases h : a = b
  · subst h; simp
  · rw [beq_f h, if_neg h]; rfl
@[simp] theorem z10a {α β : Type} [DecidableEq α] [BEq α] [LawfulBEq α] (a b : α) (x y : β) : (bif a != b then x else y) = if a = b then y else x := by
  by_cases h : a = b
  · subst h; simp
  · rw [bne_t h, if_neg h]; rfl
@[simp] theorem z7i (a : Nm) : Nm.beq a a = true := Nm.beq_iff.2 rfl
end V
namespace V
theorem zm3 (n : Int) : IntKind.u8.wrap n = n % 256 := by simp [IntKind.wrap, IntKind.signed, IntKind.bits]
theorem wrap_i64 (n : Int) (h : -9223372036854775808 ≤ n) (h' : n ≤ 9223372036854775807) : IntKind.i64.wrap n = n := by
  have e : IntKind.i64.wrap n = if decide (n % 18446744073709551616 ≥ (9223372036854775808 : Int)) = true then n % 18446744073709551616 - 18446744073709551616 else n % 18446744073709551616 := by
    simp [IntKind.wrap, IntKind.signed, IntKind.bits]
  rw [e]
  split <;> rename_i hh <;> simp only [decide_eq_true_eq] at hh <;> omega
@[simp] theorem zzk : IntKind.i64.wrap 0 = 0 := wrap_i64 0 (by decide) (by decide)
theorem z4q {n : Int} (h : 0 ≤ n) (h' : n < 256) : IntKind.u8.wrap n = n := by rw [zm3]; omega
theorem z3j : encB [] = [] := rfl
theorem z5p (c : UInt8) (b : List UInt8) : encB (c :: b) = .int .u8 (c.toNat : Int) :: encB b := rfl
theorem z3x (a b : List UInt8) : encB (a ++ b) = encB a ++ encB b := by simp [encB]
@[simp] theorem z1i (b : List UInt8) : (encB b).length = b.length := by simp [encB]
theorem zgj (n : Nat) (b : List UInt8) : (encB b).take n = encB (b.take n) := by simp [encB, List.map_take]
theorem zgk (n : Nat) (b : List UInt8) : (encB b).drop n = encB (b.drop n) := by simp [encB, List.map_drop]
@[simp] theorem z1w : ∀ (b : List UInt8), bytesOf (encB b) = some b
  | [] => rfl
  | c :: b => by rw [z5p, bytesOf, z1w b]; simp
theorem ziz (b : List UInt8) (i : Nat) : (encB b)[i]? = (b[i]?).map fun c => .int .u8 (c.toNat : Int) := by simp [encB]
def byt (n : Nat) : UInt8 := UInt8.ofNat n
theorem z1c {n : Nat} (h : n < 256) : (byt n).toNat = n := by simp [byt]; omega
theorem toNat_ofInt (n : Int) : (BitVec.ofInt 64 n).toNat = (n % 18446744073709551616).toNat := by simp [BitVec.toNat_ofInt]
theorem zy6 (u d k : Nat) (h : u < 2 ^ k) : u ||| (d * 2 ^ k) = u + d * 2 ^ k := by
  rw [Nat.or_comm, ← Nat.shiftLeft_eq, ← Nat.shiftLeft_add_eq_or_of_lt h, Nat.add_comm]
theorem za0 (n : Int) (k : Nat) (hk : k < 63) : bits .and .i64 n ((2 ^ k - 1 : Nat) : Int) = n % (2 ^ k : Nat) := by
  have hp : (2 : Nat) ^ k ≤ 2 ^ 62 := Nat.pow_le_pow_right (by decide) (by omega)
  have hp0 : 0 < (2 : Nat) ^ k := Nat.pow_pos (by decide)
  have h2 : bits .and .i64 n ((2 ^ k - 1 : Nat) : Int) = IntKind.i64.wrap ((BitVec.ofInt 64 n &&& BitVec.ofInt 64 ((2 ^ k - 1 : Nat) : Int)).toNat : Nat) := rfl; rw [h2, BitVec.toNat_and, toNat_ofInt, toNat_ofInt]; generalize hK : (2 : Nat) ^ k = K at *
  have e1 : (((K - 1 : Nat) : Int) % 18446744073709551616).toNat = K - 1 := by omega
  rw [e1]
  have e2 : ∀ m : Nat, m &&& (K - 1) = m % K := fun m => by rw [← hK]; exact Nat.and_two_pow_sub_one_eq_mod m k
  rw [e2]
  have hd : ∃ c, (18446744073709551616 : Nat) = K * c := by
    refine ⟨2 ^ (64 - k), ?_⟩
    have e : (2 : Nat) ^ 64 = 2 ^ k * 2 ^ (64 - k) := by rw [← Nat.pow_add]; congr 1; omega
    rw [hK] at e
    exact (show (18446744073709551616 : Nat) = 2 ^ 64 by decide).trans e
  obtain ⟨c, hc⟩ := hd
  have e3 : (((n % 18446744073709551616).toNat % K : Nat) : Int) = n % (K : Int) := by
    rw [Int.natCast_emod, Int.toNat_of_nonneg (by omega)]
    have hdvd : (K : Int) ∣ 18446744073709551616 := ⟨(c : Int), by rw [← Int.natCast_mul, ← hc]; rfl⟩
    exact Int.emod_emod_of_dvd n hdvd
  rw [e3]
  have h3 := Int.emod_nonneg n (show (K : Int) ≠ 0 by omega)
  have h4 := Int.emod_lt_of_pos n (show (0 : Int) < K by omega)
  exact wrap_i64 _ (by omega) (by omega)
theorem and255 (n : Int) : bits .and .i64 n 255 = n % 256 := za0 n 8 (by decide)
end V
namespace V
variable {H : Type} {T : Tab} {n t : Nat} {d : DataW H} {xs : List AV}
theorem zm4 {k : IntKind} (h : (T.ty t).k = .int k) (hf : Fit T (n + 1) t d xs) : ∃ z, (k.min ≤ z ∧ z ≤ k.max) ∧ d = .lit (.int k z) ∧ xs = [.int k z] := by
  unfold Fit at hf; rw [h] at hf; obtain ⟨z, hw, h1, h2⟩ := hf
  exact ⟨z, by simpa [Lit.wf] using hw, h1, h2⟩
theorem z1k (h : (T.ty t).k = .int .i64) (hf : Fit T (n + 1) t d xs) : ∃ z : Int, (-9223372036854775808 ≤ z ∧ z ≤ 9223372036854775807) ∧ d = .lit (.int .i64 z) ∧ xs = [.int .i64 z] := by
  obtain ⟨z, hz, h1, h2⟩ := zm4 h hf
  exact ⟨z, by simpa [IntKind.min, IntKind.max, IntKind.signed, IntKind.bits] using hz, h1, h2⟩
theorem zvj (h : (T.ty t).k = .str) (hf : Fit T (n + 1) t d xs) : ∃ s : List UInt8, d = .lit (.string s) ∧ xs = [.str s] := by
  unfold Fit at hf; rw [h] at hf; exact hf
theorem z4c {e : Nat} (h : (T.ty t).k = .slice e) (hf : Fit T (n + 1) t d xs) : ∃ (ds sp : List (DataW H)) (l : List AV), (d = .slice ds sp ∨ (d = .nil ∧ ds = [])) ∧ xs = [.lst .ro (T.ty e).size l] ∧ Each (fun d x => ∃ ys, Fit T n e d ys ∧ ElemOf (T.ty e) x ys) ds l := by
  unfold Fit at hf; rw [h] at hf; exact hf
theorem z31 {fs : List (Nat × Nat)} (h : (T.ty t).k = .struct fs) (hf : Fit T (n + 1) t d xs) : ∃ (ds : List (DataW H)) (yss : List (List AV)), d = .agg ds ∧ xs = yss.flatten ∧ Each3 (fun f d ys => Fit T n f.2 d ys) fs ds yss := by
  unfold Fit at hf; rw [h] at hf; exact hf
theorem z2g {α β γ : Type} {R : α → β → γ → Prop} {l : List β} {r : List γ} (h : Each3 R [] l r) : l = [] ∧ r = [] := by
  cases l <;> cases r <;> first | exact ⟨rfl, rfl⟩ | exact h.elim
theorem zg {α β γ : Type} {R : α → β → γ → Prop} {a : α} {as1 : List α} {l : List β} {r : List γ} (h : Each3 R (a :: as1) l r) : ∃ b bs c cs, l = b :: bs ∧ r = c :: cs ∧ R a b c ∧ Each3 R as1 bs cs := by
  cases l <;> cases r <;> first | exact h.elim | exact ⟨_, _, _, _, rfl, rfl, h.1, h.2⟩
theorem z40 {α β γ : Type} {R : α → β → Prop} {f : γ → β} {Q : α → γ → Prop} (hR : ∀ a b, R a b → ∃ c, b = f c ∧ Q a c) : ∀ {l : List α} {r : List β}, Each R l r → ∃ cs : List γ, r = cs.map f ∧ Each Q l cs
  | [], [], _ => ⟨[], rfl, trivial⟩
  | a :: l, b :: r, h => by
    obtain ⟨c, e, q⟩ := hR a b h.1; obtain ⟨cs, e2, q2⟩ := z40 hR h.2
    exact ⟨c :: cs, by rw [e, e2]; rfl, q, q2⟩
  | [], _ :: _, h => h.elim
  | _ :: _, [], h => h.elim
theorem z56 {td : TD} (h : td.isAgg = true) {x : AV} {ys : List AV} (he : ElemOf td x ys) : x = .agg ys := by
  unfold ElemOf at he; rw [h] at he; simpa using he
theorem zj1 {td : TD} (h : td.isAgg = false) {x : AV} {ys : List AV} (he : ElemOf td x ys) : ys = [x] := by
  unfold ElemOf at he; rw [h] at he; simpa using he
theorem z7x {enc : TypeId × Value → H} {P : Program} {w : World} {base : Nat} {spare : Nat → Bool} {held : Bool} : ∀ {ts : List TypeId} {vs : List Value} {ds : List (DataW H)} {ps : List MemPlace}, DataW.TrodAll enc P w base spare held ts vs ds ps → ds.length = ts.length
  | [], [], [], _, _ => rfl
  | _ :: _, _ :: _, _ :: _, _, ⟨_, _, _, h, _⟩ => by simp [z7x h]
  | [], [], _ :: _, _, h => h.elim
  | [], _ :: _, _, _, h => by cases ‹List (DataW H)› <;> exact h.elim
  | _ :: _, [], _, _, h => by cases ‹List (DataW H)› <;> exact h.elim
  | _ :: _, _ :: _, [], _, h => h.elim
end V
namespace V
structure Fld where
  id : Int
  kind : Int
  lo : Int
  hi : Int
  most : Int
  deriving DecidableEq
structure Frm where
  id : Int
  fields : List Fld
  deriving DecidableEq
structure Sch where
  ver : Int
  forms : List Frm
  deriving DecidableEq
abbrev fldC (f : Fld) : List AV := [.int .i64 f.id, .int .i64 f.kind, .int .i64 f.lo, .int .i64 f.hi, .int .i64 f.most]
abbrev fldV (f : Fld) : AV := AV.agg (fldC f)
abbrev fldsV (l : List Fld) : AV := AV.lst .ro 5 (l.map fldV)
abbrev frmV (f : Frm) : AV := AV.agg [.int .i64 f.id, fldsV f.fields]
abbrev frmsV (l : List Frm) : AV := AV.lst .ro 2 (l.map frmV)
abbrev schV (s : Sch) : AV := AV.agg [.int .i64 s.ver, frmsV s.forms]
def i64 (n : Int) : Prop := -9223372036854775808 ≤ n ∧ n ≤ 9223372036854775807
def Fld.ok (f : Fld) : Prop := i64 f.id ∧ i64 f.kind ∧ i64 f.lo ∧ i64 f.hi ∧ i64 f.most
def Frm.ok (f : Frm) : Prop := i64 f.id ∧ ∀ x ∈ f.fields, x.ok
def Sch.ok (s : Sch) : Prop := i64 s.ver ∧ ∀ x ∈ s.forms, x.ok
def rgtS (f : Fld) : Bool :=
  decide (0 ≤ f.id ∧ f.id ≤ 255) &&
  (if f.kind = 1 then decide (-1099511627776 ≤ f.lo ∧ f.lo ≤ f.hi ∧ f.hi ≤ 1099511627776 ∧ f.most = 0)
   else if f.kind = 2 then decide (f.lo = 0 ∧ f.hi = 0 ∧ f.most = 0)
   else if f.kind = 3 then decide (f.lo = 0 ∧ f.hi = 0 ∧ 1 ≤ f.most ∧ f.most ≤ 1000)
   else if f.kind = 4 then decide (f.lo = 0 ∧ f.hi = 0 ∧ 0 ≤ f.most ∧ f.most ≤ 32)
   else false)
def wdS (n : Nat) : Nat := if h : n = 0 then 0 else wdS (n / 256) + 1
termination_by n
decreasing_by omega
def loS (f : Fld) : Int := if f.kind = 1 then f.lo else 0
def hiS (f : Fld) : Int := if f.kind = 1 then f.hi else if f.kind = 2 then 1 else if f.kind = 3 then f.most - 1 else 0
def sizeS (f : Fld) : Int := if rgtS f then (if f.kind = 4 then f.most + 1 else (wdS (hiS f - loS f).toNat : Nat)) else 0
def longS (l : List Fld) : Int := (l.map sizeS).sum
def nodupI : List Int → Bool
  | [] => true
  | x :: l => !(l.any fun y => y == x) && nodupI l
def fineS (f : Frm) : Bool := decide (0 ≤ f.id ∧ f.id ≤ 200) && decide (1 ≤ f.fields.length ∧ f.fields.length ≤ 8) && decide (longS f.fields ≤ 64) && f.fields.all rgtS && nodupI (f.fields.map Fld.id)
def risingS : Int → List Frm → Bool
  | _, [] => true
  | last, f :: l => fineS f && decide (last < f.id) && risingS f.id l
def schS (s : Sch) : Bool := decide (1 ≤ s.ver ∧ s.ver ≤ 65535) && decide (s.forms.length ≤ 8) && risingS (-1) s.forms
def firstS {α : Type} (p : α → Bool) (l : List α) : Int := match l.findIdx? p with | some i => (i : Nat) | none => -1
open AV (int lst agg str bool ref clo)
open List (map)
def zj2 {α : Type} (A : Alg α) (f : Fld) (kc : List AV → List (Nat × List AV) → α) : α :=
  A.join (fun x0 => bif (decide (f.id < (0 : Int))) then (x0 true) else (x0 (decide (f.id > (255 : Int))))) fun b1 => bif b1 then (kc [bool false] []) else (A.join (fun x2 => bif (f.lo == (0 : Int)) then (x2 (f.hi == (0 : Int))) else (x2 false)) fun b3 => bif (f.kind == (1 : Int)) then (A.join (fun x4 => bif (decide (f.lo ≥ (-1099511627776 : Int))) then (bif (decide (f.lo ≤ f.hi)) then (bif (decide (f.hi ≤ (1099511627776 : Int))) then (x4 (f.most == (0 : Int))) else (x4 false)) else (x4 false)) else (x4 false)) fun b5 => kc [bool b5] []) else (bif (f.kind == (2 : Int)) then (A.join (fun x6 => bif b3 then (x6 (f.most == (0 : Int))) else (x6 false)) fun b7 => kc [bool b7] []) else (bif (f.kind == (3 : Int)) then (A.join (fun x8 => bif b3 then (bif (decide (f.most ≥ (1 : Int))) then (x8 (decide (f.most ≤ (1000 : Int)))) else (x8 false)) else (x8 false)) fun b9 => kc [bool b9] []) else (bif (f.kind == (4 : Int)) then (A.join (fun x10 => bif b3 then (bif (decide (f.most ≥ (0 : Int))) then (x10 (decide (f.most ≤ (32 : Int)))) else (x10 false)) else (x10 false)) fun b11 => kc [bool b11] []) else (kc [bool false] [])))))
def za1 {α : Type} (A : Alg α) (f : Fld) (kc : List AV → List (Nat × List AV) → α) : α :=
  bif (f.kind == (1 : Int)) then (kc [iV f.lo, iV f.hi] []) else (bif (f.kind == (2 : Int)) then (kc [iV 0, iV 1] []) else (bif (f.kind == (3 : Int)) then (kc [iV 0, iV (IntKind.i64.wrap (f.most - (1 : Int)))] []) else (kc [iV 0, iV 0] [])))
def zcg {α : Type} (A : Alg α) (n : Int) (kc : List AV → List (Nat × List AV) → α) : α :=
  A.loop 2 [iV n, iV 0] [] fun j0 l1 l2 => bif (j0.beq 1) then (aI A l1 fun n5 l4 => asN A l4 (asN A l2 (kc [iV n5] []))) else A.fail
def zm5 {α : Type} (A : Alg α) (f : Fld) (kc : List AV → List (Nat × List AV) → α) : α :=
  A.callx 94 [agg [iV f.id, iV f.kind, iV f.lo, iV f.hi, iV f.most]] fun l0 => aI A l0 fun n3 l2 => aI A l2 fun n6 l5 => asN A l5 (A.callx 110 [iV (IntKind.i64.wrap (n6 - n3))] fun l7 => aI A l7 fun n10 l9 => asN A l9 (kc [iV n10] []))
def zm6 {α : Type} (A : Alg α) (f : Fld) (kc : List AV → List (Nat × List AV) → α) : α :=
  A.callx 92 [agg [iV f.id, iV f.kind, iV f.lo, iV f.hi, iV f.most]] fun l0 => aB A l0 fun b3 l2 => asN A l2 (bif (!b3) then (kc [iV 0] []) else (bif (f.kind == (4 : Int)) then (kc [iV (IntKind.i64.wrap (f.most + (1 : Int)))] []) else (bif (f.kind == (2 : Int)) then (kc [iV 1] []) else (A.callx 95 [agg [iV f.id, iV f.kind, iV f.lo, iV f.hi, iV f.most]] fun l4 => aI A l4 fun n7 l6 => asN A l6 (kc [iV n7] [])))))
def z65 {α : Type} (A : Alg α) (f : Fld) (kc : List AV → List (Nat × List AV) → α) : α :=
  A.join (fun x0 => bif (decide (f.id ≥ (0 : Int))) then (x0 (decide (f.id ≤ (255 : Int)))) else (x0 false)) fun b1 => bif (f.kind == (1 : Int)) then (bif b1 then (bif (decide (f.lo ≥ (-1099511627776 : Int))) then (bif (decide (f.hi ≤ (1099511627776 : Int))) then (bif (decide (f.lo ≤ f.hi)) then (kc [iV f.lo, iV f.hi, iV 0, bool (f.most == (0 : Int))] []) else (kc [iV f.lo, iV f.hi, iV 0, bool false] [])) else (kc [iV f.lo, iV f.hi, iV 0, bool false] [])) else (kc [iV f.lo, iV f.hi, iV 0, bool false] [])) else (kc [iV f.lo, iV f.hi, iV 0, bool false] [])) else (bif (f.kind == (2 : Int)) then (bif b1 then (bif (f.lo == (0 : Int)) then (bif (f.hi == (0 : Int)) then (kc [iV 0, iV 1, iV 0, bool (f.most == (0 : Int))] []) else (kc [iV 0, iV 1, iV 0, bool false] [])) else (kc [iV 0, iV 1, iV 0, bool false] [])) else (kc [iV 0, iV 1, iV 0, bool false] [])) else (bif (f.kind == (3 : Int)) then (bif b1 then (bif (f.lo == (0 : Int)) then (bif (f.hi == (0 : Int)) then (bif (decide (f.most ≥ (1 : Int))) then (kc [iV 0, iV (IntKind.i64.wrap (f.most - (1 : Int))), iV 0, bool (decide (f.most ≤ (1000 : Int)))] []) else (kc [iV 0, iV (IntKind.i64.wrap (f.most - (1 : Int))), iV 0, bool false] [])) else (kc [iV 0, iV (IntKind.i64.wrap (f.most - (1 : Int))), iV 0, bool false] [])) else (kc [iV 0, iV (IntKind.i64.wrap (f.most - (1 : Int))), iV 0, bool false] [])) else (kc [iV 0, iV (IntKind.i64.wrap (f.most - (1 : Int))), iV 0, bool false] [])) else (bif (f.kind == (4 : Int)) then (bif b1 then (bif (f.lo == (0 : Int)) then (bif (f.hi == (0 : Int)) then (bif (decide (f.most ≥ (0 : Int))) then (kc [iV 0, iV 0, iV f.most, bool (decide (f.most ≤ (32 : Int)))] []) else (kc [iV 0, iV 0, iV f.most, bool false] [])) else (kc [iV 0, iV 0, iV f.most, bool false] [])) else (kc [iV 0, iV 0, iV f.most, bool false] [])) else (kc [iV 0, iV 0, iV f.most, bool false] [])) else (kc [iV 0, iV 0, iV 0, bool false] []))))
def zj3 {α : Type} (A : Alg α) (f : Fld) (kc : List AV → List (Nat × List AV) → α) : α :=
  A.callx 57 [agg [iV f.id, iV f.kind, iV f.lo, iV f.hi, iV f.most]] fun l0 => aI A l0 fun n3 l2 => aI A l2 fun n6 l5 => aI A l5 fun n9 l8 => aB A l8 fun b12 l11 => asN A l11 (kc [bool b12] [])
def zfh {α : Type} (A : Alg α) (n : Int) (kc : List AV → List (Nat × List AV) → α) : α :=
  A.loop 2 [iV n, iV 0] [] fun j0 l1 l2 => bif (j0.beq 1) then (aI A l1 fun n5 l4 => asN A l4 (asN A l2 (kc [iV n5] []))) else A.fail
def zm7 {α : Type} (A : Alg α) (f : Fld) (kc : List AV → List (Nat × List AV) → α) : α :=
  A.callx 57 [agg [iV f.id, iV f.kind, iV f.lo, iV f.hi, iV f.most]] fun l0 => aI A l0 fun n3 l2 => aI A l2 fun n6 l5 => aI A l5 fun n9 l8 => aB A l8 fun b12 l11 => asN A l11 (bif (!b12) then (kc [iV 0] []) else (bif (f.kind == (4 : Int)) then (kc [iV (IntKind.i64.wrap ((1 : Int) + n9))] []) else (A.callx 98 [iV (IntKind.i64.wrap (n6 - n3))] fun l13 => aI A l13 fun n16 l15 => asN A l15 (kc [iV n16] []))))
def zm8 {α : Type} (A : Alg α) (f : Frm) (kc : List AV → List (Nat × List AV) → α) : α :=
  A.loop 3 [iV 0, lst .ro 5 (map fldV f.fields), iV (↑(map fldV f.fields).length : Int), iV 0] [] fun j0 l1 l2 => bif (j0.beq 1) then (aI A l1 fun n5 l4 => asN A l4 (asN A l2 (kc [iV n5] []))) else A.fail
def zm9 {α : Type} (A : Alg α) (f : Frm) (kc : List AV → List (Nat × List AV) → α) : α :=
  A.loop 3 [iV 0, iV 0] [[iV f.id, lst .ro 5 (map fldV f.fields)]] fun j0 l1 l2 => bif (j0.beq 1) then (aI A l1 fun n5 l4 => asN A l4 (asN A l2 (kc [iV n5] []))) else A.fail
def zma {α : Type} (A : Alg α) (f : Frm) (kc : List AV → List (Nat × List AV) → α) : α :=
  A.join (fun x0 => bif (decide (f.id < (0 : Int))) then (x0 true) else (bif (decide (f.id > (200 : Int))) then (x0 true) else (bif (decide ((↑(map fldV f.fields).length : Int) < (1 : Int))) then (x0 true) else (bif (decide ((↑(map fldV f.fields).length : Int) > (8 : Int))) then (x0 true) else (A.callx 52 [agg [iV f.id, lst .ro 5 (map fldV f.fields)]] fun l1 => aI A l1 fun n4 l3 => asN A l3 (x0 (decide (n4 > (64 : Int))))))))) fun b5 => bif b5 then (kc [bool false] []) else (A.loop 5 [lst .ro 5 (map fldV f.fields), iV (↑(map fldV f.fields).length : Int), iV 0] [[bool false, bool false, bool false, bool false, bool false, bool false, bool false, bool false, bool false, bool false, bool false, bool false, bool false, bool false, bool false, bool false, bool false, bool false, bool false, bool false, bool false, bool false, bool false, bool false, bool false, bool false, bool false, bool false, bool false, bool false, bool false, bool false, bool false, bool false, bool false, bool false, bool false, bool false, bool false, bool false, bool false, bool false, bool false, bool false, bool false, bool false, bool false, bool false, bool false, bool false, bool false, bool false, bool false, bool false, bool false, bool false, bool false, bool false, bool false, bool false, bool false, bool false, bool false, bool false, bool false, bool false, bool false, bool false, bool false, bool false, bool false, bool false, bool false, bool false, bool false, bool false, bool false, bool false, bool false, bool false, bool false, bool false, bool false, bool false, bool false, bool false, bool false, bool false, bool false, bool false, bool false, bool false, bool false, bool false, bool false, bool false, bool false, bool false, bool false, bool false, bool false, bool false, bool false, bool false, bool false, bool false, bool false, bool false, bool false, bool false, bool false, bool false, bool false, bool false, bool false, bool false, bool false, bool false, bool false, bool false, bool false, bool false, bool false, bool false, bool false, bool false, bool false, bool false, bool false, bool false, bool false, bool false, bool false, bool false, bool false, bool false, bool false, bool false, bool false, bool false, bool false, bool false, bool false, bool false, bool false, bool false, bool false, bool false, bool false, bool false, bool false, bool false, bool false, bool false, bool false, bool false, bool false, bool false, bool false, bool false, bool false, bool false, bool false, bool false, bool false, bool false, bool false, bool false, bool false, bool false, bool false, bool false, bool false, bool false, bool false, bool false, bool false, bool false, bool false, bool false, bool false, bool false, bool false, bool false, bool false, bool false, bool false, bool false, bool false, bool false, bool false, bool false, bool false, bool false, bool false, bool false, bool false, bool false, bool false, bool false, bool false, bool false, bool false, bool false, bool false, bool false, bool false, bool false, bool false, bool false, bool false, bool false, bool false, bool false, bool false, bool false, bool false, bool false, bool false, bool false, bool false, bool false, bool false, bool false, bool false, bool false, bool false, bool false, bool false, bool false, bool false, bool false, bool false, bool false, bool false, bool false, bool false, bool false, bool false, bool false, bool false, bool false, bool false, bool false, bool false, bool false, bool false, bool false, bool false, bool false, bool false, bool false, bool false, bool false, bool false, bool false]] fun j6 l7 l8 => bif (j6.beq 0) then (aB A l7 fun b11 l10 => asN A l10 (asN A l8 (kc [bool b11] []))) else (bif (j6.beq 1) then (asN A l7 (asN A l8 (kc [bool true] []))) else A.fail))
def zmb {α : Type} (A : Alg α) (f : Frm) (kc : List AV → List (Nat × List AV) → α) : α :=
  A.join (fun x0 => bif (decide (f.id < (0 : Int))) then (x0 true) else (bif (decide (f.id > (200 : Int))) then (x0 true) else (bif (decide ((↑(map fldV f.fields).length : Int) < (1 : Int))) then (x0 true) else (x0 (decide ((↑(map fldV f.fields).length : Int) > (8 : Int))))))) fun b1 => bif b1 then (kc [bool false] []) else (A.loop 4 [iV 0] [[iV f.id, lst .ro 5 (map fldV f.fields)]] fun j2 l3 l4 => bif (j2.beq 0) then (aB A l3 fun b7 l6 => asN A l6 (asN A l4 (kc [bool b7] []))) else (bif (j2.beq 1) then (asN A l3 (asC A l4 fun l8 l9 => aI A l8 fun n12 l11 => aL A 5 l11 fun l15 l14 => asN A l14 (asN A l9 (A.callx 68 [agg [iV n12, lst .ro 5 l15]] fun l16 => aI A l16 fun n19 l18 => asN A l18 (kc [bool (decide (n19 ≤ (64 : Int)))] []))))) else A.fail))
def s_sAt {α : Type} (A : Alg α) (f : Frm) (id : Int) (kc : List AV → List (Nat × List AV) → α) : α :=
  A.callx 90 [lst .ro 5 (map fldV f.fields), clo 91 [AV.rp [iV id] 0]] fun l0 => aI A l0 fun n3 l2 => asN A l2 (kc [iV n3] [])
def zps {α : Type} (A : Alg α) (f : Fld) (id : Int) (kc : List AV → List (Nat × List AV) → α) : α :=
  kc [bool (f.id == id)] []
def zbq {α : Type} (A : Alg α) (l : List Fld) (id : Int) (kc : List AV → List (Nat × List AV) → α) : α :=
  A.loop 2 [lst .ro 5 (map fldV l), clo 91 [AV.rp [iV id] 0], iV (↑(map fldV l).length : Int), iV 0] [] fun j0 l1 l2 => bif (j0.beq 0) then (aI A l1 fun n5 l4 => asN A l4 (asN A l2 (kc [iV n5] []))) else (bif (j0.beq 1) then (asN A l1 (asN A l2 (kc [iV (-1)] []))) else A.fail)
def s_yAt {α : Type} (A : Alg α) (f : Frm) (id : Int) (kc : List AV → List (Nat × List AV) → α) : α :=
  A.loop 2 [iV id, iV 0] [[iV f.id, lst .ro 5 (map fldV f.fields)]] fun j0 l1 l2 => bif (j0.beq 0) then (aI A l1 fun n5 l4 => asN A l4 (asN A l2 (kc [iV n5] []))) else (bif (j0.beq 1) then (asN A l1 (asN A l2 (kc [iV (-1)] []))) else A.fail)
def zj4 {α : Type} (A : Alg α) (s : Sch) (kc : List AV → List (Nat × List AV) → α) : α :=
  A.join (fun x0 => bif (decide (s.ver < (1 : Int))) then (x0 true) else (bif (decide (s.ver > (65535 : Int))) then (x0 true) else (x0 (decide ((↑(map frmV s.forms).length : Int) > (8 : Int)))))) fun b1 => bif b1 then (kc [bool false] []) else (A.loop 5 [iV (-1), lst .ro 2 (map frmV s.forms), iV (↑(map frmV s.forms).length : Int), iV 0] [] fun j2 l3 l4 => bif (j2.beq 0) then (aB A l3 fun b7 l6 => asN A l6 (asN A l4 (kc [bool b7] []))) else (bif (j2.beq 1) then (asN A l3 (asN A l4 (kc [bool true] []))) else A.fail))
def zgl {α : Type} (A : Alg α) (s : Sch) (kc : List AV → List (Nat × List AV) → α) : α :=
  A.join (fun x0 => bif (decide (s.ver < (1 : Int))) then (x0 true) else (bif (decide (s.ver > (65535 : Int))) then (x0 true) else (x0 (decide ((↑(map frmV s.forms).length : Int) > (8 : Int)))))) fun b1 => bif b1 then (kc [bool false] []) else (A.loop 4 [iV 0] [[iV s.ver, lst .ro 2 (map frmV s.forms)]] fun j2 l3 l4 => bif (j2.beq 0) then (aB A l3 fun b7 l6 => asN A l6 (asN A l4 (kc [bool b7] []))) else (bif (j2.beq 1) then (asN A l3 (asN A l4 (kc [bool true] []))) else A.fail))
def zfi {α : Type} (A : Alg α) (s : Sch) (id : Int) (kc : List AV → List (Nat × List AV) → α) : α :=
  A.loop 2 [iV id, lst .ro 2 (map frmV s.forms), iV (↑(map frmV s.forms).length : Int), iV 0] [[iV 0, lst .ro 5 []]] fun j0 l1 l2 => bif (j0.beq 0) then (aB A l1 fun b5 l4 => asN A l4 (asC A l2 fun l6 l7 => aI A l6 fun n10 l9 => aL A 5 l9 fun l13 l12 => asN A l12 (asN A l7 (kc [agg [iV n10, lst .ro 5 l13], bool b5] [])))) else (bif (j0.beq 1) then (asN A l1 (asC A l2 fun l14 l15 => aI A l14 fun n18 l17 => aL A 5 l17 fun l21 l20 => asN A l20 (asN A l15 (kc [agg [iV 0, lst .ro 5 []], bool false] [])))) else A.fail)
def zmc {α : Type} (A : Alg α) (s : Sch) (id : Int) (kc : List AV → List (Nat × List AV) → α) : α :=
  A.loop 2 [iV id, iV 0] [[iV s.ver, lst .ro 2 (map frmV s.forms)]] fun j0 l1 l2 => bif (j0.beq 0) then (aI A l1 fun n5 l4 => asN A l4 (asN A l2 (kc [iV n5] []))) else (bif (j0.beq 1) then (asN A l1 (asN A l2 (kc [iV (-1)] []))) else A.fail)
def zj5 {α : Type} (A : Alg α) (a : List Fld) (b : List Fld) (kc : List AV → List (Nat × List AV) → α) : α :=
  bif ((↑(map fldV a).length : Int) != (↑(map fldV b).length : Int)) then (kc [bool false] []) else (A.loop 4 [lst .ro 5 (map fldV a), lst .ro 5 (map fldV b), iV (↑(map fldV a).length : Int), iV 0] [] fun j0 l1 l2 => bif (j0.beq 0) then (aB A l1 fun b5 l4 => asN A l4 (asN A l2 (kc [bool b5] []))) else (bif (j0.beq 1) then (asN A l1 (asN A l2 (kc [bool true] []))) else A.fail))
def z73 {α : Type} (A : Alg α) (n : Int) (w : Int) (next : List AV → List (List AV) → α) (kc : Nat → List AV → List (List AV) → α) : α :=
  bif (decide (n > (0 : Int))) then (next [iV (n.fdiv ((2 : Int) ^ (8 : Nat))), iV (IntKind.i64.wrap (w + (1 : Int)))] []) else (kc 1 [iV w] [])
def z8k {α : Type} (A : Alg α) (n : Int) (w : Int) (next : List AV → List (List AV) → α) (kc : Nat → List AV → List (List AV) → α) : α :=
  bif (decide (n > (0 : Int))) then (next [iV (IntKind.i64.wrap (n.tdiv (256 : Int))), iV (IntKind.i64.wrap (w + (1 : Int)))] []) else (kc 1 [iV w] [])
def zch {α : Type} (A : Alg α) (l : List Fld) (n : Int) (m : Int) (i : Int) (next : List AV → List (List AV) → α) (kc : Nat → List AV → List (List AV) → α) : α :=
  bif (decide (i < m)) then (A.chk (decide ((0 : Int) ≤ i)) (nthE A (map fldV l) i.toNat fun v0 => asA A v0 fun l1 => aI A l1 fun n4 l3 => aI A l3 fun n7 l6 => aI A l6 fun n10 l9 => aI A l9 fun n13 l12 => aI A l12 fun n16 l15 => asN A l15 (A.callx 93 [agg [iV n4, iV n7, iV n10, iV n13, iV n16]] fun l17 => aI A l17 fun n20 l19 => asN A l19 (next [iV (IntKind.i64.wrap (n + n20)), lst .ro 5 (map fldV l), iV m, iV (IntKind.i64.wrap (i + (1 : Int)))] [])))) else (kc 1 [iV n] [])
def zci {α : Type} (A : Alg α) (f : Frm) (n : Int) (i : Int) (next : List AV → List (List AV) → α) (kc : Nat → List AV → List (List AV) → α) : α :=
  bif (decide (i < (↑(map fldV f.fields).length : Int))) then (A.chk (decide ((0 : Int) ≤ i)) (nthE A (map fldV f.fields) i.toNat fun v0 => asA A v0 fun l1 => aI A l1 fun n4 l3 => aI A l3 fun n7 l6 => aI A l6 fun n10 l9 => aI A l9 fun n13 l12 => aI A l12 fun n16 l15 => asN A l15 (A.callx 58 [agg [iV n4, iV n7, iV n10, iV n13, iV n16]] fun l17 => aI A l17 fun n20 l19 => asN A l19 (next [iV (IntKind.i64.wrap (n + n20)), iV (IntKind.i64.wrap (i + (1 : Int)))] [[iV f.id, lst .ro 5 (map fldV f.fields)]])))) else (kc 1 [iV n] [])
def zcj {α : Type} (A : Alg α) (l : List Fld) (seen : List Bool) (m : Int) (i : Int) (next : List AV → List (List AV) → α) (kc : Nat → List AV → List (List AV) → α) : α :=
  bif (decide (i < m)) then (A.chk (decide ((0 : Int) ≤ i)) (nthE A (map fldV l) i.toNat fun v0 => asA A v0 fun l1 => aI A l1 fun n4 l3 => aI A l3 fun n7 l6 => aI A l6 fun n10 l9 => aI A l9 fun n13 l12 => aI A l12 fun n16 l15 => asN A l15 (A.join (fun x17 => A.callx 92 [agg [iV n4, iV n7, iV n10, iV n13, iV n16]] fun l18 => aB A l18 fun b21 l20 => asN A l20 (bif (!b21) then (x17 true) else (A.chk (decide ((0 : Int) ≤ n4) && decide (n4 < (↑(256 : Nat) : Int))) (nthE A (map bool seen) ((0 : Nat) + n4.toNat * 1) fun v22 => asB A v22 fun b23 => x17 b23)))) fun b24 => bif b24 then (kc 0 [bool false] []) else (A.chk (decide ((0 : Int) ≤ n4) && decide (n4 < (↑(256 : Nat) : Int))) (A.chk (((0 : Nat) + n4.toNat * 1 + (1 : Nat)).ble (map bool seen).length) (A.chk ((setAt (map bool seen) ((0 : Nat) + n4.toNat * 1) [bool true]).all AV.flat1) (next [lst .ro 5 (map fldV l), iV m, iV (IntKind.i64.wrap (i + (1 : Int)))] [(setAt (map bool seen) ((0 : Nat) + n4.toNat * 1) [bool true])]))))))) else (kc 1 [] [])
def zck {α : Type} (A : Alg α) (f : Frm) (i : Int) (next : List AV → List (List AV) → α) (kc : Nat → List AV → List (List AV) → α) : α :=
  bif (decide (i < (↑(map fldV f.fields).length : Int))) then (A.chk (decide ((0 : Int) ≤ i)) (nthE A (map fldV f.fields) i.toNat fun v0 => asA A v0 fun l1 => aI A l1 fun n4 l3 => aI A l3 fun n7 l6 => aI A l6 fun n10 l9 => aI A l9 fun n13 l12 => aI A l12 fun n16 l15 => asN A l15 (A.callx 65 [agg [iV n4, iV n7, iV n10, iV n13, iV n16]] fun l17 => aB A l17 fun b20 l19 => asN A l19 (bif (!b20) then (kc 0 [bool false] []) else (A.chk (decide ((0 : Int) ≤ i)) (nthE A (map fldV f.fields) i.toNat fun v21 => asA A v21 fun l22 => aI A l22 fun n25 l24 => aI A l24 fun n28 l27 => aI A l27 fun n31 l30 => aI A l30 fun n34 l33 => aI A l33 fun n37 l36 => asN A l36 (A.callx 22 [agg [iV f.id, lst .ro 5 (map fldV f.fields)], iV n25] fun l38 => aI A l38 fun n41 l40 => asN A l40 (bif (n41 != i) then (kc 0 [bool false] []) else (next [iV (IntKind.i64.wrap (i + (1 : Int)))] [[iV f.id, lst .ro 5 (map fldV f.fields)]]))))))))) else (kc 1 [] [[iV f.id, lst .ro 5 (map fldV f.fields)]])
def zj6 {α : Type} (A : Alg α) (f : Frm) (id : Int) (i : Int) (next : List AV → List (List AV) → α) (kc : Nat → List AV → List (List AV) → α) : α :=
  bif (decide (i < (↑(map fldV f.fields).length : Int))) then (A.chk (decide ((0 : Int) ≤ i)) (nthE A (map fldV f.fields) i.toNat fun v0 => asA A v0 fun l1 => aI A l1 fun n4 l3 => aI A l3 fun n7 l6 => aI A l6 fun n10 l9 => aI A l9 fun n13 l12 => aI A l12 fun n16 l15 => asN A l15 (bif (n4 == id) then (kc 0 [iV i] []) else (next [iV id, iV (IntKind.i64.wrap (i + (1 : Int)))] [[iV f.id, lst .ro 5 (map fldV f.fields)]])))) else (kc 1 [] [])
def z6j {α : Type} (A : Alg α) (l : List Fld) (id : Int) (m : Int) (i : Int) (next : List AV → List (List AV) → α) (kc : Nat → List AV → List (List AV) → α) : α :=
  bif (decide (i < m)) then (A.chk (decide ((0 : Int) ≤ i)) (nthE A (map fldV l) i.toNat fun v0 => asA A v0 fun l1 => aI A l1 fun n4 l3 => aI A l3 fun n7 l6 => aI A l6 fun n10 l9 => aI A l9 fun n13 l12 => aI A l12 fun n16 l15 => asN A l15 (A.callx 91 [agg [iV n4, iV n7, iV n10, iV n13, iV n16], AV.rp [iV id] 0] fun l17 => aB A l17 fun b20 l19 => asN A l19 (bif b20 then (kc 0 [iV i] []) else (next [lst .ro 5 (map fldV l), clo 91 [AV.rp [iV id] 0], iV m, iV (IntKind.i64.wrap (i + (1 : Int)))] []))))) else (kc 1 [] [])
def za2 {α : Type} (A : Alg α) (l : List Frm) (last : Int) (m : Int) (i : Int) (next : List AV → List (List AV) → α) (kc : Nat → List AV → List (List AV) → α) : α :=
  bif (decide (i < m)) then (A.chk (decide ((0 : Int) ≤ i)) (nthE A (map frmV l) i.toNat fun v0 => asA A v0 fun l1 => aI A l1 fun n4 l3 => aL A 5 l3 fun l7 l6 => asN A l6 (A.join (fun x8 => A.callx 51 [agg [iV n4, lst .ro 5 l7]] fun l9 => aB A l9 fun b12 l11 => asN A l11 (bif (!b12) then (x8 true) else (x8 (decide (n4 ≤ last))))) fun b13 => bif b13 then (kc 0 [bool false] []) else (next [iV n4, lst .ro 2 (map frmV l), iV m, iV (IntKind.i64.wrap (i + (1 : Int)))] [])))) else (kc 1 [] [])
def z5x {α : Type} (A : Alg α) (s : Sch) (i : Int) (next : List AV → List (List AV) → α) (kc : Nat → List AV → List (List AV) → α) : α :=
  bif (decide (i < (↑(map frmV s.forms).length : Int))) then (A.chk (decide ((0 : Int) ≤ i)) (nthE A (map frmV s.forms) i.toNat fun v0 => asA A v0 fun l1 => aI A l1 fun n4 l3 => aL A 5 l3 fun l7 l6 => asN A l6 (A.callx 36 [agg [iV n4, lst .ro 5 l7]] fun l8 => aB A l8 fun b11 l10 => asN A l10 (bif (!b11) then (kc 0 [bool false] []) else (bif (decide (i > (0 : Int))) then (A.chk (decide ((0 : Int) ≤ IntKind.i64.wrap (i - (1 : Int)))) (nthE A (map frmV s.forms) ((IntKind.i64.wrap (i - (1 : Int))).toNat) fun v12 => asA A v12 fun l13 => aI A l13 fun n16 l15 => aL A 5 l15 fun l19 l18 => asN A l18 (A.chk (decide ((0 : Int) ≤ i)) (nthE A (map frmV s.forms) i.toNat fun v20 => asA A v20 fun l21 => aI A l21 fun n24 l23 => aL A 5 l23 fun l27 l26 => asN A l26 (bif (decide (n16 ≥ n24)) then (kc 0 [bool false] []) else (next [iV (IntKind.i64.wrap (i + (1 : Int)))] [[iV s.ver, lst .ro 2 (map frmV s.forms)]])))))) else (next [iV (IntKind.i64.wrap (i + (1 : Int)))] [[iV s.ver, lst .ro 2 (map frmV s.forms)]])))))) else (kc 1 [] [])
def zcl {α : Type} (A : Alg α) (l : List Frm) (g : Frm) (id : Int) (m : Int) (i : Int) (next : List AV → List (List AV) → α) (kc : Nat → List AV → List (List AV) → α) : α :=
  bif (decide (i < m)) then (A.chk (decide ((0 : Int) ≤ i)) (nthE A (map frmV l) i.toNat fun v0 => asA A v0 fun l1 => aI A l1 fun n4 l3 => aL A 5 l3 fun l7 l6 => asN A l6 (bif (n4 == id) then (kc 0 [bool true] [[iV n4, lst .ro 5 l7]]) else (next [iV id, lst .ro 2 (map frmV l), iV m, iV (IntKind.i64.wrap (i + (1 : Int)))] [[iV g.id, lst .ro 5 (map fldV g.fields)]])))) else (kc 1 [] [[iV g.id, lst .ro 5 (map fldV g.fields)]])
def zcm {α : Type} (A : Alg α) (s : Sch) (id : Int) (i : Int) (next : List AV → List (List AV) → α) (kc : Nat → List AV → List (List AV) → α) : α :=
  bif (decide (i < (↑(map frmV s.forms).length : Int))) then (A.chk (decide ((0 : Int) ≤ i)) (nthE A (map frmV s.forms) i.toNat fun v0 => asA A v0 fun l1 => aI A l1 fun n4 l3 => aL A 5 l3 fun l7 l6 => asN A l6 (bif (n4 == id) then (kc 0 [iV i] []) else (next [iV id, iV (IntKind.i64.wrap (i + (1 : Int)))] [[iV s.ver, lst .ro 2 (map frmV s.forms)]])))) else (kc 1 [] [])
def za3 {α : Type} (A : Alg α) (a : List Fld) (b : List Fld) (m : Int) (i : Int) (next : List AV → List (List AV) → α) (kc : Nat → List AV → List (List AV) → α) : α :=
  bif (decide (i < m)) then (A.chk (decide ((0 : Int) ≤ i)) (nthE A (map fldV a) i.toNat fun v0 => asA A v0 fun l1 => aI A l1 fun n4 l3 => aI A l3 fun n7 l6 => aI A l6 fun n10 l9 => aI A l9 fun n13 l12 => aI A l12 fun n16 l15 => asN A l15 (A.chk (decide ((0 : Int) ≤ i)) (nthE A (map fldV b) i.toNat fun v17 => asA A v17 fun l18 => aI A l18 fun n21 l20 => aI A l20 fun n24 l23 => aI A l23 fun n27 l26 => aI A l26 fun n30 l29 => aI A l29 fun n33 l32 => asN A l32 (bif (!(n4 == n21 && (n7 == n24 && (n10 == n27 && (n13 == n30 && (n16 == n33 && true)))))) then (kc 0 [bool false] []) else (next [lst .ro 5 (map fldV a), lst .ro 5 (map fldV b), iV m, iV (IntKind.i64.wrap (i + (1 : Int)))] [])))))) else (kc 1 [] [])
theorem zsm (f : Fld) {r : CR} (h : zj2 (OA (tbl E0) (ltbl E0 92 0)) f (fun r o => some (r, o)) = some r) : tbl E0 92 [fldV f] [] = some r :=
  tblF Tryz.func92 h
theorem zgm (f : Fld) {r : CR} (h : za1 (OA (tbl E0) (ltbl E0 94 0)) f (fun r o => some (r, o)) = some r) : tbl E0 94 [fldV f] [] = some r :=
  tblF Tryz.func94 h
theorem zsn (n : Int) {r : CR} (h : zcg (OA (tbl E0) (ltbl E0 110 0)) n (fun r o => some (r, o)) = some r) : tbl E0 110 [iV n] [] = some r :=
  tblF Tryz.func110 h
theorem zvk (f : Fld) {r : CR} (h : zm5 (OA (tbl E0) (ltbl E0 95 0)) f (fun r o => some (r, o)) = some r) : tbl E0 95 [fldV f] [] = some r :=
  tblF Tryz.func95 h
theorem zvl (f : Fld) {r : CR} (h : zm6 (OA (tbl E0) (ltbl E0 93 0)) f (fun r o => some (r, o)) = some r) : tbl E0 93 [fldV f] [] = some r :=
  tblF Tryz.func93 h
theorem z7y (f : Fld) {r : CR} (h : z65 (OA (tbl E0) (ltbl E0 57 0)) f (fun r o => some (r, o)) = some r) : tbl E0 57 [fldV f] [] = some r :=
  tblF Tryz.func57 h
theorem zso (f : Fld) {r : CR} (h : zj3 (OA (tbl E0) (ltbl E0 65 0)) f (fun r o => some (r, o)) = some r) : tbl E0 65 [fldV f] [] = some r :=
  tblF Tryz.func65 h
theorem zvm (n : Int) {r : CR} (h : zfh (OA (tbl E0) (ltbl E0 98 0)) n (fun r o => some (r, o)) = some r) : tbl E0 98 [iV n] [] = some r :=
  tblF Tryz.func98 h
theorem zvn (f : Fld) {r : CR} (h : zm7 (OA (tbl E0) (ltbl E0 58 0)) f (fun r o => some (r, o)) = some r) : tbl E0 58 [fldV f] [] = some r :=
  tblF Tryz.func58 h
theorem zvo (f : Frm) {r : CR} (h : zm8 (OA (tbl E0) (ltbl E0 52 0)) f (fun r o => some (r, o)) = some r) : tbl E0 52 [frmV f] [] = some r :=
  tblF Tryz.func52 h
theorem zvp (f : Frm) {r : CR} (h : zm9 (OA (tbl E0) (ltbl E0 68 0)) f (fun r o => some (r, o)) = some r) : tbl E0 68 [frmV f] [] = some r :=
  tblF Tryz.func68 h
theorem zvq (f : Frm) {r : CR} (h : zma (OA (tbl E0) (ltbl E0 51 0)) f (fun r o => some (r, o)) = some r) : tbl E0 51 [frmV f] [] = some r :=
  tblF Tryz.func51 h
theorem zvr (f : Frm) {r : CR} (h : zmb (OA (tbl E0) (ltbl E0 36 0)) f (fun r o => some (r, o)) = some r) : tbl E0 36 [frmV f] [] = some r :=
  tblF Tryz.func36 h
theorem t_sAt (f : Frm) (id : Int) {r : CR} (h : s_sAt (OA (tbl E0) (ltbl E0 50 0)) f id (fun r o => some (r, o)) = some r) : tbl E0 50 [frmV f, iV id] [] = some r :=
  tblF Tryz.func50 h
theorem zy9 (f : Fld) (id : Int) {r : CR} (h : zps (OA (tbl E0) (ltbl E0 91 0)) f id (fun r o => some (r, o)) = some r) : tbl E0 91 [fldV f, .rp [iV id] 0] [] = some r :=
  tblF Tryz.func91 h
theorem zle (l : List Fld) (id : Int) {r : CR} (h : zbq (OA (tbl E0) (ltbl E0 90 0)) l id (fun r o => some (r, o)) = some r) : tbl E0 90 [fldsV l, .clo 91 [.rp [iV id] 0]] [] = some r :=
  tblF Tryz.func90 h
theorem t_yAt (f : Frm) (id : Int) {r : CR} (h : s_yAt (OA (tbl E0) (ltbl E0 22 0)) f id (fun r o => some (r, o)) = some r) : tbl E0 22 [frmV f, iV id] [] = some r :=
  tblF Tryz.func22 h
theorem zsp (s : Sch) {r : CR} (h : zj4 (OA (tbl E0) (ltbl E0 40 0)) s (fun r o => some (r, o)) = some r) : tbl E0 40 [schV s] [] = some r :=
  tblF Tryz.func40 h
theorem zpt (s : Sch) {r : CR} (h : zgl (OA (tbl E0) (ltbl E0 29 0)) s (fun r o => some (r, o)) = some r) : tbl E0 29 [schV s] [] = some r :=
  tblF Tryz.func29 h
theorem zvs (s : Sch) (id : Int) {r : CR} (h : zfi (OA (tbl E0) (ltbl E0 27 0)) s id (fun r o => some (r, o)) = some r) : tbl E0 27 [schV s, iV id] [] = some r :=
  tblF Tryz.func27 h
theorem zvt (s : Sch) (id : Int) {r : CR} (h : zmc (OA (tbl E0) (ltbl E0 13 0)) s id (fun r o => some (r, o)) = some r) : tbl E0 13 [schV s, iV id] [] = some r :=
  tblF Tryz.func13 h
theorem zsq (a b : List Fld) {r : CR} (h : zj5 (OA (tbl E0) (ltbl E0 103 0)) a b (fun r o => some (r, o)) = some r) : tbl E0 103 [fldsV a, fldsV b] [] = some r :=
  tblF Tryz.func103 h
theorem za4 (n w : Int) {r : LR} (h : z73 (OA (tbl E0) (ltbl E0 110 0)) n w (fun vs os => ltbl E0 110 0 2 vs os) (fun j vs os => some (j, vs, os)) = some r) : ltbl E0 110 0 2 [iV n, iV w] [] = some r :=
  ltblF Tryz.func110 h
theorem zcn (n w : Int) {r : LR} (h : z8k (OA (tbl E0) (ltbl E0 98 0)) n w (fun vs os => ltbl E0 98 0 2 vs os) (fun j vs os => some (j, vs, os)) = some r) : ltbl E0 98 0 2 [iV n, iV w] [] = some r :=
  ltblF Tryz.func98 h
theorem zj7 (l : List Fld) (n m i : Int) {r : LR} (h : zch (OA (tbl E0) (ltbl E0 52 0)) l n m i (fun vs os => ltbl E0 52 0 3 vs os) (fun j vs os => some (j, vs, os)) = some r) : ltbl E0 52 0 3 [iV n, fldsV l, iV m, iV i] [] = some r :=
  ltblF Tryz.func52 h
theorem zj8 (f : Frm) (n i : Int) {r : LR} (h : zci (OA (tbl E0) (ltbl E0 68 0)) f n i (fun vs os => ltbl E0 68 0 3 vs os) (fun j vs os => some (j, vs, os)) = some r) : ltbl E0 68 0 3 [iV n, iV i] [[iV f.id, fldsV f.fields]] = some r :=
  ltblF Tryz.func68 h
theorem zj9 (l : List Fld) (seen : List Bool) (m i : Int) {r : LR} (h : zcj (OA (tbl E0) (ltbl E0 51 0)) l seen m i (fun vs os => ltbl E0 51 0 5 vs os) (fun j vs os => some (j, vs, os)) = some r) : ltbl E0 51 0 5 [fldsV l, iV m, iV i] [seen.map AV.bool] = some r :=
  ltblF Tryz.func51 h
theorem zja (f : Frm) (i : Int) {r : LR} (h : zck (OA (tbl E0) (ltbl E0 36 0)) f i (fun vs os => ltbl E0 36 0 4 vs os) (fun j vs os => some (j, vs, os)) = some r) : ltbl E0 36 0 4 [iV i] [[iV f.id, fldsV f.fields]] = some r :=
  ltblF Tryz.func36 h
theorem zpu (f : Frm) (id i : Int) {r : LR} (h : zj6 (OA (tbl E0) (ltbl E0 22 0)) f id i (fun vs os => ltbl E0 22 0 2 vs os) (fun j vs os => some (j, vs, os)) = some r) : ltbl E0 22 0 2 [iV id, iV i] [[iV f.id, fldsV f.fields]] = some r :=
  ltblF Tryz.func22 h
theorem za5 (l : List Fld) (id m i : Int) {r : LR} (h : z6j (OA (tbl E0) (ltbl E0 90 0)) l id m i (fun vs os => ltbl E0 90 0 2 vs os) (fun j vs os => some (j, vs, os)) = some r) : ltbl E0 90 0 2 [fldsV l, .clo 91 [.rp [iV id] 0], iV m, iV i] [] = some r :=
  ltblF Tryz.func90 h
theorem zgn (l : List Frm) (last m i : Int) {r : LR} (h : za2 (OA (tbl E0) (ltbl E0 40 0)) l last m i (fun vs os => ltbl E0 40 0 5 vs os) (fun j vs os => some (j, vs, os)) = some r) : ltbl E0 40 0 5 [iV last, frmsV l, iV m, iV i] [] = some r :=
  ltblF Tryz.func40 h
theorem ze2 (s : Sch) (i : Int) {r : LR} (h : z5x (OA (tbl E0) (ltbl E0 29 0)) s i (fun vs os => ltbl E0 29 0 4 vs os) (fun j vs os => some (j, vs, os)) = some r) : ltbl E0 29 0 4 [iV i] [[iV s.ver, frmsV s.forms]] = some r :=
  ltblF Tryz.func29 h
theorem zjb (l : List Frm) (g : Frm) (id m i : Int) {r : LR} (h : zcl (OA (tbl E0) (ltbl E0 27 0)) l g id m i (fun vs os => ltbl E0 27 0 2 vs os) (fun j vs os => some (j, vs, os)) = some r) : ltbl E0 27 0 2 [iV id, frmsV l, iV m, iV i] [[iV g.id, fldsV g.fields]] = some r :=
  ltblF Tryz.func27 h
theorem zjc (s : Sch) (id i : Int) {r : LR} (h : zcm (OA (tbl E0) (ltbl E0 13 0)) s id i (fun vs os => ltbl E0 13 0 2 vs os) (fun j vs os => some (j, vs, os)) = some r) : ltbl E0 13 0 2 [iV id, iV i] [[iV s.ver, frmsV s.forms]] = some r :=
  ltblF Tryz.func13 h
theorem zgo (a b : List Fld) (m i : Int) {r : LR} (h : za3 (OA (tbl E0) (ltbl E0 103 0)) a b m i (fun vs os => ltbl E0 103 0 4 vs os) (fun j vs os => some (j, vs, os)) = some r) : ltbl E0 103 0 4 [fldsV a, fldsV b, iV m, iV i] [] = some r :=
  ltblF Tryz.func103 h
end V
namespace V
structure Stp where
  op : Int
  form : Int
  field : Int
  place : Int
  to : Int
  a : Int
  b : Int
  f : Fld
  n : Int
  s : List UInt8
  t : List Int
  fields : List Fld
  deriving DecidableEq
abbrev intsV (l : List Int) : AV := AV.lst .ro 1 (l.map fun n => AV.int .i64 n)
abbrev stpC (x : Stp) : List AV := [.int .i64 x.op, .int .i64 x.form, .int .i64 x.field, .int .i64 x.place, .int .i64 x.to, .int .i64 x.a, .int .i64 x.b, .int .i64 x.f.id, .int .i64 x.f.kind, .int .i64 x.f.lo, .int .i64 x.f.hi, .int .i64 x.f.most, .int .i64 x.n, .str x.s, intsV x.t, fldsV x.fields]
abbrev stpV (x : Stp) : AV := AV.agg (stpC x)
abbrev stpsV (l : List Stp) : AV := AV.lst .ro 16 (l.map stpV)
open AV (int lst agg str bool ref clo)
open List (map)
def zmd {α : Type} (A : Alg α) (op : Int) (kc : List AV → List (Nat × List AV) → α) : α :=
  bif (op == (1 : Int)) then (A.loop 1000004 [iV op, bool true] [] fun j0 l1 l2 => bif (j0.beq 50001) then (asN A l1 (asN A l2 (kc [lst .ro 1 []] []))) else (bif (j0.beq 0) then (aL A 1 l1 fun l5 l4 => asN A l4 (asN A l2 (kc [lst .ro 1 l5] []))) else A.fail)) else (A.loop 1000004 [iV op, bool (op == (22 : Int))] [] fun j6 l7 l8 => bif (j6.beq 50001) then (asN A l7 (asN A l8 (kc [lst .ro 1 []] []))) else (bif (j6.beq 0) then (aL A 1 l7 fun l11 l10 => asN A l10 (asN A l8 (kc [lst .ro 1 l11] []))) else A.fail))
def zjd {α : Type} (A : Alg α) (op : Int) (b : Bool) (next : List AV → List (List AV) → α) (kc : Nat → List AV → List (List AV) → α) : α :=
  bif b then (kc 0 [lst .ro 1 [iV 0, iV 2, iV 6, iV 7]] []) else (bif (op == (2 : Int)) then (kc 0 [lst .ro 1 [iV 0, iV 1, iV 7]] []) else (bif (op == (3 : Int)) then (A.loop 1000009 [iV op, bool true] [] fun j0 l1 l2 => bif (j0.beq 50001) then (asN A l1 (asN A l2 (kc 50001 [] []))) else (bif (j0.beq 0) then (aL A 1 l1 fun l5 l4 => asN A l4 (asN A l2 (kc 0 [lst .ro 1 l5] []))) else A.fail)) else (A.loop 1000009 [iV op, bool (op == (23 : Int))] [] fun j6 l7 l8 => bif (j6.beq 50001) then (asN A l7 (asN A l8 (kc 50001 [] []))) else (bif (j6.beq 0) then (aL A 1 l7 fun l11 l10 => asN A l10 (asN A l8 (kc 0 [lst .ro 1 l11] []))) else A.fail))))
def zje {α : Type} (A : Alg α) (op : Int) (b : Bool) (next : List AV → List (List AV) → α) (kc : Nat → List AV → List (List AV) → α) : α :=
  bif b then (kc 0 [lst .ro 1 [iV 0, iV 1, iV 6]] []) else (bif (op == (4 : Int)) then (kc 0 [lst .ro 1 [iV 0, iV 1, iV 5]] []) else (bif (op == (24 : Int)) then (kc 0 [lst .ro 1 [iV 0, iV 1, iV 5, iV 6]] []) else (bif (op == (5 : Int)) then (kc 0 [lst .ro 1 [iV 0, iV 1, iV 4, iV 8]] []) else (bif (op == (25 : Int)) then (kc 0 [lst .ro 1 [iV 0, iV 1, iV 8]] []) else (bif (op == (6 : Int)) then (kc 0 [lst .ro 1 [iV 0, iV 1, iV 4, iV 3]] []) else (bif (op == (26 : Int)) then (kc 0 [lst .ro 1 [iV 0, iV 1, iV 4, iV 3, iV 6]] []) else (bif (op == (7 : Int)) then (kc 0 [lst .ro 1 [iV 0, iV 1, iV 2]] []) else (bif (op == (27 : Int)) then (kc 0 [lst .ro 1 [iV 0, iV 1, iV 2]] []) else (bif (op == (8 : Int)) then (kc 0 [lst .ro 1 [iV 0, iV 1, iV 3]] []) else (bif (op == (28 : Int)) then (kc 0 [lst .ro 1 [iV 0, iV 1, iV 3]] []) else (bif (op == (9 : Int)) then (kc 0 [lst .ro 1 [iV 0, iV 9]] []) else (bif (op == (30 : Int)) then (kc 0 [lst .ro 1 [iV 0, iV 9]] []) else (bif (op == (10 : Int)) then (kc 0 [lst .ro 1 [iV 0]] []) else (bif (op == (29 : Int)) then (kc 0 [lst .ro 1 [iV 0]] []) else (bif (op == (21 : Int)) then (kc 0 [lst .ro 1 [iV 0, iV 1]] []) else (kc 50001 [] []))))))))))))))))
def s_tin {α : Type} (A : Alg α) (n : Int) (lo : Int) (hi : Int) (kc : List AV → List (Nat × List AV) → α) : α :=
  A.join (fun x0 => bif (decide (n ≥ lo)) then (x0 (decide (n ≤ hi))) else (x0 false)) fun b1 => kc [bool b1] []
def zme {α : Type} (A : Alg α) (x : Stp) (kc : List AV → List (Nat × List AV) → α) : α :=
  A.callx 75 [iV x.op] fun l0 => aL A 1 l0 fun l3 l2 => asN A l2 (A.loop 3 [lst .ro 1 l3, iV (↑l3.length : Int), iV 0] [[iV x.op, iV x.form, iV x.field, iV x.place, iV x.to, iV x.a, iV x.b, iV x.f.id, iV x.f.kind, iV x.f.lo, iV x.f.hi, iV x.f.most, iV x.n, str x.s, lst .ro 1 (map (fun n => iV n) x.t), lst .ro 5 (map fldV x.fields)], [iV 0, iV 0, iV 0, iV 0, iV 0, iV 0, iV 0, iV 0, iV 0, iV 0, iV 0, iV 0, iV 0, str [], lst .ro 1 [], lst .ro 5 []], [iV x.op, iV 0, iV 0, iV 0, iV 0, iV 0, iV 0, iV 0, iV 0, iV 0, iV 0, iV 0, iV 0, str [], lst .ro 1 [], lst .ro 5 []]] fun j4 l5 l6 => bif (j4.beq 1) then (asN A l5 (asC A l6 fun l7 l8 => aI A l7 fun n11 l10 => aI A l10 fun n14 l13 => aI A l13 fun n17 l16 => aI A l16 fun n20 l19 => aI A l19 fun n23 l22 => aI A l22 fun n26 l25 => aI A l25 fun n29 l28 => aI A l28 fun n32 l31 => aI A l31 fun n35 l34 => aI A l34 fun n38 l37 => aI A l37 fun n41 l40 => aI A l40 fun n44 l43 => aI A l43 fun n47 l46 => aS A l46 fun l50 l49 => aL A 1 l49 fun l53 l52 => aL A 5 l52 fun l56 l55 => asN A l55 (asC A l8 fun l57 l58 => aI A l57 fun n61 l60 => aI A l60 fun n64 l63 => aI A l63 fun n67 l66 => aI A l66 fun n70 l69 => aI A l69 fun n73 l72 => aI A l72 fun n76 l75 => aI A l75 fun n79 l78 => aI A l78 fun n82 l81 => aI A l81 fun n85 l84 => aI A l84 fun n88 l87 => aI A l87 fun n91 l90 => aI A l90 fun n94 l93 => aI A l93 fun n97 l96 => aS A l96 fun l100 l99 => aL A 1 l99 fun l103 l102 => aL A 5 l102 fun l106 l105 => asN A l105 (asN A l58 (kc [agg [iV n61, iV n64, iV n67, iV n70, iV n73, iV n76, iV n79, iV n82, iV n85, iV n88, iV n91, iV n94, iV n97, str l100, lst .ro 1 l103, lst .ro 5 l106]] []))))) else A.fail)
def zjf {α : Type} (A : Alg α) (x : Stp) (y : Stp) (z : Stp) (l : List Int) (m : Int) (i : Int) (next : List AV → List (List AV) → α) (kc : Nat → List AV → List (List AV) → α) : α :=
  bif (decide (i < m)) then (A.chk (decide ((0 : Int) ≤ i)) (nthE A (map (fun n => iV n) l) i.toNat fun v0 => asI A .i64 v0 fun n1 => bif (n1 == (0 : Int)) then (next [lst .ro 1 (map (fun n => iV n) l), iV m, iV (IntKind.i64.wrap (i + (1 : Int)))] [[iV x.op, iV x.form, iV x.field, iV x.place, iV x.to, iV x.a, iV x.b, iV x.f.id, iV x.f.kind, iV x.f.lo, iV x.f.hi, iV x.f.most, iV x.n, str x.s, lst .ro 1 (map (fun n => iV n) x.t), lst .ro 5 (map fldV x.fields)], [iV y.op, iV y.form, iV y.field, iV y.place, iV y.to, iV y.a, iV y.b, iV y.f.id, iV y.f.kind, iV y.f.lo, iV y.f.hi, iV y.f.most, iV y.n, str y.s, lst .ro 1 (map (fun n => iV n) y.t), lst .ro 5 (map fldV y.fields)], [iV z.op, iV x.form, iV z.field, iV z.place, iV z.to, iV z.a, iV z.b, iV z.f.id, iV z.f.kind, iV z.f.lo, iV z.f.hi, iV z.f.most, iV z.n, str z.s, lst .ro 1 (map (fun n => iV n) z.t), lst .ro 5 (map fldV z.fields)]]) else (bif (n1 == (1 : Int)) then (next [lst .ro 1 (map (fun n => iV n) l), iV m, iV (IntKind.i64.wrap (i + (1 : Int)))] [[iV x.op, iV x.form, iV x.field, iV x.place, iV x.to, iV x.a, iV x.b, iV x.f.id, iV x.f.kind, iV x.f.lo, iV x.f.hi, iV x.f.most, iV x.n, str x.s, lst .ro 1 (map (fun n => iV n) x.t), lst .ro 5 (map fldV x.fields)], [iV y.op, iV y.form, iV y.field, iV y.place, iV y.to, iV y.a, iV y.b, iV y.f.id, iV y.f.kind, iV y.f.lo, iV y.f.hi, iV y.f.most, iV y.n, str y.s, lst .ro 1 (map (fun n => iV n) y.t), lst .ro 5 (map fldV y.fields)], [iV z.op, iV z.form, iV x.field, iV z.place, iV z.to, iV z.a, iV z.b, iV z.f.id, iV z.f.kind, iV z.f.lo, iV z.f.hi, iV z.f.most, iV z.n, str z.s, lst .ro 1 (map (fun n => iV n) z.t), lst .ro 5 (map fldV z.fields)]]) else (bif (n1 == (2 : Int)) then (next [lst .ro 1 (map (fun n => iV n) l), iV m, iV (IntKind.i64.wrap (i + (1 : Int)))] [[iV x.op, iV x.form, iV x.field, iV x.place, iV x.to, iV x.a, iV x.b, iV x.f.id, iV x.f.kind, iV x.f.lo, iV x.f.hi, iV x.f.most, iV x.n, str x.s, lst .ro 1 (map (fun n => iV n) x.t), lst .ro 5 (map fldV x.fields)], [iV y.op, iV y.form, iV y.field, iV y.place, iV y.to, iV y.a, iV y.b, iV y.f.id, iV y.f.kind, iV y.f.lo, iV y.f.hi, iV y.f.most, iV y.n, str y.s, lst .ro 1 (map (fun n => iV n) y.t), lst .ro 5 (map fldV y.fields)], [iV z.op, iV z.form, iV z.field, iV x.place, iV z.to, iV z.a, iV z.b, iV z.f.id, iV z.f.kind, iV z.f.lo, iV z.f.hi, iV z.f.most, iV z.n, str z.s, lst .ro 1 (map (fun n => iV n) z.t), lst .ro 5 (map fldV z.fields)]]) else (bif (n1 == (3 : Int)) then (next [lst .ro 1 (map (fun n => iV n) l), iV m, iV (IntKind.i64.wrap (i + (1 : Int)))] [[iV x.op, iV x.form, iV x.field, iV x.place, iV x.to, iV x.a, iV x.b, iV x.f.id, iV x.f.kind, iV x.f.lo, iV x.f.hi, iV x.f.most, iV x.n, str x.s, lst .ro 1 (map (fun n => iV n) x.t), lst .ro 5 (map fldV x.fields)], [iV y.op, iV y.form, iV y.field, iV y.place, iV y.to, iV y.a, iV y.b, iV y.f.id, iV y.f.kind, iV y.f.lo, iV y.f.hi, iV y.f.most, iV y.n, str y.s, lst .ro 1 (map (fun n => iV n) y.t), lst .ro 5 (map fldV y.fields)], [iV z.op, iV z.form, iV z.field, iV z.place, iV x.to, iV z.a, iV z.b, iV z.f.id, iV z.f.kind, iV z.f.lo, iV z.f.hi, iV z.f.most, iV z.n, str z.s, lst .ro 1 (map (fun n => iV n) z.t), lst .ro 5 (map fldV z.fields)]]) else (bif (n1 == (5 : Int)) then (next [lst .ro 1 (map (fun n => iV n) l), iV m, iV (IntKind.i64.wrap (i + (1 : Int)))] [[iV x.op, iV x.form, iV x.field, iV x.place, iV x.to, iV x.a, iV x.b, iV x.f.id, iV x.f.kind, iV x.f.lo, iV x.f.hi, iV x.f.most, iV x.n, str x.s, lst .ro 1 (map (fun n => iV n) x.t), lst .ro 5 (map fldV x.fields)], [iV y.op, iV y.form, iV y.field, iV y.place, iV y.to, iV y.a, iV y.b, iV y.f.id, iV y.f.kind, iV y.f.lo, iV y.f.hi, iV y.f.most, iV y.n, str y.s, lst .ro 1 (map (fun n => iV n) y.t), lst .ro 5 (map fldV y.fields)], [iV z.op, iV z.form, iV z.field, iV z.place, iV z.to, iV x.a, iV x.b, iV z.f.id, iV z.f.kind, iV z.f.lo, iV z.f.hi, iV z.f.most, iV z.n, str z.s, lst .ro 1 (map (fun n => iV n) z.t), lst .ro 5 (map fldV z.fields)]]) else (bif (n1 == (4 : Int)) then (next [lst .ro 1 (map (fun n => iV n) l), iV m, iV (IntKind.i64.wrap (i + (1 : Int)))] [[iV x.op, iV x.form, iV x.field, iV x.place, iV x.to, iV x.a, iV x.b, iV x.f.id, iV x.f.kind, iV x.f.lo, iV x.f.hi, iV x.f.most, iV x.n, str x.s, lst .ro 1 (map (fun n => iV n) x.t), lst .ro 5 (map fldV x.fields)], [iV y.op, iV y.form, iV y.field, iV y.place, iV y.to, iV y.a, iV y.b, iV y.f.id, iV y.f.kind, iV y.f.lo, iV y.f.hi, iV y.f.most, iV y.n, str y.s, lst .ro 1 (map (fun n => iV n) y.t), lst .ro 5 (map fldV y.fields)], [iV z.op, iV z.form, iV z.field, iV z.place, iV z.to, iV x.a, iV z.b, iV z.f.id, iV z.f.kind, iV z.f.lo, iV z.f.hi, iV z.f.most, iV z.n, str z.s, lst .ro 1 (map (fun n => iV n) z.t), lst .ro 5 (map fldV z.fields)]]) else (bif (n1 == (6 : Int)) then (next [lst .ro 1 (map (fun n => iV n) l), iV m, iV (IntKind.i64.wrap (i + (1 : Int)))] [[iV x.op, iV x.form, iV x.field, iV x.place, iV x.to, iV x.a, iV x.b, iV x.f.id, iV x.f.kind, iV x.f.lo, iV x.f.hi, iV x.f.most, iV x.n, str x.s, lst .ro 1 (map (fun n => iV n) x.t), lst .ro 5 (map fldV x.fields)], [iV y.op, iV y.form, iV y.field, iV y.place, iV y.to, iV y.a, iV y.b, iV y.f.id, iV y.f.kind, iV y.f.lo, iV y.f.hi, iV y.f.most, iV y.n, str y.s, lst .ro 1 (map (fun n => iV n) y.t), lst .ro 5 (map fldV y.fields)], [iV z.op, iV z.form, iV z.field, iV z.place, iV z.to, iV z.a, iV z.b, iV x.f.id, iV x.f.kind, iV x.f.lo, iV x.f.hi, iV x.f.most, iV z.n, str z.s, lst .ro 1 (map (fun n => iV n) z.t), lst .ro 5 (map fldV z.fields)]]) else (bif (n1 == (7 : Int)) then (next [lst .ro 1 (map (fun n => iV n) l), iV m, iV (IntKind.i64.wrap (i + (1 : Int)))] [[iV x.op, iV x.form, iV x.field, iV x.place, iV x.to, iV x.a, iV x.b, iV x.f.id, iV x.f.kind, iV x.f.lo, iV x.f.hi, iV x.f.most, iV x.n, str x.s, lst .ro 1 (map (fun n => iV n) x.t), lst .ro 5 (map fldV x.fields)], [iV y.op, iV y.form, iV y.field, iV y.place, iV y.to, iV y.a, iV y.b, iV y.f.id, iV y.f.kind, iV y.f.lo, iV y.f.hi, iV y.f.most, iV y.n, str y.s, lst .ro 1 (map (fun n => iV n) y.t), lst .ro 5 (map fldV y.fields)], [iV z.op, iV z.form, iV z.field, iV z.place, iV z.to, iV z.a, iV z.b, iV z.f.id, iV z.f.kind, iV z.f.lo, iV z.f.hi, iV z.f.most, iV x.n, str x.s, lst .ro 1 (map (fun n => iV n) z.t), lst .ro 5 (map fldV z.fields)]]) else (bif (n1 == (8 : Int)) then (next [lst .ro 1 (map (fun n => iV n) l), iV m, iV (IntKind.i64.wrap (i + (1 : Int)))] [[iV x.op, iV x.form, iV x.field, iV x.place, iV x.to, iV x.a, iV x.b, iV x.f.id, iV x.f.kind, iV x.f.lo, iV x.f.hi, iV x.f.most, iV x.n, str x.s, lst .ro 1 (map (fun n => iV n) x.t), lst .ro 5 (map fldV x.fields)], [iV y.op, iV y.form, iV y.field, iV y.place, iV y.to, iV y.a, iV y.b, iV y.f.id, iV y.f.kind, iV y.f.lo, iV y.f.hi, iV y.f.most, iV y.n, str y.s, lst .ro 1 (map (fun n => iV n) y.t), lst .ro 5 (map fldV y.fields)], [iV z.op, iV z.form, iV z.field, iV z.place, iV z.to, iV z.a, iV z.b, iV z.f.id, iV z.f.kind, iV z.f.lo, iV z.f.hi, iV z.f.most, iV z.n, str z.s, lst .ro 1 (map (fun n => iV n) x.t), lst .ro 5 (map fldV z.fields)]]) else (bif (n1 == (9 : Int)) then (next [lst .ro 1 (map (fun n => iV n) l), iV m, iV (IntKind.i64.wrap (i + (1 : Int)))] [[iV x.op, iV x.form, iV x.field, iV x.place, iV x.to, iV x.a, iV x.b, iV x.f.id, iV x.f.kind, iV x.f.lo, iV x.f.hi, iV x.f.most, iV x.n, str x.s, lst .ro 1 (map (fun n => iV n) x.t), lst .ro 5 (map fldV x.fields)], [iV y.op, iV y.form, iV y.field, iV y.place, iV y.to, iV y.a, iV y.b, iV y.f.id, iV y.f.kind, iV y.f.lo, iV y.f.hi, iV y.f.most, iV y.n, str y.s, lst .ro 1 (map (fun n => iV n) y.t), lst .ro 5 (map fldV y.fields)], [iV z.op, iV z.form, iV z.field, iV z.place, iV z.to, iV z.a, iV z.b, iV z.f.id, iV z.f.kind, iV z.f.lo, iV z.f.hi, iV z.f.most, iV z.n, str z.s, lst .ro 1 (map (fun n => iV n) z.t), lst .ro 5 (map fldV x.fields)]]) else (next [lst .ro 1 (map (fun n => iV n) l), iV m, iV (IntKind.i64.wrap (i + (1 : Int)))] [[iV x.op, iV x.form, iV x.field, iV x.place, iV x.to, iV x.a, iV x.b, iV x.f.id, iV x.f.kind, iV x.f.lo, iV x.f.hi, iV x.f.most, iV x.n, str x.s, lst .ro 1 (map (fun n => iV n) x.t), lst .ro 5 (map fldV x.fields)], [iV y.op, iV y.form, iV y.field, iV y.place, iV y.to, iV y.a, iV y.b, iV y.f.id, iV y.f.kind, iV y.f.lo, iV y.f.hi, iV y.f.most, iV y.n, str y.s, lst .ro 1 (map (fun n => iV n) y.t), lst .ro 5 (map fldV y.fields)], [iV z.op, iV z.form, iV z.field, iV z.place, iV z.to, iV z.a, iV z.b, iV z.f.id, iV z.f.kind, iV z.f.lo, iV z.f.hi, iV z.f.most, iV z.n, str z.s, lst .ro 1 (map (fun n => iV n) z.t), lst .ro 5 (map fldV z.fields)]])))))))))))) else (kc 1 [] [[iV y.op, iV y.form, iV y.field, iV y.place, iV y.to, iV y.a, iV y.b, iV y.f.id, iV y.f.kind, iV y.f.lo, iV y.f.hi, iV y.f.most, iV y.n, str y.s, lst .ro 1 (map (fun n => iV n) y.t), lst .ro 5 (map fldV y.fields)], [iV z.op, iV z.form, iV z.field, iV z.place, iV z.to, iV z.a, iV z.b, iV z.f.id, iV z.f.kind, iV z.f.lo, iV z.f.hi, iV z.f.most, iV z.n, str z.s, lst .ro 1 (map (fun n => iV n) z.t), lst .ro 5 (map fldV z.fields)]])
def zjg {α : Type} (A : Alg α) (l : List Int) (below : Int) (kc : List AV → List (Nat × List AV) → α) : α :=
  A.loop 3 [lst .ro 1 (map (fun n => iV n) l), iV below, lst .ro 1 (map (fun n => iV n) l), iV (↑(map (fun n => iV n) l).length : Int), iV 0] [(List.replicate 1000 (bool false))] fun j0 l1 l2 => bif (j0.beq 0) then (aB A l1 fun b5 l4 => asN A l4 (asN A l2 (kc [bool b5] []))) else (bif (j0.beq 1) then (aL A 1 l1 fun l8 l7 => asN A l7 (asN A l2 (A.callx 100 [iV (↑l8.length : Int), iV 1, iV 64] fun l9 => aB A l9 fun b12 l11 => asN A l11 (kc [bool b12] [])))) else A.fail)
def za6 {α : Type} (A : Alg α) (l : List Int) (below : Int) (m : Int) (i : Int) (seen : List Bool) (next : List AV → List (List AV) → α) (kc : Nat → List AV → List (List AV) → α) : α :=
  bif (decide (i < m)) then (A.chk (decide ((0 : Int) ≤ i)) (nthE A (map (fun n => iV n) l) i.toNat fun v0 => asI A .i64 v0 fun n1 => A.join (fun x2 => A.callx 100 [iV n1, iV 0, iV (IntKind.i64.wrap (below - (1 : Int)))] fun l3 => aB A l3 fun b6 l5 => asN A l5 (bif (!b6) then (x2 true) else (A.chk (decide ((0 : Int) ≤ n1) && decide (n1 < (↑(1000 : Nat) : Int))) (nthE A (map bool seen) ((0 : Nat) + n1.toNat * 1) fun v7 => asB A v7 fun b8 => x2 b8)))) fun b9 => bif b9 then (kc 0 [bool false] []) else (A.chk (decide ((0 : Int) ≤ n1) && decide (n1 < (↑(1000 : Nat) : Int))) (A.chk (((0 : Nat) + n1.toNat * 1 + (1 : Nat)).ble (map bool seen).length) (A.chk ((setAt (map bool seen) ((0 : Nat) + n1.toNat * 1) [bool true]).all AV.flat1) (next [lst .ro 1 (map (fun n => iV n) l), iV below, lst .ro 1 (map (fun n => iV n) l), iV m, iV (IntKind.i64.wrap (i + (1 : Int)))] [(setAt (map bool seen) ((0 : Nat) + n1.toNat * 1) [bool true])])))))) else (kc 1 [lst .ro 1 (map (fun n => iV n) l)] [])
def zmf {α : Type} (A : Alg α) (x : Stp) (p : Int) (kc : List AV → List (Nat × List AV) → α) : α :=
  bif (p == (0 : Int)) then (A.callx 100 [iV x.form, iV 0, iV 200] fun l0 => aB A l0 fun b3 l2 => asN A l2 (kc [bool b3] [])) else (bif (p == (1 : Int)) then (A.callx 100 [iV x.field, iV 0, iV 255] fun l4 => aB A l4 fun b7 l6 => asN A l6 (kc [bool b7] [])) else (bif (p == (2 : Int)) then (A.callx 100 [iV x.place, iV 0, iV 8] fun l8 => aB A l8 fun b11 l10 => asN A l10 (kc [bool b11] [])) else (bif (p == (3 : Int)) then (A.join (fun x12 => A.callx 100 [iV x.to, iV 0, iV 255] fun l13 => aB A l13 fun b16 l15 => asN A l15 (bif b16 then (x12 (x.to != x.field)) else (x12 false))) fun b17 => kc [bool b17] []) else (bif (p == (4 : Int)) then (A.join (fun x18 => bif (x.op == (5 : Int)) then (A.callx 100 [iV x.a, iV 1, iV 1000] fun l19 => aB A l19 fun b22 l21 => asN A l21 (bif b22 then (x18 true) else (bif (x.op != (5 : Int)) then (A.callx 100 [iV x.a, iV 2, iV 1048576] fun l23 => aB A l23 fun b26 l25 => asN A l25 (x18 b26)) else (x18 false)))) else (bif (x.op != (5 : Int)) then (A.callx 100 [iV x.a, iV 2, iV 1048576] fun l27 => aB A l27 fun b30 l29 => asN A l29 (x18 b30)) else (x18 false))) fun b31 => kc [bool b31] []) else (bif (p == (5 : Int)) then (A.join (fun x32 => A.callx 100 [iV x.a, iV (-1048576), iV 1048576] fun l33 => aB A l33 fun b36 l35 => asN A l35 (bif b36 then (bif (x.a != (0 : Int)) then (A.callx 100 [iV x.b, iV (-1099511627776), iV 1099511627776] fun l37 => aB A l37 fun b40 l39 => asN A l39 (x32 b40)) else (x32 false)) else (x32 false))) fun b41 => kc [bool b41] []) else (bif (p == (6 : Int)) then (A.join (fun x42 => bif (x.op == (1 : Int)) then (x42 true) else (bif (x.op == (22 : Int)) then (x42 true) else (x42 (x.f.id == x.field)))) fun b43 => A.join (fun x44 => A.callx 92 [agg [iV x.f.id, iV x.f.kind, iV x.f.lo, iV x.f.hi, iV x.f.most]] fun l45 => aB A l45 fun b48 l47 => asN A l47 (bif b48 then (x44 b43) else (x44 false))) fun b49 => kc [bool b49] []) else (bif (p == (7 : Int)) then (bif (x.op == (2 : Int)) then (A.join (fun x50 => A.callx 100 [iV x.n, iV (-1099511627776), iV 1099511627776] fun l51 => aB A l51 fun b54 l53 => asN A l53 (bif b54 then (x50 (decide ((↑x.s.length : Int) ≤ (32 : Int)))) else (x50 false))) fun b55 => kc [bool b55] []) else (A.callx 72 [agg [iV x.f.id, iV x.f.kind, iV x.f.lo, iV x.f.hi, iV x.f.most], agg [iV x.n, str x.s]] fun l56 => aB A l56 fun b59 l58 => asN A l58 (kc [bool b59] []))) else (bif (p == (8 : Int)) then (bif (x.op == (5 : Int)) then (A.callx 101 [lst .ro 1 (map (fun n => iV n) x.t), iV x.a] fun l60 => aB A l60 fun b63 l62 => asN A l62 (kc [bool b63] [])) else (A.callx 101 [lst .ro 1 (map (fun n => iV n) x.t), iV 1000] fun l64 => aB A l64 fun b67 l66 => asN A l66 (kc [bool b67] []))) else (A.callx 51 [agg [iV x.form, lst .ro 5 (map fldV x.fields)]] fun l68 => aB A l68 fun b71 l70 => asN A l70 (kc [bool b71] []))))))))))
def zjh {α : Type} (A : Alg α) (x : Stp) (kc : List AV → List (Nat × List AV) → α) : α :=
  A.callx 75 [iV x.op] fun l0 => aL A 1 l0 fun l3 l2 => asN A l2 (A.loop 3 [lst .ro 1 l3, lst .ro 1 l3, iV (↑l3.length : Int), iV 0] [[iV x.op, iV x.form, iV x.field, iV x.place, iV x.to, iV x.a, iV x.b, iV x.f.id, iV x.f.kind, iV x.f.lo, iV x.f.hi, iV x.f.most, iV x.n, str x.s, lst .ro 1 (map (fun n => iV n) x.t), lst .ro 5 (map fldV x.fields)]] fun j4 l5 l6 => bif (j4.beq 0) then (aB A l5 fun b9 l8 => asN A l8 (asN A l6 (kc [bool b9] []))) else (bif (j4.beq 1) then (aL A 1 l5 fun l12 l11 => asN A l11 (asC A l6 fun l13 l14 => aI A l13 fun n17 l16 => aI A l16 fun n20 l19 => aI A l19 fun n23 l22 => aI A l22 fun n26 l25 => aI A l25 fun n29 l28 => aI A l28 fun n32 l31 => aI A l31 fun n35 l34 => aI A l34 fun n38 l37 => aI A l37 fun n41 l40 => aI A l40 fun n44 l43 => aI A l43 fun n47 l46 => aI A l46 fun n50 l49 => aI A l49 fun n53 l52 => aS A l52 fun l56 l55 => aL A 1 l55 fun l59 l58 => aL A 5 l58 fun l62 l61 => asN A l61 (asN A l14 (bif (decide ((↑l12.length : Int) > (0 : Int))) then (A.callx 78 [agg [iV n17, iV n20, iV n23, iV n26, iV n29, iV n32, iV n35, iV n38, iV n41, iV n44, iV n47, iV n50, iV n53, str l56, lst .ro 1 l59, lst .ro 5 l62]] fun l63 => aA A l63 fun l66 l65 => aI A l66 fun n69 l68 => aI A l68 fun n72 l71 => aI A l71 fun n75 l74 => aI A l74 fun n78 l77 => aI A l77 fun n81 l80 => aI A l80 fun n84 l83 => aI A l83 fun n87 l86 => aI A l86 fun n90 l89 => aI A l89 fun n93 l92 => aI A l92 fun n96 l95 => aI A l95 fun n99 l98 => aI A l98 fun n102 l101 => aI A l101 fun n105 l104 => aS A l104 fun l108 l107 => aL A 1 l107 fun l111 l110 => aL A 5 l110 fun l114 l113 => asN A l113 (asN A l65 (A.callx 77 [agg [iV n17, iV n20, iV n23, iV n26, iV n29, iV n32, iV n35, iV n38, iV n41, iV n44, iV n47, iV n50, iV n53, str l56, lst .ro 1 l59, lst .ro 5 l62], agg [iV n69, iV n72, iV n75, iV n78, iV n81, iV n84, iV n87, iV n90, iV n93, iV n96, iV n99, iV n102, iV n105, str l108, lst .ro 1 l111, lst .ro 5 l114]] fun l115 => aB A l115 fun b118 l117 => asN A l117 (kc [bool b118] [])))) else (kc [bool false] []))))) else A.fail))
def za7 {α : Type} (A : Alg α) (x : Stp) (l : List Int) (q : List Int) (m : Int) (i : Int) (next : List AV → List (List AV) → α) (kc : Nat → List AV → List (List AV) → α) : α :=
  bif (decide (i < m)) then (A.chk (decide ((0 : Int) ≤ i)) (nthE A (map (fun n => iV n) q) i.toNat fun v0 => asI A .i64 v0 fun n1 => A.callx 76 [agg [iV x.op, iV x.form, iV x.field, iV x.place, iV x.to, iV x.a, iV x.b, iV x.f.id, iV x.f.kind, iV x.f.lo, iV x.f.hi, iV x.f.most, iV x.n, str x.s, lst .ro 1 (map (fun n => iV n) x.t), lst .ro 5 (map fldV x.fields)], iV n1] fun l2 => aB A l2 fun b5 l4 => asN A l4 (bif (!b5) then (kc 0 [bool false] []) else (next [lst .ro 1 (map (fun n => iV n) l), lst .ro 1 (map (fun n => iV n) q), iV m, iV (IntKind.i64.wrap (i + (1 : Int)))] [[iV x.op, iV x.form, iV x.field, iV x.place, iV x.to, iV x.a, iV x.b, iV x.f.id, iV x.f.kind, iV x.f.lo, iV x.f.hi, iV x.f.most, iV x.n, str x.s, lst .ro 1 (map (fun n => iV n) x.t), lst .ro 5 (map fldV x.fields)]])))) else (kc 1 [lst .ro 1 (map (fun n => iV n) l)] [[iV x.op, iV x.form, iV x.field, iV x.place, iV x.to, iV x.a, iV x.b, iV x.f.id, iV x.f.kind, iV x.f.lo, iV x.f.hi, iV x.f.most, iV x.n, str x.s, lst .ro 1 (map (fun n => iV n) x.t), lst .ro 5 (map fldV x.fields)]])
def zmg {α : Type} (A : Alg α) (x : Stp) (y : Stp) (kc : List AV → List (Nat × List AV) → α) : α :=
  A.join (fun x0 => A.callx 102 [lst .ro 1 (map (fun n => iV n) x.t), lst .ro 1 (map (fun n => iV n) y.t)] fun l1 => aB A l1 fun b4 l3 => asN A l3 (bif b4 then (A.callx 103 [lst .ro 5 (map fldV x.fields), lst .ro 5 (map fldV y.fields)] fun l5 => aB A l5 fun b8 l7 => asN A l7 (x0 b8)) else (x0 false))) fun b9 => A.join (fun x10 => bif b9 then (bif (IntKind.i64.wrap (x.op - y.op) == (0 : Int) && (IntKind.i64.wrap (x.form - y.form) == (0 : Int) && (IntKind.i64.wrap (x.field - y.field) == (0 : Int) && (IntKind.i64.wrap (x.place - y.place) == (0 : Int) && (IntKind.i64.wrap (x.to - y.to) == (0 : Int) && (IntKind.i64.wrap (x.a - y.a) == (0 : Int) && (IntKind.i64.wrap (x.b - y.b) == (0 : Int) && true))))))) then (bif (x.f.id == y.f.id && (x.f.kind == y.f.kind && (x.f.lo == y.f.lo && (x.f.hi == y.f.hi && (x.f.most == y.f.most && true))))) then (x10 (x.n == y.n && (x.s == y.s && true))) else (x10 false)) else (x10 false)) else (x10 false)) fun b11 => kc [bool b11] []
def zji {α : Type} (A : Alg α) (a : List Int) (b : List Int) (kc : List AV → List (Nat × List AV) → α) : α :=
  bif ((↑(map (fun n => iV n) a).length : Int) != (↑(map (fun n => iV n) b).length : Int)) then (kc [bool false] []) else (A.loop 4 [lst .ro 1 (map (fun n => iV n) a), lst .ro 1 (map (fun n => iV n) b), iV (↑(map (fun n => iV n) a).length : Int), iV 0] [] fun j0 l1 l2 => bif (j0.beq 0) then (aB A l1 fun b5 l4 => asN A l4 (asN A l2 (kc [bool b5] []))) else (bif (j0.beq 1) then (asN A l1 (asN A l2 (kc [bool true] []))) else A.fail))
def za8 {α : Type} (A : Alg α) (a : List Int) (b : List Int) (m : Int) (i : Int) (next : List AV → List (List AV) → α) (kc : Nat → List AV → List (List AV) → α) : α :=
  bif (decide (i < m)) then (A.chk (decide ((0 : Int) ≤ i)) (nthE A (map (fun n => iV n) a) i.toNat fun v0 => asI A .i64 v0 fun n1 => A.chk (decide ((0 : Int) ≤ i)) (nthE A (map (fun n => iV n) b) i.toNat fun v2 => asI A .i64 v2 fun n3 => bif (n1 != n3) then (kc 0 [bool false] []) else (next [lst .ro 1 (map (fun n => iV n) a), lst .ro 1 (map (fun n => iV n) b), iV m, iV (IntKind.i64.wrap (i + (1 : Int)))] [])))) else (kc 1 [] [])
def zpv {α : Type} (A : Alg α) (f : Fld) (n : Int) (s : List UInt8) (kc : List AV → List (Nat × List AV) → α) : α :=
  A.callx 94 [agg [iV f.id, iV f.kind, iV f.lo, iV f.hi, iV f.most]] fun l0 => aI A l0 fun n3 l2 => aI A l2 fun n6 l5 => asN A l5 (bif (f.kind == (4 : Int)) then (A.join (fun x7 => A.callx 92 [agg [iV f.id, iV f.kind, iV f.lo, iV f.hi, iV f.most]] fun l8 => aB A l8 fun b11 l10 => asN A l10 (bif b11 then (bif (decide (n ≥ n3)) then (bif (decide (n ≤ n6)) then (x7 (decide ((↑s.length : Int) ≤ f.most))) else (x7 false)) else (x7 false)) else (x7 false))) fun b12 => kc [bool b12] []) else (A.join (fun x13 => A.callx 92 [agg [iV f.id, iV f.kind, iV f.lo, iV f.hi, iV f.most]] fun l14 => aB A l14 fun b17 l16 => asN A l16 (bif b17 then (bif (decide (n ≥ n3)) then (bif (decide (n ≤ n6)) then (x13 (decide ((↑s.length : Int) ≤ (0 : Int)))) else (x13 false)) else (x13 false)) else (x13 false))) fun b18 => kc [bool b18] []))
def zpw {α : Type} (A : Alg α) (f : Fld) (n : Int) (s : List UInt8) (kc : List AV → List (Nat × List AV) → α) : α :=
  A.callx 57 [agg [iV f.id, iV f.kind, iV f.lo, iV f.hi, iV f.most]] fun l0 => aI A l0 fun n3 l2 => aI A l2 fun n6 l5 => aI A l5 fun n9 l8 => aB A l8 fun b12 l11 => asN A l11 (A.join (fun x13 => bif b12 then (bif (decide (n ≥ n3)) then (bif (decide (n ≤ n6)) then (x13 (decide ((↑s.length : Int) ≤ n9))) else (x13 false)) else (x13 false)) else (x13 false)) fun b14 => kc [bool b14] [])
def zmh {α : Type} (A : Alg α) (op : Int) (kc : List AV → List (Nat × List AV) → α) : α :=
  bif (op == (1 : Int)) then (A.loop 1000004 [iV op, bool true] [] fun j0 l1 l2 => bif (j0.beq 50001) then (asN A l1 (asN A l2 (kc [str []] []))) else (bif (j0.beq 0) then (aS A l1 fun l5 l4 => asN A l4 (asN A l2 (kc [str l5] []))) else A.fail)) else (A.loop 1000004 [iV op, bool (op == (22 : Int))] [] fun j6 l7 l8 => bif (j6.beq 50001) then (asN A l7 (asN A l8 (kc [str []] []))) else (bif (j6.beq 0) then (aS A l7 fun l11 l10 => asN A l10 (asN A l8 (kc [str l11] []))) else A.fail))
def zjj {α : Type} (A : Alg α) (op : Int) (b : Bool) (next : List AV → List (List AV) → α) (kc : Nat → List AV → List (List AV) → α) : α :=
  bif b then (kc 0 [str [(102 : UInt8), (112 : UInt8), (70 : UInt8), (86 : UInt8)]] []) else (bif (op == (2 : Int)) then (kc 0 [str [(102 : UInt8), (100 : UInt8), (86 : UInt8)]] []) else (bif (op == (3 : Int)) then (A.loop 1000009 [iV op, bool true] [] fun j0 l1 l2 => bif (j0.beq 50001) then (asN A l1 (asN A l2 (kc 50001 [] []))) else (bif (j0.beq 0) then (aS A l1 fun l5 l4 => asN A l4 (asN A l2 (kc 0 [str l5] []))) else A.fail)) else (A.loop 1000009 [iV op, bool (op == (23 : Int))] [] fun j6 l7 l8 => bif (j6.beq 50001) then (asN A l7 (asN A l8 (kc 50001 [] []))) else (bif (j6.beq 0) then (aS A l7 fun l11 l10 => asN A l10 (asN A l8 (kc 0 [str l11] []))) else A.fail))))
def zjk {α : Type} (A : Alg α) (op : Int) (b : Bool) (next : List AV → List (List AV) → α) (kc : Nat → List AV → List (List AV) → α) : α :=
  bif b then (kc 0 [str [(102 : UInt8), (100 : UInt8), (70 : UInt8)]] []) else (bif (op == (4 : Int)) then (kc 0 [str [(102 : UInt8), (100 : UInt8), (98 : UInt8)]] []) else (bif (op == (24 : Int)) then (kc 0 [str [(102 : UInt8), (100 : UInt8), (98 : UInt8), (70 : UInt8)]] []) else (bif (op == (5 : Int)) then (kc 0 [str [(102 : UInt8), (100 : UInt8), (97 : UInt8), (84 : UInt8)]] []) else (bif (op == (25 : Int)) then (kc 0 [str [(102 : UInt8), (100 : UInt8), (84 : UInt8)]] []) else (bif (op == (6 : Int)) then (kc 0 [str [(102 : UInt8), (100 : UInt8), (97 : UInt8), (116 : UInt8)]] []) else (bif (op == (26 : Int)) then (kc 0 [str [(102 : UInt8), (100 : UInt8), (97 : UInt8), (116 : UInt8), (70 : UInt8)]] []) else (bif (op == (7 : Int)) then (kc 0 [str [(102 : UInt8), (100 : UInt8), (112 : UInt8)]] []) else (bif (op == (27 : Int)) then (kc 0 [str [(102 : UInt8), (100 : UInt8), (112 : UInt8)]] []) else (bif (op == (8 : Int)) then (kc 0 [str [(102 : UInt8), (100 : UInt8), (116 : UInt8)]] []) else (bif (op == (28 : Int)) then (kc 0 [str [(102 : UInt8), (100 : UInt8), (116 : UInt8)]] []) else (bif (op == (9 : Int)) then (kc 0 [str [(102 : UInt8), (76 : UInt8)]] []) else (bif (op == (30 : Int)) then (kc 0 [str [(102 : UInt8), (76 : UInt8)]] []) else (bif (op == (10 : Int)) then (kc 0 [str [(102 : UInt8)]] []) else (bif (op == (29 : Int)) then (kc 0 [str [(102 : UInt8)]] []) else (bif (op == (21 : Int)) then (kc 0 [str [(102 : UInt8), (100 : UInt8)]] []) else (kc 50001 [] []))))))))))))))))
def zpx {α : Type} (A : Alg α) (op : Int) (c : Int) (kc : List AV → List (Nat × List AV) → α) : α :=
  A.callx 60 [iV op] fun l0 => aS A l0 fun l3 l2 => asN A l2 (A.loop 3 [int .u8 c, str l3, iV 0] [] fun j4 l5 l6 => bif (j4.beq 0) then (aB A l5 fun b9 l8 => asN A l8 (asN A l6 (kc [bool b9] []))) else (bif (j4.beq 1) then (asN A l5 (asN A l6 (kc [bool false] []))) else A.fail))
def zmi {α : Type} (A : Alg α) (c : Int) (i : Int) (s : List UInt8) (next : List AV → List (List AV) → α) (kc : Nat → List AV → List (List AV) → α) : α :=
  bif (decide (i < (↑s.length : Int))) then (A.chk (decide ((0 : Int) ≤ i)) (nthE A s i.toNat fun x0 => bif ((↑x0.toNat : Int) == c) then (kc 0 [bool true] []) else (next [int .u8 c, str s, iV (IntKind.i64.wrap (i + (1 : Int)))] []))) else (kc 1 [] [])
def zmj {α : Type} (A : Alg α) (x : Stp) (kc : List AV → List (Nat × List AV) → α) : α :=
  A.join (fun x0 => A.callx 64 [iV x.op, int .u8 100] fun l1 => aB A l1 fun b4 l3 => asN A l3 (bif b4 then (A.callx 64 [iV x.op, int .u8 112] fun l5 => aB A l5 fun b8 l7 => asN A l7 (bif b8 then (A.callx 64 [iV x.op, int .u8 116] fun l9 => aB A l9 fun b12 l11 => asN A l11 (bif b12 then (x0 true) else (x0 (x.to == (0 : Int))))) else (bif (x.place == (0 : Int)) then (A.callx 64 [iV x.op, int .u8 116] fun l13 => aB A l13 fun b16 l15 => asN A l15 (bif b16 then (x0 true) else (x0 (x.to == (0 : Int))))) else (x0 false)))) else (bif (x.field == (0 : Int)) then (A.callx 64 [iV x.op, int .u8 112] fun l17 => aB A l17 fun b20 l19 => asN A l19 (bif b20 then (A.callx 64 [iV x.op, int .u8 116] fun l21 => aB A l21 fun b24 l23 => asN A l23 (bif b24 then (x0 true) else (x0 (x.to == (0 : Int))))) else (bif (x.place == (0 : Int)) then (A.callx 64 [iV x.op, int .u8 116] fun l25 => aB A l25 fun b28 l27 => asN A l27 (bif b28 then (x0 true) else (x0 (x.to == (0 : Int))))) else (x0 false)))) else (x0 false)))) fun b29 => A.join (fun x30 => bif b29 then (A.callx 64 [iV x.op, int .u8 97] fun l31 => aB A l31 fun b34 l33 => asN A l33 (bif b34 then (A.callx 64 [iV x.op, int .u8 98] fun l35 => aB A l35 fun b38 l37 => asN A l37 (bif b38 then (x30 true) else (x30 (x.b == (0 : Int))))) else (A.callx 64 [iV x.op, int .u8 98] fun l39 => aB A l39 fun b42 l41 => asN A l41 (bif b42 then (A.callx 64 [iV x.op, int .u8 98] fun l43 => aB A l43 fun b46 l45 => asN A l45 (bif b46 then (x30 true) else (x30 (x.b == (0 : Int))))) else (bif (x.a == (0 : Int)) then (A.callx 64 [iV x.op, int .u8 98] fun l47 => aB A l47 fun b50 l49 => asN A l49 (bif b50 then (x30 true) else (x30 (x.b == (0 : Int))))) else (x30 false)))))) else (x30 false)) fun b51 => A.join (fun x52 => bif b51 then (A.callx 64 [iV x.op, int .u8 70] fun l53 => aB A l53 fun b56 l55 => asN A l55 (bif b56 then (A.callx 64 [iV x.op, int .u8 86] fun l57 => aB A l57 fun b60 l59 => asN A l59 (bif b60 then (x52 true) else (x52 (x.n == (0 : Int) && (x.s == [] && true))))) else (bif (x.f.id == (0 : Int) && (x.f.kind == (0 : Int) && (x.f.lo == (0 : Int) && (x.f.hi == (0 : Int) && (x.f.most == (0 : Int) && true))))) then (A.callx 64 [iV x.op, int .u8 86] fun l61 => aB A l61 fun b64 l63 => asN A l63 (bif b64 then (x52 true) else (x52 (x.n == (0 : Int) && (x.s == [] && true))))) else (x52 false)))) else (x52 false)) fun b65 => A.join (fun x66 => bif b65 then (A.callx 64 [iV x.op, int .u8 84] fun l67 => aB A l67 fun b70 l69 => asN A l69 (bif b70 then (A.callx 64 [iV x.op, int .u8 76] fun l71 => aB A l71 fun b74 l73 => asN A l73 (bif b74 then (x66 true) else (x66 ((↑(map fldV x.fields).length : Int) == (0 : Int))))) else (bif ((↑(map (fun n => iV n) x.t).length : Int) == (0 : Int)) then (A.callx 64 [iV x.op, int .u8 76] fun l75 => aB A l75 fun b78 l77 => asN A l77 (bif b78 then (x66 true) else (x66 ((↑(map fldV x.fields).length : Int) == (0 : Int))))) else (x66 false)))) else (x66 false)) fun b79 => kc [bool b79] []
def ze3 {α : Type} (A : Alg α) (n : Int) (lo : Int) (hi : Int) (kc : List AV → List (Nat × List AV) → α) : α :=
  A.join (fun x0 => bif (decide (n ≥ lo)) then (x0 (decide (n ≤ hi))) else (x0 false)) fun b1 => kc [bool b1] []
def zjl {α : Type} (A : Alg α) (l : List Int) (below : Int) (kc : List AV → List (Nat × List AV) → α) : α :=
  A.loop 2 [lst .ro 1 (map (fun n => iV n) l), iV below, iV 0] [] fun j0 l1 l2 => bif (j0.beq 0) then (aB A l1 fun b5 l4 => asN A l4 (asN A l2 (kc [bool b5] []))) else (bif (j0.beq 1) then (aL A 1 l1 fun l8 l7 => asN A l7 (asN A l2 (A.join (fun x9 => bif (decide ((↑l8.length : Int) ≥ (1 : Int))) then (x9 (decide ((↑l8.length : Int) ≤ (64 : Int)))) else (x9 false)) fun b10 => kc [bool b10] []))) else A.fail)
def za9 {α : Type} (A : Alg α) (l : List Int) (below : Int) (i : Int) (next : List AV → List (List AV) → α) (kc : Nat → List AV → List (List AV) → α) : α :=
  bif (decide (i < (↑(map (fun n => iV n) l).length : Int))) then (A.chk (decide ((0 : Int) ≤ i)) (nthE A (map (fun n => iV n) l) i.toNat fun v0 => asI A .i64 v0 fun n1 => A.callx 62 [iV n1, iV 0, iV (IntKind.i64.wrap (below - (1 : Int)))] fun l2 => aB A l2 fun b5 l4 => asN A l4 (bif (!b5) then (kc 0 [bool false] []) else (A.loop 7 [lst .ro 1 (map (fun n => iV n) l), iV below, iV i, iV 0] [] fun j6 l7 l8 => bif (j6.beq 0) then (aB A l7 fun b11 l10 => asN A l10 (asN A l8 (kc 0 [bool b11] []))) else (bif (j6.beq 3) then (aL A 1 l7 fun l14 l13 => aI A l13 fun n17 l16 => aI A l16 fun n20 l19 => asN A l19 (asN A l8 (next [lst .ro 1 l14, iV n17, iV (IntKind.i64.wrap (n20 + (1 : Int)))] []))) else A.fail))))) else (kc 1 [lst .ro 1 (map (fun n => iV n) l)] [])
def zaa {α : Type} (A : Alg α) (l : List Int) (below : Int) (i : Int) (k : Int) (next : List AV → List (List AV) → α) (kc : Nat → List AV → List (List AV) → α) : α :=
  bif (decide (k < i)) then (A.chk (decide ((0 : Int) ≤ k)) (nthE A (map (fun n => iV n) l) k.toNat fun v0 => asI A .i64 v0 fun n1 => A.chk (decide ((0 : Int) ≤ i)) (nthE A (map (fun n => iV n) l) i.toNat fun v2 => asI A .i64 v2 fun n3 => bif (n1 == n3) then (kc 0 [bool false] []) else (next [lst .ro 1 (map (fun n => iV n) l), iV below, iV i, iV (IntKind.i64.wrap (k + (1 : Int)))] [])))) else (kc 3 [lst .ro 1 (map (fun n => iV n) l), iV below, iV i] [])
def ze4 {α : Type} (A : Alg α) (x : Stp) (kc : List AV → List (Nat × List AV) → α) : α :=
  A.join (fun x0 => bif (x.op == (4 : Int)) then (x0 true) else (x0 (x.op == (24 : Int)))) fun b1 => bif b1 then (A.join (fun x2 => A.callx 62 [iV x.a, iV (-1048576), iV 1048576] fun l3 => aB A l3 fun b6 l5 => asN A l5 (bif b6 then (bif (x.a != (0 : Int)) then (A.callx 62 [iV x.b, iV (-1099511627776), iV 1099511627776] fun l7 => aB A l7 fun b10 l9 => asN A l9 (x2 b10)) else (x2 false)) else (x2 false))) fun b11 => kc [bool b11] []) else (A.join (fun x12 => bif (x.op == (6 : Int)) then (x12 true) else (x12 (x.op == (26 : Int)))) fun b13 => bif b13 then (A.callx 62 [iV x.a, iV 2, iV 1048576] fun l14 => aB A l14 fun b17 l16 => asN A l16 (kc [bool b17] [])) else (bif (x.op == (5 : Int)) then (A.join (fun x18 => A.callx 62 [iV x.a, iV 1, iV 1000] fun l19 => aB A l19 fun b22 l21 => asN A l21 (bif b22 then (A.callx 99 [lst .ro 1 (map (fun n => iV n) x.t), iV x.a] fun l23 => aB A l23 fun b26 l25 => asN A l25 (x18 b26)) else (x18 false))) fun b27 => kc [bool b27] []) else (bif (x.op == (25 : Int)) then (A.callx 99 [lst .ro 1 (map (fun n => iV n) x.t), iV 1000] fun l28 => aB A l28 fun b31 l30 => asN A l30 (kc [bool b31] [])) else (kc [bool true] []))))
def zgp {α : Type} (A : Alg α) (x : Stp) (kc : List AV → List (Nat × List AV) → α) : α :=
  A.join (fun x0 => A.callx 60 [iV x.op] fun l1 => aS A l1 fun l4 l3 => asN A l3 (bif (l4 == []) then (x0 true) else (A.callx 61 [agg [iV x.op, iV x.form, iV x.field, iV x.place, iV x.to, iV x.a, iV x.b, iV x.f.id, iV x.f.kind, iV x.f.lo, iV x.f.hi, iV x.f.most, iV x.n, str x.s, lst .ro 1 (map (fun n => iV n) x.t), lst .ro 5 (map fldV x.fields)]] fun l5 => aB A l5 fun b8 l7 => asN A l7 (bif (!b8) then (x0 true) else (A.callx 62 [iV x.form, iV 0, iV 200] fun l9 => aB A l9 fun b12 l11 => asN A l11 (bif (!b12) then (x0 true) else (A.callx 62 [iV x.field, iV 0, iV 255] fun l13 => aB A l13 fun b16 l15 => asN A l15 (bif (!b16) then (x0 true) else (A.callx 62 [iV x.place, iV 0, iV 8] fun l17 => aB A l17 fun b20 l19 => asN A l19 (bif (!b20) then (x0 true) else (A.callx 62 [iV x.to, iV 0, iV 255] fun l21 => aB A l21 fun b24 l23 => asN A l23 (bif (!b24) then (x0 true) else (A.callx 63 [agg [iV x.op, iV x.form, iV x.field, iV x.place, iV x.to, iV x.a, iV x.b, iV x.f.id, iV x.f.kind, iV x.f.lo, iV x.f.hi, iV x.f.most, iV x.n, str x.s, lst .ro 1 (map (fun n => iV n) x.t), lst .ro 5 (map fldV x.fields)]] fun l25 => aB A l25 fun b28 l27 => asN A l27 (x0 (!b28))))))))))))))) fun b29 => bif b29 then (kc [bool false] []) else (A.join (fun x30 => A.callx 64 [iV x.op, int .u8 116] fun l31 => aB A l31 fun b34 l33 => asN A l33 (bif b34 then (bif (x.to == x.field) then (x30 true) else (A.callx 64 [iV x.op, int .u8 70] fun l35 => aB A l35 fun b38 l37 => asN A l37 (bif b38 then (A.callx 65 [agg [iV x.f.id, iV x.f.kind, iV x.f.lo, iV x.f.hi, iV x.f.most]] fun l39 => aB A l39 fun b42 l41 => asN A l41 (x30 (!b42))) else (x30 false)))) else (A.callx 64 [iV x.op, int .u8 70] fun l43 => aB A l43 fun b46 l45 => asN A l45 (bif b46 then (A.callx 65 [agg [iV x.f.id, iV x.f.kind, iV x.f.lo, iV x.f.hi, iV x.f.most]] fun l47 => aB A l47 fun b50 l49 => asN A l49 (x30 (!b50))) else (x30 false))))) fun b51 => bif b51 then (kc [bool false] []) else (A.join (fun x52 => A.callx 64 [iV x.op, int .u8 70] fun l53 => aB A l53 fun b56 l55 => asN A l55 (bif b56 then (A.callx 64 [iV x.op, int .u8 100] fun l57 => aB A l57 fun b60 l59 => asN A l59 (bif b60 then (x52 (x.f.id != x.field)) else (x52 false))) else (x52 false))) fun b61 => bif b61 then (kc [bool false] []) else (A.join (fun x62 => bif (x.op == (2 : Int)) then (A.callx 62 [iV x.n, iV (-1099511627776), iV 1099511627776] fun l63 => aB A l63 fun b66 l65 => asN A l65 (bif (!b66) then (x62 true) else (x62 (decide ((↑x.s.length : Int) > (32 : Int)))))) else (x62 false)) fun b67 => bif b67 then (kc [bool false] []) else (A.join (fun x68 => A.callx 64 [iV x.op, int .u8 112] fun l69 => aB A l69 fun b72 l71 => asN A l71 (bif b72 then (A.callx 64 [iV x.op, int .u8 86] fun l73 => aB A l73 fun b76 l75 => asN A l75 (bif b76 then (A.callx 37 [agg [iV x.f.id, iV x.f.kind, iV x.f.lo, iV x.f.hi, iV x.f.most], agg [iV x.n, str x.s]] fun l77 => aB A l77 fun b80 l79 => asN A l79 (x68 (!b80))) else (x68 false))) else (x68 false))) fun b81 => bif b81 then (kc [bool false] []) else (A.join (fun x82 => A.callx 64 [iV x.op, int .u8 76] fun l83 => aB A l83 fun b86 l85 => asN A l85 (bif (!b86) then (x82 true) else (A.callx 36 [agg [iV x.form, lst .ro 5 (map fldV x.fields)]] fun l87 => aB A l87 fun b90 l89 => asN A l89 (x82 b90)))) fun b91 => kc [bool b91] [])))))
def zjm {α : Type} (A : Alg α) (l : List Stp) (kc : List AV → List (Nat × List AV) → α) : α :=
  A.loop 2 [lst .ro 16 (map stpV l), iV 0] [] fun j0 l1 l2 => bif (j0.beq 0) then (aB A l1 fun b5 l4 => asN A l4 (asN A l2 (kc [bool b5] []))) else (bif (j0.beq 1) then (aL A 16 l1 fun l8 l7 => asN A l7 (asN A l2 (kc [bool (decide ((↑l8.length : Int) > (60 : Int)))] []))) else A.fail)
def z74 {α : Type} (A : Alg α) (l : List Stp) (i : Int) (next : List AV → List (List AV) → α) (kc : Nat → List AV → List (List AV) → α) : α :=
  A.join (fun x0 => bif (decide (i < (↑(map stpV l).length : Int))) then (x0 (decide (i < (61 : Int)))) else (x0 false)) fun b1 => bif b1 then (A.join (fun x2 => A.chk (decide ((0 : Int) ≤ i)) (nthE A (map stpV l) i.toNat fun v3 => asA A v3 fun l4 => aI A l4 fun n7 l6 => aI A l6 fun n10 l9 => aI A l9 fun n13 l12 => aI A l12 fun n16 l15 => aI A l15 fun n19 l18 => aI A l18 fun n22 l21 => aI A l21 fun n25 l24 => aI A l24 fun n28 l27 => aI A l27 fun n31 l30 => aI A l30 fun n34 l33 => aI A l33 fun n37 l36 => aI A l36 fun n40 l39 => aI A l39 fun n43 l42 => aS A l42 fun l46 l45 => aL A 1 l45 fun l49 l48 => aL A 5 l48 fun l52 l51 => asN A l51 (bif (decide ((↑l49.length : Int) > (100 : Int))) then (x2 true) else (A.chk (decide ((0 : Int) ≤ i)) (nthE A (map stpV l) i.toNat fun v53 => asA A v53 fun l54 => aI A l54 fun n57 l56 => aI A l56 fun n60 l59 => aI A l59 fun n63 l62 => aI A l62 fun n66 l65 => aI A l65 fun n69 l68 => aI A l68 fun n72 l71 => aI A l71 fun n75 l74 => aI A l74 fun n78 l77 => aI A l77 fun n81 l80 => aI A l80 fun n84 l83 => aI A l83 fun n87 l86 => aI A l86 fun n90 l89 => aI A l89 fun n93 l92 => aS A l92 fun l96 l95 => aL A 1 l95 fun l99 l98 => aL A 5 l98 fun l102 l101 => asN A l101 (x2 (decide ((↑l102.length : Int) > (40 : Int))))))))) fun b103 => bif b103 then (kc 0 [bool true] []) else (next [lst .ro 16 (map stpV l), iV (IntKind.i64.wrap (i + (1 : Int)))] [])) else (kc 1 [lst .ro 16 (map stpV l)] [])
theorem zvu (op : Int) {r : CR} (h : zmd (OA (tbl E0) (ltbl E0 75 0)) op (fun r o => some (r, o)) = some r) : tbl E0 75 [iV op] [] = some r :=
  tblF Tryz.func75 h
theorem zsr (op : Int) (b : Bool) {r : LR} (h : zjd (OA (tbl E0) (ltbl E0 75 0)) op b (fun vs os => ltbl E0 75 0 1000004 vs os) (fun j vs os => some (j, vs, os)) = some r) : ltbl E0 75 0 1000004 [iV op, .bool b] [] = some r :=
  ltblF Tryz.func75 h
theorem zss (op : Int) (b : Bool) {r : LR} (h : zje (OA (tbl E0) (ltbl E0 75 0)) op b (fun vs os => ltbl E0 75 0 1000009 vs os) (fun j vs os => some (j, vs, os)) = some r) : ltbl E0 75 0 1000009 [iV op, .bool b] [] = some r :=
  ltblF Tryz.func75 h
theorem t_tin (n lo hi : Int) {r : CR} (h : s_tin (OA (tbl E0) (ltbl E0 100 0)) n lo hi (fun r o => some (r, o)) = some r) : tbl E0 100 [iV n, iV lo, iV hi] [] = some r :=
  tblF Tryz.func100 h
theorem zvv (x : Stp) {r : CR} (h : zme (OA (tbl E0) (ltbl E0 78 0)) x (fun r o => some (r, o)) = some r) : tbl E0 78 [stpV x] [] = some r :=
  tblF Tryz.func78 h
theorem zst (x y z : Stp) (l : List Int) (m i : Int) {r : LR} (h : zjf (OA (tbl E0) (ltbl E0 78 0)) x y z l m i (fun vs os => ltbl E0 78 0 3 vs os) (fun j vs os => some (j, vs, os)) = some r) : ltbl E0 78 0 3 [intsV l, iV m, iV i] [stpC x, stpC y, stpC z] = some r :=
  ltblF Tryz.func78 h
theorem zsu (l : List Int) (below : Int) {r : CR} (h : zjg (OA (tbl E0) (ltbl E0 101 0)) l below (fun r o => some (r, o)) = some r) : tbl E0 101 [intsV l, iV below] [] = some r :=
  tblF Tryz.func101 h
theorem zgq (l : List Int) (below m i : Int) (seen : List Bool) {r : LR} (h : za6 (OA (tbl E0) (ltbl E0 101 0)) l below m i seen (fun vs os => ltbl E0 101 0 3 vs os) (fun j vs os => some (j, vs, os)) = some r) : ltbl E0 101 0 3 [intsV l, iV below, intsV l, iV m, iV i] [seen.map AV.bool] = some r :=
  ltblF Tryz.func101 h
theorem zvw (x : Stp) (p : Int) {r : CR} (h : zmf (OA (tbl E0) (ltbl E0 76 0)) x p (fun r o => some (r, o)) = some r) : tbl E0 76 [stpV x, iV p] [] = some r :=
  tblF Tryz.func76 h
theorem zsv (x : Stp) {r : CR} (h : zjh (OA (tbl E0) (ltbl E0 41 0)) x (fun r o => some (r, o)) = some r) : tbl E0 41 [stpV x] [] = some r :=
  tblF Tryz.func41 h
theorem zgr (x : Stp) (l q : List Int) (m i : Int) {r : LR} (h : za7 (OA (tbl E0) (ltbl E0 41 0)) x l q m i (fun vs os => ltbl E0 41 0 3 vs os) (fun j vs os => some (j, vs, os)) = some r) : ltbl E0 41 0 3 [intsV l, intsV q, iV m, iV i] [stpC x] = some r :=
  ltblF Tryz.func41 h
theorem zvx (x y : Stp) {r : CR} (h : zmg (OA (tbl E0) (ltbl E0 77 0)) x y (fun r o => some (r, o)) = some r) : tbl E0 77 [stpV x, stpV y] [] = some r :=
  tblF Tryz.func77 h
theorem zsw (a b : List Int) {r : CR} (h : zji (OA (tbl E0) (ltbl E0 102 0)) a b (fun r o => some (r, o)) = some r) : tbl E0 102 [intsV a, intsV b] [] = some r :=
  tblF Tryz.func102 h
theorem zgs (a b : List Int) (m i : Int) {r : LR} (h : za8 (OA (tbl E0) (ltbl E0 102 0)) a b m i (fun vs os => ltbl E0 102 0 4 vs os) (fun j vs os => some (j, vs, os)) = some r) : ltbl E0 102 0 4 [intsV a, intsV b, iV m, iV i] [] = some r :=
  ltblF Tryz.func102 h
theorem zya (f : Fld) (n : Int) (s : List UInt8) {r : CR} (h : zpv (OA (tbl E0) (ltbl E0 72 0)) f n s (fun r o => some (r, o)) = some r) : tbl E0 72 [fldV f, .agg [iV n, .str s]] [] = some r :=
  tblF Tryz.func72 h
theorem zyb (f : Fld) (n : Int) (s : List UInt8) {r : CR} (h : zpw (OA (tbl E0) (ltbl E0 37 0)) f n s (fun r o => some (r, o)) = some r) : tbl E0 37 [fldV f, .agg [iV n, .str s]] [] = some r :=
  tblF Tryz.func37 h
theorem zvy (op : Int) {r : CR} (h : zmh (OA (tbl E0) (ltbl E0 60 0)) op (fun r o => some (r, o)) = some r) : tbl E0 60 [iV op] [] = some r :=
  tblF Tryz.func60 h
theorem zsx (op : Int) (b : Bool) {r : LR} (h : zjj (OA (tbl E0) (ltbl E0 60 0)) op b (fun vs os => ltbl E0 60 0 1000004 vs os) (fun j vs os => some (j, vs, os)) = some r) : ltbl E0 60 0 1000004 [iV op, .bool b] [] = some r :=
  ltblF Tryz.func60 h
theorem zsy (op : Int) (b : Bool) {r : LR} (h : zjk (OA (tbl E0) (ltbl E0 60 0)) op b (fun vs os => ltbl E0 60 0 1000009 vs os) (fun j vs os => some (j, vs, os)) = some r) : ltbl E0 60 0 1000009 [iV op, .bool b] [] = some r :=
  ltblF Tryz.func60 h
theorem zyc (op c : Int) {r : CR} (h : zpx (OA (tbl E0) (ltbl E0 64 0)) op c (fun r o => some (r, o)) = some r) : tbl E0 64 [iV op, .int .u8 c] [] = some r :=
  tblF Tryz.func64 h
theorem zvz (c i : Int) (s : List UInt8) {r : LR} (h : zmi (OA (tbl E0) (ltbl E0 64 0)) c i s (fun vs os => ltbl E0 64 0 3 vs os) (fun j vs os => some (j, vs, os)) = some r) : ltbl E0 64 0 3 [.int .u8 c, .str s, iV i] [] = some r :=
  ltblF Tryz.func64 h
theorem zw0 (x : Stp) {r : CR} (h : zmj (OA (tbl E0) (ltbl E0 61 0)) x (fun r o => some (r, o)) = some r) : tbl E0 61 [stpV x] [] = some r :=
  tblF Tryz.func61 h
theorem zo4 (n lo hi : Int) {r : CR} (h : ze3 (OA (tbl E0) (ltbl E0 62 0)) n lo hi (fun r o => some (r, o)) = some r) : tbl E0 62 [iV n, iV lo, iV hi] [] = some r :=
  tblF Tryz.func62 h
theorem zsz (l : List Int) (below : Int) {r : CR} (h : zjl (OA (tbl E0) (ltbl E0 99 0)) l below (fun r o => some (r, o)) = some r) : tbl E0 99 [intsV l, iV below] [] = some r :=
  tblF Tryz.func99 h
theorem zgt (l : List Int) (below i : Int) {r : LR} (h : za9 (OA (tbl E0) (ltbl E0 99 0)) l below i (fun vs os => ltbl E0 99 0 2 vs os) (fun j vs os => some (j, vs, os)) = some r) : ltbl E0 99 0 2 [intsV l, iV below, iV i] [] = some r :=
  ltblF Tryz.func99 h
theorem zgu (l : List Int) (below i k : Int) {r : LR} (h : zaa (OA (tbl E0) (ltbl E0 99 0)) l below i k (fun vs os => ltbl E0 99 0 7 vs os) (fun j vs os => some (j, vs, os)) = some r) : ltbl E0 99 0 7 [intsV l, iV below, iV i, iV k] [] = some r :=
  ltblF Tryz.func99 h
theorem zo5 (x : Stp) {r : CR} (h : ze4 (OA (tbl E0) (ltbl E0 63 0)) x (fun r o => some (r, o)) = some r) : tbl E0 63 [stpV x] [] = some r :=
  tblF Tryz.func63 h
theorem zpy (x : Stp) {r : CR} (h : zgp (OA (tbl E0) (ltbl E0 30 0)) x (fun r o => some (r, o)) = some r) : tbl E0 30 [stpV x] [] = some r :=
  tblF Tryz.func30 h
theorem zt0 (l : List Stp) {r : CR} (h : zjm (OA (tbl E0) (ltbl E0 16 0)) l (fun r o => some (r, o)) = some r) : tbl E0 16 [stpsV l] [] = some r :=
  tblF Tryz.func16 h
theorem zab (l : List Stp) (i : Int) {r : LR} (h : z74 (OA (tbl E0) (ltbl E0 16 0)) l i (fun vs os => ltbl E0 16 0 2 vs os) (fun j vs os => some (j, vs, os)) = some r) : ltbl E0 16 0 2 [stpsV l, iV i] [] = some r :=
  ltblF Tryz.func16 h
end V
namespace V
open AV (int lst agg str bool ref clo)
open List (map)
-- folds: dbl
-- folds: cse
noncomputable def zco {α : Type} (A : Alg α) (l : List Int) (kc : List AV → List (Nat × List AV) → α) : α :=
  nilEq A Md.ro (map (fun n => iV n) l) fun b0 => bif b0 then (kc [lst .ro 1 []] []) else (A.chk (decide (((0 : Nat) + (map (fun n => iV n) l).length) * 8 ≤ 211106232532992)) (kc [lst .ro 1 (map (fun n => iV n) l)] []))
noncomputable def zfj {α : Type} (A : Alg α) (s : Sch) (x : Stp) (kc : List AV → List (Nat × List AV) → α) : α :=
  A.callx 27 [agg [iV s.ver, lst .ro 2 (map frmV s.forms)], iV x.form] fun l0 => aA A l0 fun l3 l2 => aI A l3 fun n6 l5 => aL A 5 l5 fun l9 l8 => asN A l8 (aB A l2 fun b12 l11 => asN A l11 (A.callx 50 [agg [iV n6, lst .ro 5 l9], iV x.field] fun l13 => aI A l13 fun n16 l15 => asN A l15 (bif (decide (n16 ≥ (0 : Int))) then (A.chk (decide ((0 : Int) ≤ n16)) (nthE A l9 n16.toNat fun v17 => asA A v17 fun l18 => aI A l18 fun n21 l20 => aI A l20 fun n24 l23 => aI A l23 fun n27 l26 => aI A l26 fun n30 l29 => aI A l29 fun n33 l32 => asN A l32 (kc [agg [iV n21, iV n24, iV n27, iV n30, iV n33], iV n16] []))) else (kc [agg [iV 0, iV 0, iV 0, iV 0, iV 0], iV 0] []))))
noncomputable def zac {α : Type} (A : Alg α) (s : Sch) (x : Stp) (kc : List AV → List (Nat × List AV) → α) : α :=
  A.callx 17 [agg [iV s.ver, lst .ro 2 (map frmV s.forms)], agg [iV x.op, iV x.form, iV x.field, iV x.place, iV x.to, iV x.a, iV x.b, iV x.f.id, iV x.f.kind, iV x.f.lo, iV x.f.hi, iV x.f.most, iV x.n, str x.s, lst .ro 1 (map (fun n => iV n) x.t), lst .ro 5 (map fldV x.fields)]] fun l0 => aA A l0 fun l3 l2 => aI A l3 fun n6 l5 => aL A 2 l5 fun l9 l8 => asN A l8 (aI A l2 fun n12 l11 => asN A l11 (bif (n12 != (0 : Int)) then (kc [agg [iV 0, iV 0, iV 0, iV 0, iV 0, iV 0, iV 0, iV 0, iV 0, iV 0, iV 0, iV 0, iV 0, str [], lst .ro 1 [], lst .ro 5 []], iV n12] []) else (A.callx 69 [agg [iV s.ver, lst .ro 2 (map frmV s.forms)], agg [iV x.op, iV x.form, iV x.field, iV x.place, iV x.to, iV x.a, iV x.b, iV x.f.id, iV x.f.kind, iV x.f.lo, iV x.f.hi, iV x.f.most, iV x.n, str x.s, lst .ro 1 (map (fun n => iV n) x.t), lst .ro 5 (map fldV x.fields)]] fun l13 => aA A l13 fun l16 l15 => aI A l16 fun n19 l18 => aI A l18 fun n22 l21 => aI A l21 fun n25 l24 => aI A l24 fun n28 l27 => aI A l27 fun n31 l30 => asN A l30 (aI A l15 fun n34 l33 => asN A l33 (bif (x.op == (1 : Int)) then (kc [agg [iV (IntKind.i64.wrap (x.op + (20 : Int))), iV x.form, iV x.f.id, iV 0, iV 0, iV 0, iV 0, iV 0, iV 0, iV 0, iV 0, iV 0, iV 0, str [], lst .ro 1 [], lst .ro 5 []], iV 0] []) else (bif (x.op == (2 : Int)) then (kc [agg [iV (IntKind.i64.wrap (x.op + (20 : Int))), iV x.form, iV 0, iV n34, iV 0, iV 0, iV 0, iV n19, iV n22, iV n25, iV n28, iV n31, iV x.n, str x.s, lst .ro 1 [], lst .ro 5 []], iV 0] []) else (bif (x.op == (4 : Int)) then (kc [agg [iV (IntKind.i64.wrap (x.op + (20 : Int))), iV x.form, iV x.field, iV 0, iV 0, iV x.a, iV x.b, iV n19, iV n22, iV n25, iV n28, iV n31, iV 0, str [], lst .ro 1 [], lst .ro 5 []], iV 0] []) else (bif (x.op == (6 : Int)) then (kc [agg [iV (IntKind.i64.wrap (x.op + (20 : Int))), iV x.form, iV x.field, iV 0, iV x.to, iV x.a, iV 0, iV n19, iV n22, iV n25, iV n28, iV n31, iV 0, str [], lst .ro 1 [], lst .ro 5 []], iV 0] []) else (bif (x.op == (3 : Int)) then (kc [agg [iV (IntKind.i64.wrap (x.op + (20 : Int))), iV x.form, iV x.field, iV 0, iV 0, iV 0, iV 0, iV n19, iV n22, iV n25, iV n28, iV n31, iV 0, str [], lst .ro 1 [], lst .ro 5 []], iV 0] []) else (bif (x.op == (5 : Int)) then (A.callx 70 [lst .ro 1 (map (fun n => iV n) x.t)] fun l35 => aL A 1 l35 fun l38 l37 => asN A l37 (kc [agg [iV (IntKind.i64.wrap (x.op + (20 : Int))), iV x.form, iV x.field, iV 0, iV 0, iV 0, iV 0, iV 0, iV 0, iV 0, iV 0, iV 0, iV 0, str [], lst .ro 1 l38, lst .ro 5 []], iV 0] [])) else (bif (x.op == (7 : Int)) then (kc [agg [iV (IntKind.i64.wrap (x.op + (20 : Int))), iV x.form, iV x.field, iV n34, iV 0, iV 0, iV 0, iV 0, iV 0, iV 0, iV 0, iV 0, iV 0, str [], lst .ro 1 [], lst .ro 5 []], iV 0] []) else (bif (x.op == (8 : Int)) then (kc [agg [iV (IntKind.i64.wrap (x.op + (20 : Int))), iV x.form, iV x.to, iV 0, iV x.field, iV 0, iV 0, iV 0, iV 0, iV 0, iV 0, iV 0, iV 0, str [], lst .ro 1 [], lst .ro 5 []], iV 0] []) else (bif (x.op == (10 : Int)) then (A.callx 27 [agg [iV s.ver, lst .ro 2 (map frmV s.forms)], iV x.form] fun l39 => aA A l39 fun l42 l41 => aI A l42 fun n45 l44 => aL A 5 l44 fun l48 l47 => asN A l47 (aB A l41 fun b51 l50 => asN A l50 (A.call 45 [lst .ro 5 l48] [] fun l52 l53 => aU A 5 l52 fun l56 l55 => asN A l55 (asN A l53 (bif (l56.all AV.flat) then (kc [agg [iV (IntKind.i64.wrap (x.op + (20 : Int))), iV x.form, iV x.field, iV 0, iV 0, iV 0, iV 0, iV 0, iV 0, iV 0, iV 0, iV 0, iV 0, str [], lst .ro 1 [], lst .ro 5 l56], iV 0] []) else A.fail))))) else (kc [agg [iV (IntKind.i64.wrap (x.op + (20 : Int))), iV x.form, iV x.field, iV 0, iV 0, iV 0, iV 0, iV 0, iV 0, iV 0, iV 0, iV 0, iV 0, str [], lst .ro 1 [], lst .ro 5 []], iV 0] []))))))))))))))
theorem zt1 (l : List Int) {r : CR} (h : zco (OA (tbl E0) (ltbl E0 70 0)) l (fun r o => some (r, o)) = some r) : tbl E0 70 [intsV l] [] = some r :=
  tblF Tryz.func70 h
theorem zw1 (s : Sch) (x : Stp) {r : CR} (h : zfj (OA (tbl E0) (ltbl E0 69 0)) s x (fun r o => some (r, o)) = some r) : tbl E0 69 [schV s, stpV x] [] = some r :=
  tblF Tryz.func69 h
theorem zpz (s : Sch) (x : Stp) {r : CR} (h : zac (OA (tbl E0) (ltbl E0 38 0)) s x (fun r o => some (r, o)) = some r) : tbl E0 38 [schV s, stpV x] [] = some r :=
  tblF Tryz.func38 h
end V
namespace V
structure Val where
  n : Int
  s : List UInt8
  deriving DecidableEq, Inhabited
structure Rec where
  form : Int
  vals : List Val
  deriving DecidableEq
structure Don where
  rcd : Rec
  gone : Bool
  has : Bool
  lost : List UInt8
abbrev valV (v : Val) : AV := AV.agg [.int .i64 v.n, .str v.s]
abbrev valsV (l : List Val) : AV := AV.lst .ro 2 (l.map valV)
abbrev valsU (l : List Val) : AV := AV.lst .uq 2 (l.map valV)
abbrev recC (r : Rec) : List AV := [.int .i64 r.form, valsV r.vals]
abbrev recV (r : Rec) : AV := AV.agg (recC r)
abbrev atO (l : List Val) (p : Int) : List (Nat × List AV) := [(0, [valsU l, .int .i64 p])]
abbrev donC (d : Don) : List AV := [.int .i64 d.rcd.form, valsV d.rcd.vals, .bool d.gone, .bool d.has, .str d.lost]
abbrev donV (d : Don) : AV := AV.agg (donC d)
open AV (int lst agg str bool ref clo)
open List (map)
-- folds: dbl
-- folds: cse
noncomputable def z57 {α : Type} (A : Alg α) (f : Frm) (x : Stp) (l : List Val) (p : Int) (kc : List AV → List (Nat × List AV) → α) (l1 : List (Nat × List AV)) (l0 : List AV) : α :=
  asC A l1 fun x2 l3 => bif (x2.1.beq 0) then (aU A 2 x2.2 fun l6 l5 => aI A l5 fun n9 l8 => asN A l8 (asN A l0 (asN A l3 (bif (l6.all AV.flat) then (kc [str [], bool false] [(0, [lst .uq 2 l6, iV n9])]) else A.fail)))) else A.fail
noncomputable def s_ton {α : Type} (A : Alg α) (f : Frm) (x : Stp) (l : List Val) (p : Int) (kc : List AV → List (Nat × List AV) → α) : α :=
  bif (fitI (atO l p) && [ref (0 : Nat) (0 : Nat), agg [iV f.id, lst .ro 5 (map fldV f.fields)], agg [iV x.op, iV x.form, iV x.field, iV x.place, iV x.to, iV x.a, iV x.b, iV x.f.id, iV x.f.kind, iV x.f.lo, iV x.f.hi, iV x.f.most, iV x.n, str x.s, lst .ro 1 (map (fun n => iV n) x.t), lst .ro 5 (map fldV x.fields)]].all fitA && nodupN (map (fun x => x.fst) (oshOf T0 (0 : Nat) [ref (0 : Nat) (0 : Nat), agg [iV f.id, lst .ro 5 (map fldV f.fields)], agg [iV x.op, iV x.form, iV x.field, iV x.place, iV x.to, iV x.a, iV x.b, iV x.f.id, iV x.f.kind, iV x.f.lo, iV x.f.hi, iV x.f.most, iV x.n, str x.s, lst .ro 1 (map (fun n => iV n) x.t), lst .ro 5 (map fldV x.fields)]] Go.Proofs.Tryz.f20.params.toList)) && (oshOf T0 (0 : Nat) [ref (0 : Nat) (0 : Nat), agg [iV f.id, lst .ro 5 (map fldV f.fields)], agg [iV x.op, iV x.form, iV x.field, iV x.place, iV x.to, iV x.a, iV x.b, iV x.f.id, iV x.f.kind, iV x.f.lo, iV x.f.hi, iV x.f.most, iV x.n, str x.s, lst .ro 1 (map (fun n => iV n) x.t), lst .ro 5 (map fldV x.fields)]] Go.Proofs.Tryz.f20.params.toList).all fun p => p.fst.blt (64 : Nat)) then (bif (x.op == (1 : Int)) then (bif ((map valV l).all AV.flat) then (A.call 54 [ref 0 0, iV x.place, agg [iV x.n, str x.s]] [(0, [lst .uq 2 (map valV l), iV p])] fun l0 l1 => z57 A f x l p kc l1 l0) else A.fail) else (bif (x.op == (2 : Int)) then (dbl A (A.chk (decide ((0 : Int) ≤ p)) (nthE A (map fldV f.fields) p.toNat fun v10 => asA A v10 fun l11 => aI A l11 fun n14 l13 => aI A l13 fun n17 l16 => aI A l16 fun n20 l19 => aI A l19 fun n23 l22 => aI A l22 fun n26 l25 => asN A l25 (A.chk (decide ((0 : Int) ≤ p)) (nthE A (map valV l) (p.toNat) fun v27 => asA A v27 fun l28 => aI A l28 fun n31 l30 => aS A l30 fun l34 l33 => asN A l33 (A.callx 53 [agg [iV n14, iV n17, iV n20, iV n23, iV n26], agg [iV n31, str l34]] fun l35 => aL A 1 l35 fun l38 l37 => aI A l37 fun n41 l40 => asN A l40 (orFail A (bytesOf l38) fun l42 => bif ((List.take p.toNat (map valV l) ++ List.drop (p.toNat + (1 : Nat)) (map valV l) ++ [agg [iV (0 : Int), str []]]).all AV.flat) then (kc [str l42, bool true] [(0, [lst .uq 2 (List.take ((map valV l).length - (1 : Nat)) (List.take p.toNat (map valV l) ++ List.drop (p.toNat + (1 : Nat)) (map valV l) ++ [agg [iV (0 : Int), str []]])), iV p])]) else A.fail))))))) else (bif (x.op == (7 : Int)) then (A.chk (decide ((0 : Int) ≤ p)) (nthE A (map valV l) (p.toNat) fun v76 => asA A v76 fun l77 => aI A l77 fun n80 l79 => aS A l79 fun l83 l82 => asN A l82 (bif ((List.take p.toNat (map valV l) ++ List.drop (p.toNat + (1 : Nat)) (map valV l) ++ [agg [iV (0 : Int), str []]]).all AV.flat) then (A.call 54 [ref 0 0, iV x.place, agg [iV n80, str l83]] [(0, [lst .uq 2 (List.take ((map valV l).length - (1 : Nat)) (List.take p.toNat (map valV l) ++ List.drop (p.toNat + (1 : Nat)) (map valV l) ++ [agg [iV (0 : Int), str []]])), iV p])] fun l84 l85 => z57 A f x l p kc l85 l84) else A.fail))) else (bif (x.op == (4 : Int)) then (A.chk (decide ((0 : Int) ≤ p) && decide (p < (↑(map valV l).length : Int))) (A.chk (decide ((0 : Int) ≤ p) && decide (p < (↑(map valV l).length : Int))) (nthE A (map valV l) (p.toNat) fun v94 => nthE A v94.cells 0 fun v95 => asI A .i64 v95 fun n96 => nthE A (map valV l) (p.toNat) fun v97 => A.chk (((0 : Nat) + [iV (IntKind.i64.wrap (IntKind.i64.wrap (x.a * n96) + x.b))].length).ble v97.cells.length) (putC A v97 (setAt v97.cells (0 : Nat) [iV (IntKind.i64.wrap (IntKind.i64.wrap (x.a * n96) + x.b))]) fun v98 => A.chk v98.flat (bif (((map valV l).set p.toNat v98).all AV.flat) then (kc [str [], bool false] [(0, [lst .uq 2 ((map valV l).set p.toNat v98), iV p])]) else A.fail))))) else (bif (x.op == (5 : Int)) then (A.chk (decide ((0 : Int) ≤ p) && decide (p < (↑(map valV l).length : Int))) (A.chk (decide ((0 : Int) ≤ p) && decide (p < (↑(map valV l).length : Int))) (nthE A (map valV l) (p.toNat) fun v99 => nthE A v99.cells 0 fun v100 => asI A .i64 v100 fun n101 => A.chk (decide ((0 : Int) ≤ n101)) (nthE A (map (fun n => iV n) x.t) n101.toNat fun v102 => asI A .i64 v102 fun n103 => nthE A (map valV l) (p.toNat) fun v104 => A.chk (((0 : Nat) + [iV n103].length).ble v104.cells.length) (putC A v104 (setAt v104.cells (0 : Nat) [iV n103]) fun v105 => A.chk v105.flat (bif (((map valV l).set p.toNat v105).all AV.flat) then (kc [str [], bool false] [(0, [lst .uq 2 ((map valV l).set p.toNat v105), iV p])]) else A.fail)))))) else (bif (x.op == (6 : Int)) then (A.chk (decide ((0 : Int) ≤ p) && decide (p < (↑(map valV l).length : Int))) (nthE A (map valV l) (p.toNat) fun v106 => nthE A v106.cells 0 fun v107 => asI A .i64 v107 fun n108 => A.chk (!x.a == (0 : Int)) (A.chk (decide ((0 : Int) ≤ p) && decide (p < (↑(map valV l).length : Int))) (nthE A (map valV l) (p.toNat) fun v109 => nthE A v109.cells 0 fun v110 => asI A .i64 v110 fun n111 => A.chk (!x.a == (0 : Int)) (nthE A (map valV l) (p.toNat) fun v112 => A.chk (((0 : Nat) + [iV (IntKind.i64.wrap (n111.tdiv x.a))].length).ble v112.cells.length) (putC A v112 (setAt v112.cells (0 : Nat) [iV (IntKind.i64.wrap (n111.tdiv x.a))]) fun v113 => A.chk v113.flat (bif (((map valV l).set p.toNat v113).all AV.flat) then (A.call 54 [ref 0 0, iV (IntKind.i64.wrap (p + (1 : Int))), agg [iV (n108.tmod x.a), str []]] [(0, [lst .uq 2 ((map valV l).set p.toNat v113), iV p])] fun l114 l115 => z57 A f x l p kc l115 l114) else A.fail))))))) else (bif ((map valV l).all AV.flat) then (kc [str [], bool false] [(0, [lst .uq 2 (map valV l), iV p])]) else A.fail))))))) else A.fail
noncomputable def z5y {α : Type} (A : Alg α) (x : Stp) (s : List UInt8) (h : Bool) (l : List Val) (p : Int) (kc : List AV → List (Nat × List AV) → α) (n1273 : Int) (n1278 : Int) : α :=
  nthE A (List.take (IntKind.i64.wrap (p + (1 : Int))).toNat (map valV l) ++ List.drop ((IntKind.i64.wrap (p + (1 : Int))).toNat + (1 : Nat)) (map valV l) ++ [agg [iV (Int.ofNat (nat_lit 0)), str []]]) (p.toNat) fun v1282 => A.chk (((0 : Nat) + [iV (IntKind.i64.wrap (IntKind.i64.wrap (n1273 * x.a) + n1278))].length).ble v1282.cells.length) (putC A v1282 (setAt v1282.cells (0 : Nat) [iV (IntKind.i64.wrap (IntKind.i64.wrap (n1273 * x.a) + n1278))]) fun v1283 => A.chk v1283.flat (A.both (dbl A (A.chk (decide ((0 : Int) ≤ p) && decide (p < (↑((map valV l).length - (1 : Nat)) : Int))) (nthE A ((List.take (IntKind.i64.wrap (p + (1 : Int))).toNat (map valV l) ++ List.drop ((IntKind.i64.wrap (p + (1 : Int))).toNat + (1 : Nat)) (map valV l) ++ [agg [iV (0 : Int), str []]]).set p.toNat v1283) p.toNat fun v1284 => A.chk (Nat.ble (2 : Nat) v1284.cells.length) (asC A (List.take (2 : Nat) (List.drop (0 : Nat) v1284.cells)) fun v1285 l1286 => asI A .i64 v1285 fun n1287 => aS A l1286 fun l1290 l1289 => asN A l1289 (A.callx 72 [agg [iV x.f.id, iV x.f.kind, iV x.f.lo, iV x.f.hi, iV x.f.most], agg [iV n1287, str l1290]] fun l1291 => aB A l1291 fun b1294 l1293 => asN A l1293 (A.callx 71 [bool b1294] fun l1295 => aI A l1295 fun n1298 l1297 => asN A l1297 (bif (((List.take (IntKind.i64.wrap (p + (1 : Int))).toNat (map valV l) ++ List.drop ((IntKind.i64.wrap (p + (1 : Int))).toNat + (1 : Nat)) (map valV l) ++ [agg [iV (0 : Int), str []]]).set p.toNat v1283).all AV.flat) then (kc [iV n1298] [(0, [lst .uq 2 (List.take ((map valV l).length - (1 : Nat)) ((List.take (IntKind.i64.wrap (p + (1 : Int))).toNat (map valV l) ++ List.drop ((IntKind.i64.wrap (p + (1 : Int))).toNat + (1 : Nat)) (map valV l) ++ [agg [iV (0 : Int), str []]]).set p.toNat v1283)), iV p])]) else A.fail))))))) (dbl A (A.both (A.chk (decide ((0 : Int) ≤ p) && decide (p < (↑((map valV l).length - (1 : Nat)) : Int))) (nthE A ((List.take (IntKind.i64.wrap (p + (1 : Int))).toNat (map valV l) ++ List.drop ((IntKind.i64.wrap (p + (1 : Int))).toNat + (1 : Nat)) (map valV l) ++ [agg [iV (0 : Int), str []]]).set p.toNat v1283) p.toNat fun v1314 => A.chk (Nat.ble (2 : Nat) v1314.cells.length) (asC A (List.take (2 : Nat) (List.drop (0 : Nat) v1314.cells)) fun v1315 l1316 => asI A .i64 v1315 fun n1317 => aS A l1316 fun l1320 l1319 => asN A l1319 (A.callx 72 [agg [iV x.f.id, iV x.f.kind, iV x.f.lo, iV x.f.hi, iV x.f.most], agg [iV n1317, str l1320]] fun l1321 => aB A l1321 fun b1324 l1323 => asN A l1323 (A.callx 71 [bool b1324] fun l1325 => aI A l1325 fun n1328 l1327 => asN A l1327 (bif (((List.take (IntKind.i64.wrap (p + (1 : Int))).toNat (map valV l) ++ List.drop ((IntKind.i64.wrap (p + (1 : Int))).toNat + (1 : Nat)) (map valV l) ++ [agg [iV (0 : Int), str []]]).set p.toNat v1283).all AV.flat) then (kc [iV n1328] [(0, [lst .uq 2 (List.take ((map valV l).length - (1 : Nat)) ((List.take (IntKind.i64.wrap (p + (1 : Int))).toNat (map valV l) ++ List.drop ((IntKind.i64.wrap (p + (1 : Int))).toNat + (1 : Nat)) (map valV l) ++ [agg [iV (0 : Int), str []]]).set p.toNat v1283)), iV p])]) else A.fail)))))) (A.both (A.chk (decide ((0 : Int) ≤ p) && decide (p < (↑((map valV l).length - (1 : Nat)) : Int))) (nthE A ((List.take (IntKind.i64.wrap (p + (1 : Int))).toNat (map valV l) ++ List.drop ((IntKind.i64.wrap (p + (1 : Int))).toNat + (1 : Nat)) (map valV l) ++ [agg [iV (0 : Int), str []]]).set p.toNat v1283) p.toNat fun v1329 => A.chk (Nat.ble (2 : Nat) v1329.cells.length) (asC A (List.take (2 : Nat) (List.drop (0 : Nat) v1329.cells)) fun v1330 l1331 => asI A .i64 v1330 fun n1332 => aS A l1331 fun l1335 l1334 => asN A l1334 (A.callx 72 [agg [iV x.f.id, iV x.f.kind, iV x.f.lo, iV x.f.hi, iV x.f.most], agg [iV n1332, str l1335]] fun l1336 => aB A l1336 fun b1339 l1338 => asN A l1338 (A.callx 71 [bool b1339] fun l1340 => aI A l1340 fun n1343 l1342 => asN A l1342 (bif (((List.take (IntKind.i64.wrap (p + (1 : Int))).toNat (map valV l) ++ List.drop ((IntKind.i64.wrap (p + (1 : Int))).toNat + (1 : Nat)) (map valV l) ++ [agg [iV (0 : Int), str []]]).set p.toNat v1283).all AV.flat) then (kc [iV n1343] [(0, [lst .uq 2 (List.take ((map valV l).length - (1 : Nat)) ((List.take (IntKind.i64.wrap (p + (1 : Int))).toNat (map valV l) ++ List.drop ((IntKind.i64.wrap (p + (1 : Int))).toNat + (1 : Nat)) (map valV l) ++ [agg [iV (0 : Int), str []]]).set p.toNat v1283)), iV p])]) else A.fail)))))) (A.chk (decide ((0 : Int) ≤ p) && decide (p < (↑((map valV l).length - (1 : Nat)) : Int))) (A.both (nthE A ((List.take (IntKind.i64.wrap (p + (1 : Int))).toNat (map valV l) ++ List.drop ((IntKind.i64.wrap (p + (1 : Int))).toNat + (1 : Nat)) (map valV l) ++ [agg [iV (0 : Int), str []]]).set p.toNat v1283) p.toNat fun v1344 => A.chk (Nat.ble (2 : Nat) v1344.cells.length) (asC A (List.take (2 : Nat) (List.drop (0 : Nat) v1344.cells)) fun v1345 l1346 => asI A .i64 v1345 fun n1347 => aS A l1346 fun l1350 l1349 => asN A l1349 (A.callx 72 [agg [iV x.f.id, iV x.f.kind, iV x.f.lo, iV x.f.hi, iV x.f.most], agg [iV n1347, str l1350]] fun l1351 => aB A l1351 fun b1354 l1353 => asN A l1353 (A.callx 71 [bool b1354] fun l1355 => aI A l1355 fun n1358 l1357 => asN A l1357 (bif (((List.take (IntKind.i64.wrap (p + (1 : Int))).toNat (map valV l) ++ List.drop ((IntKind.i64.wrap (p + (1 : Int))).toNat + (1 : Nat)) (map valV l) ++ [agg [iV (0 : Int), str []]]).set p.toNat v1283).all AV.flat) then (kc [iV n1358] [(0, [lst .uq 2 (List.take ((map valV l).length - (1 : Nat)) ((List.take (IntKind.i64.wrap (p + (1 : Int))).toNat (map valV l) ++ List.drop ((IntKind.i64.wrap (p + (1 : Int))).toNat + (1 : Nat)) (map valV l) ++ [agg [iV (0 : Int), str []]]).set p.toNat v1283)), iV p])]) else A.fail))))) (nthE A ((List.take (IntKind.i64.wrap (p + (1 : Int))).toNat (map valV l) ++ List.drop ((IntKind.i64.wrap (p + (1 : Int))).toNat + (1 : Nat)) (map valV l) ++ [agg [iV (0 : Int), str []]]).set p.toNat v1283) p.toNat fun v1359 => A.chk (Nat.ble (2 : Nat) v1359.cells.length) (asC A (List.take (2 : Nat) (List.drop (0 : Nat) v1359.cells)) fun v1360 l1361 => asI A .i64 v1360 fun n1362 => aS A l1361 fun l1365 l1364 => asN A l1364 (A.callx 72 [agg [iV x.f.id, iV x.f.kind, iV x.f.lo, iV x.f.hi, iV x.f.most], agg [iV n1362, str l1365]] fun l1366 => aB A l1366 fun b1369 l1368 => asN A l1368 (A.callx 71 [bool b1369] fun l1370 => aI A l1370 fun n1373 l1372 => asN A l1372 (bif (((List.take (IntKind.i64.wrap (p + (1 : Int))).toNat (map valV l) ++ List.drop ((IntKind.i64.wrap (p + (1 : Int))).toNat + (1 : Nat)) (map valV l) ++ [agg [iV (0 : Int), str []]]).set p.toNat v1283).all AV.flat) then (kc [iV n1373] [(0, [lst .uq 2 (List.take ((map valV l).length - (1 : Nat)) ((List.take (IntKind.i64.wrap (p + (1 : Int))).toNat (map valV l) ++ List.drop ((IntKind.i64.wrap (p + (1 : Int))).toNat + (1 : Nat)) (map valV l) ++ [agg [iV (0 : Int), str []]]).set p.toNat v1283)), iV p])]) else A.fail))))))))))))
noncomputable def z5z {α : Type} (A : Alg α) (x : Stp) (s : List UInt8) (h : Bool) (l : List Val) (p : Int) (kc : List AV → List (Nat × List AV) → α) (n216 : Int) : α :=
  nthE A (map valV l) (p.toNat) fun v217 => A.chk (((0 : Nat) + [iV (IntKind.i64.wrap ((IntKind.i64.wrap (n216 - x.b)).tdiv x.a))].length).ble v217.cells.length) (putC A v217 (setAt v217.cells (0 : Nat) [iV (IntKind.i64.wrap ((IntKind.i64.wrap (n216 - x.b)).tdiv x.a))]) fun v218 => A.chk v218.flat (A.chk (!x.a == (0 : Int)) (bif ((IntKind.i64.wrap (n216 - x.b)).tmod x.a == (0 : Int)) then (A.both (dbl A (A.chk (decide ((0 : Int) ≤ p) && decide (p < (↑((map valV l).set p.toNat v218).length : Int))) (nthE A ((map valV l).set p.toNat v218) p.toNat fun v219 => A.chk (Nat.ble (2 : Nat) v219.cells.length) (asC A (List.take (2 : Nat) (List.drop (0 : Nat) v219.cells)) fun v220 l221 => asI A .i64 v220 fun n222 => aS A l221 fun l225 l224 => asN A l224 (A.callx 72 [agg [iV x.f.id, iV x.f.kind, iV x.f.lo, iV x.f.hi, iV x.f.most], agg [iV n222, str l225]] fun l226 => aB A l226 fun b229 l228 => asN A l228 (A.callx 71 [bool b229] fun l230 => aI A l230 fun n233 l232 => asN A l232 (bif (((map valV l).set p.toNat v218).all AV.flat) then (kc [iV n233] [(0, [lst .uq 2 ((map valV l).set p.toNat v218), iV p])]) else A.fail))))))) (dbl A (A.both (A.chk (decide ((0 : Int) ≤ p) && decide (p < (↑((map valV l).set p.toNat v218).length : Int))) (nthE A ((map valV l).set p.toNat v218) p.toNat fun v249 => A.chk (Nat.ble (2 : Nat) v249.cells.length) (asC A (List.take (2 : Nat) (List.drop (0 : Nat) v249.cells)) fun v250 l251 => asI A .i64 v250 fun n252 => aS A l251 fun l255 l254 => asN A l254 (A.callx 72 [agg [iV x.f.id, iV x.f.kind, iV x.f.lo, iV x.f.hi, iV x.f.most], agg [iV n252, str l255]] fun l256 => aB A l256 fun b259 l258 => asN A l258 (A.callx 71 [bool b259] fun l260 => aI A l260 fun n263 l262 => asN A l262 (bif (((map valV l).set p.toNat v218).all AV.flat) then (kc [iV n263] [(0, [lst .uq 2 ((map valV l).set p.toNat v218), iV p])]) else A.fail)))))) (A.both (A.chk (decide ((0 : Int) ≤ p) && decide (p < (↑((map valV l).set p.toNat v218).length : Int))) (nthE A ((map valV l).set p.toNat v218) p.toNat fun v264 => A.chk (Nat.ble (2 : Nat) v264.cells.length) (asC A (List.take (2 : Nat) (List.drop (0 : Nat) v264.cells)) fun v265 l266 => asI A .i64 v265 fun n267 => aS A l266 fun l270 l269 => asN A l269 (A.callx 72 [agg [iV x.f.id, iV x.f.kind, iV x.f.lo, iV x.f.hi, iV x.f.most], agg [iV n267, str l270]] fun l271 => aB A l271 fun b274 l273 => asN A l273 (A.callx 71 [bool b274] fun l275 => aI A l275 fun n278 l277 => asN A l277 (bif (((map valV l).set p.toNat v218).all AV.flat) then (kc [iV n278] [(0, [lst .uq 2 ((map valV l).set p.toNat v218), iV p])]) else A.fail)))))) (A.chk (decide ((0 : Int) ≤ p) && decide (p < (↑((map valV l).set p.toNat v218).length : Int))) (A.both (nthE A ((map valV l).set p.toNat v218) p.toNat fun v279 => A.chk (Nat.ble (2 : Nat) v279.cells.length) (asC A (List.take (2 : Nat) (List.drop (0 : Nat) v279.cells)) fun v280 l281 => asI A .i64 v280 fun n282 => aS A l281 fun l285 l284 => asN A l284 (A.callx 72 [agg [iV x.f.id, iV x.f.kind, iV x.f.lo, iV x.f.hi, iV x.f.most], agg [iV n282, str l285]] fun l286 => aB A l286 fun b289 l288 => asN A l288 (A.callx 71 [bool b289] fun l290 => aI A l290 fun n293 l292 => asN A l292 (bif (((map valV l).set p.toNat v218).all AV.flat) then (kc [iV n293] [(0, [lst .uq 2 ((map valV l).set p.toNat v218), iV p])]) else A.fail))))) (nthE A ((map valV l).set p.toNat v218) p.toNat fun v294 => A.chk (Nat.ble (2 : Nat) v294.cells.length) (asC A (List.take (2 : Nat) (List.drop (0 : Nat) v294.cells)) fun v295 l296 => asI A .i64 v295 fun n297 => aS A l296 fun l300 l299 => asN A l299 (A.callx 72 [agg [iV x.f.id, iV x.f.kind, iV x.f.lo, iV x.f.hi, iV x.f.most], agg [iV n297, str l300]] fun l301 => aB A l301 fun b304 l303 => asN A l303 (A.callx 71 [bool b304] fun l305 => aI A l305 fun n308 l307 => asN A l307 (bif (((map valV l).set p.toNat v218).all AV.flat) then (kc [iV n308] [(0, [lst .uq 2 ((map valV l).set p.toNat v218), iV p])]) else A.fail))))))))))) else (A.callx 71 [bool false] fun l369 => aI A l369 fun n372 l371 => asN A l371 (bif (((map valV l).set p.toNat v218).all AV.flat) then (kc [iV n372] [(0, [lst .uq 2 ((map valV l).set p.toNat v218), iV p])]) else A.fail)))))
noncomputable def z4r {α : Type} (A : Alg α) (x : Stp) (s : List UInt8) (h : Bool) (l : List Val) (p : Int) (kc : List AV → List (Nat × List AV) → α)  : α :=
  nthE A (map valV l) (((Nm.E ((0 : Nat), [lst .uq 2 (map valV l), iV p]).fst (0 : Nat), (2 : Nat), p).fst, p.toNat, (0 : Nat)).snd.fst) fun v1159 => A.chk (v1159.cells.all AV.flat1) (A.callx 73 [lst .ro 1 (map (fun n => iV n) x.t), clo 74 [AV.rp [AV.rp v1159.cells (((Nm.E ((0 : Nat), [lst .uq 2 (map valV l), iV p]).fst (0 : Nat), (2 : Nat), p).fst, p.toNat, (0 : Nat)).snd.snd)] 0]] fun l1160 => aI A l1160 fun n1163 l1162 => asN A l1162 (nthE A (map valV l) (p.toNat) fun v1164 => A.chk (((0 : Nat) + [iV n1163].length).ble v1164.cells.length) (putC A v1164 (setAt v1164.cells (0 : Nat) [iV n1163]) fun v1165 => A.chk v1165.flat (nthE A ((map valV l).set p.toNat v1165) (p.toNat) fun v1166 => nthE A v1166.cells 0 fun v1167 => asI A .i64 v1167 fun n1168 => A.callx 71 [bool (decide (n1168 ≥ (0 : Int)))] fun l1169 => aI A l1169 fun n1172 l1171 => asN A l1171 (bif (((map valV l).set p.toNat v1165).all AV.flat) then (kc [iV n1172] [(0, [lst .uq 2 ((map valV l).set p.toNat v1165), iV p])]) else A.fail)))))
noncomputable def z8l {α : Type} (A : Alg α) (x : Stp) (s : List UInt8) (h : Bool) (l : List Val) (p : Int) (kc : List AV → List (Nat × List AV) → α)  : α :=
  nthE A (map valV l) (p.toNat) fun v214 => nthE A v214.cells 0 fun v215 => asI A .i64 v215 fun n216 => A.both (A.chk (decide ((0 : Int) ≤ p) && decide (p < (↑(map valV l).length : Int))) (A.chk (!x.a == (0 : Int)) (z5z A x s h l p kc n216))) (A.chk (!x.a == (0 : Int)) (A.chk (decide ((0 : Int) ≤ p) && decide (p < (↑(map valV l).length : Int))) (z5z A x s h l p kc n216)))
noncomputable def z60 {α : Type} (A : Alg α) (x : Stp) (s : List UInt8) (h : Bool) (l : List Val) (p : Int) (kc : List AV → List (Nat × List AV) → α) (n1761 : Int) : α :=
  nthE A (List.take (IntKind.i64.wrap (p + (1 : Int))).toNat (map valV l) ++ List.drop ((IntKind.i64.wrap (p + (1 : Int))).toNat + (1 : Nat)) (map valV l) ++ [agg [iV (Int.ofNat (nat_lit 0)), str []]]) (p.toNat) fun v1765 => nthE A v1765.cells 0 fun v1766 => asI A .i64 v1766 fun n1767 => z5y A x s h l p kc n1767 n1761
noncomputable def z3r {α : Type} (A : Alg α) (x : Stp) (s : List UInt8) (h : Bool) (l : List Val) (p : Int) (kc : List AV → List (Nat × List AV) → α) (l27 : List (Nat × List AV)) (l26 : List AV) : α :=
  asC A l27 fun x28 l29 => bif (x28.1.beq 0) then (aU A 2 x28.2 fun l32 l31 => aI A l31 fun n35 l34 => asN A l34 (asN A l26 (asN A l29 (bif (l32.all AV.flat) then (kc [iV 0] [(0, [lst .uq 2 l32, iV n35])]) else A.fail)))) else A.fail
noncomputable def z5g {α : Type} (A : Alg α) (x : Stp) (s : List UInt8) (h : Bool) (l : List Val) (p : Int) (kc : List AV → List (Nat × List AV) → α) (n1596 : Int) : α :=
  A.chk (decide ((0 : Int) ≤ (IntKind.i64.wrap (p + (1 : Int))))) (nthE A (map valV l) ((IntKind.i64.wrap (p + (1 : Int))).toNat) fun v1597 => asA A v1597 fun l1598 => aI A l1598 fun n1601 l1600 => aS A l1600 fun l1604 l1603 => asN A l1603 (z5y A x s h l p kc n1596 n1601))
noncomputable def z4s {α : Type} (A : Alg α) (x : Stp) (s : List UInt8) (h : Bool) (l : List Val) (p : Int) (kc : List AV → List (Nat × List AV) → α)  : α :=
  A.both (nthE A (map valV l) (p.toNat) fun v1594 => nthE A v1594.cells 0 fun v1595 => asI A .i64 v1595 fun n1596 => z5g A x s h l p kc n1596) (A.chk (decide ((0 : Int) ≤ (IntKind.i64.wrap (p + (1 : Int))))) (nthE A (map valV l) ((IntKind.i64.wrap (p + (1 : Int))).toNat) fun v1757 => asA A v1757 fun l1758 => aI A l1758 fun n1761 l1760 => aS A l1760 fun l1764 l1763 => asN A l1763 (z60 A x s h l p kc n1761)))
noncomputable def z8m {α : Type} (A : Alg α) (x : Stp) (s : List UInt8) (h : Bool) (l : List Val) (p : Int) (kc : List AV → List (Nat × List AV) → α)  : α :=
  dbl A (A.both (A.chk (decide ((0 : Int) ≤ p) && decide (p < (↑(map valV l).length : Int))) (A.both (A.chk (decide ((0 : Int) ≤ p) && decide (p < (↑(map valV l).length : Int))) (A.both (nthE A (map valV l) (p.toNat) fun v1271 => nthE A v1271.cells 0 fun v1272 => asI A .i64 v1272 fun n1273 => dbl A (z5g A x s h l p kc n1273)) (A.both (z4s A x s h l p kc) (A.chk (decide ((0 : Int) ≤ (IntKind.i64.wrap (p + (1 : Int))))) (nthE A (map valV l) ((IntKind.i64.wrap (p + (1 : Int))).toNat) fun v1920 => asA A v1920 fun l1921 => aI A l1921 fun n1924 l1923 => aS A l1923 fun l1927 l1926 => asN A l1926 (dbl A (z60 A x s h l p kc n1924))))))) (A.chk (decide ((0 : Int) ≤ p) && decide (p < (↑(map valV l).length : Int))) (z4s A x s h l p kc)))) (A.chk (decide ((0 : Int) ≤ p) && decide (p < (↑(map valV l).length : Int))) (A.chk (decide ((0 : Int) ≤ p) && decide (p < (↑(map valV l).length : Int))) (z4s A x s h l p kc))))
noncomputable def z7k {α : Type} (A : Alg α) (x : Stp) (s : List UInt8) (h : Bool) (l : List Val) (p : Int) (kc : List AV → List (Nat × List AV) → α) (n142 : Int) (l145 : List UInt8) : α :=
  A.callx 72 [agg [iV x.f.id, iV x.f.kind, iV x.f.lo, iV x.f.hi, iV x.f.most], agg [iV n142, str l145]] fun l146 => aB A l146 fun b149 l148 => asN A l148 (A.callx 71 [bool b149] fun l150 => aI A l150 fun n153 l152 => asN A l152 (bif ((map valV l).all AV.flat) then (kc [iV n153] [(0, [lst .uq 2 (map valV l), iV p])]) else A.fail))
noncomputable def z4t {α : Type} (A : Alg α) (x : Stp) (s : List UInt8) (h : Bool) (l : List Val) (p : Int) (kc : List AV → List (Nat × List AV) → α)  : α :=
  nthE A (map valV l) p.toNat fun v64 => A.chk (Nat.ble (2 : Nat) v64.cells.length) (asC A (List.take (2 : Nat) (List.drop (0 : Nat) v64.cells)) fun v65 l66 => asI A .i64 v65 fun n67 => aS A l66 fun l70 l69 => asN A l69 (z7k A x s h l p kc n67 l70))
noncomputable def zmk {α : Type} (A : Alg α) (x : Stp) (s : List UInt8) (h : Bool) (l : List Val) (p : Int) (kc : List AV → List (Nat × List AV) → α) : α :=
  bif (fitI (atO l p) && [ref (0 : Nat) (0 : Nat), agg [iV x.op, iV x.form, iV x.field, iV x.place, iV x.to, iV x.a, iV x.b, iV x.f.id, iV x.f.kind, iV x.f.lo, iV x.f.hi, iV x.f.most, iV x.n, str x.s, lst .ro 1 (map (fun n => iV n) x.t), lst .ro 5 (map fldV x.fields)], str s, bool h].all fitA && nodupN (map (fun x => x.fst) (oshOf T0 (0 : Nat) [ref (0 : Nat) (0 : Nat), agg [iV x.op, iV x.form, iV x.field, iV x.place, iV x.to, iV x.a, iV x.b, iV x.f.id, iV x.f.kind, iV x.f.lo, iV x.f.hi, iV x.f.most, iV x.n, str x.s, lst .ro 1 (map (fun n => iV n) x.t), lst .ro 5 (map fldV x.fields)], str s, bool h] Go.Proofs.Tryz.f39.params.toList)) && (oshOf T0 (0 : Nat) [ref (0 : Nat) (0 : Nat), agg [iV x.op, iV x.form, iV x.field, iV x.place, iV x.to, iV x.a, iV x.b, iV x.f.id, iV x.f.kind, iV x.f.lo, iV x.f.hi, iV x.f.most, iV x.n, str x.s, lst .ro 1 (map (fun n => iV n) x.t), lst .ro 5 (map fldV x.fields)], str s, bool h] Go.Proofs.Tryz.f39.params.toList).all fun p => p.fst.blt (64 : Nat)) then (bif (x.op == (21 : Int)) then (A.chk (decide ((0 : Int) ≤ p)) (nthE A (map valV l) (p.toNat) fun v0 => asA A v0 fun l1 => aI A l1 fun n4 l3 => aS A l3 fun l7 l6 => asN A l6 (bif ((List.take p.toNat (map valV l) ++ List.drop (p.toNat + (1 : Nat)) (map valV l) ++ [agg [iV (0 : Int), str []]]).all AV.flat) then (kc [iV 0] [(0, [lst .uq 2 (List.take ((map valV l).length - (1 : Nat)) (List.take p.toNat (map valV l) ++ List.drop (p.toNat + (1 : Nat)) (map valV l) ++ [agg [iV (0 : Int), str []]])), iV p])]) else A.fail))) else (bif (x.op == (22 : Int)) then (bif h then (A.callx 59 [agg [iV x.f.id, iV x.f.kind, iV x.f.lo, iV x.f.hi, iV x.f.most], lst .ro 1 (encB s)] fun l8 => aA A l8 fun l11 l10 => aI A l11 fun n14 l13 => aS A l13 fun l17 l16 => asN A l16 (aI A l10 fun n20 l19 => aI A l19 fun n23 l22 => asN A l22 (A.join (fun x24 => bif (n23 != (0 : Int)) then (x24 true) else (x24 (n20 != (↑s.length : Int)))) fun b25 => bif b25 then (bif ((map valV l).all AV.flat) then (kc [iV 12] [(0, [lst .uq 2 (map valV l), iV p])]) else A.fail) else (bif ((map valV l).all AV.flat) then (A.call 54 [ref 0 0, iV x.place, agg [iV n14, str l17]] [(0, [lst .uq 2 (map valV l), iV p])] fun l26 l27 => z3r A x s h l p kc l27 l26) else A.fail)))) else (bif ((map valV l).all AV.flat) then (A.call 54 [ref 0 0, iV x.place, agg [iV x.n, str x.s]] [(0, [lst .uq 2 (map valV l), iV p])] fun l36 l37 => z3r A x s h l p kc l37 l36) else A.fail)) else (bif (x.op == (27 : Int)) then (A.chk (decide ((0 : Int) ≤ p)) (nthE A (map valV l) (p.toNat) fun v46 => asA A v46 fun l47 => aI A l47 fun n50 l49 => aS A l49 fun l53 l52 => asN A l52 (bif ((List.take p.toNat (map valV l) ++ List.drop (p.toNat + (1 : Nat)) (map valV l) ++ [agg [iV (0 : Int), str []]]).all AV.flat) then (A.call 54 [ref 0 0, iV x.place, agg [iV n50, str l53]] [(0, [lst .uq 2 (List.take ((map valV l).length - (1 : Nat)) (List.take p.toNat (map valV l) ++ List.drop (p.toNat + (1 : Nat)) (map valV l) ++ [agg [iV (0 : Int), str []]])), iV p])] fun l54 l55 => z3r A x s h l p kc l55 l54) else A.fail))) else (bif (x.op == (23 : Int)) then (A.both (dbl A (A.chk (decide ((0 : Int) ≤ p) && decide (p < (↑(map valV l).length : Int))) (z4t A x s h l p kc))) (dbl A (A.both (A.chk (decide ((0 : Int) ≤ p) && decide (p < (↑(map valV l).length : Int))) (z4t A x s h l p kc)) (A.both (A.chk (decide ((0 : Int) ≤ p) && decide (p < (↑(map valV l).length : Int))) (z4t A x s h l p kc)) (A.chk (decide ((0 : Int) ≤ p) && decide (p < (↑(map valV l).length : Int))) (A.both (z4t A x s h l p kc) (nthE A (map valV l) p.toNat fun v139 => A.chk (Nat.ble (2 : Nat) v139.cells.length) (asC A (List.take (2 : Nat) (List.drop (0 : Nat) v139.cells)) fun v140 l141 => asI A .i64 v140 fun n142 => aS A l141 fun l145 l144 => asN A l144 (z7k A x s h l p kc n142 l145))))))))) else (bif (x.op == (24 : Int)) then (A.both (A.chk (decide ((0 : Int) ≤ p) && decide (p < (↑(map valV l).length : Int))) (dbl A (z8l A x s h l p kc))) (A.chk (decide ((0 : Int) ≤ p) && decide (p < (↑(map valV l).length : Int))) (z8l A x s h l p kc))) else (bif (x.op == (25 : Int)) then (A.chk (decide ((0 : Int) ≤ p) && decide (p < (↑(map valV l).length : Int))) (A.both (dbl A (z4r A x s h l p kc)) (dbl A (A.both (z4r A x s h l p kc) (dbl A (z4r A x s h l p kc)))))) else (bif (x.op == (26 : Int)) then (A.both (z8m A x s h l p kc) (dbl A (z8m A x s h l p kc))) else (bif (x.op == (29 : Int)) then (A.callx 71 [bool false] fun l10985 => aI A l10985 fun n10988 l10987 => asN A l10987 (bif ((map valV l).all AV.flat) then (kc [iV n10988] [(0, [lst .uq 2 (map valV l), iV p])]) else A.fail)) else (bif ((map valV l).all AV.flat) then (kc [iV 0] [(0, [lst .uq 2 (map valV l), iV p])]) else A.fail))))))))) else A.fail
theorem t_ton (f : Frm) (x : Stp) (l : List Val) (p : Int) {r : CR} (h : s_ton (OA (tbl E0) (ltbl E0 20 0)) f x l p (fun r o => some (r, o)) = some r) : tbl E0 20 [.ref 0 0, frmV f, stpV x] (atO l p) = some r :=
  tblF Tryz.func20 h
theorem zw2 (x : Stp) (s : List UInt8) (q : Bool) (l : List Val) (p : Int) {r : CR} (h : zmk (OA (tbl E0) (ltbl E0 39 0)) x s q l p (fun r o => some (r, o)) = some r) : tbl E0 39 [.ref 0 0, stpV x, .str s, .bool q] (atO l p) = some r :=
  tblF Tryz.func39 h
end V
end Go.Proofs.YtgkiakemfcbgiaaGreat
