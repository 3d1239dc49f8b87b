-- Written by wip/tools/drive.py out of the translation (the kit's print.py, with hand-proved functions beside). Not trusted: Lean checks it.
import Derived.Test.YteieknlkcodkcaaQx0
import Derived.Test.YteieknlkcodkcaaQxHGen
import Derived.Lib.AppendZerosOnto
import Derived.Lib.Overlaps
import Derived.Laws.Externs
import Derived.Shelf.Spec.SlicesInsert
import Derived.Laws.CopyOwn
import Derived.Deep.RegionLaw
namespace Go.Proofs.Yteieknlkcodkcaa.Q
open Go.RowKit Go.Proofs.YteieknlkcodkcaaW.PrintWords Go.Proofs.YteieknlkcodkcaaW.PrintLast Go.Proofs.YteieknlkcodkcaaW.PrintMore
attribute [local go_sem] max2_int min2_int max_two min_two max_three min_three max_four min_four   -- for this text's walks alone
set_option linter.unusedVariables false
set_option linter.unusedSimpArgs false

-- @import Derived.Lib.AppendZerosOnto
-- @import Derived.Lib.Overlaps
-- @import Derived.Laws.Externs
-- @import Derived.Shelf.Spec.SlicesInsert
-- @import Derived.Laws.CopyOwn
-- @import Derived.Deep.RegionLaw
-- slices.Insert at accounts
def InsertedAt (w : World) (base E k : Nat) (v : Value) (n : Nat) (xs : List Value) (e : Ending) (w' : World) : Prop := ∃ v' : Value, e = .returned v' ∧ w'.ownsRow base E k v' n xs ∧ w.grownBy w' v.ownBlock
theorem ins_info : (Try.prog.info? 53).map (fun i => (i.zero, i.size, i.bytes)) = some (some (.agg #[.int .i64 0, .int .i64 0, .int .i64 0]), 3, 24) := by kernel_rfl
theorem ins_size : (Try.prog.info? 53).map (·.size) = some 3 := by kernel_rfl
set_option maxHeartbeats 4000000 in
set_option maxRecDepth 100000 in
theorem insert_room (base g n cap i vb : Nat) (cur : Array Value) (xs ys : List Value) (w : World) (hi : i < n) (hroom : n + 1 ≤ cap) (hcap : cap ≤ 9223372036854775807) (hbase : base ≤ g) (hvb : vb ≠ g)
    (hxs : xs.length = n * 3) (hys : ys.length = 3) (hg : w.heap[g]? = some (.cells cur 53 (0, 0))) (hsz : cur.size = cap * 3) (hcur : cur.toList.take (n * 3) = xs) (hv : w.heap[vb]? = some (.cells ys.toArray 53 (0, 0)))
    (h1 : ∀ u ∈ xs, u.oneCell' = true) (h1y : ∀ u ∈ ys, u.oneCell' = true) :
    Calls Try.prog 41 #[.slice (some ⟨g, 0, none⟩) n cap, .int .i64 i, .slice (some ⟨vb, 0, none⟩) 1 1] w (InsertedAt w base 53 3 (.slice (some ⟨g, 0, none⟩) n cap) (n + 1) (xs.take (i * 3) ++ (ys ++ xs.drop (i * 3)))) := by
  have hgl : g < w.heap.size := (Array.getElem?_eq_some_iff.1 hg).1
  have hvl : vb < w.heap.size := (Array.getElem?_eq_some_iff.1 hv).1
  have hov : ∀ lb cb, (callFunc 48 #[.slice (some ⟨vb, 0, none⟩) 1 1, .slice (some ⟨g, (i + 1) * 3, none⟩) lb cb]).run Try.prog w = .ok (.value (.bool false)) w := fun lb cb => by
    rw [run_callFunc_extern Try.func48 (by kernel_rfl) (by kernel_rfl) (by kernel_rfl) (e := Extern.SlicesOverlaps.overlaps #[35, 35] #[4]) (by kernel_rfl),
      Lib.run_overlaps_apart w 35 4 53 Try.underlying35 3 (fun w => by kernel_rfl) ⟨vb, 0, none⟩ ⟨g, (i + 1) * 3, none⟩ 1 1 lb cb hvb 53 53 ys.length cur.size (by simp [World.shape?, hv]) (by simp [World.shape?, hg]) (by omega) (by simp [World.frozen?, hv]) (by simp [World.frozen?, hv])]
    rfl
  have hdl : (xs.drop (i * 3)).length = (n - i) * 3 := by rw [List.length_drop, hxs]; omega
  have hcl : n * 3 ≤ cur.toList.length := by rw [Array.length_toList, hsz]; omega
  have hxc : ∀ j v, xs[j]? = some v → cur[j]? = some v := fun j v hj => by
    rw [← hcur, List.getElem?_take] at hj
    split at hj
    · rw [← Array.getElem?_toList]; exact hj
    · cases hj
  obtain ⟨A1, hA1⟩ : ∃ A1, A1 = (splice cur.toList ((i + 1) * 3) (xs.drop (i * 3))).toArray := ⟨_, rfl⟩
  have hA1s : A1.size = cap * 3 := by
    rw [hA1, List.size_toArray, length_splice _ _ _ (by rw [hdl, Array.length_toList, hsz]; omega), Array.length_toList, hsz]
  have hcp1 : ∀ ty dc sc, (Builtin.copy_ #[35, 35] ty #[.slice (some ⟨g, (i + 1) * 3, none⟩) (n - i) dc, .slice (some ⟨g, i * 3, none⟩) (n + 1 - i) sc]).run Try.prog w.drew = .ok (goInt ((n - i : Nat) : Int)) (w.drew.setRow g A1) := fun ty dc sc => by
    rw [hA1]
    exact run_copy_rowk w.drew 35 35 ty 53 g ((i + 1) * 3) (n - i) dc ⟨g, i * 3, none⟩ (n + 1 - i) sc cur 53 (xs.drop (i * 3)) 3 (n - i) Try.underlying35 ins_size hg (by simp only [Nat.min_def]; split <;> omega) hdl
      (fun j v hj => by
        rw [List.getElem?_drop] at hj
        rw [Addr.add_lit]
        show w.cell? _ = _
        rw [cell_of_row w g _ cur 53 (0, 0) hg]
        exact hxc _ _ hj) (by rw [hdl, hsz]; omega) (fun v hv => h1 v (List.mem_of_mem_drop hv))
  obtain ⟨W1, hW1⟩ : ∃ W1, W1 = w.drew.setRow g A1 := ⟨_, rfl⟩
  have hg1 : W1.heap[g]? = some (.cells A1 53 (0, 0)) := by rw [hW1]; exact setRow_heap w.drew g cur A1 53 (0, 0) hg
  obtain ⟨A2, hA2⟩ : ∃ A2, A2 = (splice A1.toList (i * 3) ys).toArray := ⟨_, rfl⟩
  have hcp2 : ∀ ty dc, (Builtin.copy_ #[35, 35] ty #[.slice (some ⟨g, i * 3, none⟩) (n + 1 - i) dc, .slice (some ⟨vb, 0, none⟩) 1 1]).run Try.prog W1 = .ok (goInt ((1 : Nat) : Int)) (W1.setRow g A2) := fun ty dc => by
    rw [hA2]
    exact run_copy_rowk W1 35 35 ty 53 g (i * 3) (n + 1 - i) dc ⟨vb, 0, none⟩ 1 1 A1 53 ys 3 1 Try.underlying35 ins_size hg1 (by simp only [Nat.min_def]; split <;> omega) hys
      (fun j v hj => by
        rw [hW1, Addr.add_lit, setRow_cell_other _ _ _ _ hvb]
        show w.cell? _ = _
        rw [cell_of_row w vb _ ys.toArray 53 (0, 0) hv]
        simpa using hj) (by rw [hys, hA1s]; omega) h1y
  have hfin : (A2.toList.take ((n + 1) * 3)) = xs.take (i * 3) ++ (ys ++ xs.drop (i * 3)) := by
    have h := insert_splice cur.toList xs ys (i * 3) 3 (by rw [hxs]; exact hcur) (by rw [hxs]; omega) hys (by rw [hxs, Array.length_toList, hsz]; omega)
    rw [hA2, hA1]
    simp only []
    rw [← h, hxs]
    congr 1
    · omega
    · congr 1
      congr 1
      omega
  have hA2s : A2.size = cap * 3 := by
    rw [hA2, List.size_toArray, length_splice _ _ _ (by rw [hys, Array.length_toList, hA1s]; omega), Array.length_toList, hA1s]
  have hdone : InsertedAt w base 53 3 (.slice (some ⟨g, 0, none⟩) n cap) (n + 1) (xs.take (i * 3) ++ (ys ++ xs.drop (i * 3))) (.returned (.slice (some ⟨g, 0, none⟩) (n + 1) cap)) (W1.setRow g A2) := by
    refine ⟨_, rfl, ⟨?_, .inr ⟨g, cap, A2, rfl, hbase, setRow_heap W1 g A1 A2 53 (0, 0) hg1, hroom, by unfold maxLen; omega, hA2s, hfin⟩⟩, ?_⟩
    · rw [← hfin, List.length_take, Array.length_toList, hA2s]; omega
    · show w.grownBy _ (some g)
      rw [hW1]
      exact grown_setRow g (grown_setRow (w := w) (w1 := w.drew) g ⟨rfl, rfl, rfl, Nat.le_refl _, fun k hk _ => rfl⟩ A1) A2
  have HD := Aside0.mk hdone
  have HW := Aside0.mk hW1
  rw [← hW1] at hcp1
  have hb2 : ¬ (cap = i + 1) := by omega
  have hb4 : ¬ (cap = i) := by omega
  have hw1 : IntKind.i64.wrap ((i : Int) + 1) = (i : Int) + 1 := by rw [IntKind.wrap_i64]; omega
  have hb1 : (0 : Int) ≤ (i : Int) + 1 := by omega
  have htn : ((i : Int) + 1).toNat = i + 1 := by omega
  have hb3 : (i : Int) ≤ (n : Int) + 1 := by omega
  have hz2 : ¬ ((i : Int) = (n : Int)) := by omega
  have hin : i ≤ n := by omega
  have hin2 : i ≤ n + 1 := by omega
  clear hdone hW1 hfin hA2s hg1 hA1s hA1 hA2 hxc hcl hdl hcur hsz hg hv h1 h1y hxs hys hgl hvl
  go_enter Try.func41, Try.ntmps41
  go_wp2_with (simp only [hov])
  go_region_law (refine step_copy_runI rfl _ _ 35 35 rfl (.slice (some ⟨g, (i + 1) * 3, none⟩) (n - i) (cap - (i + 1))) (.slice (some ⟨g, i * 3, none⟩) (n + 1 - i) (cap - i)) (by simp [Act.eval, Act.put]) (by simp [Act.eval, Act.put]) (hcp1 _ _ _) ?_)
  go_wp2_with (refine wpList_copy_runI _ rfl _ _ 35 35 rfl _ _ rfl rfl (hcp2 _ _) ?_)
  go_ret
  exact HD.out
set_option maxHeartbeats 4000000 in
set_option maxRecDepth 100000 in
theorem insert_end (base n vb : Nat) (v : Value) (xs ys : List Value) (w : World) (hown : w.ownsRow base 53 3 v n xs) (hbase : base ≤ w.heap.size) (hbig : (n + 1) * 24 ≤ 140737488355328) (hys : ys.length = 3)
    (hv : w.heap[vb]? = some (.cells ys.toArray 53 (0, 0))) (h1y : ∀ u ∈ ys, u.oneCell' = true) :
    Calls Try.prog 41 #[v, .int .i64 n, .slice (some ⟨vb, 0, none⟩) 1 1] w (InsertedAt w base 53 3 v (n + 1) (xs ++ ys)) := by
  obtain ⟨i0, hi0, hz0, hz1, hz2⟩ := info_parts ins_info
  have hvc : ∀ j u, ys[j]? = some u → w.cell? ((⟨vb, 0, none⟩ : Addr).add j) = some u := fun j u hj => by
    rw [Addr.add_lit, cell_of_row w vb _ ys.toArray 53 (0, 0) hv]
    simpa using hj
  obtain ⟨cap, A, rfl, hcap, hcap2⟩ : ∃ (cap : Nat) (A : Option Addr), v = .slice A n cap ∧ n ≤ cap ∧ cap ≤ 9223372036854775807 := by
    rcases hown.2 with ⟨rfl, rfl⟩ | ⟨g, cap, cur, rfl, _, _, h1, h2, _⟩
    · exact ⟨0, none, rfl, by omega, by omega⟩
    · exact ⟨cap, _, rfl, h1, by unfold maxLen at h2; omega⟩
  have HO := Aside0.mk hown
  have HV := Aside0.mk hvc
  clear hown hvc hv
  rcases Nat.eq_or_lt_of_le hcap with e | e
  · subst e
    go_enter Try.func41, Try.ntmps41
    go_wp2_with (at_builtin; refine wpList_append_own _ rfl _ _ 35 rfl base 53 i0 _ 3 24 Try.underlying35 hi0 hz0 hz1 hz2 rfl (by decide) _ n xs rfl HO.out ⟨vb, 0, none⟩ 1 1 ys rfl (by omega) HV.out h1y (by unfold maxLen; omega) hbig hbase ?_; intro v' w1 hown' hgrow _; have HD := Aside0.mk (⟨v', rfl, hown', hgrow⟩ : InsertedAt w base 53 3 (.slice A n n) (n + 1) (xs ++ ys) (.returned v') w1); clear hown' hgrow)
    all_goals (go_ret; exact HD.out)
  · have hne : ¬ (cap = n) := by omega
    go_enter Try.func41, Try.ntmps41
    go_wp2_with (at_builtin; refine wpList_append_own _ rfl _ _ 35 rfl base 53 i0 _ 3 24 Try.underlying35 hi0 hz0 hz1 hz2 rfl (by decide) _ n xs rfl HO.out ⟨vb, 0, none⟩ 1 1 ys rfl (by omega) HV.out h1y (by unfold maxLen; omega) hbig hbase ?_; intro v' w1 hown' hgrow _; have HD := Aside0.mk (⟨v', rfl, hown', hgrow⟩ : InsertedAt w base 53 3 (.slice A n cap) (n + 1) (xs ++ ys) (.returned v') w1); clear hown' hgrow)
    all_goals (go_ret; exact HD.out)
set_option maxHeartbeats 8000000 in
set_option maxRecDepth 100000 in
theorem insert_grow (base g n cap i vb : Nat) (cur : Array Value) (xs ys : List Value) (w : World) (hi : i < n) (hnc : n ≤ cap) (hroom : cap < n + 1) (hbase : base ≤ w.heap.size) (hvb : vb ≠ g) (hbig : (n + 1) * 24 ≤ 140737488355328)
    (hxs : xs.length = n * 3) (hys : ys.length = 3) (hg : w.heap[g]? = some (.cells cur 53 (0, 0))) (hcur : cur.toList.take (n * 3) = xs) (hv : w.heap[vb]? = some (.cells ys.toArray 53 (0, 0)))
    (h1 : ∀ u ∈ xs, u.oneCell' = true) (h1y : ∀ u ∈ ys, u.oneCell' = true) :
    Calls Try.prog 41 #[.slice (some ⟨g, 0, none⟩) n cap, .int .i64 i, .slice (some ⟨vb, 0, none⟩) 1 1] w (InsertedAt w base 53 3 (.slice (some ⟨g, 0, none⟩) n cap) (n + 1) (xs.take (i * 3) ++ (ys ++ xs.drop (i * 3)))) := by
  have hgl : g < w.heap.size := (Array.getElem?_eq_some_iff.1 hg).1
  have hvl : vb < w.heap.size := (Array.getElem?_eq_some_iff.1 hv).1
  obtain ⟨i0, hi0, hz0, hzs, hzb⟩ := info_parts ins_info
  have hdl : (xs.drop (i * 3)).length = (n - i) * 3 := by rw [List.length_drop, hxs]; omega
  have htl : (xs.take (i * 3)).length = i * 3 := by rw [List.length_take, hxs]; omega
  have hxc : ∀ j v, xs[j]? = some v → w.cell? ⟨g, j, none⟩ = some v := fun j v hj => by
    rw [cell_of_row w g _ cur 53 (0, 0) hg]
    rw [← hcur, List.getElem?_take] at hj
    split at hj
    · rw [← Array.getElem?_toList]; exact hj
    · cases hj
  have hvc : ∀ j u, ys[j]? = some u → w.cell? ⟨vb, j, none⟩ = some u := fun j u hj => by
    rw [cell_of_row w vb _ ys.toArray 53 (0, 0) hv]
    simpa using hj
  have hold : (Builtin.firstCells i0.size i (.slice (some ⟨g, 0, none⟩) i cap)).run Try.prog w.drew = .ok (xs.take (i * 3)).toArray w.drew := by
    rw [hzs]
    exact run_firstCells_some w.drew 3 i ⟨g, 0, none⟩ i cap (xs.take (i * 3)) htl (fun j v hj => by
      rw [Addr.add_lit]
      show w.cell? _ = _
      rw [List.getElem?_take] at hj
      split at hj
      · simpa using hxc j v hj
      · cases hj)
  have hik : i + (n + 1 - i) = n + 1 := by omega
  have hkk : (n : Int) + 1 - (i : Int) = ((n + 1 - i : Nat) : Int) := by omega
  have hrz : ∀ ty, (Builtin.append_ #[35, 3] ty #[.slice (some ⟨g, 0, none⟩) i cap, .int .i64 ((n : Int) + 1 - (i : Int))]).run Try.prog w =
      .ok (.slice (some ⟨w.heap.size, 0, none⟩) (n + 1) (grownCap w (n + 1) cap 53)) (w.drew.alloc (.cells ((xs.take (i * 3)).toArray ++ Builtin.zeroCells (Value.agg #[.int .i64 0, .int .i64 0, .int .i64 0]).cells (n + 1 - i) ++ Builtin.zeroCells (Value.agg #[.int .i64 0, .int .i64 0, .int .i64 0]).cells (grownCap w (n + 1) cap 53 - (n + 1))) 53)) := fun ty => by
    have h := Lib.run_append_grow_zeros w 35 3 ty 53 i0 _ .i64 .i64 Try.underlying35 Try.underlying3 hi0 hz0 (some ⟨g, 0, none⟩) i cap (xs.take (i * 3)) hold (n + 1 - i) (by omega) (by omega) (by omega) (by omega) (by rw [hzb]; omega) (by rw [hzb, hik]; exact growslice_fits hroom hbig)
    rw [hik] at h
    rw [hkk]
    exact h
  obtain ⟨G, hG⟩ : ∃ G, G = grownCap w (n + 1) cap 53 := ⟨_, rfl⟩
  obtain ⟨ROW, hROW⟩ : ∃ ROW : Array Value, ROW = (xs.take (i * 3)).toArray ++ Builtin.zeroCells (Value.agg #[.int .i64 0, .int .i64 0, .int .i64 0]).cells (n + 1 - i) ++ Builtin.zeroCells (Value.agg #[.int .i64 0, .int .i64 0, .int .i64 0]).cells (G - (n + 1)) := ⟨_, rfl⟩
  rw [← hG] at hrz
  rw [← hROW] at hrz
  have hGn : n + 1 ≤ G := by rw [hG]; exact grownCap_ge w _ _ _
  have hG63 : G ≤ 9223372036854775807 := by
    have := grownCap_le_maxLen w (n + 1) cap 53 (by unfold maxLen; omega)
    rw [← hG] at this
    unfold maxLen at this
    omega
  have hRl : ROW.size = G * 3 := by
    rw [hROW]
    simp only [Array.size_append, List.size_toArray, htl, size_zeroCells, Value.cells, List.size_toArray, List.length_cons, List.length_nil]
    omega
  obtain ⟨W1, hW1⟩ : ∃ W1, W1 = w.drew.alloc (.cells ROW 53) := ⟨_, rfl⟩
  rw [← hW1] at hrz
  have hN1 : W1.heap[w.heap.size]? = some (.cells ROW 53 (0, 0)) := by rw [hW1]; exact heap_alloc_new w.drew _
  have hO1 : ∀ k, k < w.heap.size → W1.heap[k]? = w.heap[k]? := fun k hk => by rw [hW1]; exact heap_alloc_old w.drew _ hk
  obtain ⟨A1, hA1⟩ : ∃ A1, A1 = (splice ROW.toList (i * 3) ys).toArray := ⟨_, rfl⟩
  have hA1s : A1.size = G * 3 := by
    rw [hA1, List.size_toArray, length_splice _ _ _ (by rw [hys, Array.length_toList, hRl]; omega), Array.length_toList, hRl]
  have hcpA : ∀ ty dc, (Builtin.copy_ #[35, 35] ty #[.slice (some ⟨w.heap.size, i * 3, none⟩) (n + 1 - i) dc, .slice (some ⟨vb, 0, none⟩) 1 1]).run Try.prog W1 = .ok (goInt ((1 : Nat) : Int)) (W1.setRow w.heap.size A1) := fun ty dc => by
    rw [hA1]
    exact run_copy_rowk W1 35 35 ty 53 w.heap.size (i * 3) (n + 1 - i) dc ⟨vb, 0, none⟩ 1 1 ROW 53 ys 3 1 Try.underlying35 ins_size hN1 (by simp only [Nat.min_def]; split <;> omega) hys
      (fun j v hj => by
        rw [Addr.add_lit, World.cell?_of_block (hO1 vb hvl)]
        simpa using hvc j v hj) (by rw [hys, hRl]; omega) h1y
  obtain ⟨W2, hW2⟩ : ∃ W2, W2 = W1.setRow w.heap.size A1 := ⟨_, rfl⟩
  have hN2 : W2.heap[w.heap.size]? = some (.cells A1 53 (0, 0)) := by rw [hW2]; exact setRow_heap W1 _ ROW A1 53 (0, 0) hN1
  have hO2 : ∀ k, k < w.heap.size → W2.heap[k]? = w.heap[k]? := fun k hk => by rw [hW2, setRow_other _ _ _ _ (by omega)]; exact hO1 k hk
  obtain ⟨A2, hA2⟩ : ∃ A2, A2 = (splice A1.toList ((i + 1) * 3) (xs.drop (i * 3))).toArray := ⟨_, rfl⟩
  have hA2s : A2.size = G * 3 := by
    rw [hA2, List.size_toArray, length_splice _ _ _ (by rw [hdl, Array.length_toList, hA1s]; omega), Array.length_toList, hA1s]
  have hcpB : ∀ ty dc sc, (Builtin.copy_ #[35, 35] ty #[.slice (some ⟨w.heap.size, (i + 1) * 3, none⟩) (n - i) dc, .slice (some ⟨g, i * 3, none⟩) (n - i) sc]).run Try.prog W2.drew = .ok (goInt ((n - i : Nat) : Int)) (W2.drew.setRow w.heap.size A2) := fun ty dc sc => by
    rw [hA2]
    exact run_copy_rowk W2.drew 35 35 ty 53 w.heap.size ((i + 1) * 3) (n - i) dc ⟨g, i * 3, none⟩ (n - i) sc A1 53 (xs.drop (i * 3)) 3 (n - i) Try.underlying35 ins_size hN2 (by simp only [Nat.min_def]; split <;> omega) hdl
      (fun j v hj => by
        rw [List.getElem?_drop] at hj
        rw [Addr.add_lit]
        show W2.cell? _ = _
        rw [World.cell?_of_block (hO2 g hgl)]
        exact hxc _ _ hj) (by rw [hdl, hA1s]; omega) (fun v hv => h1 v (List.mem_of_mem_drop hv))
  have hfin : A2.toList.take ((n + 1) * 3) = xs.take (i * 3) ++ (ys ++ xs.drop (i * 3)) := by
    have hr : ROW.toList.take (i * 3) = xs.take (i * 3) := by
      rw [hROW]
      simp only [Array.toList_append, List.append_assoc]
      rw [List.take_append_of_le_length (by omega), List.take_of_length_le (by omega)]
    have e1 : A1.toList.take ((i + 1) * 3) = xs.take (i * 3) ++ ys := by
      rw [hA1]
      simp only [splice]
      rw [hr, ← List.append_assoc]
      exact List.take_left' (by rw [List.length_append, htl, hys]; omega)
    rw [hA2]
    simp only [splice]
    rw [e1, ← List.append_assoc, List.append_assoc]
    rw [← List.append_assoc, List.take_append_of_le_length (by simp only [List.length_append, htl, hys, hdl]; omega)]
    rw [List.take_of_length_le (by simp only [List.length_append, htl, hys, hdl]; omega), List.append_assoc]
  have hdone : InsertedAt w base 53 3 (.slice (some ⟨g, 0, none⟩) n cap) (n + 1) (xs.take (i * 3) ++ (ys ++ xs.drop (i * 3))) (.returned (.slice (some ⟨w.heap.size, 0, none⟩) (n + 1) G)) (W2.drew.setRow w.heap.size A2) := by
    refine ⟨_, rfl, ⟨?_, .inr ⟨w.heap.size, G, A2, rfl, hbase, setRow_heap W2.drew _ A1 A2 53 (0, 0) hN2, hGn, by unfold maxLen; omega, hA2s, hfin⟩⟩, ?_⟩
    · rw [← hfin, List.length_take, Array.length_toList, hA2s]; omega
    · refine ⟨?_, ?_, ?_, ?_, fun k hk _ => ?_⟩
      · rw [hW2, hW1]; rfl
      · rw [hW2, hW1]; rfl
      · rw [hW2, hW1]; rfl
      · rw [setRow_size, hW2]
        show _ ≤ (W1.setRow _ _).heap.size
        rw [setRow_size, hW1]
        simp
      · rw [setRow_other _ _ _ _ (by omega)]
        exact hO2 k hk
  have HD := Aside0.mk hdone
  have HW2 := Aside0.mk hW2
  have HW1 := Aside0.mk hW1
  rw [← hW2] at hcpA
  have hGi : ¬ (G = i) := by omega
  have hGim : ¬ (G = i + 1) := by omega
  have hci : ¬ (cap = i) := by omega
  have hz2 : ¬ ((i : Int) = (n : Int)) := by omega
  have hz3 : (cap : Int) < (n : Int) + 1 := by omega
  have hw1 : IntKind.i64.wrap ((i : Int) + 1) = (i : Int) + 1 := by rw [IntKind.wrap_i64]; omega
  have hb1 : (0 : Int) ≤ (i : Int) + 1 := by omega
  have hin : i ≤ n := by omega
  have hin2 : i ≤ n + 1 := by omega
  have htn : ((i : Int) + 1).toNat = i + 1 := by omega
  have hb3 : (i : Int) ≤ (n : Int) := by omega
  clear hdone hW1 hW2 hfin hA2s hA2 hN2 hO2 hA1s hA1 hN1 hO1 hRl hROW hG hkk hik hold hvc hxc htl hdl hcur hg hv h1 h1y hxs hys hgl hvl hi0 hz0 hzs hzb
  go_enter Try.func41, Try.ntmps41
  go_wp2_with (first
    | (at_builtin; refine Lib.wpList_append_run _ rfl _ _ _ _ rfl _ _ rfl rfl _ _ (hrz _) ?_)
    | (refine wpList_copy_runI _ rfl _ _ 35 35 rfl _ _ rfl rfl (hcpA _ _) ?_))
  go_region_law (refine step_copy_runI rfl _ _ 35 35 rfl (.slice (some ⟨w.heap.size, (i + 1) * 3, none⟩) (n - i) (G - (i + 1))) (.slice (some ⟨g, i * 3, none⟩) (n - i) (cap - i)) (by simp [Act.eval, Act.put]) (by simp [Act.eval, Act.put]) (hcpB _ _ _) ?_)
  go_wp2
  go_ret
  exact HD.out
/-- The row as it was made, as Go's insertion leaves it. -/
theorem insert_any (base n i vb : Nat) (v : Value) (xs ys : List Value) (w : World) (hown : w.ownsRow base 53 3 v n xs) (hi : i ≤ n) (hbase : base ≤ w.heap.size) (hbig : (n + 1) * 24 ≤ 140737488355328) (hys : ys.length = 3)
    (hv : w.heap[vb]? = some (.cells ys.toArray 53 (0, 0))) (hne : v.ownBlock ≠ some vb) (h1 : ∀ u ∈ xs, u.oneCell' = true) (h1y : ∀ u ∈ ys, u.oneCell' = true) :
    Calls Try.prog 41 #[v, .int .i64 i, .slice (some ⟨vb, 0, none⟩) 1 1] w (InsertedAt w base 53 3 v (n + 1) (xs.take (i * 3) ++ (ys ++ xs.drop (i * 3)))) := by
  rcases Nat.eq_or_lt_of_le hi with e | hlt
  · subst e
    have := insert_end base i vb v xs ys w hown hbase hbig hys hv h1y
    rw [List.take_of_length_le (by rw [hown.1]; omega), List.drop_of_length_le (by rw [hown.1]; omega), List.append_nil]
    exact this
  · obtain ⟨hl, h⟩ := hown
    rcases h with ⟨_, h0⟩ | ⟨g, cap, cur, rfl, hb, hg, hnc, hcm, hsz, hcur⟩
    · omega
    · have hvb : vb ≠ g := fun e => hne (by rw [e]; rfl)
      unfold maxLen at hcm
      rcases Nat.lt_or_ge cap (n + 1) with hc | hc
      · exact insert_grow base g n cap i vb cur xs ys w hlt hnc hc hbase hvb hbig hl hys hg hcur hv h1 h1y
      · exact insert_room base g n cap i vb cur xs ys w hlt hc hcm hb hvb hl hys hg hsz hcur hv h1 h1y
/-- .. and as a list. -/
theorem insert_list (w w0 : World) (base n : Nat) (i : Nat) (vb : Nat) (v : Value) (l : List S53) (y : S53) (ok : Nat → Prop) (HO : Kd.R k53 53 w base ok v l) (hi : i ≤ l.length) (hbase : base ≤ w.heap.size) (hbig : (l.length + 1) * 24 ≤ 140737488355328)
    (hv : w.heap[vb]? = some (.cells #[.int .i64 y.f0, .int .i64 y.f1, .int .i64 y.f2] 53 (0, 0))) (hne : v.ownBlock ≠ some vb) :
    Calls Try.prog 41 #[v, .int .i64 i, .slice (some ⟨vb, 0, none⟩) 1 1] w fun e w' => ∃ v', e = .returned v' ∧ Kd.R k53 53 w' base (fun _ => True) v' (l.take i ++ y :: l.drop i) ∧ w.grownBy w' v.ownBlock := by
  obtain ⟨h0, xs, hown, hreps⟩ := HO
  have hone : ∀ u ∈ xs, u.oneCell' = true := Kd.reps_one hreps (by decide) (fun p c h => k53.K_one (k53.K_of_M h))
  refine (insert_any base l.length i vb v xs [.int .i64 y.f0, .int .i64 y.f1, .int .i64 y.f2] w hown hi hbase hbig rfl hv hne hone (by simp [Value.oneCell'])).mono ?_
  rintro e w' ⟨v', rfl, ho, hg⟩
  have hl : (l.take i ++ y :: l.drop i).length = l.length + 1 := by
    rw [List.length_append, List.length_cons, List.length_take, List.length_drop]; omega
  have hflat : ∀ (p : S53) (c : List Value), k53.M w base (fun k => ok k ∧ some k ≠ v.ownBlock) p c → k53.M w' base (fun k => (fun _ => True) k ∧ some k ≠ v'.ownBlock) p c := fun p c h => by
    rw [k53_openM h]; exact k53_mkM _ _ _ _
  have hr1 := hreps.imp_ hflat
  refine ⟨v', rfl, ⟨fun _ _ => trivial, _, by rw [hl]; exact ho, ?_⟩, hg⟩
  exact Kd.reps_append (Kd.reps_take hr1 hi) (Reps.front (k53_mkM _ _ _ _) rfl (Kd.reps_drop hr1) rfl)

end Go.Proofs.Yteieknlkcodkcaa.Q
