-- Written by wip/tools/drive.py out of the translation (the kit's print.py, with hand-proved functions beside). Not trusted: Lean checks it.
import Derived.Test.YteieknlkcodkcaaQx0
import Derived.Lib.AppendZerosOnto
import Derived.Lib.Overlaps
import Derived.Laws.Externs
import Derived.Shelf.Spec.SlicesInsert
import Derived.Laws.CopyOwn
namespace Go.Proofs.Yteieknlkcodkcaa.Q
open Go.RowKit Go.Proofs.YteieknlkcodkcaaW.PrintWords Go.Proofs.YteieknlkcodkcaaW.PrintLast Go.Proofs.YteieknlkcodkcaaW.PrintMore
attribute [local go_sem] max2_int min2_int max_two min_two max_three min_three max_four min_four   -- for this text's walks alone
set_option linter.unusedVariables false
set_option linter.unusedSimpArgs false

-- @import Derived.Lib.AppendZerosOnto
-- @import Derived.Lib.Overlaps
-- @import Derived.Laws.Externs
-- @import Derived.Shelf.Spec.SlicesInsert
-- @import Derived.Laws.CopyOwn
/-- copy between rows whose elements have k cells. -/
theorem run_copy_rowk {P : Program} (w : World) (dT sT ty elem : TypeId) (g o dLen dCap : Nat) (a : Addr) (sLen sCap : Nat) (cur : Array Value) (t : TypeId) (cs : List Value) (k n : Nat)
    (hu : P.underlying dT = some (.slice elem)) (hs : (P.info? elem).map (·.size) = some k) (hg : w.heap[g]? = some (.cells cur t (0, 0))) (hn : n = Nat.min sLen dLen) (hl : cs.length = n * k)
    (hsrc : ∀ j v, cs[j]? = some v → w.cell? (a.add j) = some v) (hfit : o + cs.length ≤ cur.size) (h1 : ∀ v ∈ cs, v.oneCell' = true) :
    (Builtin.copy_ #[dT, sT] ty #[.slice (some ⟨g, o, none⟩) dLen dCap, .slice (some a) sLen sCap]).run P w = .ok (goInt n) (w.setRow g (splice cur.toList o cs).toArray) := by
  have hL := run_loadCells_list (P := P) w a cs hsrc
  have hst := run_storeCells_at P g o t cs 0 cur w hg (by simpa using hfit) h1
  cases hq : P.info? elem with
  | none => simp [hq] at hs
  | some i =>
    have hi : i.size = k := by simpa [hq] using hs
    simp [Builtin.copy_, run_underlying hu, Builtin.lenOf, Builtin.firstCells, sizeOf, typeInfo, hq, hi, ← hn, ← hl, hL, hst, splice]
/-- What stands in a row behind the two copies of an insertion in place. -/
theorem insert_splice {α : Type} (cur xs ys : List α) (a k : Nat) (h0 : cur.take xs.length = xs) (ha : a ≤ xs.length) (hk : ys.length = k) (hc : xs.length + k ≤ cur.length) :
    (splice (splice cur (a + k) (xs.drop a)) a ys).take (xs.length + k) = xs.take a ++ (ys ++ xs.drop a) := by
  have e1 : cur.take a = xs.take a := by
    conv => rhs; rw [← h0]
    rw [List.take_take, Nat.min_eq_left ha]
  have e2 : (splice cur (a + k) (xs.drop a)).take a = xs.take a := by
    unfold splice
    rw [List.take_append_of_le_length (by rw [List.length_take]; omega), List.take_take, Nat.min_eq_left (by omega), e1]
  have e3 : (splice cur (a + k) (xs.drop a)).drop (a + k) = xs.drop a ++ cur.drop (a + k + (xs.drop a).length) := by
    unfold splice
    have hl : (cur.take (a + k)).length = a + k := by rw [List.length_take]; omega
    exact List.drop_left' hl
  unfold splice at e2 e3 ⊢
  rw [e2, hk, e3, ← List.append_assoc, ← List.append_assoc]
  rw [List.take_append_of_le_length (by simp only [List.length_append, List.length_take, List.length_drop, hk]; omega)]
  rw [List.take_of_length_le (by simp only [List.length_append, List.length_take, List.length_drop, hk]; omega), List.append_assoc]
theorem setRow_cell_other (w : World) (g : Nat) (cs : Array Value) (p : Addr) (h : p.block ≠ g) : (w.setRow g cs).cell? p = w.cell? p := World.cell?_of_block (setRow_other w g p.block cs h)
theorem setRow_drew (w : World) (g : Nat) (cs : Array Value) : (w.setRow g cs).drew = w.drew.setRow g cs := rfl
theorem grown_setRow {w w1 : World} (g : Nat) (hg : w.grownBy w1 (some g)) (cs : Array Value) : w.grownBy (w1.setRow g cs) (some g) :=
  ⟨hg.os, hg.tape, hg.output, by simpa using hg.size, fun k hk hne => by
    have : k ≠ g := fun e => hne (by rw [e])
    rw [setRow_other _ _ _ _ this]
    exact hg.block k hk hne⟩

end Go.Proofs.Yteieknlkcodkcaa.Q
