/- Texts of this claim, part 0: the walks of the functions that the law calls, and the plain mathematics of what they answer. -/
import Derived.Test.YteieknlkcodkcaaProg
import Derived.Below
import Derived.Deep.Draws
import Derived.Deep.AppendLies
import Derived.Maps.AppendAt
import Derived.OwnWalk
import Derived.Laws.BytesArg
import Derived.Laws.MakeOwn
import Derived.Laws.OwnMore
import Derived.Deep.OwnRows
import Derived.Tactics
import Derived.Lib.ConvBytes
import Derived.Laws.Slices
import Derived.WalkKit
import Derived.KernelRfl
import Derived.RowKit3
import Derived.Deep.LoopGhost
import Derived.Deep.QuietTactic
import Derived.BigQuiet
import Derived.WideLaws
import Derived.Deep.DeepCutAuto
import Derived.Deep.CutBlock
import Derived.Deep.RegionHeld3
import Derived.Laws.Rows
import Derived.Lib.AppendStr
import Derived.ArgAppend
import Derived.Laws.IdiomCopy
import Derived.OrdersHeld
import Derived.Laws.BitsLemmas
import Derived.RowKit
import Derived.Test.YteieknlkcodkcaaWWords
import Derived.Test.YteieknlkcodkcaaWLast
import Derived.Test.YteieknlkcodkcaaWTab
import Derived.Test.YteieknlkcodkcaaWFour
import Derived.Test.YteieknlkcodkcaaWQPut
import Derived.Test.YteieknlkcodkcaaWApart
import Derived.Test.YteieknlkcodkcaaWArr
import Derived.Test.YteieknlkcodkcaaWZeros
import Derived.Test.YteieknlkcodkcaaWFoot
import Derived.Test.YteieknlkcodkcaaWKept
import Derived.Test.YteieknlkcodkcaaWShare
import Derived.Test.YteieknlkcodkcaaWN
import Derived.Test.YteieknlkcodkcaaWFootNe
import Derived.Test.YteieknlkcodkcaaWAt
import Derived.Test.YteieknlkcodkcaaWEqStruct
import Derived.Test.YteieknlkcodkcaaWRepsOne
import Derived.Test.YteieknlkcodkcaaWInv
import Derived.Test.YteieknlkcodkcaaWInvWords
import Derived.Test.YteieknlkcodkcaaWGuard
import Derived.Test.YteieknlkcodkcaaWNEv
import Derived.Test.YteieknlkcodkcaaWMore
import Derived.Deep.Slices
import Derived.Deep.Fields
import Derived.ChangeSame
import Derived.ChangeShapes
import Derived.WideShapes
import Derived.Lib.SliceRun
import Derived.Lib.AppendZerosOnto
import Derived.Lib.Overlaps
import Derived.Laws.Externs
import Derived.Shelf.Spec.SlicesInsert
import Derived.Laws.CopyOwn
import Derived.Deep.RegionLaw
import Derived.StillTailTactics
import Derived.OrdersIn
import Derived.RangeFuncLeaves
import Derived.RangeFuncNested
import Derived.RangeFuncBound
import Derived.RangeFuncCalls
import Derived.RangeFuncFrom
import Derived.Shelf.Abstract
import Derived.Shelf.RegionOpen
import Derived.OwnWalkIn
import Derived.TacticsInMore
import Derived.LoopNIn
import Derived.LoopIn
import Derived.Sort.QuietTacIn
import Derived.Sort.QuietIn
import Derived.ControlIn
namespace Go.Proofs.Yteieknlkcodkcaa.Q
open Go.RowKit Go.Proofs.YteieknlkcodkcaaW.PrintWords Go.Proofs.YteieknlkcodkcaaW.PrintLast Go.Proofs.YteieknlkcodkcaaW.PrintMore
attribute [local go_sem] max2_int min2_int max_two min_two max_three min_three max_four min_four   -- for this text's walks alone
set_option linter.unusedVariables false
set_option linter.unusedSimpArgs false



def errW : Option Int → Value
  | none => .nilIface
  | some c => .iface 0 (.int .i64 c)
theorem errW_none : errW none = .nilIface := rfl
theorem errW_some (c : Int) : errW (some c) = .iface 0 (.int .i64 c) := rfl

theorem info3 : (Try.prog.info? 3).map (fun i => (i.zero, i.size, i.bytes)) = some (some (.int .i64 0), 1, 8) := by kernel_rfl
theorem info32 : (Try.prog.info? 32).map (fun i => (i.zero, i.size, i.bytes)) = some (some (.agg #[(.int .i64 0), (.int .i64 0)]), 2, 16) := by kernel_rfl
theorem info53 : (Try.prog.info? 53).map (fun i => (i.zero, i.size, i.bytes)) = some (some (.agg #[(.int .i64 0), (.int .i64 0), (.int .i64 0)]), 3, 24) := by kernel_rfl
-- the values' own types
/-! #### struct type 32 -/
structure S32 where
  f0 : Int
  f1 : Int
def z32 : S32 := ⟨(0 : Int), (0 : Int)⟩
def k32 : Kd S32 := Kd.iso (Kd.pair (Kd.int .i64) (Kd.int .i64)) (fun x : S32 => (x.f0, x.f1))
theorem k32_open {w : World} {x : S32} {cs : List Value} (h : k32.K w x cs) : cs = [.int .i64 x.f0, .int .i64 x.f1] := by
  obtain ⟨_, _, rfl, rfl, rfl⟩ := h
  exact rfl
theorem k32_openM {w : World} {base : Nat} {ok : Nat → Prop} {x : S32} {cs : List Value} (h : k32.M w base ok x cs) : cs = [.int .i64 x.f0, .int .i64 x.f1] := by
  obtain ⟨_, _, rfl, rfl, rfl⟩ := h
  exact rfl
theorem k32_mk (w : World) (x : S32)  : k32.K w x [.int .i64 x.f0, .int .i64 x.f1] := ⟨[.int .i64 x.f0], [.int .i64 x.f1], rfl, rfl, rfl⟩
theorem k32_mkM (w : World) (base : Nat) (ok : Nat → Prop) (x : S32)  : k32.M w base ok x [.int .i64 x.f0, .int .i64 x.f1] := ⟨[.int .i64 x.f0], [.int .i64 x.f1], rfl, rfl, rfl⟩
def rd_T32 (xs : List S32) (i : Int) : S32 := xs.getD i.toNat z32
theorem at_T32 {w : World} {A : Option Addr} {n : Nat} {xs : List S32} (h : Kd.C k32 w A n xs) (i : Int) (h0 : 0 ≤ i) (h1 : i < n) : ∃ ad , A = some ad ∧ w.cell? (ad.add (i.toNat * 2)) = some (.int .i64 (rd_T32 xs i).f0) ∧ w.cell? ⟨(ad.add (i.toNat * 2)).block, (ad.add (i.toNat * 2)).off + 1, none⟩ = some (.int .i64 (rd_T32 xs i).f1) := by
  obtain ⟨ad, c, e, _, hK, hc0⟩ := Kd.C_get h z32 i h0 h1
  have hc : ∀ j u, c[j]? = some u → w.cell? (ad.add (i.toNat * 2 + j)) = some u := hc0
  obtain rfl := k32_open hK
  exact ⟨ad, e, hc 0 _ rfl, by rw [← add_field _ _ 1 (by omega)]; exact hc 1 _ rfl⟩

/-! #### struct type 53 -/
structure S53 where
  f0 : Int
  f1 : Int
  f2 : Int
def z53 : S53 := ⟨(0 : Int), (0 : Int), (0 : Int)⟩
def k53 : Kd S53 := Kd.iso (Kd.pair (Kd.int .i64) (Kd.pair (Kd.int .i64) (Kd.int .i64))) (fun x : S53 => (x.f0, x.f1, x.f2))
theorem k53_open {w : World} {x : S53} {cs : List Value} (h : k53.K w x cs) : cs = [.int .i64 x.f0, .int .i64 x.f1, .int .i64 x.f2] := by
  obtain ⟨_, _, rfl, rfl, ⟨_, _, rfl, rfl, rfl⟩⟩ := h
  exact rfl
theorem k53_openM {w : World} {base : Nat} {ok : Nat → Prop} {x : S53} {cs : List Value} (h : k53.M w base ok x cs) : cs = [.int .i64 x.f0, .int .i64 x.f1, .int .i64 x.f2] := by
  obtain ⟨_, _, rfl, rfl, ⟨_, _, rfl, rfl, rfl⟩⟩ := h
  exact rfl
theorem k53_mk (w : World) (x : S53)  : k53.K w x [.int .i64 x.f0, .int .i64 x.f1, .int .i64 x.f2] := ⟨[.int .i64 x.f0], [.int .i64 x.f1, .int .i64 x.f2], rfl, rfl, ⟨[.int .i64 x.f1], [.int .i64 x.f2], rfl, rfl, rfl⟩⟩
theorem k53_mkM (w : World) (base : Nat) (ok : Nat → Prop) (x : S53)  : k53.M w base ok x [.int .i64 x.f0, .int .i64 x.f1, .int .i64 x.f2] := ⟨[.int .i64 x.f0], [.int .i64 x.f1, .int .i64 x.f2], rfl, rfl, ⟨[.int .i64 x.f1], [.int .i64 x.f2], rfl, rfl, rfl⟩⟩
def rd_T53 (xs : List S53) (i : Int) : S53 := xs.getD i.toNat z53
theorem at_T53 {w : World} {A : Option Addr} {n : Nat} {xs : List S53} (h : Kd.C k53 w A n xs) (i : Int) (h0 : 0 ≤ i) (h1 : i < n) : ∃ ad , A = some ad ∧ w.cell? (ad.add (i.toNat * 3)) = some (.int .i64 (rd_T53 xs i).f0) ∧ w.cell? ⟨(ad.add (i.toNat * 3)).block, (ad.add (i.toNat * 3)).off + 1, none⟩ = some (.int .i64 (rd_T53 xs i).f1) ∧ w.cell? ⟨(ad.add (i.toNat * 3)).block, (ad.add (i.toNat * 3)).off + 2, none⟩ = some (.int .i64 (rd_T53 xs i).f2) := by
  obtain ⟨ad, c, e, _, hK, hc0⟩ := Kd.C_get h z53 i h0 h1
  have hc : ∀ j u, c[j]? = some u → w.cell? (ad.add (i.toNat * 3 + j)) = some u := hc0
  obtain rfl := k53_open hK
  exact ⟨ad, e, hc 0 _ rfl, by rw [← add_field _ _ 1 (by omega)]; exact hc 1 _ rfl, by rw [← add_field _ _ 2 (by omega)]; exact hc 2 _ rfl⟩

end Go.Proofs.Yteieknlkcodkcaa.Q
namespace Go.Proofs.Yteieknlkcodkcaa.Q
open Go.RowKit Go.Proofs.YteieknlkcodkcaaW.PrintWords Go.Proofs.YteieknlkcodkcaaW.PrintLast Go.Proofs.YteieknlkcodkcaaW.PrintMore
attribute [local go_sem] max2_int min2_int max_two min_two max_three min_three max_four min_four   -- for this text's walks alone
set_option linter.unusedVariables false
set_option linter.unusedSimpArgs false

open Go.ChangeShapes Go.WideShapes Go.Deep
/-! What a reading says of cells, kind by kind. -/
def Opens {H : Type} (enc : TypeId × Value → H) (P : Program) (w : World) (t : TypeId) {α : Type} (d : Kd α) (wf : α → Prop) : Prop :=
  ∀ (base : Nat) (spare : Nat → Bool) (held : Bool) (fuel : Nat) (cs : List Value) (x : DataW H × List MemPlace), DataW.trod enc P w base spare held fuel t cs = some x → ∃ a, d.K w a cs ∧ wf a
theorem Opens.int {H : Type} {enc : TypeId × Value → H} {P : Program} {w : World} {t : TypeId} {k : IntKind} (ht : P.underlying t = some (.int k)) : Opens enc P w t (Kd.int k) (fun n => (Lit.int k n).wf = true) := fun base spare held fuel cs x h => by
  obtain ⟨n, rfl, _, hw⟩ := DataW.trod_int ht h
  exact ⟨n, rfl, hw⟩
theorem list_of {α : Type} {P : Nat → α → Prop} : ∀ (n : Nat), (∀ i, i < n → ∃ a, P i a) → ∃ l : List α, l.length = n ∧ ∀ i a, l[i]? = some a → P i a
  | 0, _ => ⟨[], rfl, fun i a h => by simp at h⟩
  | n + 1, h => by
    obtain ⟨l, hl, hp⟩ := list_of n (fun i hi => h i (by omega))
    obtain ⟨a, ha⟩ := h n (by omega)
    refine ⟨l ++ [a], by simp [hl], fun i b hb => ?_⟩
    rcases Nat.lt_or_ge i l.length with hi | hi
    · rw [List.getElem?_append_left hi] at hb; exact hp i b hb
    · have : i = n := by
        have := (List.getElem?_eq_some_iff.1 hb).1
        simp at this
        omega
      subst this
      rw [List.getElem?_append_right (by omega), hl, Nat.sub_self] at hb
      simp at hb
      subst hb
      exact ha
theorem Opens.slice {H : Type} {enc : TypeId × Value → H} {P : Program} {w : World} {t e : TypeId} {α : Type} {d : Kd α} {wf : α → Prop} (ht : P.underlying t = some (.slice e)) (hc : P.cellsOf e = d.sz) (he : Opens enc P w e d wf) :
    Opens enc P w t (Kd.slice e d) (fun l => ∀ a ∈ l, wf a) := fun base spare held fuel cs x h => by
  rcases open_slice ht h with ⟨rfl, _⟩ | ⟨a, len, cap, m, n, D, Pl, rfl, _, hl, hm, hmm, _, hi⟩
  · exact ⟨[], ⟨none, 0, rfl, Nat.le_refl _, rfl, Nat.zero_le _, fun h => absurd h (Nat.lt_irrefl 0)⟩, fun a h => by simp at h⟩
  · have hlm : len ≤ m := by rw [hmm]; split <;> omega
    obtain ⟨l, hll, hlp⟩ := list_of (P := fun i b => wf b ∧ ∃ c, c.length = d.sz ∧ d.K w b c ∧ ∀ j u, c[j]? = some u → w.cell? (a.add (i * d.sz + j)) = some u) len (fun i hil => by
      obtain ⟨cs', hcs, htr⟩ := hi i (by omega)
      obtain ⟨b, hK, hwf⟩ := he _ _ _ _ _ _ htr
      rw [hc] at hcs
      obtain ⟨_, hcl, hat⟩ := World.cells?_some hcs
      refine ⟨b, hwf, cs', hcl, hK, fun j u hj => ?_⟩
      have hjl := (List.getElem?_eq_some_iff.1 hj).1
      rw [← Go.Deep.add_add, hat j (by omega), hj])
    unfold maxLen at hm
    refine ⟨l, ⟨some a, cap, by rw [hll], by omega, rfl, by omega, fun _ => ⟨a, rfl, fun j p hj => (hlp j p hj).2⟩⟩, fun b hb => ?_⟩
    obtain ⟨i, hi⟩ := List.getElem?_of_mem hb
    exact (hlp i b hi).1
def wf32 (s : S32) : Prop := (Lit.int .i64 s.f0).wf = true ∧ (Lit.int .i64 s.f1).wf = true
def wf53 (s : S53) : Prop := (Lit.int .i64 s.f0).wf = true ∧ (Lit.int .i64 s.f1).wf = true ∧ (Lit.int .i64 s.f2).wf = true
theorem opn_c3 : Try.prog.cellsOf 3 = 1 := by kernel_rfl
theorem opn_c32 : Try.prog.cellsOf 32 = 2 := by kernel_rfl
theorem opn_c53 : Try.prog.cellsOf 53 = 3 := by kernel_rfl
theorem int_field {H : Type} {enc : TypeId × Value → H} {w : World} {base : Nat} {spare : Nat → Bool} {held : Bool} {n : Nat} {c : Value} {ys : List (DataW H × List MemPlace)} {i : Nat} (hi : i < ys.length)
    (h : DataW.trod enc Try.prog w base spare held n 3 [c] = ys[i]?) : ∃ z : Int, c = .int .i64 z ∧ (Lit.int .i64 z).wf = true := by
  rw [List.getElem?_eq_getElem hi] at h
  obtain ⟨z, hz, _, hw⟩ := DataW.trod_int Try.underlying3 h
  injection hz with hz _
  exact ⟨z, hz, hw⟩
theorem Opens.s32 {H : Type} {enc : TypeId × Value → H} {w : World} : Opens enc Try.prog w 32 k32 wf32 := fun base spare held fuel cs x h => by
  obtain ⟨ys, n', _, _, hlen, hyl, hf⟩ := DataW.trod_struct Try.underlying32 h
  rw [opn_c32] at hlen
  match cs, hlen with
  | [c0, c1], _ =>
    have h0 : DataW.trod enc Try.prog w base spare held n' 3 [c0] = ys[0]? := by
      have hh : DataW.trod enc Try.prog w base spare held n' 3 (([c0, c1].drop 0).take (Try.prog.cellsOf 3)) = ys[0]? := hf 0 _ rfl
      rw [opn_c3] at hh
      exact hh
    have h1 : DataW.trod enc Try.prog w base spare held n' 3 [c1] = ys[1]? := by
      have hh : DataW.trod enc Try.prog w base spare held n' 3 (([c0, c1].drop 1).take (Try.prog.cellsOf 3)) = ys[1]? := hf 1 _ rfl
      rw [opn_c3] at hh
      exact hh
    obtain ⟨z0, rfl, w0⟩ := int_field (by rw [hyl]; decide) h0
    obtain ⟨z1, rfl, w1⟩ := int_field (by rw [hyl]; decide) h1
    exact ⟨⟨z0, z1⟩, k32_mk w _, w0, w1⟩
theorem Opens.s53 {H : Type} {enc : TypeId × Value → H} {w : World} : Opens enc Try.prog w 53 k53 wf53 := fun base spare held fuel cs x h => by
  obtain ⟨ys, n', _, _, hlen, hyl, hf⟩ := DataW.trod_struct Try.underlying53 h
  rw [opn_c53] at hlen
  match cs, hlen with
  | [c0, c1, c2], _ =>
    have h0 : DataW.trod enc Try.prog w base spare held n' 3 [c0] = ys[0]? := by
      have hh : DataW.trod enc Try.prog w base spare held n' 3 (([c0, c1, c2].drop 0).take (Try.prog.cellsOf 3)) = ys[0]? := hf 0 _ rfl
      rw [opn_c3] at hh
      exact hh
    have h1 : DataW.trod enc Try.prog w base spare held n' 3 [c1] = ys[1]? := by
      have hh : DataW.trod enc Try.prog w base spare held n' 3 (([c0, c1, c2].drop 1).take (Try.prog.cellsOf 3)) = ys[1]? := hf 1 _ rfl
      rw [opn_c3] at hh
      exact hh
    have h2 : DataW.trod enc Try.prog w base spare held n' 3 [c2] = ys[2]? := by
      have hh : DataW.trod enc Try.prog w base spare held n' 3 (([c0, c1, c2].drop 2).take (Try.prog.cellsOf 3)) = ys[2]? := hf 2 _ rfl
      rw [opn_c3] at hh
      exact hh
    obtain ⟨z0, rfl, w0⟩ := int_field (by rw [hyl]; decide) h0
    obtain ⟨z1, rfl, w1⟩ := int_field (by rw [hyl]; decide) h1
    obtain ⟨z2, rfl, w2⟩ := int_field (by rw [hyl]; decide) h2
    exact ⟨⟨z0, z1, z2⟩, k53_mk w _, w0, w1, w2⟩
/-- An argument that is a slice. -/
theorem Opens.arg {H : Type} {enc : TypeId × Value → H} {P : Program} {w : World} {t e : TypeId} {α : Type} {d : Kd α} {wf : α → Prop} (ho : Opens enc P w t (Kd.slice e d) (fun l => ∀ a ∈ l, wf a)) {base : Nat} {spare : Nat → Bool} {held : Bool} {A : Option Addr} {len cap : Nat} {x : DataW H} {p : List MemPlace}
    (h : DataW.Trod enc P w base spare held t (.slice A len cap) x p) : ∃ l : List α, len = l.length ∧ len ≤ cap ∧ d.C w A l.length l ∧ ∀ a ∈ l, wf a := by
  obtain ⟨fuel, hf⟩ := h
  obtain ⟨l, ⟨A', c', e', hl, hC⟩, hw⟩ := ho _ _ _ _ _ _ hf
  injection e' with e' _
  injection e' with e1 e2 e3
  subst e1; subst e2; subst e3
  exact ⟨l, rfl, hl, hC, hw⟩

end Go.Proofs.Yteieknlkcodkcaa.Q
namespace Go.Proofs.Yteieknlkcodkcaa.Q
open Go.RowKit Go.Proofs.YteieknlkcodkcaaW.PrintWords Go.Proofs.YteieknlkcodkcaaW.PrintLast Go.Proofs.YteieknlkcodkcaaW.PrintMore
attribute [local go_sem] max2_int min2_int max_two min_two max_three min_three max_four min_four   -- for this text's walks alone
set_option linter.unusedVariables false
set_option linter.unusedSimpArgs false

/-! ### weirgateref16_Same: function 15 -/
def weirgateref16_Same.l0 : Nat → List Int → List Int → Int → Option (Bool)
  | 0, _, _, _ => none
  | k + 1, x0, x1, x5 => if x5 < (x0.length : Int) then (if 0 ≤ x5 then (if x5 < (x1.length : Int) then (if (rd x0 x5) = (rd x1 x5) then (weirgateref16_Same.l0 k x0 x1 (wrap64 (x5 + 1))) else (some false)) else (none)) else (none)) else (some true)
def weirgateref16_Same.f (k : Nat) (l0 : List Int) (l1 : List Int) : Option (Bool) := if (l0.length : Int) = (l1.length : Int) then (weirgateref16_Same.l0 k l0 l1 0) else (some false)
theorem weirgateref16_Same.mono_l : ∀ k, (∀ y0 y1 y2, LeO (weirgateref16_Same.l0 k y0 y1 y2) (weirgateref16_Same.l0 (k + 1) y0 y1 y2))
  | 0 => fun _ _ _ r h => by simp [weirgateref16_Same.l0] at h
  | k + 1 => by
    have ih0 := weirgateref16_Same.mono_l k
    · intro y0 y1 y2
      unfold weirgateref16_Same.l0
      repeat' first
      | (with_reducible exact ih0 _ _ _)
      | (with_reducible exact LeO.refl _)
      | (with_reducible exact LeO.none _)
      | (with_reducible refine LeO.ite ?_ ?_)
      | (with_reducible refine LeO.bind ?_ (fun _ => ?_))
      | exact ih0 _ _ _
      | exact LeO.none _
      | refine LeO.ite ?_ ?_
      | refine LeO.bind ?_ (fun _ => ?_)
theorem weirgateref16_Same.mono : ∀ a0 a1 k, LeO (weirgateref16_Same.f k a0 a1) (weirgateref16_Same.f (k + 1) a0 a1) := by
  intro a0 a1 k
  have ih0 := weirgateref16_Same.mono_l k
  unfold weirgateref16_Same.f
  repeat' first
      | (with_reducible exact ih0 _ _ _)
      | (with_reducible exact LeO.refl _)
      | (with_reducible exact LeO.none _)
      | (with_reducible refine LeO.ite ?_ ?_)
      | (with_reducible refine LeO.bind ?_ (fun _ => ?_))
      | exact ih0 _ _ _
      | exact LeO.none _
      | refine LeO.ite ?_ ?_
      | refine LeO.bind ?_ (fun _ => ?_)
set_option maxHeartbeats 8000000 in
set_option maxRecDepth 100000 in
theorem weirgateref16_Same.calls (k : Nat) (A0 : Option Addr) (c0 : Nat) (l0 : List Int) (A1 : Option Addr) (c1 : Nat) (l1 : List Int) (r : Bool) (w : World) (hr0 : Kd.C (Kd.int .i64) w A0 l0.length l0) (hc0 : l0.length ≤ c0) (hr1 : Kd.C (Kd.int .i64) w A1 l1.length l1) (hc1 : l1.length ≤ c1) (h : weirgateref16_Same.f k l0 l1 = some r) :
    Calls Try.prog 15 #[.slice A0 l0.length c0, .slice A1 l1.length c1] w fun e w' => e = .returned (.bool r) ∧ Drawn0 w w' := by
  have HR0 := Aside0.mk hr0
  have HC0 := Aside0.mk hc0
  clear hr0 hc0
  have HR1 := Aside0.mk hr1
  have HC1 := Aside0.mk hc1
  clear hr1 hc1
  have H : (if (l0.length : Int) = (l1.length : Int) then (weirgateref16_Same.l0 k l0 l1 0) else (some false)) = some r := h
  clear h
  by_cases c3 : (l0.length : Int) = (l1.length : Int)
  · rw [if_pos c3] at H
    have c3b0 : ((l0.length : Int) == (l1.length : Int)) = true := beq_iff_eq.mpr c3
    have c3b1 : ((l0.length : Int) != (l1.length : Int)) = false := bne_eq_false_iff_eq.mpr c3
    have c3b2 : (l0.length == l1.length) = true := by first | simpa using c3 | (simp at c3 ⊢; omega)
    clear c3
    have H' := Aside0.mk H
    clear H
    go_enter Try.func15, Try.ntmps15
    go_wp2
    repeat (go_quiet (fail); try go_wp2)
    go_loopg [5] k (fun kq v5 w' => ∃ (x5_1 : Int), v5 = .int .i64 x5_1 ∧ Aside0 (weirgateref16_Same.l0 kq l0 l1 x5_1 = some r) ∧ Aside0 (kq ≤ k) ∧ Drawn0 w w')
    case atStart => exact ⟨(0), (by first | rfl | (simp; done) | (simp [*]; done)), H', ⟨Nat.le_refl _⟩, by repeat (first | exact Drawn0.refl _ | apply Drawn0.step)⟩
    case round =>
      clear H'
      try clear c1
      try clear p2
      try clear c3
      try clear c3b0
      try clear c3b1
      try clear c3b2
      obtain ⟨x5_1, rfl, HA, HK1, ⟨m1, rfl⟩⟩ := hrel
      cases gk with
      | zero => exact absurd HA.out (by simp [weirgateref16_Same.l0])
      | succ k1 =>
        have H := HA.out
        clear HA
        simp only [weirgateref16_Same.l0] at H
        by_cases c4 : x5_1 < (l0.length : Int)
        · rw [if_pos c4] at H
          have c4b0 : decide (x5_1 < (l0.length : Int)) = true := decide_eq_true c4
          clear c4
          by_cases c5 : 0 ≤ x5_1
          · rw [if_pos c5] at H
            have c5b0 : decide (0 ≤ x5_1) = true := decide_eq_true c5
            clear c5
            by_cases c6 : x5_1 < (l1.length : Int)
            · rw [if_pos c6] at H
              have c6b0 : decide (x5_1 < (l1.length : Int)) = true := decide_eq_true c6
              clear c6
              by_cases c7 : (rd l0 x5_1) = (rd l1 x5_1)
              · rw [if_pos c7] at H
                have c7b0 : ((rd l0 x5_1) == (rd l1 x5_1)) = true := beq_iff_eq.mpr c7
                have c7b1 : ((rd l0 x5_1) != (rd l1 x5_1)) = false := bne_eq_false_iff_eq.mpr c7
                clear c7
                have H' := Aside0.mk H
                clear H
                have p104 : 0 ≤ (x5_1 : Int) := of_decide_eq_true (by first | (with_reducible assumption) | assumption)
                have q104 : x5_1 < (l0.length : Int) := of_decide_eq_true (by first | (with_reducible assumption) | assumption)
                obtain ⟨ad104, e104, hx104_0⟩ := Kd.at_int HR0.out x5_1 p104 q104
                cases e104
                replace p104 := eq_true p104
                replace q104 := eq_true q104
                have p105 : 0 ≤ (x5_1 : Int) := of_decide_eq_true (by first | (with_reducible assumption) | assumption)
                have q105 : x5_1 < (l1.length : Int) := of_decide_eq_true (by first | (with_reducible assumption) | assumption)
                obtain ⟨ad105, e105, hx105_0⟩ := Kd.at_int HR1.out x5_1 p105 q105
                cases e105
                replace p105 := eq_true p105
                replace q105 := eq_true q105
                go_wp2
                repeat (go_quiet (fail); try go_wp2)
                go_roundg k1
                case measure => have := HK1.out; omega
                case rel => exact ⟨(wrap64 (x5_1 + 1)), (by first | rfl | (simp; done) | (simp [*]; done)), H', ⟨by have := HK1.out; omega⟩, by repeat (first | exact Drawn0.refl _ | apply Drawn0.step)⟩
              · rw [if_neg c7] at H
                have c7b0 : ((rd l0 x5_1) == (rd l1 x5_1)) = false := beq_eq_false_iff_ne.mpr c7
                have c7b1 : ((rd l0 x5_1) != (rd l1 x5_1)) = true := bne_iff_ne.mpr c7
                obtain rfl := Option.some.inj H
                have p104 : 0 ≤ (x5_1 : Int) := of_decide_eq_true (by first | (with_reducible assumption) | assumption)
                have q104 : x5_1 < (l0.length : Int) := of_decide_eq_true (by first | (with_reducible assumption) | assumption)
                obtain ⟨ad104, e104, hx104_0⟩ := Kd.at_int HR0.out x5_1 p104 q104
                cases e104
                replace p104 := eq_true p104
                replace q104 := eq_true q104
                have p105 : 0 ≤ (x5_1 : Int) := of_decide_eq_true (by first | (with_reducible assumption) | assumption)
                have q105 : x5_1 < (l1.length : Int) := of_decide_eq_true (by first | (with_reducible assumption) | assumption)
                obtain ⟨ad105, e105, hx105_0⟩ := Kd.at_int HR1.out x5_1 p105 q105
                cases e105
                replace p105 := eq_true p105
                replace q105 := eq_true q105
                go_wp2
                repeat (go_quiet (fail); try go_wp2)
                go_ret
                exact ⟨by first | rfl | (simp; done) | (simp [*]; done), by repeat (first | exact Drawn0.refl _ | apply Drawn0.step)⟩
            · rw [if_neg c6] at H
              exact absurd H (by simp)
          · rw [if_neg c5] at H
            exact absurd H (by simp)
        · rw [if_neg c4] at H
          have c4b0 : decide (x5_1 < (l0.length : Int)) = false := decide_eq_false c4
          clear c4
          obtain rfl := Option.some.inj H
          go_wp2
          repeat (go_quiet (fail); try go_wp2)
          go_ret
          exact ⟨by first | rfl | (simp; done) | (simp [*]; done), by repeat (first | exact Drawn0.refl _ | apply Drawn0.step)⟩
  · rw [if_neg c3] at H
    have c3b0 : ((l0.length : Int) == (l1.length : Int)) = false := beq_eq_false_iff_ne.mpr c3
    have c3b1 : ((l0.length : Int) != (l1.length : Int)) = true := bne_iff_ne.mpr c3
    have c3b2 : (l0.length == l1.length) = false := by first | simpa using c3 | (simp at c3 ⊢; omega)
    obtain rfl := Option.some.inj H
    go_enter Try.func15, Try.ntmps15
    go_wp2
    repeat (go_quiet (fail); try go_wp2)
    go_ret
    exact ⟨by first | rfl | (simp; done) | (simp [*]; done), by repeat (first | exact Drawn0.refl _ | apply Drawn0.step)⟩

end Go.Proofs.Yteieknlkcodkcaa.Q
namespace Go.Proofs.Yteieknlkcodkcaa.Q
open Go.RowKit Go.Proofs.YteieknlkcodkcaaW.PrintWords Go.Proofs.YteieknlkcodkcaaW.PrintLast Go.Proofs.YteieknlkcodkcaaW.PrintMore
attribute [local go_sem] max2_int min2_int max_two min_two max_three min_three max_four min_four   -- for this text's walks alone
set_option linter.unusedVariables false
set_option linter.unusedSimpArgs false

/-! ### quota_all: function 36 -/
def quota_all.l0 : Nat → Int → Int → List (S32) → Int → Int → Option (Int)
  | 0, _, _, _, _, _ => none
  | k + 1, x1, x5, x8, x9, x10 => if x10 < x9 then (if 0 ≤ x10 then (if x10 < (x8.length : Int) then (quota_all.l0 k x1 (wrap64 (x5 + (mn (wrap64 (((rd_T32 x8 x10).f0) * x1)) ((rd_T32 x8 x10).f1)))) x8 x9 (wrap64 (x10 + 1))) else (none)) else (none)) else (some x5)
def quota_all.f (k : Nat) (l0 : List (S32)) (a1 : Int) : Option (Int) := quota_all.l0 k a1 0 l0 (l0.length : Int) 0
theorem quota_all.mono_l : ∀ k, (∀ y0 y1 y2 y3 y4, LeO (quota_all.l0 k y0 y1 y2 y3 y4) (quota_all.l0 (k + 1) y0 y1 y2 y3 y4))
  | 0 => fun _ _ _ _ _ r h => by simp [quota_all.l0] at h
  | k + 1 => by
    have ih0 := quota_all.mono_l k
    · intro y0 y1 y2 y3 y4
      unfold quota_all.l0
      repeat' first
      | (with_reducible exact ih0 _ _ _ _ _)
      | (with_reducible exact LeO.refl _)
      | (with_reducible exact LeO.none _)
      | (with_reducible refine LeO.ite ?_ ?_)
      | (with_reducible refine LeO.bind ?_ (fun _ => ?_))
      | exact ih0 _ _ _ _ _
      | exact LeO.none _
      | refine LeO.ite ?_ ?_
      | refine LeO.bind ?_ (fun _ => ?_)
theorem quota_all.mono : ∀ a0 a1 k, LeO (quota_all.f k a0 a1) (quota_all.f (k + 1) a0 a1) := by
  intro a0 a1 k
  have ih0 := quota_all.mono_l k
  unfold quota_all.f
  repeat' first
      | (with_reducible exact ih0 _ _ _ _ _)
      | (with_reducible exact LeO.refl _)
      | (with_reducible exact LeO.none _)
      | (with_reducible refine LeO.ite ?_ ?_)
      | (with_reducible refine LeO.bind ?_ (fun _ => ?_))
      | exact ih0 _ _ _ _ _
      | exact LeO.none _
      | refine LeO.ite ?_ ?_
      | refine LeO.bind ?_ (fun _ => ?_)
set_option maxHeartbeats 8000000 in
set_option maxRecDepth 100000 in
theorem quota_all.calls (k : Nat) (A0 : Option Addr) (c0 : Nat) (l0 : List (S32)) (a1 : Int) (r : Int) (w : World) (hr0 : Kd.C k32 w A0 l0.length l0) (hc0 : l0.length ≤ c0) (h : quota_all.f k l0 a1 = some r) :
    Calls Try.prog 36 #[.slice A0 l0.length c0, .int .i64 a1] w fun e w' => e = .returned (.int .i64 r) ∧ Below w.heap.size w w' := by
  have hu32 := Try.underlying32
  have HR0 := Aside0.mk hr0
  have HC0 := Aside0.mk hc0
  clear hr0 hc0
  have HB := Aside0.mk (Below.refl w.heap.size w)
  have H : (quota_all.l0 k a1 0 l0 (l0.length : Int) 0) = some r := h
  clear h
  have H' := Aside0.mk H
  clear H
  go_enter Try.func36, Try.ntmps36
  go_wp2
  go_loopg [5, 10] k (fun kq v5 v10 w' => ∃ (x5_1 : Int) (x10_1 : Int), v5 = .int .i64 x5_1 ∧ v10 = .int .i64 x10_1 ∧ Aside0 (quota_all.l0 kq a1 x5_1 l0 (l0.length : Int) x10_1 = some r) ∧ Aside0 (kq ≤ k) ∧ Aside0 (Below w.heap.size w w'))
  case atStart => exact ⟨(0), (0), (by first | rfl | (simp; done) | (simp [*]; done)), (by first | rfl | (simp; done) | (simp [*]; done)), H', ⟨Nat.le_refl _⟩, ⟨by repeat (first | (with_reducible first | exact HB.out | apply below_alloc | apply pw_below_drewN | apply below_drew1) | exact HB.out)⟩⟩
  case round =>
    clear H'
    try clear p2
    obtain ⟨x5_1, x10_1, rfl, rfl, HA, HK1, HB⟩ := hrel
    cases gk with
    | zero => exact absurd HA.out (by simp [quota_all.l0])
    | succ k1 =>
      have H := HA.out
      clear HA
      simp only [quota_all.l0] at H
      by_cases c3 : x10_1 < (l0.length : Int)
      · rw [if_pos c3] at H
        have c3b0 : decide (x10_1 < (l0.length : Int)) = true := decide_eq_true c3
        clear c3
        by_cases c4 : 0 ≤ x10_1
        · rw [if_pos c4] at H
          have c4b0 : decide (0 ≤ x10_1) = true := decide_eq_true c4
          clear c4
          by_cases c5 : x10_1 < (l0.length : Int)
          · rw [if_pos c5] at H
            have c5b0 : decide (x10_1 < (l0.length : Int)) = true := decide_eq_true c5
            clear c5
            obtain ⟨ji6, hji6⟩ : ∃ j_ : Int, (mn (wrap64 (((rd_T32 l0 x10_1).f0) * a1)) ((rd_T32 l0 x10_1).f1)) = j_ := ⟨_, rfl⟩
            replace H : (quota_all.l0 k1 a1 (wrap64 (x5_1 + (ji6))) l0 (l0.length : Int) (wrap64 (x10_1 + 1))) = some r := by first | (rw [hji6] at H; exact H) | (simp only [hji6] at H ⊢; exact H)
            have hji6_ : (if ((rd_T32 l0 x10_1).f1) < (wrap64 (((rd_T32 l0 x10_1).f0) * a1)) then ((rd_T32 l0 x10_1).f1) else (wrap64 (((rd_T32 l0 x10_1).f0) * a1))) = ji6 := hji6
            have H' := Aside0.mk H
            clear H
            have p102 : 0 ≤ (x10_1 : Int) := of_decide_eq_true (by first | (with_reducible assumption) | assumption)
            have q102 : x10_1 < (l0.length : Int) := of_decide_eq_true (by first | (with_reducible assumption) | assumption)
            obtain ⟨ad102, e102, hx102_0, hx102_1⟩ := at_T32 HR0.out x10_1 p102 q102
            cases e102
            replace hx102_0 := (HB.out.cell (World.block_lt_of_cell? w _ hx102_0)).trans hx102_0
            replace hx102_1 := (HB.out.cell (World.block_lt_of_cell? w _ hx102_1)).trans hx102_1
            replace p102 := eq_true p102
            replace q102 := eq_true q102
            go_wp2_with (first | ((with_reducible refine gate_dst (N := 7) rfl ?_); refine box_event ?hg (N := 7) ?hd (cs := #[.int .i64 0, .int .i64 0]) (t := 32) ?hr ?_; (case hd => rfl); (case hg => rfl); (case hr => first | (go_simp; done) | (go_simp; rfl)); intro gb103 hg w7 hbox hb; have n0_ := Aside0.mk (below_step (by repeat (first | (with_reducible first | exact HB.out | apply below_alloc | apply pw_below_drewN | apply below_drew1) | exact HB.out)) hb); have n1_ := Aside0.mk (hbox); have n2_ := Aside0.mk ((by rw [hg]; exact (below_size (by repeat (first | (with_reducible first | exact HB.out | apply below_alloc | apply pw_below_drewN | apply below_drew1) | exact HB.out))) : w.heap.size ≤ gb103)); have n3_ := Aside0.mk ((by rw [hg]; exact (below_size (by repeat (first | (with_reducible first | exact HB.out | apply below_alloc | apply pw_below_drewN | apply below_drew1) | exact HB.out))) : w.heap.size ≤ gb103)); clear HB; have HB := n0_; have BK103 := n1_; have GW103 := n2_; have GE103 := n3_; clear n0_ n1_ n2_ n3_; clear hb hbox hg; have hcz8_0 : w7.cell? ⟨gb103, 0, none⟩ = some (.int .i64 0) := (blk_cell BK103.out 0).trans rfl; have hcz8_1 : w7.cell? ⟨gb103, 1, none⟩ = some (.int .i64 0) := (blk_cell BK103.out 1).trans rfl; have hfz8_0 := blk_frozen BK103.out 0; have hfz8_1 := blk_frozen BK103.out 1))
            go_roundg k1
            case measure => have := HK1.out; omega
            case rel => exact ⟨(wrap64 (x5_1 + (ji6))), (wrap64 (x10_1 + 1)), (by first | rfl | (simp; done) | (simp only [← hji6] <;> (first | rfl | simp)) | (simp [*]; done)), (by first | rfl | (simp; done) | (simp [*]; done)), H', ⟨by have := HK1.out; omega⟩, ⟨by repeat (first | (with_reducible first | exact HB.out | apply below_alloc | apply pw_below_drewN | apply below_drew1 | refine below_set ?_ GE103.out) | exact HB.out)⟩⟩
          · rw [if_neg c5] at H
            exact absurd H (by simp)
        · rw [if_neg c4] at H
          exact absurd H (by simp)
      · rw [if_neg c3] at H
        have c3b0 : decide (x10_1 < (l0.length : Int)) = false := decide_eq_false c3
        clear c3
        obtain rfl := Option.some.inj H
        go_wp2
        go_ret
        exact ⟨by first | rfl | (simp [errW_none, errW_some] <;> rfl) | (simp [*, errW_none, errW_some] <;> rfl), by repeat (first | (with_reducible first | exact HB.out | apply below_alloc | apply pw_below_drewN | apply below_drew1) | exact HB.out)⟩

end Go.Proofs.Yteieknlkcodkcaa.Q
namespace Go.Proofs.Yteieknlkcodkcaa.Q
open Go.RowKit Go.Proofs.YteieknlkcodkcaaW.PrintWords Go.Proofs.YteieknlkcodkcaaW.PrintLast Go.Proofs.YteieknlkcodkcaaW.PrintMore
attribute [local go_sem] max2_int min2_int max_two min_two max_three min_three max_four min_four   -- for this text's walks alone
set_option linter.unusedVariables false
set_option linter.unusedSimpArgs false

def quota_Level.l0 : Nat → Int → List S32 → Int → Int → Option Int
  | 0, _, _, _, _ => none
  | k + 1, a0, l1, x, y => if y - x > 1 then ((quota_all.f k l1 (x + (y - x) / 2)).bind fun t => (if t ≤ a0 then (quota_Level.l0 k a0 l1 (x + (y - x) / 2) y) else (quota_Level.l0 k a0 l1 x (x + (y - x) / 2)))) else (some x)
def quota_Level.f (k : Nat) (a0 : Int) (l1 : List S32) : Option Int := quota_Level.l0 k a0 l1 0 1099511627777
theorem quota_Level.mono_l : ∀ k, (∀ y0 y1 y2 y3, LeO (quota_Level.l0 k y0 y1 y2 y3) (quota_Level.l0 (k + 1) y0 y1 y2 y3))
  | 0 => fun _ _ _ _ r h => by simp [quota_Level.l0] at h
  | k + 1 => by
    have ih0 := quota_Level.mono_l k
    intro y0 y1 y2 y3
    unfold quota_Level.l0
    refine LeO.ite (LeO.bind (quota_all.mono _ _ k) (fun _ => LeO.ite (ih0 _ _ _ _) (ih0 _ _ _ _))) (LeO.refl _)
theorem quota_Level.mono : ∀ a0 a1 k, LeO (quota_Level.f k a0 a1) (quota_Level.f (k + 1) a0 a1) := fun a0 a1 k => quota_Level.mono_l k a0 a1 _ _
theorem kd_below {w w1 : World} {A : Option Addr} {n : Nat} {xs : List S32} (h : Kd.C k32 w A n xs) (hb : Below w.heap.size w w1) : Kd.C k32 w1 A n xs := Kd.C_below h hb
theorem below_chain {w w1 w2 : World} (h : Below w.heap.size w w1) (k : Below w1.heap.size w1 w2) : Below w.heap.size w w2 := below_then h h.size k
set_option maxHeartbeats 2000000 in
theorem quota_Level.closure (k : Nat) (cap n t : Int) (A1 : Option Addr) (c1 : Nat) (l1 : List S32) (B : Nat) (w : World) (hB : B + 1 < w.heap.size)
    (hcl : w.cell? ⟨B + 1, 0, none⟩ = some (.slice A1 l1.length c1)) (hcap : w.cell? ⟨B, 0, none⟩ = some (.int .i64 cap)) (hr1 : Kd.C k32 w A1 l1.length l1) (hc1 : l1.length ≤ c1) (h : quota_all.f k l1 n = some t) :
    Calls Try.prog 35 #[.int .i64 n, .pointer (some ⟨B + 1, 0, none⟩), .pointer (some ⟨B, 0, none⟩)] w fun e w' => e = .returned (.bool (decide (t ≤ cap))) ∧ Below w.heap.size w w' := by
  have H := Aside0.mk h
  have HR := Aside0.mk hr1
  have HC := Aside0.mk hc1
  clear h hr1 hc1
  go_enter Try.func35, Try.ntmps35
  go_wp2
  have hb0 := Aside0.mk (below_drew (Below.refl w.heap.size w))
  go_region_held3 (fun w' => w'.cell? ⟨B + 1, 0, none⟩ = some (.slice A1 l1.length c1) ∧ w'.cell? ⟨B, 0, none⟩ = some (.int .i64 cap) ∧ Aside0 (Below w.heap.size w w'))
    (first | go_keep | (go_split_ands; refine ⟨(hb.cell (p := ⟨B + 1, 0, none⟩) (Nat.lt_of_lt_of_le hB (below_size (Aside0.out ‹_›)))).trans ‹_›, (hb.cell (p := ⟨B, 0, none⟩) (Nat.lt_of_lt_of_le (Nat.lt_trans (Nat.lt_succ_self B) hB) (below_size (Aside0.out ‹_›)))).trans ‹_›, ⟨below_chain (Aside0.out ‹_›) hb⟩⟩))
    (first | (go_at_call 36; refine (quota_all.calls k _ _ l1 n t _ (kd_below HR.out (by go_split_ands; exact Aside0.out ‹_›)) HC.out H.out).mono ?_; rintro e w1 ⟨rfl, hb⟩))
  go_wp2
  go_ret
  all_goals (go_split_ands; exact ⟨rfl, Aside0.out ‹_›⟩)
theorem cellBelow {w w1 : World} (hb : Below w.heap.size w w1) {B : Nat} {v : Value} (h : w.cell? ⟨B, 0, none⟩ = some v) : w1.cell? ⟨B, 0, none⟩ = some v := pw_cell_below hb h
set_option maxHeartbeats 2000000 in
theorem quota_Level.last_ (k : Nat) (cap x y r : Int) (A1 : Option Addr) (c1 : Nat) (l1 : List S32) (B : Nat) (w : World) (hB : B + 1 < w.heap.size) (hx : 0 ≤ x) (hxy : x ≤ y) (hy : y ≤ 1099511627777)
    (hcl : w.cell? ⟨B + 1, 0, none⟩ = some (.slice A1 l1.length c1)) (hcap : w.cell? ⟨B, 0, none⟩ = some (.int .i64 cap)) (hr1 : Kd.C k32 w A1 l1.length l1) (hc1 : l1.length ≤ c1) (h : quota_Level.l0 k cap l1 x y = some r) :
    Calls Try.prog 34 #[.int .i64 x, .int .i64 y, .func (.func 35) #[] #[.pointer (some ⟨B + 1, 0, none⟩), .pointer (some ⟨B, 0, none⟩)]] w fun e w' => e = .returned (.int .i64 r) ∧ Below w.heap.size w w' := by
  have H := Aside0.mk h
  have HR := Aside0.mk hr1
  have HC := Aside0.mk hc1
  have HCL := Aside0.mk hcl
  have HCA := Aside0.mk hcap
  clear h hr1 hc1 hcl hcap
  go_enter Try.func34, Try.ntmps34
  go_wp2
  go_loopg [0, 1] k (fun kq v0 v1 w' => ∃ x1 y1 : Int, v0 = .int .i64 x1 ∧ v1 = .int .i64 y1 ∧ 0 ≤ x1 ∧ x1 ≤ y1 ∧ y1 ≤ 1099511627777 ∧ Aside0 (quota_Level.l0 kq cap l1 x1 y1 = some r) ∧ Aside0 (kq ≤ k) ∧ Aside0 (Below w.heap.size w w'))
  case atStart => exact ⟨x, y, rfl, rfl, hx, hxy, hy, H, ⟨Nat.le_refl _⟩, ⟨Below.refl _ _⟩⟩
  case round =>
    clear H
    obtain ⟨x1, y1, rfl, rfl, h0, h1, h2, HA, HK, HB⟩ := hrel
    cases gk with
    | zero => exact absurd HA.out (by simp [quota_Level.l0])
    | succ k1 =>
      have H := HA.out
      clear HA
      simp only [quota_Level.l0] at H
      by_cases c : y1 - x1 > 1
      · rw [if_pos c] at H
        have cb : decide (1 < y1 - x1) = true := decide_eq_true c
        cases ht : quota_all.f k1 l1 (x1 + (y1 - x1) / 2) with
        | none => rw [ht] at H; exact absurd H (by simp)
        | some t =>
          rw [ht] at H
          simp only [Option.bind_some] at H
          have HT := Aside0.mk ht
          clear ht
          have hcl := quota_Level.closure k1 cap (x1 + (y1 - x1) / 2) t A1 c1 l1 B wr (Nat.lt_of_lt_of_le hB HB.out.size) (cellBelow HB.out HCL.out) (cellBelow HB.out HCA.out) (kd_below HR.out HB.out) HC.out HT.out
          by_cases d : t ≤ cap
          · rw [if_pos d] at H
            have H' := Aside0.mk H
            rw [decide_eq_true d] at hcl
            have HCC := Aside0.mk hcl
            clear H d hcl
            go_wp2_with fail
            refine HCC.out.mono ?_
            rintro e w1 ⟨rfl, hb⟩
            go_wp2
            go_roundg k1
            case measure => have := HK.out; omega
            case rel => exact ⟨_, _, rfl, rfl, by omega, by omega, h2, H', ⟨by have := HK.out; omega⟩, ⟨below_chain HB.out hb⟩⟩
          · rw [if_neg d] at H
            have H' := Aside0.mk H
            rw [decide_eq_false d] at hcl
            have HCC := Aside0.mk hcl
            clear H d hcl
            go_wp2_with fail
            refine HCC.out.mono ?_
            rintro e w1 ⟨rfl, hb⟩
            go_wp2
            go_roundg k1
            case measure => have := HK.out; omega
            case rel => exact ⟨_, _, rfl, rfl, h0, by omega, by omega, H', ⟨by have := HK.out; omega⟩, ⟨below_chain HB.out hb⟩⟩
      · rw [if_neg c] at H
        have cb : decide (1 < y1 - x1) = false := decide_eq_false c
        obtain rfl := Option.some.inj H
        clear H c
        go_wp2
        go_ret
        exact ⟨rfl, HB.out⟩
theorem quota_Level.calls (k : Nat) (a0 : Int) (A1 : Option Addr) (c1 : Nat) (l1 : List (S32)) (r : Int) (w : World) (hr1 : Kd.C k32 w A1 l1.length l1) (hc1 : l1.length ≤ c1) (h : quota_Level.f k a0 l1 = some r) :
    Calls Try.prog 13 #[.int .i64 a0, .slice A1 l1.length c1] w fun e w' => e = .returned (.int .i64 r) ∧ Below w.heap.size w w' := by
  have H := Aside0.mk h
  have HR := Aside0.mk hr1
  have HC := Aside0.mk hc1
  clear h hr1 hc1
  have hl := quota_Level.last_ k a0 0 1099511627777 r A1 c1 l1 w.heap.size ((w.alloc (.cells #[.int .i64 a0] 3)).alloc (.cells #[.slice A1 l1.length c1] 22)) (by simp) (by omega) (by omega) (by omega) (by simp) (by simp) (Kd.C_alloc (Kd.C_alloc HR.out _) _) HC.out H.out
  have HL := Aside0.mk hl
  clear hl
  go_enter Try.func13, Try.ntmps13
  go_wp2_with (go_at_call 34; (with_reducible refine HL.out.mono ?_); rintro e w1 ⟨rfl, hb⟩)
  go_ret
  exact ⟨rfl, below_then (((Below.refl _ _).alloc (Nat.le_refl _) _).alloc (by simp) _) (by simp; omega) hb⟩

end Go.Proofs.Yteieknlkcodkcaa.Q
namespace Go.Proofs.Yteieknlkcodkcaa.Q
open Go.RowKit Go.Proofs.YteieknlkcodkcaaW.PrintWords Go.Proofs.YteieknlkcodkcaaW.PrintLast Go.Proofs.YteieknlkcodkcaaW.PrintMore
attribute [local go_sem] max2_int min2_int max_two min_two max_three min_three max_four min_four   -- for this text's walks alone
set_option linter.unusedVariables false
set_option linter.unusedSimpArgs false

/-! ### quota_Fair: function 16 -/
def quota_Fair.l0 : Nat → Int → Int → List Int → List (S32) → Int → Int → Option (List Int)
  | 0, _, _, _, _, _, _ => none
  | k + 1, x5, x6, x7, x23, x24, x25 => if x25 < x24 then (if 0 ≤ x25 then (if x25 < (x23.length : Int) then (if x25 < (x7.length : Int) then (quota_Fair.l0 k x5 (wrap64 (x6 - (mn (mn x6 ((rd_T32 x23 x25).f0)) (wrap64 (((rd_T32 x23 x25).f1) - (mn (wrap64 (((rd_T32 x23 x25).f0) * x5)) ((rd_T32 x23 x25).f1))))))) (x7.set (x25 : Int).toNat (wrap64 ((mn (wrap64 (((rd_T32 x23 x25).f0) * x5)) ((rd_T32 x23 x25).f1)) + (mn (mn x6 ((rd_T32 x23 x25).f0)) (wrap64 (((rd_T32 x23 x25).f1) - (mn (wrap64 (((rd_T32 x23 x25).f0) * x5)) ((rd_T32 x23 x25).f1)))))))) x23 x24 (wrap64 (x25 + 1))) else (none)) else (none)) else (none)) else (some x7)
def quota_Fair.f (k : Nat) (a0 : Int) (l1 : List (S32)) : Option (List Int) := (quota_Level.f k a0 l1).bind fun t106 => ((quota_all.f k l1 t106).bind fun t107 => (if 0 ≤ (l1.length : Int) then (if ((l1.length : Int) : Int).toNat ≤ 35184372088832 then (quota_Fair.l0 k t106 (wrap64 (a0 - t107)) (List.replicate ((l1.length : Int) : Int).toNat 0) l1 (l1.length : Int) 0) else (none)) else (none)))
theorem quota_Fair.mono_l : ∀ k, (∀ y0 y1 y2 y3 y4 y5, LeO (quota_Fair.l0 k y0 y1 y2 y3 y4 y5) (quota_Fair.l0 (k + 1) y0 y1 y2 y3 y4 y5))
  | 0 => fun _ _ _ _ _ _ r h => by simp [quota_Fair.l0] at h
  | k + 1 => by
    have ih0 := quota_Fair.mono_l k
    · intro y0 y1 y2 y3 y4 y5
      unfold quota_Fair.l0
      repeat' first
      | (with_reducible exact ih0 _ _ _ _ _ _)
      | (with_reducible exact quota_Level.mono _ _ _)
      | (with_reducible exact quota_all.mono _ _ _)
      | (with_reducible exact LeO.refl _)
      | (with_reducible exact LeO.none _)
      | (with_reducible refine LeO.ite ?_ ?_)
      | (with_reducible refine LeO.bind ?_ (fun _ => ?_))
      | exact ih0 _ _ _ _ _ _
      | exact quota_Level.mono _ _ _
      | exact quota_all.mono _ _ _
      | exact LeO.none _
      | refine LeO.ite ?_ ?_
      | refine LeO.bind ?_ (fun _ => ?_)
theorem quota_Fair.mono : ∀ a0 a1 k, LeO (quota_Fair.f k a0 a1) (quota_Fair.f (k + 1) a0 a1) := by
  intro a0 a1 k
  have ih0 := quota_Fair.mono_l k
  unfold quota_Fair.f
  repeat' first
      | (with_reducible exact ih0 _ _ _ _ _ _)
      | (with_reducible exact quota_Level.mono _ _ _)
      | (with_reducible exact quota_all.mono _ _ _)
      | (with_reducible exact LeO.refl _)
      | (with_reducible exact LeO.none _)
      | (with_reducible refine LeO.ite ?_ ?_)
      | (with_reducible refine LeO.bind ?_ (fun _ => ?_))
      | exact ih0 _ _ _ _ _ _
      | exact quota_Level.mono _ _ _
      | exact quota_all.mono _ _ _
      | exact LeO.none _
      | refine LeO.ite ?_ ?_
      | refine LeO.bind ?_ (fun _ => ?_)
set_option maxHeartbeats 8000000 in
set_option maxRecDepth 100000 in
theorem quota_Fair.calls (k : Nat) (a0 : Int) (A1 : Option Addr) (c1 : Nat) (l1 : List (S32)) (r : List Int) (w : World) (hr1 : Kd.C k32 w A1 l1.length l1) (hc1 : l1.length ≤ c1) (h : quota_Fair.f k a0 l1 = some r) :
    Calls Try.prog 16 #[.int .i64 a0, .slice A1 l1.length c1] w fun e w' => ∃ v0_ : Value, e = .returned (v0_) ∧ Kd.R (Kd.int .i64) 3 w' w.heap.size (fun _ => True) v0_ r ∧ Below w.heap.size w w' := by
  have hu32 := Try.underlying32
  have HR1 := Aside0.mk hr1
  have HC1 := Aside0.mk hc1
  clear hr1 hc1
  have HB := Aside0.mk (Below.refl w.heap.size w)
  have H : ((quota_Level.f k a0 l1).bind fun t106 => ((quota_all.f k l1 t106).bind fun t107 => (if 0 ≤ (l1.length : Int) then (if ((l1.length : Int) : Int).toNat ≤ 35184372088832 then (quota_Fair.l0 k t106 (wrap64 (a0 - t107)) (List.replicate ((l1.length : Int) : Int).toNat 0) l1 (l1.length : Int) 0) else (none)) else (none)))) = some r := h
  clear h
  replace H := Option.bind_eq_some_iff.mp H
  obtain ⟨t106, A30, H⟩ := H
  replace H : ((quota_all.f k l1 t106).bind fun t107 => (if 0 ≤ (l1.length : Int) then (if ((l1.length : Int) : Int).toNat ≤ 35184372088832 then (quota_Fair.l0 k t106 (wrap64 (a0 - t107)) (List.replicate ((l1.length : Int) : Int).toNat 0) l1 (l1.length : Int) 0) else (none)) else (none))) = some r := H
  have A3 := Aside0.mk A30
  clear A30
  replace H := Option.bind_eq_some_iff.mp H
  obtain ⟨t107, A40, H⟩ := H
  replace H : (if 0 ≤ (l1.length : Int) then (if ((l1.length : Int) : Int).toNat ≤ 35184372088832 then (quota_Fair.l0 k t106 (wrap64 (a0 - t107)) (List.replicate ((l1.length : Int) : Int).toNat 0) l1 (l1.length : Int) 0) else (none)) else (none)) = some r := H
  have A4 := Aside0.mk A40
  clear A40
  by_cases c5 : 0 ≤ (l1.length : Int)
  · rw [if_pos c5] at H
    have c5b0 := eq_true c5
    have c5b1 : decide (0 ≤ (l1.length : Int)) = true := decide_eq_true c5
    clear c5
    by_cases c6 : ((l1.length : Int) : Int).toNat ≤ 35184372088832
    · rw [if_pos c6] at H
      have c6b0 := eq_true c6
      have c6b1 : decide (((l1.length : Int) : Int).toNat ≤ 35184372088832) = true := decide_eq_true c6
      clear c6
      obtain ⟨y108, hy108⟩ : ∃ y_ : List Int, y_ = (List.replicate ((l1.length : Int) : Int).toNat 0) := ⟨_, rfl⟩
      replace H : (quota_Fair.l0 k t106 (wrap64 (a0 - t107)) y108 l1 (l1.length : Int) 0) = some r := by first | (rw [hy108]; with_reducible exact H) | (have H2_ := (Option.bind_some _ _).symm.trans H; rw [hy108]; with_reducible exact H2_) | (have H2_ := (Option.bind_some _ _).symm.trans H; with_reducible exact H2_) | with_reducible exact H | (rw [hy108]; exact H) | exact H
      have Ny108 := Aside0.mk hy108
      clear hy108
      have H' := Aside0.mk H
      clear H
      go_enter Try.func16, Try.ntmps16
      go_wp2_with (first | ((with_reducible refine gate_callee (f := 13) rfl ?_); refine goesL_ (some 14) rfl rfl Try.func13 (by kernel_rfl) rfl #[.int .i64 a0, .slice A1 l1.length c1] rfl (by (try simp only [List.map_toArray, List.map_cons, List.map_nil]); first | done | rfl | (simp only [List.length_drop, List.length_take]; rfl)) ?_; (with_reducible refine (quota_Level.calls k a0 _ _ l1 t106 _ ?side1 ?side2 A3.out).mono ?_); (case side1 => repeat (first | exact HR1.out | (with_reducible refine Kd.C_alloc ?_ _) | (with_reducible refine Kd.C_drewN ?_ _) | (with_reducible refine Kd.C_drew ?_))); (case side2 => exact HC1.out); rintro e w7 ⟨rfl, hb⟩; refine ⟨_, rfl, ?_⟩; have n0_ := Aside0.mk (below_step (by repeat (first | (with_reducible first | exact HB.out | apply below_alloc | apply pw_below_drewN | apply below_drew1) | exact HB.out)) hb); clear HB; have HB := n0_; clear n0_; (try clear hb); (try clear hb2); (try clear hk); (try clear hi)) | ((with_reducible refine gate_callee (f := 36) rfl ?_); refine goesL_ (some 18) rfl rfl Try.func36 (by kernel_rfl) rfl #[.slice A1 l1.length c1, .int .i64 t106] rfl (by (try simp only [List.map_toArray, List.map_cons, List.map_nil]); first | done | rfl | (simp only [List.length_drop, List.length_take]; rfl)) ?_; (with_reducible refine (quota_all.calls k _ _ l1 t106 t107 _ ?side1 ?side2 A4.out).mono ?_); (case side1 => repeat (first | exact (Kd.C_below HR1.out HB.out) | (with_reducible refine Kd.C_alloc ?_ _) | (with_reducible refine Kd.C_drewN ?_ _) | (with_reducible refine Kd.C_drew ?_))); (case side2 => exact HC1.out); rintro e w8 ⟨rfl, hb⟩; refine ⟨_, rfl, ?_⟩; have n0_ := Aside0.mk (below_step (by repeat (first | (with_reducible first | exact HB.out | apply below_alloc | apply pw_below_drewN | apply below_drew1) | exact HB.out)) hb); clear HB; have HB := n0_; clear n0_; (try clear hb); (try clear hb2); (try clear hk); (try clear hi)) | ((with_reducible refine gate_dst (N := 22) rfl ?_); refine Kd.R_make (Kd.int .i64) _ 3 rfl (N := 22) rfl 23 _ _ rfl (l1.length : Int) rfl rfl Try.underlying23 (.int .i64 0) 8 info3 rfl (by decide) (by omega) 0 (ok := fun _ => True) (okp := fun _ => True) rfl (fun _ hk => hk) trivial (of_decide_eq_true (by first | (with_reducible assumption) | assumption)) (Nat.le_trans (Nat.mul_le_mul_right _ (of_decide_eq_true (by first | (with_reducible assumption) | assumption) : (l1.length : Int).toNat ≤ 35184372088832)) (by omega)) (Below.refl _ _) (Nat.le_refl _) ?_; intro v109 w9 ho10 hb hg_ hnew_; clear hg_ hnew_; (first | rw [← Ny108.out] at ho10 | (simp only [Int.reduceToNat] at ho10; rw [← Ny108.out] at ho10)); have n0_ := Aside0.mk (Kd.R_lower ho10 (below_size (by repeat (first | (with_reducible first | exact HB.out | apply below_alloc | apply pw_below_drewN | apply below_drew1) | exact HB.out)))); have n1_ := Aside0.mk (below_step (by repeat (first | (with_reducible first | exact HB.out | apply below_alloc | apply pw_below_drewN | apply below_drew1) | exact HB.out)) hb); clear HB; have HO110 := n0_; have HB := n1_; clear n0_ n1_; clear hb ho10))
      go_loopg [6, 25] k (fun kq v6 v25 w' => ∃ (x6_1 : Int) (x7_1 : List Int) (x25_1 : Int), v6 = .int .i64 x6_1 ∧ v25 = .int .i64 x25_1 ∧ Aside0 (quota_Fair.l0 kq t106 x6_1 x7_1 l1 (l1.length : Int) x25_1 = some r) ∧ Aside0 (kq ≤ k) ∧ Aside0 (Kd.R (Kd.int .i64) 3 w' w.heap.size (fun _ => True) v109 x7_1) ∧ Aside0 (Below w.heap.size w w'))
      case atStart => exact ⟨(wrap64 (a0 - t107)), (y108), (0), (by first | rfl | (simp; done) | (simp [*]; done)), (by first | rfl | (simp; done) | (simp [*]; done)), H', ⟨Nat.le_refl _⟩, ⟨by (with_reducible repeat (first | apply Kd.R_alloc | apply Kd.R_drewN | apply Kd.R_drew)); exact HO110.out⟩, ⟨by repeat (first | (with_reducible first | exact HB.out | apply below_alloc | apply pw_below_drewN | apply below_drew1) | exact HB.out)⟩⟩
      case round =>
        clear H'
        try clear c1
        try clear p2
        try clear c3
        try clear c5
        try clear c5b0
        try clear c5b1
        try clear c6
        try clear c6b0
        try clear c6b1
        try clear p6
        obtain ⟨x6_1, x7_1, x25_1, rfl, rfl, HA, HK1, HO_7, HB⟩ := hrel
        cases gk with
        | zero => exact absurd HA.out (by simp [quota_Fair.l0])
        | succ k1 =>
          have H := HA.out
          clear HA
          simp only [quota_Fair.l0] at H
          by_cases c11 : x25_1 < (l1.length : Int)
          · rw [if_pos c11] at H
            have c11b0 : decide (x25_1 < (l1.length : Int)) = true := decide_eq_true c11
            clear c11
            by_cases c12 : 0 ≤ x25_1
            · rw [if_pos c12] at H
              have c12b0 : decide (0 ≤ x25_1) = true := decide_eq_true c12
              clear c12
              by_cases c13 : x25_1 < (l1.length : Int)
              · rw [if_pos c13] at H
                have c13b0 : decide (x25_1 < (l1.length : Int)) = true := decide_eq_true c13
                clear c13
                obtain ⟨ji14, hji14⟩ : ∃ j_ : Int, (mn (wrap64 (((rd_T32 l1 x25_1).f0) * t106)) ((rd_T32 l1 x25_1).f1)) = j_ := ⟨_, rfl⟩
                replace H : (if x25_1 < (x7_1.length : Int) then (quota_Fair.l0 k1 t106 (wrap64 (x6_1 - (mn (mn x6_1 ((rd_T32 l1 x25_1).f0)) (wrap64 (((rd_T32 l1 x25_1).f1) - (ji14)))))) (x7_1.set (x25_1 : Int).toNat (wrap64 ((ji14) + (mn (mn x6_1 ((rd_T32 l1 x25_1).f0)) (wrap64 (((rd_T32 l1 x25_1).f1) - (ji14))))))) l1 (l1.length : Int) (wrap64 (x25_1 + 1))) else (none)) = some r := by first | (rw [hji14] at H; exact H) | (simp only [hji14] at H ⊢; exact H)
                have hji14_ : (if ((rd_T32 l1 x25_1).f1) < (wrap64 (((rd_T32 l1 x25_1).f0) * t106)) then ((rd_T32 l1 x25_1).f1) else (wrap64 (((rd_T32 l1 x25_1).f0) * t106))) = ji14 := hji14
                obtain ⟨ji15, hji15⟩ : ∃ j_ : Int, (mn x6_1 ((rd_T32 l1 x25_1).f0)) = j_ := ⟨_, rfl⟩
                replace H : (if x25_1 < (x7_1.length : Int) then (quota_Fair.l0 k1 t106 (wrap64 (x6_1 - (mn (ji15) (wrap64 (((rd_T32 l1 x25_1).f1) - (ji14)))))) (x7_1.set (x25_1 : Int).toNat (wrap64 ((ji14) + (mn (ji15) (wrap64 (((rd_T32 l1 x25_1).f1) - (ji14))))))) l1 (l1.length : Int) (wrap64 (x25_1 + 1))) else (none)) = some r := by first | (rw [hji15] at H; exact H) | (simp only [hji15] at H ⊢; exact H)
                have hji15_ : (if ((rd_T32 l1 x25_1).f0) < x6_1 then ((rd_T32 l1 x25_1).f0) else x6_1) = ji15 := hji15
                obtain ⟨ji16, hji16⟩ : ∃ j_ : Int, (mn (ji15) (wrap64 (((rd_T32 l1 x25_1).f1) - (ji14)))) = j_ := ⟨_, rfl⟩
                replace H : (if x25_1 < (x7_1.length : Int) then (quota_Fair.l0 k1 t106 (wrap64 (x6_1 - (ji16))) (x7_1.set (x25_1 : Int).toNat (wrap64 ((ji14) + (ji16)))) l1 (l1.length : Int) (wrap64 (x25_1 + 1))) else (none)) = some r := by first | (rw [hji16] at H; exact H) | (simp only [hji16] at H ⊢; exact H)
                have hji16_ : (if (wrap64 (((rd_T32 l1 x25_1).f1) - (ji14))) < (ji15) then (wrap64 (((rd_T32 l1 x25_1).f1) - (ji14))) else (ji15)) = ji16 := hji16
                by_cases c17 : x25_1 < (x7_1.length : Int)
                · rw [if_pos c17] at H
                  have c17b0 : decide (x25_1 < (x7_1.length : Int)) = true := decide_eq_true c17
                  clear c17
                  obtain ⟨y113, hy113⟩ : ∃ y_ : List Int, y_ = (x7_1.set (x25_1 : Int).toNat (wrap64 ((ji14) + (ji16)))) := ⟨_, rfl⟩
                  replace H : (quota_Fair.l0 k1 t106 (wrap64 (x6_1 - (ji16))) y113 l1 (l1.length : Int) (wrap64 (x25_1 + 1))) = some r := by first | (rw [hy113]; with_reducible exact H) | (have H2_ := (Option.bind_some _ _).symm.trans H; rw [hy113]; with_reducible exact H2_) | (have H2_ := (Option.bind_some _ _).symm.trans H; with_reducible exact H2_) | with_reducible exact H | (rw [hy113]; exact H) | exact H
                  have Ny113 := Aside0.mk hy113
                  clear hy113
                  have H' := Aside0.mk H
                  clear H
                  have p111 : 0 ≤ (x25_1 : Int) := of_decide_eq_true (by first | (with_reducible assumption) | assumption)
                  have q111 : x25_1 < (l1.length : Int) := of_decide_eq_true (by first | (with_reducible assumption) | assumption)
                  obtain ⟨ad111, e111, hx111_0, hx111_1⟩ := at_T32 HR1.out x25_1 p111 q111
                  cases e111
                  replace hx111_0 := (HB.out.cell (World.block_lt_of_cell? w _ hx111_0)).trans hx111_0
                  replace hx111_1 := (HB.out.cell (World.block_lt_of_cell? w _ hx111_1)).trans hx111_1
                  replace p111 := eq_true p111
                  replace q111 := eq_true q111
                  go_wp2_with (first | ((with_reducible refine gate_dst (N := 9) rfl ?_); refine box_event ?hg (N := 9) ?hd (cs := #[.int .i64 0, .int .i64 0]) (t := 32) ?hr ?_; (case hd => rfl); (case hg => rfl); (case hr => first | (go_simp; done) | (go_simp; rfl)); intro gb112 hg w19 hbox hb; have n0_ := Aside0.mk (Kd.R_below (by (with_reducible repeat (first | apply Kd.R_alloc | apply Kd.R_drewN | apply Kd.R_drew)); exact HO_7.out) hb); have n1_ := Aside0.mk (below_step (by repeat (first | (with_reducible first | exact HB.out | apply below_alloc | apply pw_below_drewN | apply below_drew1) | exact HB.out)) hb); have n2_ := Aside0.mk (hbox); have n3_ := Aside0.mk ((by rw [hg]; exact (below_size (by repeat (first | (with_reducible first | exact HB.out | apply below_alloc | apply pw_below_drewN | apply below_drew1) | exact HB.out))) : w.heap.size ≤ gb112)); have n4_ := Aside0.mk ((by rw [hg]; exact (below_size (by repeat (first | (with_reducible first | exact HB.out | apply below_alloc | apply pw_below_drewN | apply below_drew1) | exact HB.out))) : w.heap.size ≤ gb112)); clear HO_7; clear HB; have HO_7 := n0_; have HB := n1_; have BK112 := n2_; have GW112 := n3_; have GE112 := n4_; clear n0_ n1_ n2_ n3_ n4_; clear hb hbox hg; have hcz20_0 : w19.cell? ⟨gb112, 0, none⟩ = some (.int .i64 0) := (blk_cell BK112.out 0).trans rfl; have hcz20_1 : w19.cell? ⟨gb112, 1, none⟩ = some (.int .i64 0) := (blk_cell BK112.out 1).trans rfl; have hfz20_0 := blk_frozen BK112.out 0; have hfz20_1 := blk_frozen BK112.out 1) | ((with_reducible refine gate_store (t := 32) (p := 9) rfl ?_); refine store_event (t := 32) (p := 9) (v := ?vo_w21) (w1 := ((w19.setCell ⟨gb112, 0, none⟩ (.int .i64 ((rd_T32 l1 x25_1).f0))).setCell ⟨gb112, 1, none⟩ (.int .i64 ((rd_T32 l1 x25_1).f1)))) ?hg ?ho ?hn ?hr ?_; (case ho => rfl); (case hg => rfl); (case hn => rfl); (case hr => first | (go_simp; done) | (go_simp; rfl)); intro w21 hw; have n0_ : Aside0 (Kd.R (Kd.int .i64) 3 w21 w.heap.size (fun _ => True) v109 x7_1) := ⟨(by rw [hw]; exact (by (with_reducible repeat (first | apply Kd.R_alloc | apply Kd.R_drewN | apply Kd.R_drew)); exact Kd.R_mono (Kd.R_far (p := ⟨gb112, 1, none⟩) (Kd.R_far (p := ⟨gb112, 0, none⟩) (Kd.R_types HO_7.out BK112.out (by decide)) (fun _ hk => hk.2) (.int .i64 ((rd_T32 l1 x25_1).f0))) (fun _ hk => hk.2) (.int .i64 ((rd_T32 l1 x25_1).f1))) (fun _ hk => trivial)))⟩; have n1_ : Aside0 (w21.heap[gb112]? = some (.cells #[.int .i64 ((rd_T32 l1 x25_1).f0), .int .i64 ((rd_T32 l1 x25_1).f1)] 32 (0, 0))) := ⟨(by rw [hw]; exact (by (with_reducible repeat (first | refine blk_drewN ?_ _ | refine blk_drew ?_ | refine blk_alloc ?_ _)); refine blk_put (cs := #[.int .i64 ((rd_T32 l1 x25_1).f0), .int .i64 0]) ?_ 1 _ rfl; (with_reducible repeat (first | refine blk_drewN ?_ _ | refine blk_drew ?_ | refine blk_alloc ?_ _)); refine blk_put (cs := #[.int .i64 0, .int .i64 0]) ?_ 0 _ rfl; (with_reducible repeat (first | refine blk_drewN ?_ _ | refine blk_drew ?_ | refine blk_alloc ?_ _)); exact BK112.out))⟩; have n2_ : Aside0 (Below w.heap.size w w21) := ⟨(by rw [hw]; exact (by repeat (first | (with_reducible first | exact HB.out | apply below_alloc | apply pw_below_drewN | apply below_drew1 | refine below_set ?_ GE112.out) | exact HB.out)))⟩; clear hw; clear HO_7; clear BK112; clear HB; have HO_7 := n0_; have BK112 := n1_; have HB := n2_; clear n0_ n1_ n2_; have hcz22_0 : w21.cell? ⟨gb112, 0, none⟩ = some (.int .i64 ((rd_T32 l1 x25_1).f0)) := (blk_cell BK112.out 0).trans rfl; have hcz22_1 : w21.cell? ⟨gb112, 1, none⟩ = some (.int .i64 ((rd_T32 l1 x25_1).f1)) := (blk_cell BK112.out 1).trans rfl; have hfz22_0 := blk_frozen BK112.out 0; have hfz22_1 := blk_frozen BK112.out 1; have p18 : 0 ≤ (x25_1 : Int) := of_decide_eq_true (by first | (with_reducible assumption) | assumption); have q18 : (x25_1 : Int) < ((x7_1.length : Int) : Int) := of_decide_eq_true (by first | (with_reducible assumption) | assumption); obtain ⟨go18, co18, eo18, gb18, gl18, cl18, HG18⟩ := Kd.R_form HO_7.out (by omega); (first | cases eo18 | (injection eo18 with ea_ en_ ec_; (first | subst ea_ | (injection ea_ with ea_; subst ea_)); subst ec_; clear en_)); have GB18 := Aside0.mk gb18; have GG18 := Aside0.mk HG18; clear gb18 gl18 HG18; obtain ⟨hx18_0, hf18_0⟩ := Kd.R_celln 0 HO_7.out (x25_1 : Int) p18 q18; replace p18 := eq_true p18; replace q18 := eq_true q18; obtain ⟨hy23_, hz23_⟩ := Kd.R_celln 0 HO_7.out (x25_1 : Int) (of_decide_eq_true (by first | (with_reducible assumption) | assumption)) (of_decide_eq_true (by first | (with_reducible assumption) | assumption)); have HP23 := Kd.R_putg HO_7.out (x25_1 : Int) (wrap64 ((ji14) + (ji16)))) | ((with_reducible refine gate_store (t := 3) (p := 53) rfl ?_); refine store_event (t := 3) (p := 53) (v := ?vo_w24) (w1 := (w21.setCell ⟨go18, (x25_1 : Int).toNat, none⟩ (.int .i64 (wrap64 ((ji14) + (ji16)))))) ?hg ?ho ?hn ?hr ?_; (case ho => rfl); (case hg => rfl); (case hn => rfl); (case hr => first | (go_simp; done) | (go_simp; rfl)); intro w24 hw; have hg : w21.grownBy w24 (some go18) := (by rw [hw]; exact HP23.2); have hp_ : Kd.R (Kd.int .i64) 3 w24 w.heap.size (fun _ => True) (.slice (some ⟨go18, 0, none⟩) x7_1.length co18) y113 := (by rw [hw, Ny113.out]; exact HP23.1); clear HP23; have n0_ := Aside0.mk (hp_); have n1_ := Aside0.mk (blk_grown (g := gb112) (o := .cells #[.int .i64 ((rd_T32 l1 x25_1).f0), .int .i64 ((rd_T32 l1 x25_1).f1)] 32 (0, 0)) (by (with_reducible repeat (first | refine blk_drewN ?_ _ | refine blk_drew ?_ | refine blk_alloc ?_ _)); exact BK112.out) hg (Kd.R_ne HO_7.out BK112.out (by decide))); have n2_ := Aside0.mk ((by rw [hw]; exact below_set (HB.out) GB18.out : Below w.heap.size w w24)); clear HO_7; clear BK112; clear HB; have HO_7 := n0_; have BK112 := n1_; have HB := n2_; clear n0_ n1_ n2_; clear hg hw hp_))
                  go_roundg k1
                  case measure => have := HK1.out; omega
                  case rel => exact ⟨(wrap64 (x6_1 - (ji16))), (y113), (wrap64 (x25_1 + 1)), (by first | rfl | (simp; done) | (simp only [← hji16] <;> (first | rfl | simp)) | (simp [*]; done)), (by first | rfl | (simp; done) | (simp [*]; done)), H', ⟨by have := HK1.out; omega⟩, ⟨by (with_reducible repeat (first | apply Kd.R_alloc | apply Kd.R_drewN | apply Kd.R_drew)); exact HO_7.out⟩, ⟨by repeat (first | (with_reducible first | exact HB.out | apply below_alloc | apply pw_below_drewN | apply below_drew1 | refine below_set ?_ GE112.out) | exact HB.out)⟩⟩
                · rw [if_neg c17] at H
                  exact absurd H (by simp)
              · rw [if_neg c13] at H
                exact absurd H (by simp)
            · rw [if_neg c12] at H
              exact absurd H (by simp)
          · rw [if_neg c11] at H
            have c11b0 : decide (x25_1 < (l1.length : Int)) = false := decide_eq_false c11
            clear c11
            obtain rfl := Option.some.inj H
            go_wp2
            go_ret
            exact ⟨_, by first | rfl | (simp [errW_none, errW_some] <;> rfl) | (simp [*, errW_none, errW_some] <;> rfl), by (with_reducible repeat (first | apply Kd.R_alloc | apply Kd.R_drewN | apply Kd.R_drew)); exact HO_7.out, by repeat (first | (with_reducible first | exact HB.out | apply below_alloc | apply pw_below_drewN | apply below_drew1) | exact HB.out)⟩
    · rw [if_neg c6] at H
      exact absurd H (by simp)
  · rw [if_neg c5] at H
    exact absurd H (by simp)

end Go.Proofs.Yteieknlkcodkcaa.Q
namespace Go.Proofs.Yteieknlkcodkcaa.Q
open Go.RowKit Go.Proofs.YteieknlkcodkcaaW.PrintWords Go.Proofs.YteieknlkcodkcaaW.PrintLast Go.Proofs.YteieknlkcodkcaaW.PrintMore
attribute [local go_sem] max2_int min2_int max_two min_two max_three min_three max_four min_four   -- for this text's walks alone
set_option linter.unusedVariables false
set_option linter.unusedSimpArgs false

/-! ### quota_Explains: function 18 -/
mutual
def quota_Explains.l0 : Nat → Int → List Int → Int → Int → Int → Int → List (S32) → Int → Int → Option (Bool)
  | 0, _, _, _, _, _, _, _, _, _ => none
  | k + 1, x0, x2, x7, x8, x9, x10, x18, x19, x20 => if x20 < x19 then (if 0 ≤ x20 then (if x20 < (x18.length : Int) then (if x20 < (x2.length : Int) then (if (rd x2 x20) < 0 then (quota_Explains.j1 k x0 x2 x7 x8 x9 x10 x20 x18 x19 x20 true ((rd_T32 x18 x20).f0) ((rd_T32 x18 x20).f1)) else (quota_Explains.j1 k x0 x2 x7 x8 x9 x10 x20 x18 x19 x20 (decide ((rd x2 x20) > ((rd_T32 x18 x20).f1))) ((rd_T32 x18 x20).f0) ((rd_T32 x18 x20).f1))) else (none)) else (none)) else (none)) else (if x7 = (mn x0 x8) then (some (decide (x9 ≤ x10))) else (some false))
def quota_Explains.j1 : Nat → Int → List Int → Int → Int → Int → Int → Int → List (S32) → Int → Int → Bool → Int → Int → Option (Bool)
  | 0, _, _, _, _, _, _, _, _, _, _, _, _, _ => none
  | k + 1, x0, x2, x7, x8, x9, x10, x11, x18, x19, x20, x38, x116000, x116001 => if x38 = true then (some false) else (if 0 ≤ x11 then (if x11 < (x2.length : Int) then (if x116000 = 0 then (none) else (if (rd x2 x11) < x116001 then (quota_Explains.l0 k x0 x2 (wrap64 (x7 + (rd x2 x11))) (wrap64 (x8 + x116001)) (mx x9 (wrap64 ((wrap64 (Int.tdiv (wrap64 ((wrap64 ((rd x2 x11) + x116000)) - 1)) x116000)) - 1))) (mn x10 (wrap64 (Int.tdiv (rd x2 x11) x116000))) x18 x19 (wrap64 (x20 + 1))) else (quota_Explains.l0 k x0 x2 (wrap64 (x7 + (rd x2 x11))) (wrap64 (x8 + x116001)) (mx x9 (wrap64 ((wrap64 (Int.tdiv (wrap64 ((wrap64 ((rd x2 x11) + x116000)) - 1)) x116000)) - 1))) x10 x18 x19 (wrap64 (x20 + 1))))) else (none)) else (none))
end
def quota_Explains.f (k : Nat) (a0 : Int) (l1 : List (S32)) (l2 : List Int) : Option (Bool) := if (l2.length : Int) = (l1.length : Int) then (quota_Explains.l0 k a0 l2 0 0 0 1099511627776 l1 (l1.length : Int) 0) else (some false)
theorem quota_Explains.mono_l : ∀ k, (∀ y0 y1 y2 y3 y4 y5 y6 y7 y8, LeO (quota_Explains.l0 k y0 y1 y2 y3 y4 y5 y6 y7 y8) (quota_Explains.l0 (k + 1) y0 y1 y2 y3 y4 y5 y6 y7 y8)) ∧ (∀ y0 y1 y2 y3 y4 y5 y6 y7 y8 y9 y10 y11 y12, LeO (quota_Explains.j1 k y0 y1 y2 y3 y4 y5 y6 y7 y8 y9 y10 y11 y12) (quota_Explains.j1 (k + 1) y0 y1 y2 y3 y4 y5 y6 y7 y8 y9 y10 y11 y12))
  | 0 => ⟨fun _ _ _ _ _ _ _ _ _ r h => by simp [quota_Explains.l0] at h, fun _ _ _ _ _ _ _ _ _ _ _ _ _ r h => by simp [quota_Explains.j1] at h⟩
  | k + 1 => by
    obtain ⟨ih0, ih1⟩ := quota_Explains.mono_l k
    refine ⟨?_, ?_⟩
    · intro y0 y1 y2 y3 y4 y5 y6 y7 y8
      unfold quota_Explains.l0
      repeat' first
      | (with_reducible exact ih0 _ _ _ _ _ _ _ _ _)
      | (with_reducible exact ih1 _ _ _ _ _ _ _ _ _ _ _ _ _)
      | (with_reducible exact LeO.refl _)
      | (with_reducible exact LeO.none _)
      | (with_reducible refine LeO.ite ?_ ?_)
      | (with_reducible refine LeO.bind ?_ (fun _ => ?_))
      | exact ih0 _ _ _ _ _ _ _ _ _
      | exact ih1 _ _ _ _ _ _ _ _ _ _ _ _ _
      | exact LeO.none _
      | refine LeO.ite ?_ ?_
      | refine LeO.bind ?_ (fun _ => ?_)
    · intro y0 y1 y2 y3 y4 y5 y6 y7 y8 y9 y10 y11 y12
      unfold quota_Explains.j1
      repeat' first
      | (with_reducible exact ih0 _ _ _ _ _ _ _ _ _)
      | (with_reducible exact ih1 _ _ _ _ _ _ _ _ _ _ _ _ _)
      | (with_reducible exact LeO.refl _)
      | (with_reducible exact LeO.none _)
      | (with_reducible refine LeO.ite ?_ ?_)
      | (with_reducible refine LeO.bind ?_ (fun _ => ?_))
      | exact ih0 _ _ _ _ _ _ _ _ _
      | exact ih1 _ _ _ _ _ _ _ _ _ _ _ _ _
      | exact LeO.none _
      | refine LeO.ite ?_ ?_
      | refine LeO.bind ?_ (fun _ => ?_)
theorem quota_Explains.mono : ∀ a0 a1 a2 k, LeO (quota_Explains.f k a0 a1 a2) (quota_Explains.f (k + 1) a0 a1 a2) := by
  intro a0 a1 a2 k
  obtain ⟨ih0, ih1⟩ := quota_Explains.mono_l k
  unfold quota_Explains.f
  repeat' first
      | (with_reducible exact ih0 _ _ _ _ _ _ _ _ _)
      | (with_reducible exact ih1 _ _ _ _ _ _ _ _ _ _ _ _ _)
      | (with_reducible exact LeO.refl _)
      | (with_reducible exact LeO.none _)
      | (with_reducible refine LeO.ite ?_ ?_)
      | (with_reducible refine LeO.bind ?_ (fun _ => ?_))
      | exact ih0 _ _ _ _ _ _ _ _ _
      | exact ih1 _ _ _ _ _ _ _ _ _ _ _ _ _
      | exact LeO.none _
      | refine LeO.ite ?_ ?_
      | refine LeO.bind ?_ (fun _ => ?_)
set_option maxHeartbeats 8000000 in
set_option maxRecDepth 100000 in
theorem quota_Explains.calls (k : Nat) (a0 : Int) (A1 : Option Addr) (c1 : Nat) (l1 : List (S32)) (A2 : Option Addr) (c2 : Nat) (l2 : List Int) (r : Bool) (w : World) (hr1 : Kd.C k32 w A1 l1.length l1) (hc1 : l1.length ≤ c1) (hr2 : Kd.C (Kd.int .i64) w A2 l2.length l2) (hc2 : l2.length ≤ c2) (h : quota_Explains.f k a0 l1 l2 = some r) :
    Calls Try.prog 18 #[.int .i64 a0, .slice A1 l1.length c1, .slice A2 l2.length c2] w fun e w' => e = .returned (.bool r) ∧ Below w.heap.size w w' := by
  have hu32 := Try.underlying32
  have HR1 := Aside0.mk hr1
  have HC1 := Aside0.mk hc1
  clear hr1 hc1
  have HR2 := Aside0.mk hr2
  have HC2 := Aside0.mk hc2
  clear hr2 hc2
  have HB := Aside0.mk (Below.refl w.heap.size w)
  have H : (if (l2.length : Int) = (l1.length : Int) then (quota_Explains.l0 k a0 l2 0 0 0 1099511627776 l1 (l1.length : Int) 0) else (some false)) = some r := h
  clear h
  by_cases c4 : (l2.length : Int) = (l1.length : Int)
  · rw [if_pos c4] at H
    have c4b0 : ((l2.length : Int) == (l1.length : Int)) = true := beq_iff_eq.mpr c4
    have c4b1 : ((l2.length : Int) != (l1.length : Int)) = false := bne_eq_false_iff_eq.mpr c4
    have c4b2 : (l2.length == l1.length) = true := by first | simpa using c4 | (simp at c4 ⊢; omega)
    clear c4
    have H' := Aside0.mk H
    clear H
    go_enter Try.func18, Try.ntmps18
    go_wp2
    repeat (go_quiet (fail); try go_wp2)
    go_loopg [7, 8, 9, 10, 20] k (fun kq v7 v8 v9 v10 v20 w' => ∃ (x7_1 : Int) (x8_1 : Int) (x9_1 : Int) (x10_1 : Int) (x20_1 : Int), v7 = .int .i64 x7_1 ∧ v8 = .int .i64 x8_1 ∧ v9 = .int .i64 x9_1 ∧ v10 = .int .i64 x10_1 ∧ v20 = .int .i64 x20_1 ∧ Aside0 (quota_Explains.l0 kq a0 l2 x7_1 x8_1 x9_1 x10_1 l1 (l1.length : Int) x20_1 = some r) ∧ Aside0 (kq ≤ k) ∧ Aside0 (Below w.heap.size w w'))
    case atStart => exact ⟨(0), (0), (0), (1099511627776), (0), (by first | rfl | (simp; done) | (simp [*]; done)), (by first | rfl | (simp; done) | (simp [*]; done)), (by first | rfl | (simp; done) | (simp [*]; done)), (by first | rfl | (simp; done) | (simp [*]; done)), (by first | rfl | (simp; done) | (simp [*]; done)), H', ⟨Nat.le_refl _⟩, ⟨by repeat (first | (with_reducible first | exact HB.out | apply below_alloc | apply pw_below_drewN | apply below_drew1) | exact HB.out)⟩⟩
    case round =>
      clear H'
      try clear c1
      try clear c2
      try clear p2
      try clear c4
      try clear c4b0
      try clear c4b1
      try clear c4b2
      obtain ⟨x7_1, x8_1, x9_1, x10_1, x20_1, rfl, rfl, rfl, rfl, rfl, HA, HK1, HB⟩ := hrel
      cases gk with
      | zero => exact absurd HA.out (by simp [quota_Explains.l0])
      | succ k1 =>
        have H := HA.out
        clear HA
        simp only [quota_Explains.l0] at H
        by_cases c5 : x20_1 < (l1.length : Int)
        · rw [if_pos c5] at H
          have c5b0 : decide (x20_1 < (l1.length : Int)) = true := decide_eq_true c5
          clear c5
          by_cases c6 : 0 ≤ x20_1
          · rw [if_pos c6] at H
            have c6b0 : decide (0 ≤ x20_1) = true := decide_eq_true c6
            clear c6
            by_cases c7 : x20_1 < (l1.length : Int)
            · rw [if_pos c7] at H
              have c7b0 : decide (x20_1 < (l1.length : Int)) = true := decide_eq_true c7
              clear c7
              have HC8 := Aside0.mk H
              clear H
              have p114 : 0 ≤ (x20_1 : Int) := of_decide_eq_true (by first | (with_reducible assumption) | assumption)
              have q114 : x20_1 < (l1.length : Int) := of_decide_eq_true (by first | (with_reducible assumption) | assumption)
              obtain ⟨ad114, e114, hx114_0, hx114_1⟩ := at_T32 HR1.out x20_1 p114 q114
              cases e114
              replace hx114_0 := (HB.out.cell (World.block_lt_of_cell? w _ hx114_0)).trans hx114_0
              replace hx114_1 := (HB.out.cell (World.block_lt_of_cell? w _ hx114_1)).trans hx114_1
              replace p114 := eq_true p114
              replace q114 := eq_true q114
              go_upto_region 7 with (first | ((with_reducible refine gate_dst (N := 12) rfl ?_); refine box_event ?hg (N := 12) ?hd (cs := #[.int .i64 0, .int .i64 0]) (t := 32) ?hr ?_; (case hd => rfl); (case hg => rfl); (case hr => first | (go_simp; done) | (go_simp; rfl)); intro gb115 hg w9 hbox hb; have n0_ := Aside0.mk (below_step (by repeat (first | (with_reducible first | exact HB.out | apply below_alloc | apply pw_below_drewN | apply below_drew1) | exact HB.out)) hb); have n1_ := Aside0.mk (hbox); have n2_ := Aside0.mk ((by rw [hg]; exact (below_size (by repeat (first | (with_reducible first | exact HB.out | apply below_alloc | apply pw_below_drewN | apply below_drew1) | exact HB.out))) : w.heap.size ≤ gb115)); have n3_ := Aside0.mk ((by rw [hg]; exact (below_size (by repeat (first | (with_reducible first | exact HB.out | apply below_alloc | apply pw_below_drewN | apply below_drew1) | exact HB.out))) : w.heap.size ≤ gb115)); clear HB; have HB := n0_; have BK115 := n1_; have GW115 := n2_; have GE115 := n3_; clear n0_ n1_ n2_ n3_; clear hb hbox hg; have hcz10_0 : w9.cell? ⟨gb115, 0, none⟩ = some (.int .i64 0) := (blk_cell BK115.out 0).trans rfl; have hcz10_1 : w9.cell? ⟨gb115, 1, none⟩ = some (.int .i64 0) := (blk_cell BK115.out 1).trans rfl; have hfz10_0 := blk_frozen BK115.out 0; have hfz10_1 := blk_frozen BK115.out 1))
              repeat (go_quiet (first | ((with_reducible refine gate_dst (N := 12) rfl ?_); refine box_event ?hg (N := 12) ?hd (cs := #[.int .i64 0, .int .i64 0]) (t := 32) ?hr ?_; (case hd => rfl); (case hg => rfl); (case hr => first | (go_simp; done) | (go_simp; rfl)); intro gb115 hg w9 hbox hb; have n0_ := Aside0.mk (below_step (by repeat (first | (with_reducible first | exact HB.out | apply below_alloc | apply pw_below_drewN | apply below_drew1) | exact HB.out)) hb); have n1_ := Aside0.mk (hbox); have n2_ := Aside0.mk ((by rw [hg]; exact (below_size (by repeat (first | (with_reducible first | exact HB.out | apply below_alloc | apply pw_below_drewN | apply below_drew1) | exact HB.out))) : w.heap.size ≤ gb115)); have n3_ := Aside0.mk ((by rw [hg]; exact (below_size (by repeat (first | (with_reducible first | exact HB.out | apply below_alloc | apply pw_below_drewN | apply below_drew1) | exact HB.out))) : w.heap.size ≤ gb115)); clear HB; have HB := n0_; have BK115 := n1_; have GW115 := n2_; have GE115 := n3_; clear n0_ n1_ n2_ n3_; clear hb hbox hg; have hcz10_0 : w9.cell? ⟨gb115, 0, none⟩ = some (.int .i64 0) := (blk_cell BK115.out 0).trans rfl; have hcz10_1 : w9.cell? ⟨gb115, 1, none⟩ = some (.int .i64 0) := (blk_cell BK115.out 1).trans rfl; have hfz10_0 := blk_frozen BK115.out 0; have hfz10_1 := blk_frozen BK115.out 1)); go_upto_region 7 with (first | ((with_reducible refine gate_dst (N := 12) rfl ?_); refine box_event ?hg (N := 12) ?hd (cs := #[.int .i64 0, .int .i64 0]) (t := 32) ?hr ?_; (case hd => rfl); (case hg => rfl); (case hr => first | (go_simp; done) | (go_simp; rfl)); intro gb115 hg w9 hbox hb; have n0_ := Aside0.mk (below_step (by repeat (first | (with_reducible first | exact HB.out | apply below_alloc | apply pw_below_drewN | apply below_drew1) | exact HB.out)) hb); have n1_ := Aside0.mk (hbox); have n2_ := Aside0.mk ((by rw [hg]; exact (below_size (by repeat (first | (with_reducible first | exact HB.out | apply below_alloc | apply pw_below_drewN | apply below_drew1) | exact HB.out))) : w.heap.size ≤ gb115)); have n3_ := Aside0.mk ((by rw [hg]; exact (below_size (by repeat (first | (with_reducible first | exact HB.out | apply below_alloc | apply pw_below_drewN | apply below_drew1) | exact HB.out))) : w.heap.size ≤ gb115)); clear HB; have HB := n0_; have BK115 := n1_; have GW115 := n2_; have GE115 := n3_; clear n0_ n1_ n2_ n3_; clear hb hbox hg; have hcz10_0 : w9.cell? ⟨gb115, 0, none⟩ = some (.int .i64 0) := (blk_cell BK115.out 0).trans rfl; have hcz10_1 : w9.cell? ⟨gb115, 1, none⟩ = some (.int .i64 0) := (blk_cell BK115.out 1).trans rfl; have hfz10_0 := blk_frozen BK115.out 0; have hfz10_1 := blk_frozen BK115.out 1)))
              (try simp only [Act.put, List.setIfInBounds_toArray, List.set_cons_zero, List.set_cons_succ])
              go_cut [38] (fun v38 wc => ∃ (kq : Nat) (x38_7 : Bool), v38 = .bool x38_7 ∧ Aside0 (quota_Explains.j1 kq a0 l2 x7_1 x8_1 x9_1 x10_1 x20_1 l1 (l1.length : Int) x20_1 x38_7 ((rd_T32 l1 x20_1).f0) ((rd_T32 l1 x20_1).f1) = some r) ∧ Aside0 (kq ≤ k1) ∧ Aside0 (wc.heap[gb115]? = some (.cells #[.int .i64 ((rd_T32 l1 x20_1).f0), .int .i64 ((rd_T32 l1 x20_1).f1)] 32 (0, 0))) ∧ Aside0 (Below w.heap.size w wc))
              case first =>
                have H := HC8.out
                clear HC8
                by_cases c11 : x20_1 < (l2.length : Int)
                · rw [if_pos c11] at H
                  have c11b0 : decide (x20_1 < (l2.length : Int)) = true := decide_eq_true c11
                  clear c11
                  (first | rw [c11b0] | (simp only [i64_w, i32_w]; rw [c11b0]) | skip)
                  by_cases c12 : (rd l2 x20_1) < 0
                  · rw [if_pos c12] at H
                    have c12b0 : decide ((rd l2 x20_1) < 0) = true := decide_eq_true c12
                    clear c12
                    have H' := Aside0.mk H
                    clear H
                    have p116 : 0 ≤ (x20_1 : Int) := of_decide_eq_true (by first | (with_reducible assumption) | assumption)
                    have q116 : x20_1 < (l2.length : Int) := of_decide_eq_true (by first | (with_reducible assumption) | assumption)
                    obtain ⟨ad116, e116, hx116_0⟩ := Kd.at_int HR2.out x20_1 p116 q116
                    cases e116
                    have hn116_0 : ad116.block ≠ gb115 := Nat.ne_of_lt (Nat.lt_of_lt_of_le (by have := World.block_lt_of_cell? _ _ hx116_0; first | rwa [add_block] at this | exact this) GW115.out)
                    have hn116_1 : ad116.block ≠ gb115 := Nat.ne_of_lt (Nat.lt_of_lt_of_le (by have := World.block_lt_of_cell? _ _ hx116_0; first | rwa [add_block] at this | exact this) GW115.out)
                    replace hx116_0 := (HB.out.cell (World.block_lt_of_cell? w _ hx116_0)).trans hx116_0
                    replace hx116_0 := (cell_far (p := ⟨gb115, 0, none⟩) (by first | (rw [add_block]; exact hn116_0) | (show (Addr.add _ _).block ≠ _; rw [add_block]; exact hn116_0) | exact hn116_0) (.int .i64 ((rd_T32 l1 x20_1).f0))).trans hx116_0
                    replace hx116_0 := (cell_far (p := ⟨gb115, 1, none⟩) (by first | (rw [add_block]; exact hn116_1) | (show (Addr.add _ _).block ≠ _; rw [add_block]; exact hn116_1) | exact hn116_1) (.int .i64 ((rd_T32 l1 x20_1).f1))).trans hx116_0
                    (try have hy116_0 := fun (n_ : Nat) => (show ((((w9.drewN n_).setCell ⟨gb115, 0, none⟩ (.int .i64 ((rd_T32 l1 x20_1).f0))).setCell ⟨gb115, 1, none⟩ (.int .i64 ((rd_T32 l1 x20_1).f1)))).cell? _ = some _ from hx116_0))
                    clear hn116_0
                    clear hn116_1
                    replace p116 := eq_true p116
                    replace q116 := eq_true q116
                    go_wp2
                    repeat (go_quiet (fail); try go_wp2)
                    go_meet
                    case rel => exact ⟨_, (true), (by first | rfl | (simp; done) | (simp [*]; done)), H', ⟨by have := HK1.out; first | omega | exact Nat.le_refl _⟩, ⟨by (with_reducible repeat (first | refine blk_drewN ?_ _ | refine blk_drew ?_ | refine blk_alloc ?_ _)); refine blk_put (cs := #[.int .i64 ((rd_T32 l1 x20_1).f0), .int .i64 0]) ?_ 1 _ rfl; (with_reducible repeat (first | refine blk_drewN ?_ _ | refine blk_drew ?_ | refine blk_alloc ?_ _)); refine blk_put (cs := #[.int .i64 0, .int .i64 0]) ?_ 0 _ rfl; (with_reducible repeat (first | refine blk_drewN ?_ _ | refine blk_drew ?_ | refine blk_alloc ?_ _)); exact BK115.out⟩, ⟨by repeat (first | (with_reducible first | exact HB.out | apply below_alloc | apply pw_below_drewN | apply below_drew1 | refine below_set ?_ GE115.out) | exact HB.out)⟩⟩
                  · rw [if_neg c12] at H
                    have c12b0 : decide ((rd l2 x20_1) < 0) = false := decide_eq_false c12
                    clear c12
                    have H' := Aside0.mk H
                    clear H
                    have p116 : 0 ≤ (x20_1 : Int) := of_decide_eq_true (by first | (with_reducible assumption) | assumption)
                    have q116 : x20_1 < (l2.length : Int) := of_decide_eq_true (by first | (with_reducible assumption) | assumption)
                    obtain ⟨ad116, e116, hx116_0⟩ := Kd.at_int HR2.out x20_1 p116 q116
                    cases e116
                    have hn116_0 : ad116.block ≠ gb115 := Nat.ne_of_lt (Nat.lt_of_lt_of_le (by have := World.block_lt_of_cell? _ _ hx116_0; first | rwa [add_block] at this | exact this) GW115.out)
                    have hn116_1 : ad116.block ≠ gb115 := Nat.ne_of_lt (Nat.lt_of_lt_of_le (by have := World.block_lt_of_cell? _ _ hx116_0; first | rwa [add_block] at this | exact this) GW115.out)
                    replace hx116_0 := (HB.out.cell (World.block_lt_of_cell? w _ hx116_0)).trans hx116_0
                    replace hx116_0 := (cell_far (p := ⟨gb115, 0, none⟩) (by first | (rw [add_block]; exact hn116_0) | (show (Addr.add _ _).block ≠ _; rw [add_block]; exact hn116_0) | exact hn116_0) (.int .i64 ((rd_T32 l1 x20_1).f0))).trans hx116_0
                    replace hx116_0 := (cell_far (p := ⟨gb115, 1, none⟩) (by first | (rw [add_block]; exact hn116_1) | (show (Addr.add _ _).block ≠ _; rw [add_block]; exact hn116_1) | exact hn116_1) (.int .i64 ((rd_T32 l1 x20_1).f1))).trans hx116_0
                    (try have hy116_0 := fun (n_ : Nat) => (show ((((w9.drewN n_).setCell ⟨gb115, 0, none⟩ (.int .i64 ((rd_T32 l1 x20_1).f0))).setCell ⟨gb115, 1, none⟩ (.int .i64 ((rd_T32 l1 x20_1).f1)))).cell? _ = some _ from hx116_0))
                    clear hn116_0
                    clear hn116_1
                    replace p116 := eq_true p116
                    replace q116 := eq_true q116
                    have p117 : 0 ≤ (x20_1 : Int) := of_decide_eq_true (by first | (with_reducible assumption) | assumption)
                    have q117 : x20_1 < (l2.length : Int) := of_decide_eq_true (by first | (with_reducible assumption) | assumption)
                    obtain ⟨ad117, e117, hx117_0⟩ := Kd.at_int HR2.out x20_1 p117 q117
                    obtain rfl : ad116 = ad117 := (by injection e117)
                    have hn117_0 : ad116.block ≠ gb115 := Nat.ne_of_lt (Nat.lt_of_lt_of_le (by have := World.block_lt_of_cell? _ _ hx117_0; first | rwa [add_block] at this | exact this) GW115.out)
                    have hn117_1 : ad116.block ≠ gb115 := Nat.ne_of_lt (Nat.lt_of_lt_of_le (by have := World.block_lt_of_cell? _ _ hx117_0; first | rwa [add_block] at this | exact this) GW115.out)
                    replace hx117_0 := (HB.out.cell (World.block_lt_of_cell? w _ hx117_0)).trans hx117_0
                    replace hx117_0 := (cell_far (p := ⟨gb115, 0, none⟩) (by first | (rw [add_block]; exact hn117_0) | (show (Addr.add _ _).block ≠ _; rw [add_block]; exact hn117_0) | exact hn117_0) (.int .i64 ((rd_T32 l1 x20_1).f0))).trans hx117_0
                    replace hx117_0 := (cell_far (p := ⟨gb115, 1, none⟩) (by first | (rw [add_block]; exact hn117_1) | (show (Addr.add _ _).block ≠ _; rw [add_block]; exact hn117_1) | exact hn117_1) (.int .i64 ((rd_T32 l1 x20_1).f1))).trans hx117_0
                    (try have hy117_0 := fun (n_ : Nat) => (show ((((w9.drewN n_).setCell ⟨gb115, 0, none⟩ (.int .i64 ((rd_T32 l1 x20_1).f0))).setCell ⟨gb115, 1, none⟩ (.int .i64 ((rd_T32 l1 x20_1).f1)))).cell? _ = some _ from hx117_0))
                    clear hn117_0
                    clear hn117_1
                    replace p117 := eq_true p117
                    replace q117 := eq_true q117
                    have hcz13_0 : w9.cell? ⟨gb115, 0, none⟩ = some (.int .i64 0) := (blk_cell BK115.out 0).trans rfl
                    have hcz13_1 : w9.cell? ⟨gb115, 1, none⟩ = some (.int .i64 0) := (blk_cell BK115.out 1).trans rfl
                    have hfz13_0 := blk_frozen BK115.out 0
                    have hfz13_1 := blk_frozen BK115.out 1
                    go_wp2
                    repeat (go_quiet (fail); try go_wp2)
                    go_meet
                    case rel => exact ⟨_, (decide ((rd l2 x20_1) > ((rd_T32 l1 x20_1).f1))), (by first | rfl | (simp; done) | (simp [*]; done)), H', ⟨by have := HK1.out; first | omega | exact Nat.le_refl _⟩, ⟨by (with_reducible repeat (first | refine blk_drewN ?_ _ | refine blk_drew ?_ | refine blk_alloc ?_ _)); refine blk_put (cs := #[.int .i64 ((rd_T32 l1 x20_1).f0), .int .i64 0]) ?_ 1 _ rfl; (with_reducible repeat (first | refine blk_drewN ?_ _ | refine blk_drew ?_ | refine blk_alloc ?_ _)); refine blk_put (cs := #[.int .i64 0, .int .i64 0]) ?_ 0 _ rfl; (with_reducible repeat (first | refine blk_drewN ?_ _ | refine blk_drew ?_ | refine blk_alloc ?_ _)); exact BK115.out⟩, ⟨by repeat (first | (with_reducible first | exact HB.out | apply below_alloc | apply pw_below_drewN | apply below_drew1 | refine below_set ?_ GE115.out) | exact HB.out)⟩⟩
                · rw [if_neg c11] at H
                  exact absurd H (by simp)
              case rest =>
                clear HC8
                try clear c1
                try clear p1
                try clear q1
                try clear hx1
                try clear c2
                try clear p2
                try clear c4
                try clear c4b0
                try clear c4b1
                try clear c4b2
                try clear c5
                try clear c5b0
                try clear c6
                try clear c6b0
                try clear c7
                try clear c7b0
                try clear c11
                try clear c11b0
                try clear p11
                try clear q11
                try clear hx11
                try clear c12
                try clear c12b0
                try clear hcz10_0
                try clear hcz10_1
                try clear hcz13_0
                try clear hcz13_1
                try clear hfz10_0
                try clear hfz10_1
                try clear hfz13_0
                try clear hfz13_1
                try clear hx114_0
                try clear hx114_1
                try clear hx116_0
                try clear hx117_0
                try clear p114
                try clear p116
                try clear p117
                try clear p2
                try clear q114
                try clear q116
                try clear q117
                obtain ⟨kq, x38_7, rfl, HA, HJ7, BK115, HB⟩ := hcut
                cases kq with
                | zero => exact absurd HA.out (by simp [quota_Explains.j1])
                | succ kj7 =>
                  have H := HA.out
                  clear HA
                  simp only [quota_Explains.j1] at H
                  by_cases c14 : x38_7 = true
                  · subst c14
                    have H1 : (some false) = some r := by rw [if_pos rfl] at H; exact H
                    clear H
                    have H := H1
                    clear H1
                    obtain rfl := Option.some.inj H
                    go_wp2
                    repeat (go_quiet (fail); try go_wp2)
                    go_ret
                    exact ⟨by first | rfl | (simp [errW_none, errW_some] <;> rfl) | (simp [*, errW_none, errW_some] <;> rfl), by repeat (first | (with_reducible first | exact HB.out | apply below_alloc | apply pw_below_drewN | apply below_drew1 | refine below_set ?_ GE115.out) | exact HB.out)⟩
                  · replace c14 := Bool.eq_false_iff.mpr c14
                    subst c14
                    have H1 : (if 0 ≤ x20_1 then (if x20_1 < (l2.length : Int) then (if ((rd_T32 l1 x20_1).f0) = 0 then (none) else (if (rd l2 x20_1) < ((rd_T32 l1 x20_1).f1) then (quota_Explains.l0 kj7 a0 l2 (wrap64 (x7_1 + (rd l2 x20_1))) (wrap64 (x8_1 + ((rd_T32 l1 x20_1).f1))) (mx x9_1 (wrap64 ((wrap64 (Int.tdiv (wrap64 ((wrap64 ((rd l2 x20_1) + ((rd_T32 l1 x20_1).f0))) - 1)) ((rd_T32 l1 x20_1).f0))) - 1))) (mn x10_1 (wrap64 (Int.tdiv (rd l2 x20_1) ((rd_T32 l1 x20_1).f0)))) l1 (l1.length : Int) (wrap64 (x20_1 + 1))) else (quota_Explains.l0 kj7 a0 l2 (wrap64 (x7_1 + (rd l2 x20_1))) (wrap64 (x8_1 + ((rd_T32 l1 x20_1).f1))) (mx x9_1 (wrap64 ((wrap64 (Int.tdiv (wrap64 ((wrap64 ((rd l2 x20_1) + ((rd_T32 l1 x20_1).f0))) - 1)) ((rd_T32 l1 x20_1).f0))) - 1))) x10_1 l1 (l1.length : Int) (wrap64 (x20_1 + 1))))) else (none)) else (none)) = some r := by rw [if_neg (show ¬ (false = true) by decide)] at H; exact H
                    clear H
                    have H := H1
                    clear H1
                    by_cases c15 : 0 ≤ x20_1
                    · rw [if_pos c15] at H
                      have c15b0 : decide (0 ≤ x20_1) = true := decide_eq_true c15
                      clear c15
                      by_cases c16 : x20_1 < (l2.length : Int)
                      · rw [if_pos c16] at H
                        have c16b0 : decide (x20_1 < (l2.length : Int)) = true := decide_eq_true c16
                        clear c16
                        by_cases c17 : ((rd_T32 l1 x20_1).f0) = 0
                        · rw [if_pos c17] at H
                          exact absurd H (by simp)
                        · rw [if_neg c17] at H
                          have c17b0 : (((rd_T32 l1 x20_1).f0) == 0) = false := beq_eq_false_iff_ne.mpr c17
                          have c17b1 : (((rd_T32 l1 x20_1).f0) != 0) = true := bne_iff_ne.mpr c17
                          obtain ⟨ji18, hji18⟩ : ∃ j_ : Int, (mx x9_1 (wrap64 ((wrap64 (Int.tdiv (wrap64 ((wrap64 ((rd l2 x20_1) + ((rd_T32 l1 x20_1).f0))) - 1)) ((rd_T32 l1 x20_1).f0))) - 1))) = j_ := ⟨_, rfl⟩
                          replace H : (if (rd l2 x20_1) < ((rd_T32 l1 x20_1).f1) then (quota_Explains.l0 kj7 a0 l2 (wrap64 (x7_1 + (rd l2 x20_1))) (wrap64 (x8_1 + ((rd_T32 l1 x20_1).f1))) ji18 (mn x10_1 (wrap64 (Int.tdiv (rd l2 x20_1) ((rd_T32 l1 x20_1).f0)))) l1 (l1.length : Int) (wrap64 (x20_1 + 1))) else (quota_Explains.l0 kj7 a0 l2 (wrap64 (x7_1 + (rd l2 x20_1))) (wrap64 (x8_1 + ((rd_T32 l1 x20_1).f1))) ji18 x10_1 l1 (l1.length : Int) (wrap64 (x20_1 + 1)))) = some r := by first | (rw [hji18] at H; exact H) | (simp only [hji18] at H ⊢; exact H)
                          have hji18_ : (if x9_1 < (wrap64 ((wrap64 (Int.tdiv (wrap64 ((wrap64 ((rd l2 x20_1) + ((rd_T32 l1 x20_1).f0))) - 1)) ((rd_T32 l1 x20_1).f0))) - 1)) then (wrap64 ((wrap64 (Int.tdiv (wrap64 ((wrap64 ((rd l2 x20_1) + ((rd_T32 l1 x20_1).f0))) - 1)) ((rd_T32 l1 x20_1).f0))) - 1)) else x9_1) = ji18 := hji18
                          by_cases c19 : (rd l2 x20_1) < ((rd_T32 l1 x20_1).f1)
                          · rw [if_pos c19] at H
                            have c19b0 : decide ((rd l2 x20_1) < ((rd_T32 l1 x20_1).f1)) = true := decide_eq_true c19
                            clear c19
                            obtain ⟨ji20, hji20⟩ : ∃ j_ : Int, (mn x10_1 (wrap64 (Int.tdiv (rd l2 x20_1) ((rd_T32 l1 x20_1).f0)))) = j_ := ⟨_, rfl⟩
                            replace H : (quota_Explains.l0 kj7 a0 l2 (wrap64 (x7_1 + (rd l2 x20_1))) (wrap64 (x8_1 + ((rd_T32 l1 x20_1).f1))) ji18 ji20 l1 (l1.length : Int) (wrap64 (x20_1 + 1))) = some r := by first | (rw [hji20] at H; exact H) | (simp only [hji20] at H ⊢; exact H)
                            have hji20_ : (if (wrap64 (Int.tdiv (rd l2 x20_1) ((rd_T32 l1 x20_1).f0))) < x10_1 then (wrap64 (Int.tdiv (rd l2 x20_1) ((rd_T32 l1 x20_1).f0))) else x10_1) = ji20 := hji20
                            have H' := Aside0.mk H
                            clear H
                            have p118 : 0 ≤ (x20_1 : Int) := of_decide_eq_true (by first | (with_reducible assumption) | assumption)
                            have q118 : x20_1 < (l2.length : Int) := of_decide_eq_true (by first | (with_reducible assumption) | assumption)
                            obtain ⟨ad118, e118, hx118_0⟩ := Kd.at_int HR2.out x20_1 p118 q118
                            cases e118
                            replace hx118_0 := (HB.out.cell (World.block_lt_of_cell? w _ hx118_0)).trans hx118_0
                            replace p118 := eq_true p118
                            replace q118 := eq_true q118
                            have hcz21_0 : wc.cell? ⟨gb115, 0, none⟩ = some (.int .i64 ((rd_T32 l1 x20_1).f0)) := (blk_cell BK115.out 0).trans rfl
                            have hcz21_1 : wc.cell? ⟨gb115, 1, none⟩ = some (.int .i64 ((rd_T32 l1 x20_1).f1)) := (blk_cell BK115.out 1).trans rfl
                            have hfz21_0 := blk_frozen BK115.out 0
                            have hfz21_1 := blk_frozen BK115.out 1
                            have p119 : 0 ≤ (x20_1 : Int) := of_decide_eq_true (by first | (with_reducible assumption) | assumption)
                            have q119 : x20_1 < (l2.length : Int) := of_decide_eq_true (by first | (with_reducible assumption) | assumption)
                            obtain ⟨ad119, e119, hx119_0⟩ := Kd.at_int HR2.out x20_1 p119 q119
                            obtain rfl : ad118 = ad119 := (by injection e119)
                            replace hx119_0 := (HB.out.cell (World.block_lt_of_cell? w _ hx119_0)).trans hx119_0
                            replace p119 := eq_true p119
                            replace q119 := eq_true q119
                            have p120 : 0 ≤ (x20_1 : Int) := of_decide_eq_true (by first | (with_reducible assumption) | assumption)
                            have q120 : x20_1 < (l2.length : Int) := of_decide_eq_true (by first | (with_reducible assumption) | assumption)
                            obtain ⟨ad120, e120, hx120_0⟩ := Kd.at_int HR2.out x20_1 p120 q120
                            obtain rfl : ad118 = ad120 := (by injection e120)
                            replace hx120_0 := (HB.out.cell (World.block_lt_of_cell? w _ hx120_0)).trans hx120_0
                            replace p120 := eq_true p120
                            replace q120 := eq_true q120
                            have p121 : 0 ≤ (x20_1 : Int) := of_decide_eq_true (by first | (with_reducible assumption) | assumption)
                            have q121 : x20_1 < (l2.length : Int) := of_decide_eq_true (by first | (with_reducible assumption) | assumption)
                            obtain ⟨ad121, e121, hx121_0⟩ := Kd.at_int HR2.out x20_1 p121 q121
                            obtain rfl : ad118 = ad121 := (by injection e121)
                            replace hx121_0 := (HB.out.cell (World.block_lt_of_cell? w _ hx121_0)).trans hx121_0
                            replace p121 := eq_true p121
                            replace q121 := eq_true q121
                            go_wp2
                            repeat (go_quiet (fail); try go_wp2)
                            go_roundg kj7
                            case measure => have := HK1.out; have := HJ7.out; omega
                            case rel => exact ⟨(wrap64 (x7_1 + (rd l2 x20_1))), (wrap64 (x8_1 + ((rd_T32 l1 x20_1).f1))), (ji18), (ji20), (wrap64 (x20_1 + 1)), (by first | rfl | (simp; done) | (simp [*]; done)), (by first | rfl | (simp; done) | (simp [*]; done)), (by first | rfl | (simp; done) | (simp only [← hji18] <;> (first | rfl | simp)) | (simp [*]; done)), (by first | rfl | (simp; done) | (simp only [← hji20] <;> (first | rfl | simp)) | (simp [*]; done)), (by first | rfl | (simp; done) | (simp [*]; done)), H', ⟨by have := HK1.out; have := HJ7.out; omega⟩, ⟨by repeat (first | (with_reducible first | exact HB.out | apply below_alloc | apply pw_below_drewN | apply below_drew1 | refine below_set ?_ GE115.out) | exact HB.out)⟩⟩
                          · rw [if_neg c19] at H
                            have c19b0 : decide ((rd l2 x20_1) < ((rd_T32 l1 x20_1).f1)) = false := decide_eq_false c19
                            clear c19
                            have H' := Aside0.mk H
                            clear H
                            have p118 : 0 ≤ (x20_1 : Int) := of_decide_eq_true (by first | (with_reducible assumption) | assumption)
                            have q118 : x20_1 < (l2.length : Int) := of_decide_eq_true (by first | (with_reducible assumption) | assumption)
                            obtain ⟨ad118, e118, hx118_0⟩ := Kd.at_int HR2.out x20_1 p118 q118
                            cases e118
                            replace hx118_0 := (HB.out.cell (World.block_lt_of_cell? w _ hx118_0)).trans hx118_0
                            replace p118 := eq_true p118
                            replace q118 := eq_true q118
                            have hcz22_0 : wc.cell? ⟨gb115, 0, none⟩ = some (.int .i64 ((rd_T32 l1 x20_1).f0)) := (blk_cell BK115.out 0).trans rfl
                            have hcz22_1 : wc.cell? ⟨gb115, 1, none⟩ = some (.int .i64 ((rd_T32 l1 x20_1).f1)) := (blk_cell BK115.out 1).trans rfl
                            have hfz22_0 := blk_frozen BK115.out 0
                            have hfz22_1 := blk_frozen BK115.out 1
                            have p119 : 0 ≤ (x20_1 : Int) := of_decide_eq_true (by first | (with_reducible assumption) | assumption)
                            have q119 : x20_1 < (l2.length : Int) := of_decide_eq_true (by first | (with_reducible assumption) | assumption)
                            obtain ⟨ad119, e119, hx119_0⟩ := Kd.at_int HR2.out x20_1 p119 q119
                            obtain rfl : ad118 = ad119 := (by injection e119)
                            replace hx119_0 := (HB.out.cell (World.block_lt_of_cell? w _ hx119_0)).trans hx119_0
                            replace p119 := eq_true p119
                            replace q119 := eq_true q119
                            have p120 : 0 ≤ (x20_1 : Int) := of_decide_eq_true (by first | (with_reducible assumption) | assumption)
                            have q120 : x20_1 < (l2.length : Int) := of_decide_eq_true (by first | (with_reducible assumption) | assumption)
                            obtain ⟨ad120, e120, hx120_0⟩ := Kd.at_int HR2.out x20_1 p120 q120
                            obtain rfl : ad118 = ad120 := (by injection e120)
                            replace hx120_0 := (HB.out.cell (World.block_lt_of_cell? w _ hx120_0)).trans hx120_0
                            replace p120 := eq_true p120
                            replace q120 := eq_true q120
                            go_wp2
                            repeat (go_quiet (fail); try go_wp2)
                            go_roundg kj7
                            case measure => have := HK1.out; have := HJ7.out; omega
                            case rel => exact ⟨(wrap64 (x7_1 + (rd l2 x20_1))), (wrap64 (x8_1 + ((rd_T32 l1 x20_1).f1))), (ji18), (x10_1), (wrap64 (x20_1 + 1)), (by first | rfl | (simp; done) | (simp [*]; done)), (by first | rfl | (simp; done) | (simp [*]; done)), (by first | rfl | (simp; done) | (simp only [← hji18] <;> (first | rfl | simp)) | (simp [*]; done)), (by first | rfl | (simp; done) | (simp [*]; done)), (by first | rfl | (simp; done) | (simp [*]; done)), H', ⟨by have := HK1.out; have := HJ7.out; omega⟩, ⟨by repeat (first | (with_reducible first | exact HB.out | apply below_alloc | apply pw_below_drewN | apply below_drew1 | refine below_set ?_ GE115.out) | exact HB.out)⟩⟩
                      · rw [if_neg c16] at H
                        exact absurd H (by simp)
                    · rw [if_neg c15] at H
                      exact absurd H (by simp)
            · rw [if_neg c7] at H
              exact absurd H (by simp)
          · rw [if_neg c6] at H
            exact absurd H (by simp)
        · rw [if_neg c5] at H
          have c5b0 : decide (x20_1 < (l1.length : Int)) = false := decide_eq_false c5
          clear c5
          obtain ⟨ji23, hji23⟩ : ∃ j_ : Int, (mn a0 x8_1) = j_ := ⟨_, rfl⟩
          replace H : (if x7_1 = (ji23) then (some (decide (x9_1 ≤ x10_1))) else (some false)) = some r := by first | (rw [hji23] at H; exact H) | (simp only [hji23] at H ⊢; exact H)
          have hji23_ : (if x8_1 < a0 then x8_1 else a0) = ji23 := hji23
          by_cases c24 : x7_1 = (ji23)
          · rw [if_pos c24] at H
            have c24b0 : (x7_1 == (ji23)) = true := beq_iff_eq.mpr c24
            have c24b1 : (x7_1 != (ji23)) = false := bne_eq_false_iff_eq.mpr c24
            clear c24
            obtain rfl := Option.some.inj H
            go_wp2
            repeat (go_quiet (fail); try go_wp2)
            go_ret
            exact ⟨by first | rfl | (simp [errW_none, errW_some] <;> rfl) | (simp only [← hji23]; first | rfl | (simp [errW_none, errW_some] <;> rfl)) | (simp [*, errW_none, errW_some] <;> rfl), by repeat (first | (with_reducible first | exact HB.out | apply below_alloc | apply pw_below_drewN | apply below_drew1) | exact HB.out)⟩
          · rw [if_neg c24] at H
            have c24b0 : (x7_1 == (ji23)) = false := beq_eq_false_iff_ne.mpr c24
            have c24b1 : (x7_1 != (ji23)) = true := bne_iff_ne.mpr c24
            obtain rfl := Option.some.inj H
            go_wp2
            repeat (go_quiet (fail); try go_wp2)
            go_ret
            exact ⟨by first | rfl | (simp [errW_none, errW_some] <;> rfl) | (simp only [← hji23]; first | rfl | (simp [errW_none, errW_some] <;> rfl)) | (simp [*, errW_none, errW_some] <;> rfl), by repeat (first | (with_reducible first | exact HB.out | apply below_alloc | apply pw_below_drewN | apply below_drew1) | exact HB.out)⟩
  · rw [if_neg c4] at H
    have c4b0 : ((l2.length : Int) == (l1.length : Int)) = false := beq_eq_false_iff_ne.mpr c4
    have c4b1 : ((l2.length : Int) != (l1.length : Int)) = true := bne_iff_ne.mpr c4
    have c4b2 : (l2.length == l1.length) = false := by first | simpa using c4 | (simp at c4 ⊢; omega)
    obtain rfl := Option.some.inj H
    go_enter Try.func18, Try.ntmps18
    go_wp2
    repeat (go_quiet (fail); try go_wp2)
    go_ret
    exact ⟨by first | rfl | (simp [errW_none, errW_some] <;> rfl) | (simp [*, errW_none, errW_some] <;> rfl), by repeat (first | (with_reducible first | exact HB.out | apply below_alloc | apply pw_below_drewN | apply below_drew1) | exact HB.out)⟩

end Go.Proofs.Yteieknlkcodkcaa.Q
namespace Go.Proofs.Yteieknlkcodkcaa.Q
open Go.RowKit Go.Proofs.YteieknlkcodkcaaW.PrintWords Go.Proofs.YteieknlkcodkcaaW.PrintLast Go.Proofs.YteieknlkcodkcaaW.PrintMore
attribute [local go_sem] max2_int min2_int max_two min_two max_three min_three max_four min_four   -- for this text's walks alone
set_option linter.unusedVariables false
set_option linter.unusedSimpArgs false

/-! ### quota_Accounts: function 20 -/
def quota_Accounts.l0 : Nat → List (S53) → Int → List (S53) → Int → Int → Option (Bool)
  | 0, _, _, _, _, _ => none
  | k + 1, x0, x3, x6, x7, x8 => if x8 < x7 then (if 0 ≤ x8 then (if x8 < (x6.length : Int) then (if ((rd_T53 x6 x8).f0) ≤ x3 then (some false) else (if ((rd_T53 x6 x8).f1) < 1 then (some false) else (if ((rd_T53 x6 x8).f1) > 1048576 then (some false) else (if ((rd_T53 x6 x8).f2) < 0 then (some false) else (if ((rd_T53 x6 x8).f2) > 1099511627776 then (some false) else (quota_Accounts.l0 k x0 ((rd_T53 x6 x8).f0) x6 x7 (wrap64 (x8 + 1)))))))) else (none)) else (none)) else (some (decide ((x0.length : Int) ≤ 1000)))
def quota_Accounts.f (k : Nat) (l0 : List (S53)) : Option (Bool) := quota_Accounts.l0 k l0 0 l0 (l0.length : Int) 0
theorem quota_Accounts.mono_l : ∀ k, (∀ y0 y1 y2 y3 y4, LeO (quota_Accounts.l0 k y0 y1 y2 y3 y4) (quota_Accounts.l0 (k + 1) y0 y1 y2 y3 y4))
  | 0 => fun _ _ _ _ _ r h => by simp [quota_Accounts.l0] at h
  | k + 1 => by
    have ih0 := quota_Accounts.mono_l k
    · intro y0 y1 y2 y3 y4
      unfold quota_Accounts.l0
      repeat' first
      | (with_reducible exact ih0 _ _ _ _ _)
      | (with_reducible exact LeO.refl _)
      | (with_reducible exact LeO.none _)
      | (with_reducible refine LeO.ite ?_ ?_)
      | (with_reducible refine LeO.bind ?_ (fun _ => ?_))
      | exact ih0 _ _ _ _ _
      | exact LeO.none _
      | refine LeO.ite ?_ ?_
      | refine LeO.bind ?_ (fun _ => ?_)
theorem quota_Accounts.mono : ∀ a0 k, LeO (quota_Accounts.f k a0) (quota_Accounts.f (k + 1) a0) := by
  intro a0 k
  have ih0 := quota_Accounts.mono_l k
  unfold quota_Accounts.f
  repeat' first
      | (with_reducible exact ih0 _ _ _ _ _)
      | (with_reducible exact LeO.refl _)
      | (with_reducible exact LeO.none _)
      | (with_reducible refine LeO.ite ?_ ?_)
      | (with_reducible refine LeO.bind ?_ (fun _ => ?_))
      | exact ih0 _ _ _ _ _
      | exact LeO.none _
      | refine LeO.ite ?_ ?_
      | refine LeO.bind ?_ (fun _ => ?_)
set_option maxHeartbeats 8000000 in
set_option maxRecDepth 100000 in
theorem quota_Accounts.calls (k : Nat) (A0 : Option Addr) (c0 : Nat) (l0 : List (S53)) (r : Bool) (w : World) (hr0 : Kd.C k53 w A0 l0.length l0) (hc0 : l0.length ≤ c0) (h : quota_Accounts.f k l0 = some r) :
    Calls Try.prog 20 #[.slice A0 l0.length c0] w fun e w' => e = .returned (.bool r) ∧ Below w.heap.size w w' := by
  have hu53 := Try.underlying53
  have HR0 := Aside0.mk hr0
  have HC0 := Aside0.mk hc0
  clear hr0 hc0
  have HB := Aside0.mk (Below.refl w.heap.size w)
  have H : (quota_Accounts.l0 k l0 0 l0 (l0.length : Int) 0) = some r := h
  clear h
  have H' := Aside0.mk H
  clear H
  go_enter Try.func20, Try.ntmps20
  go_wp2
  go_loopg [3, 8] k (fun kq v3 v8 w' => ∃ (x3_1 : Int) (x8_1 : Int), v3 = .int .i64 x3_1 ∧ v8 = .int .i64 x8_1 ∧ Aside0 (quota_Accounts.l0 kq l0 x3_1 l0 (l0.length : Int) x8_1 = some r) ∧ Aside0 (kq ≤ k) ∧ Aside0 (Below w.heap.size w w'))
  case atStart => exact ⟨(0), (0), (by first | rfl | (simp; done) | (simp [*]; done)), (by first | rfl | (simp; done) | (simp [*]; done)), H', ⟨Nat.le_refl _⟩, ⟨by repeat (first | (with_reducible first | exact HB.out | apply below_alloc | apply pw_below_drewN | apply below_drew1) | exact HB.out)⟩⟩
  case round =>
    clear H'
    obtain ⟨x3_1, x8_1, rfl, rfl, HA, HK1, HB⟩ := hrel
    cases gk with
    | zero => exact absurd HA.out (by simp [quota_Accounts.l0])
    | succ k1 =>
      have H := HA.out
      clear HA
      simp only [quota_Accounts.l0] at H
      by_cases c2 : x8_1 < (l0.length : Int)
      · rw [if_pos c2] at H
        have c2b0 : decide (x8_1 < (l0.length : Int)) = true := decide_eq_true c2
        clear c2
        by_cases c3 : 0 ≤ x8_1
        · rw [if_pos c3] at H
          have c3b0 : decide (0 ≤ x8_1) = true := decide_eq_true c3
          clear c3
          by_cases c4 : x8_1 < (l0.length : Int)
          · rw [if_pos c4] at H
            have c4b0 : decide (x8_1 < (l0.length : Int)) = true := decide_eq_true c4
            clear c4
            by_cases c5 : ((rd_T53 l0 x8_1).f0) ≤ x3_1
            · rw [if_pos c5] at H
              have c5b0 : decide (((rd_T53 l0 x8_1).f0) ≤ x3_1) = true := decide_eq_true c5
              clear c5
              obtain rfl := Option.some.inj H
              have p122 : 0 ≤ (x8_1 : Int) := of_decide_eq_true (by first | (with_reducible assumption) | assumption)
              have q122 : x8_1 < (l0.length : Int) := of_decide_eq_true (by first | (with_reducible assumption) | assumption)
              obtain ⟨ad122, e122, hx122_0, hx122_1, hx122_2⟩ := at_T53 HR0.out x8_1 p122 q122
              cases e122
              replace hx122_0 := (HB.out.cell (World.block_lt_of_cell? w _ hx122_0)).trans hx122_0
              replace hx122_1 := (HB.out.cell (World.block_lt_of_cell? w _ hx122_1)).trans hx122_1
              replace hx122_2 := (HB.out.cell (World.block_lt_of_cell? w _ hx122_2)).trans hx122_2
              replace p122 := eq_true p122
              replace q122 := eq_true q122
              go_wp2_with (first | ((with_reducible refine gate_dst (N := 5) rfl ?_); refine box_event ?hg (N := 5) ?hd (cs := #[.int .i64 0, .int .i64 0, .int .i64 0]) (t := 53) ?hr ?_; (case hd => rfl); (case hg => rfl); (case hr => first | (go_simp; done) | (go_simp; rfl)); intro gb123 hg w6 hbox hb; have n0_ := Aside0.mk (below_step (by repeat (first | (with_reducible first | exact HB.out | apply below_alloc | apply pw_below_drewN | apply below_drew1) | exact HB.out)) hb); have n1_ := Aside0.mk (hbox); have n2_ := Aside0.mk ((by rw [hg]; exact (below_size (by repeat (first | (with_reducible first | exact HB.out | apply below_alloc | apply pw_below_drewN | apply below_drew1) | exact HB.out))) : w.heap.size ≤ gb123)); have n3_ := Aside0.mk ((by rw [hg]; exact (below_size (by repeat (first | (with_reducible first | exact HB.out | apply below_alloc | apply pw_below_drewN | apply below_drew1) | exact HB.out))) : w.heap.size ≤ gb123)); clear HB; have HB := n0_; have BK123 := n1_; have GW123 := n2_; have GE123 := n3_; clear n0_ n1_ n2_ n3_; clear hb hbox hg; have hcz7_0 : w6.cell? ⟨gb123, 0, none⟩ = some (.int .i64 0) := (blk_cell BK123.out 0).trans rfl; have hcz7_1 : w6.cell? ⟨gb123, 1, none⟩ = some (.int .i64 0) := (blk_cell BK123.out 1).trans rfl; have hcz7_2 : w6.cell? ⟨gb123, 2, none⟩ = some (.int .i64 0) := (blk_cell BK123.out 2).trans rfl; have hfz7_0 := blk_frozen BK123.out 0; have hfz7_1 := blk_frozen BK123.out 1; have hfz7_2 := blk_frozen BK123.out 2))
              go_ret
              exact ⟨by first | rfl | (simp [errW_none, errW_some] <;> rfl) | (simp [*, errW_none, errW_some] <;> rfl), by repeat (first | (with_reducible first | exact HB.out | apply below_alloc | apply pw_below_drewN | apply below_drew1 | refine below_set ?_ GE123.out) | exact HB.out)⟩
            · rw [if_neg c5] at H
              have c5b0 : decide (((rd_T53 l0 x8_1).f0) ≤ x3_1) = false := decide_eq_false c5
              clear c5
              by_cases c8 : ((rd_T53 l0 x8_1).f1) < 1
              · rw [if_pos c8] at H
                have c8b0 : decide (((rd_T53 l0 x8_1).f1) < 1) = true := decide_eq_true c8
                clear c8
                obtain rfl := Option.some.inj H
                have p122 : 0 ≤ (x8_1 : Int) := of_decide_eq_true (by first | (with_reducible assumption) | assumption)
                have q122 : x8_1 < (l0.length : Int) := of_decide_eq_true (by first | (with_reducible assumption) | assumption)
                obtain ⟨ad122, e122, hx122_0, hx122_1, hx122_2⟩ := at_T53 HR0.out x8_1 p122 q122
                cases e122
                replace hx122_0 := (HB.out.cell (World.block_lt_of_cell? w _ hx122_0)).trans hx122_0
                replace hx122_1 := (HB.out.cell (World.block_lt_of_cell? w _ hx122_1)).trans hx122_1
                replace hx122_2 := (HB.out.cell (World.block_lt_of_cell? w _ hx122_2)).trans hx122_2
                replace p122 := eq_true p122
                replace q122 := eq_true q122
                go_wp2_with (first | ((with_reducible refine gate_dst (N := 5) rfl ?_); refine box_event ?hg (N := 5) ?hd (cs := #[.int .i64 0, .int .i64 0, .int .i64 0]) (t := 53) ?hr ?_; (case hd => rfl); (case hg => rfl); (case hr => first | (go_simp; done) | (go_simp; rfl)); intro gb123 hg w9 hbox hb; have n0_ := Aside0.mk (below_step (by repeat (first | (with_reducible first | exact HB.out | apply below_alloc | apply pw_below_drewN | apply below_drew1) | exact HB.out)) hb); have n1_ := Aside0.mk (hbox); have n2_ := Aside0.mk ((by rw [hg]; exact (below_size (by repeat (first | (with_reducible first | exact HB.out | apply below_alloc | apply pw_below_drewN | apply below_drew1) | exact HB.out))) : w.heap.size ≤ gb123)); have n3_ := Aside0.mk ((by rw [hg]; exact (below_size (by repeat (first | (with_reducible first | exact HB.out | apply below_alloc | apply pw_below_drewN | apply below_drew1) | exact HB.out))) : w.heap.size ≤ gb123)); clear HB; have HB := n0_; have BK123 := n1_; have GW123 := n2_; have GE123 := n3_; clear n0_ n1_ n2_ n3_; clear hb hbox hg; have hcz10_0 : w9.cell? ⟨gb123, 0, none⟩ = some (.int .i64 0) := (blk_cell BK123.out 0).trans rfl; have hcz10_1 : w9.cell? ⟨gb123, 1, none⟩ = some (.int .i64 0) := (blk_cell BK123.out 1).trans rfl; have hcz10_2 : w9.cell? ⟨gb123, 2, none⟩ = some (.int .i64 0) := (blk_cell BK123.out 2).trans rfl; have hfz10_0 := blk_frozen BK123.out 0; have hfz10_1 := blk_frozen BK123.out 1; have hfz10_2 := blk_frozen BK123.out 2))
                go_ret
                exact ⟨by first | rfl | (simp [errW_none, errW_some] <;> rfl) | (simp [*, errW_none, errW_some] <;> rfl), by repeat (first | (with_reducible first | exact HB.out | apply below_alloc | apply pw_below_drewN | apply below_drew1 | refine below_set ?_ GE123.out) | exact HB.out)⟩
              · rw [if_neg c8] at H
                have c8b0 : decide (((rd_T53 l0 x8_1).f1) < 1) = false := decide_eq_false c8
                clear c8
                by_cases c11 : ((rd_T53 l0 x8_1).f1) > 1048576
                · rw [if_pos c11] at H
                  have c11b0 : decide (1048576 < ((rd_T53 l0 x8_1).f1)) = true := decide_eq_true c11
                  clear c11
                  obtain rfl := Option.some.inj H
                  have p122 : 0 ≤ (x8_1 : Int) := of_decide_eq_true (by first | (with_reducible assumption) | assumption)
                  have q122 : x8_1 < (l0.length : Int) := of_decide_eq_true (by first | (with_reducible assumption) | assumption)
                  obtain ⟨ad122, e122, hx122_0, hx122_1, hx122_2⟩ := at_T53 HR0.out x8_1 p122 q122
                  cases e122
                  replace hx122_0 := (HB.out.cell (World.block_lt_of_cell? w _ hx122_0)).trans hx122_0
                  replace hx122_1 := (HB.out.cell (World.block_lt_of_cell? w _ hx122_1)).trans hx122_1
                  replace hx122_2 := (HB.out.cell (World.block_lt_of_cell? w _ hx122_2)).trans hx122_2
                  replace p122 := eq_true p122
                  replace q122 := eq_true q122
                  go_wp2_with (first | ((with_reducible refine gate_dst (N := 5) rfl ?_); refine box_event ?hg (N := 5) ?hd (cs := #[.int .i64 0, .int .i64 0, .int .i64 0]) (t := 53) ?hr ?_; (case hd => rfl); (case hg => rfl); (case hr => first | (go_simp; done) | (go_simp; rfl)); intro gb123 hg w12 hbox hb; have n0_ := Aside0.mk (below_step (by repeat (first | (with_reducible first | exact HB.out | apply below_alloc | apply pw_below_drewN | apply below_drew1) | exact HB.out)) hb); have n1_ := Aside0.mk (hbox); have n2_ := Aside0.mk ((by rw [hg]; exact (below_size (by repeat (first | (with_reducible first | exact HB.out | apply below_alloc | apply pw_below_drewN | apply below_drew1) | exact HB.out))) : w.heap.size ≤ gb123)); have n3_ := Aside0.mk ((by rw [hg]; exact (below_size (by repeat (first | (with_reducible first | exact HB.out | apply below_alloc | apply pw_below_drewN | apply below_drew1) | exact HB.out))) : w.heap.size ≤ gb123)); clear HB; have HB := n0_; have BK123 := n1_; have GW123 := n2_; have GE123 := n3_; clear n0_ n1_ n2_ n3_; clear hb hbox hg; have hcz13_0 : w12.cell? ⟨gb123, 0, none⟩ = some (.int .i64 0) := (blk_cell BK123.out 0).trans rfl; have hcz13_1 : w12.cell? ⟨gb123, 1, none⟩ = some (.int .i64 0) := (blk_cell BK123.out 1).trans rfl; have hcz13_2 : w12.cell? ⟨gb123, 2, none⟩ = some (.int .i64 0) := (blk_cell BK123.out 2).trans rfl; have hfz13_0 := blk_frozen BK123.out 0; have hfz13_1 := blk_frozen BK123.out 1; have hfz13_2 := blk_frozen BK123.out 2))
                  go_ret
                  exact ⟨by first | rfl | (simp [errW_none, errW_some] <;> rfl) | (simp [*, errW_none, errW_some] <;> rfl), by repeat (first | (with_reducible first | exact HB.out | apply below_alloc | apply pw_below_drewN | apply below_drew1 | refine below_set ?_ GE123.out) | exact HB.out)⟩
                · rw [if_neg c11] at H
                  have c11b0 : decide (1048576 < ((rd_T53 l0 x8_1).f1)) = false := decide_eq_false c11
                  clear c11
                  by_cases c14 : ((rd_T53 l0 x8_1).f2) < 0
                  · rw [if_pos c14] at H
                    have c14b0 : decide (((rd_T53 l0 x8_1).f2) < 0) = true := decide_eq_true c14
                    clear c14
                    obtain rfl := Option.some.inj H
                    have p122 : 0 ≤ (x8_1 : Int) := of_decide_eq_true (by first | (with_reducible assumption) | assumption)
                    have q122 : x8_1 < (l0.length : Int) := of_decide_eq_true (by first | (with_reducible assumption) | assumption)
                    obtain ⟨ad122, e122, hx122_0, hx122_1, hx122_2⟩ := at_T53 HR0.out x8_1 p122 q122
                    cases e122
                    replace hx122_0 := (HB.out.cell (World.block_lt_of_cell? w _ hx122_0)).trans hx122_0
                    replace hx122_1 := (HB.out.cell (World.block_lt_of_cell? w _ hx122_1)).trans hx122_1
                    replace hx122_2 := (HB.out.cell (World.block_lt_of_cell? w _ hx122_2)).trans hx122_2
                    replace p122 := eq_true p122
                    replace q122 := eq_true q122
                    go_wp2_with (first | ((with_reducible refine gate_dst (N := 5) rfl ?_); refine box_event ?hg (N := 5) ?hd (cs := #[.int .i64 0, .int .i64 0, .int .i64 0]) (t := 53) ?hr ?_; (case hd => rfl); (case hg => rfl); (case hr => first | (go_simp; done) | (go_simp; rfl)); intro gb123 hg w15 hbox hb; have n0_ := Aside0.mk (below_step (by repeat (first | (with_reducible first | exact HB.out | apply below_alloc | apply pw_below_drewN | apply below_drew1) | exact HB.out)) hb); have n1_ := Aside0.mk (hbox); have n2_ := Aside0.mk ((by rw [hg]; exact (below_size (by repeat (first | (with_reducible first | exact HB.out | apply below_alloc | apply pw_below_drewN | apply below_drew1) | exact HB.out))) : w.heap.size ≤ gb123)); have n3_ := Aside0.mk ((by rw [hg]; exact (below_size (by repeat (first | (with_reducible first | exact HB.out | apply below_alloc | apply pw_below_drewN | apply below_drew1) | exact HB.out))) : w.heap.size ≤ gb123)); clear HB; have HB := n0_; have BK123 := n1_; have GW123 := n2_; have GE123 := n3_; clear n0_ n1_ n2_ n3_; clear hb hbox hg; have hcz16_0 : w15.cell? ⟨gb123, 0, none⟩ = some (.int .i64 0) := (blk_cell BK123.out 0).trans rfl; have hcz16_1 : w15.cell? ⟨gb123, 1, none⟩ = some (.int .i64 0) := (blk_cell BK123.out 1).trans rfl; have hcz16_2 : w15.cell? ⟨gb123, 2, none⟩ = some (.int .i64 0) := (blk_cell BK123.out 2).trans rfl; have hfz16_0 := blk_frozen BK123.out 0; have hfz16_1 := blk_frozen BK123.out 1; have hfz16_2 := blk_frozen BK123.out 2))
                    go_ret
                    exact ⟨by first | rfl | (simp [errW_none, errW_some] <;> rfl) | (simp [*, errW_none, errW_some] <;> rfl), by repeat (first | (with_reducible first | exact HB.out | apply below_alloc | apply pw_below_drewN | apply below_drew1 | refine below_set ?_ GE123.out) | exact HB.out)⟩
                  · rw [if_neg c14] at H
                    have c14b0 : decide (((rd_T53 l0 x8_1).f2) < 0) = false := decide_eq_false c14
                    clear c14
                    by_cases c17 : ((rd_T53 l0 x8_1).f2) > 1099511627776
                    · rw [if_pos c17] at H
                      have c17b0 : decide (1099511627776 < ((rd_T53 l0 x8_1).f2)) = true := decide_eq_true c17
                      clear c17
                      obtain rfl := Option.some.inj H
                      have p122 : 0 ≤ (x8_1 : Int) := of_decide_eq_true (by first | (with_reducible assumption) | assumption)
                      have q122 : x8_1 < (l0.length : Int) := of_decide_eq_true (by first | (with_reducible assumption) | assumption)
                      obtain ⟨ad122, e122, hx122_0, hx122_1, hx122_2⟩ := at_T53 HR0.out x8_1 p122 q122
                      cases e122
                      replace hx122_0 := (HB.out.cell (World.block_lt_of_cell? w _ hx122_0)).trans hx122_0
                      replace hx122_1 := (HB.out.cell (World.block_lt_of_cell? w _ hx122_1)).trans hx122_1
                      replace hx122_2 := (HB.out.cell (World.block_lt_of_cell? w _ hx122_2)).trans hx122_2
                      replace p122 := eq_true p122
                      replace q122 := eq_true q122
                      go_wp2_with (first | ((with_reducible refine gate_dst (N := 5) rfl ?_); refine box_event ?hg (N := 5) ?hd (cs := #[.int .i64 0, .int .i64 0, .int .i64 0]) (t := 53) ?hr ?_; (case hd => rfl); (case hg => rfl); (case hr => first | (go_simp; done) | (go_simp; rfl)); intro gb123 hg w18 hbox hb; have n0_ := Aside0.mk (below_step (by repeat (first | (with_reducible first | exact HB.out | apply below_alloc | apply pw_below_drewN | apply below_drew1) | exact HB.out)) hb); have n1_ := Aside0.mk (hbox); have n2_ := Aside0.mk ((by rw [hg]; exact (below_size (by repeat (first | (with_reducible first | exact HB.out | apply below_alloc | apply pw_below_drewN | apply below_drew1) | exact HB.out))) : w.heap.size ≤ gb123)); have n3_ := Aside0.mk ((by rw [hg]; exact (below_size (by repeat (first | (with_reducible first | exact HB.out | apply below_alloc | apply pw_below_drewN | apply below_drew1) | exact HB.out))) : w.heap.size ≤ gb123)); clear HB; have HB := n0_; have BK123 := n1_; have GW123 := n2_; have GE123 := n3_; clear n0_ n1_ n2_ n3_; clear hb hbox hg; have hcz19_0 : w18.cell? ⟨gb123, 0, none⟩ = some (.int .i64 0) := (blk_cell BK123.out 0).trans rfl; have hcz19_1 : w18.cell? ⟨gb123, 1, none⟩ = some (.int .i64 0) := (blk_cell BK123.out 1).trans rfl; have hcz19_2 : w18.cell? ⟨gb123, 2, none⟩ = some (.int .i64 0) := (blk_cell BK123.out 2).trans rfl; have hfz19_0 := blk_frozen BK123.out 0; have hfz19_1 := blk_frozen BK123.out 1; have hfz19_2 := blk_frozen BK123.out 2))
                      go_ret
                      exact ⟨by first | rfl | (simp [errW_none, errW_some] <;> rfl) | (simp [*, errW_none, errW_some] <;> rfl), by repeat (first | (with_reducible first | exact HB.out | apply below_alloc | apply pw_below_drewN | apply below_drew1 | refine below_set ?_ GE123.out) | exact HB.out)⟩
                    · rw [if_neg c17] at H
                      have c17b0 : decide (1099511627776 < ((rd_T53 l0 x8_1).f2)) = false := decide_eq_false c17
                      clear c17
                      have H' := Aside0.mk H
                      clear H
                      have p122 : 0 ≤ (x8_1 : Int) := of_decide_eq_true (by first | (with_reducible assumption) | assumption)
                      have q122 : x8_1 < (l0.length : Int) := of_decide_eq_true (by first | (with_reducible assumption) | assumption)
                      obtain ⟨ad122, e122, hx122_0, hx122_1, hx122_2⟩ := at_T53 HR0.out x8_1 p122 q122
                      cases e122
                      replace hx122_0 := (HB.out.cell (World.block_lt_of_cell? w _ hx122_0)).trans hx122_0
                      replace hx122_1 := (HB.out.cell (World.block_lt_of_cell? w _ hx122_1)).trans hx122_1
                      replace hx122_2 := (HB.out.cell (World.block_lt_of_cell? w _ hx122_2)).trans hx122_2
                      replace p122 := eq_true p122
                      replace q122 := eq_true q122
                      go_wp2_with (first | ((with_reducible refine gate_dst (N := 5) rfl ?_); refine box_event ?hg (N := 5) ?hd (cs := #[.int .i64 0, .int .i64 0, .int .i64 0]) (t := 53) ?hr ?_; (case hd => rfl); (case hg => rfl); (case hr => first | (go_simp; done) | (go_simp; rfl)); intro gb123 hg w20 hbox hb; have n0_ := Aside0.mk (below_step (by repeat (first | (with_reducible first | exact HB.out | apply below_alloc | apply pw_below_drewN | apply below_drew1) | exact HB.out)) hb); have n1_ := Aside0.mk (hbox); have n2_ := Aside0.mk ((by rw [hg]; exact (below_size (by repeat (first | (with_reducible first | exact HB.out | apply below_alloc | apply pw_below_drewN | apply below_drew1) | exact HB.out))) : w.heap.size ≤ gb123)); have n3_ := Aside0.mk ((by rw [hg]; exact (below_size (by repeat (first | (with_reducible first | exact HB.out | apply below_alloc | apply pw_below_drewN | apply below_drew1) | exact HB.out))) : w.heap.size ≤ gb123)); clear HB; have HB := n0_; have BK123 := n1_; have GW123 := n2_; have GE123 := n3_; clear n0_ n1_ n2_ n3_; clear hb hbox hg; have hcz21_0 : w20.cell? ⟨gb123, 0, none⟩ = some (.int .i64 0) := (blk_cell BK123.out 0).trans rfl; have hcz21_1 : w20.cell? ⟨gb123, 1, none⟩ = some (.int .i64 0) := (blk_cell BK123.out 1).trans rfl; have hcz21_2 : w20.cell? ⟨gb123, 2, none⟩ = some (.int .i64 0) := (blk_cell BK123.out 2).trans rfl; have hfz21_0 := blk_frozen BK123.out 0; have hfz21_1 := blk_frozen BK123.out 1; have hfz21_2 := blk_frozen BK123.out 2))
                      go_roundg k1
                      case measure => have := HK1.out; omega
                      case rel => exact ⟨((rd_T53 l0 x8_1).f0), (wrap64 (x8_1 + 1)), (by first | rfl | (simp; done) | (simp [*]; done)), (by first | rfl | (simp; done) | (simp [*]; done)), H', ⟨by have := HK1.out; omega⟩, ⟨by repeat (first | (with_reducible first | exact HB.out | apply below_alloc | apply pw_below_drewN | apply below_drew1 | refine below_set ?_ GE123.out) | exact HB.out)⟩⟩
          · rw [if_neg c4] at H
            exact absurd H (by simp)
        · rw [if_neg c3] at H
          exact absurd H (by simp)
      · rw [if_neg c2] at H
        have c2b0 : decide (x8_1 < (l0.length : Int)) = false := decide_eq_false c2
        clear c2
        obtain rfl := Option.some.inj H
        go_wp2
        go_ret
        exact ⟨by first | rfl | (simp [errW_none, errW_some] <;> rfl) | (simp [*, errW_none, errW_some] <;> rfl), by repeat (first | (with_reducible first | exact HB.out | apply below_alloc | apply pw_below_drewN | apply below_drew1) | exact HB.out)⟩

end Go.Proofs.Yteieknlkcodkcaa.Q
namespace Go.Proofs.Yteieknlkcodkcaa.Q
open Go.RowKit Go.Proofs.YteieknlkcodkcaaW.PrintWords Go.Proofs.YteieknlkcodkcaaW.PrintLast Go.Proofs.YteieknlkcodkcaaW.PrintMore
attribute [local go_sem] max2_int min2_int max_two min_two max_three min_three max_four min_four   -- for this text's walks alone
set_option linter.unusedVariables false
set_option linter.unusedSimpArgs false

/-! ### quota_Total: function 27 -/
def quota_Total.l0 : Nat → Int → List (S53) → Int → Int → Option (Int)
  | 0, _, _, _, _ => none
  | k + 1, x3, x6, x7, x8 => if x8 < x7 then (if 0 ≤ x8 then (if x8 < (x6.length : Int) then (quota_Total.l0 k (wrap64 (x3 + ((rd_T53 x6 x8).f2))) x6 x7 (wrap64 (x8 + 1))) else (none)) else (none)) else (some x3)
def quota_Total.f (k : Nat) (l0 : List (S53)) : Option (Int) := quota_Total.l0 k 0 l0 (l0.length : Int) 0
theorem quota_Total.mono_l : ∀ k, (∀ y0 y1 y2 y3, LeO (quota_Total.l0 k y0 y1 y2 y3) (quota_Total.l0 (k + 1) y0 y1 y2 y3))
  | 0 => fun _ _ _ _ r h => by simp [quota_Total.l0] at h
  | k + 1 => by
    have ih0 := quota_Total.mono_l k
    · intro y0 y1 y2 y3
      unfold quota_Total.l0
      repeat' first
      | (with_reducible exact ih0 _ _ _ _)
      | (with_reducible exact LeO.refl _)
      | (with_reducible exact LeO.none _)
      | (with_reducible refine LeO.ite ?_ ?_)
      | (with_reducible refine LeO.bind ?_ (fun _ => ?_))
      | exact ih0 _ _ _ _
      | exact LeO.none _
      | refine LeO.ite ?_ ?_
      | refine LeO.bind ?_ (fun _ => ?_)
theorem quota_Total.mono : ∀ a0 k, LeO (quota_Total.f k a0) (quota_Total.f (k + 1) a0) := by
  intro a0 k
  have ih0 := quota_Total.mono_l k
  unfold quota_Total.f
  repeat' first
      | (with_reducible exact ih0 _ _ _ _)
      | (with_reducible exact LeO.refl _)
      | (with_reducible exact LeO.none _)
      | (with_reducible refine LeO.ite ?_ ?_)
      | (with_reducible refine LeO.bind ?_ (fun _ => ?_))
      | exact ih0 _ _ _ _
      | exact LeO.none _
      | refine LeO.ite ?_ ?_
      | refine LeO.bind ?_ (fun _ => ?_)
set_option maxHeartbeats 8000000 in
set_option maxRecDepth 100000 in
theorem quota_Total.calls (k : Nat) (A0 : Option Addr) (c0 : Nat) (l0 : List (S53)) (r : Int) (w : World) (hr0 : Kd.C k53 w A0 l0.length l0) (hc0 : l0.length ≤ c0) (h : quota_Total.f k l0 = some r) :
    Calls Try.prog 27 #[.slice A0 l0.length c0] w fun e w' => e = .returned (.int .i64 r) ∧ Below w.heap.size w w' := by
  have hu53 := Try.underlying53
  have HR0 := Aside0.mk hr0
  have HC0 := Aside0.mk hc0
  clear hr0 hc0
  have HB := Aside0.mk (Below.refl w.heap.size w)
  have H : (quota_Total.l0 k 0 l0 (l0.length : Int) 0) = some r := h
  clear h
  have H' := Aside0.mk H
  clear H
  go_enter Try.func27, Try.ntmps27
  go_wp2
  go_loopg [3, 8] k (fun kq v3 v8 w' => ∃ (x3_1 : Int) (x8_1 : Int), v3 = .int .i64 x3_1 ∧ v8 = .int .i64 x8_1 ∧ Aside0 (quota_Total.l0 kq x3_1 l0 (l0.length : Int) x8_1 = some r) ∧ Aside0 (kq ≤ k) ∧ Aside0 (Below w.heap.size w w'))
  case atStart => exact ⟨(0), (0), (by first | rfl | (simp; done) | (simp [*]; done)), (by first | rfl | (simp; done) | (simp [*]; done)), H', ⟨Nat.le_refl _⟩, ⟨by repeat (first | (with_reducible first | exact HB.out | apply below_alloc | apply pw_below_drewN | apply below_drew1) | exact HB.out)⟩⟩
  case round =>
    clear H'
    obtain ⟨x3_1, x8_1, rfl, rfl, HA, HK1, HB⟩ := hrel
    cases gk with
    | zero => exact absurd HA.out (by simp [quota_Total.l0])
    | succ k1 =>
      have H := HA.out
      clear HA
      simp only [quota_Total.l0] at H
      by_cases c2 : x8_1 < (l0.length : Int)
      · rw [if_pos c2] at H
        have c2b0 : decide (x8_1 < (l0.length : Int)) = true := decide_eq_true c2
        clear c2
        by_cases c3 : 0 ≤ x8_1
        · rw [if_pos c3] at H
          have c3b0 : decide (0 ≤ x8_1) = true := decide_eq_true c3
          clear c3
          by_cases c4 : x8_1 < (l0.length : Int)
          · rw [if_pos c4] at H
            have c4b0 : decide (x8_1 < (l0.length : Int)) = true := decide_eq_true c4
            clear c4
            have H' := Aside0.mk H
            clear H
            have p125 : 0 ≤ (x8_1 : Int) := of_decide_eq_true (by first | (with_reducible assumption) | assumption)
            have q125 : x8_1 < (l0.length : Int) := of_decide_eq_true (by first | (with_reducible assumption) | assumption)
            obtain ⟨ad125, e125, hx125_0, hx125_1, hx125_2⟩ := at_T53 HR0.out x8_1 p125 q125
            cases e125
            replace hx125_0 := (HB.out.cell (World.block_lt_of_cell? w _ hx125_0)).trans hx125_0
            replace hx125_1 := (HB.out.cell (World.block_lt_of_cell? w _ hx125_1)).trans hx125_1
            replace hx125_2 := (HB.out.cell (World.block_lt_of_cell? w _ hx125_2)).trans hx125_2
            replace p125 := eq_true p125
            replace q125 := eq_true q125
            go_wp2_with (first | ((with_reducible refine gate_dst (N := 5) rfl ?_); refine box_event ?hg (N := 5) ?hd (cs := #[.int .i64 0, .int .i64 0, .int .i64 0]) (t := 53) ?hr ?_; (case hd => rfl); (case hg => rfl); (case hr => first | (go_simp; done) | (go_simp; rfl)); intro gb126 hg w5 hbox hb; have n0_ := Aside0.mk (below_step (by repeat (first | (with_reducible first | exact HB.out | apply below_alloc | apply pw_below_drewN | apply below_drew1) | exact HB.out)) hb); have n1_ := Aside0.mk (hbox); have n2_ := Aside0.mk ((by rw [hg]; exact (below_size (by repeat (first | (with_reducible first | exact HB.out | apply below_alloc | apply pw_below_drewN | apply below_drew1) | exact HB.out))) : w.heap.size ≤ gb126)); have n3_ := Aside0.mk ((by rw [hg]; exact (below_size (by repeat (first | (with_reducible first | exact HB.out | apply below_alloc | apply pw_below_drewN | apply below_drew1) | exact HB.out))) : w.heap.size ≤ gb126)); clear HB; have HB := n0_; have BK126 := n1_; have GW126 := n2_; have GE126 := n3_; clear n0_ n1_ n2_ n3_; clear hb hbox hg; have hcz6_0 : w5.cell? ⟨gb126, 0, none⟩ = some (.int .i64 0) := (blk_cell BK126.out 0).trans rfl; have hcz6_1 : w5.cell? ⟨gb126, 1, none⟩ = some (.int .i64 0) := (blk_cell BK126.out 1).trans rfl; have hcz6_2 : w5.cell? ⟨gb126, 2, none⟩ = some (.int .i64 0) := (blk_cell BK126.out 2).trans rfl; have hfz6_0 := blk_frozen BK126.out 0; have hfz6_1 := blk_frozen BK126.out 1; have hfz6_2 := blk_frozen BK126.out 2))
            go_roundg k1
            case measure => have := HK1.out; omega
            case rel => exact ⟨(wrap64 (x3_1 + ((rd_T53 l0 x8_1).f2))), (wrap64 (x8_1 + 1)), (by first | rfl | (simp; done) | (simp [*]; done)), (by first | rfl | (simp; done) | (simp [*]; done)), H', ⟨by have := HK1.out; omega⟩, ⟨by repeat (first | (with_reducible first | exact HB.out | apply below_alloc | apply pw_below_drewN | apply below_drew1 | refine below_set ?_ GE126.out) | exact HB.out)⟩⟩
          · rw [if_neg c4] at H
            exact absurd H (by simp)
        · rw [if_neg c3] at H
          exact absurd H (by simp)
      · rw [if_neg c2] at H
        have c2b0 : decide (x8_1 < (l0.length : Int)) = false := decide_eq_false c2
        clear c2
        obtain rfl := Option.some.inj H
        go_wp2
        go_ret
        exact ⟨by first | rfl | (simp [errW_none, errW_some] <;> rfl) | (simp [*, errW_none, errW_some] <;> rfl), by repeat (first | (with_reducible first | exact HB.out | apply below_alloc | apply pw_below_drewN | apply below_drew1) | exact HB.out)⟩

end Go.Proofs.Yteieknlkcodkcaa.Q
namespace Go.Proofs.Yteieknlkcodkcaa.Q
open Go.RowKit Go.Proofs.YteieknlkcodkcaaW.PrintWords Go.Proofs.YteieknlkcodkcaaW.PrintLast Go.Proofs.YteieknlkcodkcaaW.PrintMore
attribute [local go_sem] max2_int min2_int max_two min_two max_three min_three max_four min_four   -- for this text's walks alone
set_option linter.unusedVariables false
set_option linter.unusedSimpArgs false

/-- slices.Clone at accounts: a row of the call's own that holds the same. -/
def ClonedAs (w : World) (l : List S53) (e : Ending) (w' : World) : Prop := ∃ v' : Value, e = .returned v' ∧ Kd.R k53 53 w' w.heap.size (fun _ => True) v' l ∧ Below w.heap.size w w'
theorem cln_info : (Try.prog.info? 53).map (fun i => (i.zero, i.size, i.bytes)) = some (some (.agg #[.int .i64 0, .int .i64 0, .int .i64 0]), 3, 24) := by kernel_rfl
set_option maxHeartbeats 4000000 in
theorem clone_any (A0 : Option Addr) (c0 : Nat) (l0 : List S53) (w : World) (hr0 : Kd.C k53 w A0 l0.length l0) (hc0 : l0.length ≤ c0) (hbig : l0.length * 24 ≤ 140737488355328) :
    Calls Try.prog 42 #[.slice A0 l0.length c0] w (ClonedAs w l0) := by
  rcases A0 with _ | ad
  · have h0 : l0 = [] := by
      rcases Nat.eq_zero_or_pos l0.length with h | h
      · exact List.eq_nil_of_length_eq_zero h
      · obtain ⟨ad, e, _⟩ := hr0.2.2 h
        cases e
    subst h0
    have heq : ∀ (W : World) (n c : Nat), (Go.binOp BinOp.eql 35 (Value.slice none n c) (Value.slice none 0 0)).run Try.prog W = .ok (.bool true) W := fun W n c => Lib.run_eql_slice_nil (P := Try.prog) W 35 53 none n c 0 0 Try.underlying35
    have HD := Aside0.mk (⟨_, rfl, Kd.R_nil k53 53 w w.heap.size _, Below.refl _ _⟩ : ClonedAs w [] (.returned (.slice none 0 0)) w)
    clear hr0 hc0 hbig
    go_enter Try.func42, Try.ntmps42
    go_wp2
    go_ret
    exact HD.out
  · have heq : ∀ (W : World) (n c : Nat), (Go.binOp BinOp.eql 35 (Value.slice (some ad) n c) (Value.slice none 0 0)).run Try.prog W = .ok (.bool false) W := fun W n c => Lib.run_eql_slice_nil (P := Try.prog) W 35 53 (some ad) n c 0 0 Try.underlying35
    have HR := Aside0.mk hr0
    clear hr0
    have HO := Aside0.mk (⟨fun _ _ => trivial, [], ⟨rfl, .inr ⟨w.heap.size, 0, #[], rfl, Nat.le_refl _, heap_alloc_new w _, Nat.le_refl _, by decide, rfl, rfl⟩⟩, Reps.none _ _⟩ : Kd.R k53 53 (w.alloc (.cells #[] 53)) w.heap.size (fun _ => True) (.slice (some ⟨w.heap.size, 0, none⟩) 0 0) [])
    have HC := Aside0.mk (Kd.C_alloc HR.out (.cells #[] 53))
    clear HR
    go_enter Try.func42, Try.ntmps42
    go_wp2_with (at_builtin; refine Kd.R_append_rows k53 (w0 := w) w.heap.size rfl (.tmp 5) (.tmp 6) 35 53 (.agg #[.int .i64 0, .int .i64 0, .int .i64 0]) 24 rfl Try.underlying35 cln_info rfl (by decide) (by decide) _ [] l0 (some ad) l0.length c0 (fun _ => True) (fun _ => False) rfl rfl HO.out HC.out (fun x cs h => by rw [k53_open h]; exact k53_mkM _ _ _ _) (fun k h => h.elim) (fun _ _ => trivial) ((Below.refl _ _).alloc (Nat.le_refl _) _) (by simp) (by simpa using hbig) ?_; intro v1 w1 ho hb _ _; have HD := Aside0.mk (⟨v1, rfl, ho, hb⟩ : ClonedAs w l0 (.returned v1) w1); clear ho hb)
    all_goals (go_ret; exact HD.out)

end Go.Proofs.Yteieknlkcodkcaa.Q
namespace Go.Proofs.Yteieknlkcodkcaa.Q
open Go.RowKit Go.Proofs.YteieknlkcodkcaaW.PrintWords Go.Proofs.YteieknlkcodkcaaW.PrintLast Go.Proofs.YteieknlkcodkcaaW.PrintMore
attribute [local go_sem] max2_int min2_int max_two min_two max_three min_three max_four min_four   -- for this text's walks alone
set_option linter.unusedVariables false
set_option linter.unusedSimpArgs false

/-- copy between rows whose elements have k cells. -/
theorem run_copy_rowk {P : Program} (w : World) (dT sT ty elem : TypeId) (g o dLen dCap : Nat) (a : Addr) (sLen sCap : Nat) (cur : Array Value) (t : TypeId) (cs : List Value) (k n : Nat)
    (hu : P.underlying dT = some (.slice elem)) (hs : (P.info? elem).map (·.size) = some k) (hg : w.heap[g]? = some (.cells cur t (0, 0))) (hn : n = Nat.min sLen dLen) (hl : cs.length = n * k)
    (hsrc : ∀ j v, cs[j]? = some v → w.cell? (a.add j) = some v) (hfit : o + cs.length ≤ cur.size) (h1 : ∀ v ∈ cs, v.oneCell' = true) :
    (Builtin.copy_ #[dT, sT] ty #[.slice (some ⟨g, o, none⟩) dLen dCap, .slice (some a) sLen sCap]).run P w = .ok (goInt n) (w.setRow g (splice cur.toList o cs).toArray) := by
  have hL := run_loadCells_list (P := P) w a cs hsrc
  have hst := run_storeCells_at P g o t cs 0 cur w hg (by simpa using hfit) h1
  cases hq : P.info? elem with
  | none => simp [hq] at hs
  | some i =>
    have hi : i.size = k := by simpa [hq] using hs
    simp [Builtin.copy_, run_underlying hu, Builtin.lenOf, Builtin.firstCells, sizeOf, typeInfo, hq, hi, ← hn, ← hl, hL, hst, splice]
/-- What stands in a row behind the two copies of an insertion in place. -/
theorem insert_splice {α : Type} (cur xs ys : List α) (a k : Nat) (h0 : cur.take xs.length = xs) (ha : a ≤ xs.length) (hk : ys.length = k) (hc : xs.length + k ≤ cur.length) :
    (splice (splice cur (a + k) (xs.drop a)) a ys).take (xs.length + k) = xs.take a ++ (ys ++ xs.drop a) := by
  have e1 : cur.take a = xs.take a := by
    conv => rhs; rw [← h0]
    rw [List.take_take, Nat.min_eq_left ha]
  have e2 : (splice cur (a + k) (xs.drop a)).take a = xs.take a := by
    unfold splice
    rw [List.take_append_of_le_length (by rw [List.length_take]; omega), List.take_take, Nat.min_eq_left (by omega), e1]
  have e3 : (splice cur (a + k) (xs.drop a)).drop (a + k) = xs.drop a ++ cur.drop (a + k + (xs.drop a).length) := by
    unfold splice
    have hl : (cur.take (a + k)).length = a + k := by rw [List.length_take]; omega
    exact List.drop_left' hl
  unfold splice at e2 e3 ⊢
  rw [e2, hk, e3, ← List.append_assoc, ← List.append_assoc]
  rw [List.take_append_of_le_length (by simp only [List.length_append, List.length_take, List.length_drop, hk]; omega)]
  rw [List.take_of_length_le (by simp only [List.length_append, List.length_take, List.length_drop, hk]; omega), List.append_assoc]
theorem setRow_cell_other (w : World) (g : Nat) (cs : Array Value) (p : Addr) (h : p.block ≠ g) : (w.setRow g cs).cell? p = w.cell? p := World.cell?_of_block (setRow_other w g p.block cs h)
theorem setRow_drew (w : World) (g : Nat) (cs : Array Value) : (w.setRow g cs).drew = w.drew.setRow g cs := rfl
theorem grown_setRow {w w1 : World} (g : Nat) (hg : w.grownBy w1 (some g)) (cs : Array Value) : w.grownBy (w1.setRow g cs) (some g) :=
  ⟨hg.os, hg.tape, hg.output, by simpa using hg.size, fun k hk hne => by
    have : k ≠ g := fun e => hne (by rw [e])
    rw [setRow_other _ _ _ _ this]
    exact hg.block k hk hne⟩

end Go.Proofs.Yteieknlkcodkcaa.Q
namespace Go.Proofs.Yteieknlkcodkcaa.Q
open Go.RowKit Go.Proofs.YteieknlkcodkcaaW.PrintWords Go.Proofs.YteieknlkcodkcaaW.PrintLast Go.Proofs.YteieknlkcodkcaaW.PrintMore
attribute [local go_sem] max2_int min2_int max_two min_two max_three min_three max_four min_four   -- for this text's walks alone
set_option linter.unusedVariables false
set_option linter.unusedSimpArgs false

-- slices.Insert at accounts
def InsertedAt (w : World) (base E k : Nat) (v : Value) (n : Nat) (xs : List Value) (e : Ending) (w' : World) : Prop := ∃ v' : Value, e = .returned v' ∧ w'.ownsRow base E k v' n xs ∧ w.grownBy w' v.ownBlock
theorem ins_info : (Try.prog.info? 53).map (fun i => (i.zero, i.size, i.bytes)) = some (some (.agg #[.int .i64 0, .int .i64 0, .int .i64 0]), 3, 24) := by kernel_rfl
theorem ins_size : (Try.prog.info? 53).map (·.size) = some 3 := by kernel_rfl
set_option maxHeartbeats 4000000 in
set_option maxRecDepth 100000 in
theorem insert_room (base g n cap i vb : Nat) (cur : Array Value) (xs ys : List Value) (w : World) (hi : i < n) (hroom : n + 1 ≤ cap) (hcap : cap ≤ 9223372036854775807) (hbase : base ≤ g) (hvb : vb ≠ g)
    (hxs : xs.length = n * 3) (hys : ys.length = 3) (hg : w.heap[g]? = some (.cells cur 53 (0, 0))) (hsz : cur.size = cap * 3) (hcur : cur.toList.take (n * 3) = xs) (hv : w.heap[vb]? = some (.cells ys.toArray 53 (0, 0)))
    (h1 : ∀ u ∈ xs, u.oneCell' = true) (h1y : ∀ u ∈ ys, u.oneCell' = true) :
    Calls Try.prog 41 #[.slice (some ⟨g, 0, none⟩) n cap, .int .i64 i, .slice (some ⟨vb, 0, none⟩) 1 1] w (InsertedAt w base 53 3 (.slice (some ⟨g, 0, none⟩) n cap) (n + 1) (xs.take (i * 3) ++ (ys ++ xs.drop (i * 3)))) := by
  have hgl : g < w.heap.size := (Array.getElem?_eq_some_iff.1 hg).1
  have hvl : vb < w.heap.size := (Array.getElem?_eq_some_iff.1 hv).1
  have hov : ∀ lb cb, (callFunc 48 #[.slice (some ⟨vb, 0, none⟩) 1 1, .slice (some ⟨g, (i + 1) * 3, none⟩) lb cb]).run Try.prog w = .ok (.value (.bool false)) w := fun lb cb => by
    rw [run_callFunc_extern Try.func48 (by kernel_rfl) (by kernel_rfl) (by kernel_rfl) (e := Extern.SlicesOverlaps.overlaps #[35, 35] #[4]) (by kernel_rfl),
      Lib.run_overlaps_apart w 35 4 53 Try.underlying35 3 (fun w => by kernel_rfl) ⟨vb, 0, none⟩ ⟨g, (i + 1) * 3, none⟩ 1 1 lb cb hvb 53 53 ys.length cur.size (by simp [World.shape?, hv]) (by simp [World.shape?, hg]) (by omega) (by simp [World.frozen?, hv]) (by simp [World.frozen?, hv])]
    rfl
  have hdl : (xs.drop (i * 3)).length = (n - i) * 3 := by rw [List.length_drop, hxs]; omega
  have hcl : n * 3 ≤ cur.toList.length := by rw [Array.length_toList, hsz]; omega
  have hxc : ∀ j v, xs[j]? = some v → cur[j]? = some v := fun j v hj => by
    rw [← hcur, List.getElem?_take] at hj
    split at hj
    · rw [← Array.getElem?_toList]; exact hj
    · cases hj
  obtain ⟨A1, hA1⟩ : ∃ A1, A1 = (splice cur.toList ((i + 1) * 3) (xs.drop (i * 3))).toArray := ⟨_, rfl⟩
  have hA1s : A1.size = cap * 3 := by
    rw [hA1, List.size_toArray, length_splice _ _ _ (by rw [hdl, Array.length_toList, hsz]; omega), Array.length_toList, hsz]
  have hcp1 : ∀ ty dc sc, (Builtin.copy_ #[35, 35] ty #[.slice (some ⟨g, (i + 1) * 3, none⟩) (n - i) dc, .slice (some ⟨g, i * 3, none⟩) (n + 1 - i) sc]).run Try.prog w.drew = .ok (goInt ((n - i : Nat) : Int)) (w.drew.setRow g A1) := fun ty dc sc => by
    rw [hA1]
    exact run_copy_rowk w.drew 35 35 ty 53 g ((i + 1) * 3) (n - i) dc ⟨g, i * 3, none⟩ (n + 1 - i) sc cur 53 (xs.drop (i * 3)) 3 (n - i) Try.underlying35 ins_size hg (by simp only [Nat.min_def]; split <;> omega) hdl
      (fun j v hj => by
        rw [List.getElem?_drop] at hj
        rw [Addr.add_lit]
        show w.cell? _ = _
        rw [cell_of_row w g _ cur 53 (0, 0) hg]
        exact hxc _ _ hj) (by rw [hdl, hsz]; omega) (fun v hv => h1 v (List.mem_of_mem_drop hv))
  obtain ⟨W1, hW1⟩ : ∃ W1, W1 = w.drew.setRow g A1 := ⟨_, rfl⟩
  have hg1 : W1.heap[g]? = some (.cells A1 53 (0, 0)) := by rw [hW1]; exact setRow_heap w.drew g cur A1 53 (0, 0) hg
  obtain ⟨A2, hA2⟩ : ∃ A2, A2 = (splice A1.toList (i * 3) ys).toArray := ⟨_, rfl⟩
  have hcp2 : ∀ ty dc, (Builtin.copy_ #[35, 35] ty #[.slice (some ⟨g, i * 3, none⟩) (n + 1 - i) dc, .slice (some ⟨vb, 0, none⟩) 1 1]).run Try.prog W1 = .ok (goInt ((1 : Nat) : Int)) (W1.setRow g A2) := fun ty dc => by
    rw [hA2]
    exact run_copy_rowk W1 35 35 ty 53 g (i * 3) (n + 1 - i) dc ⟨vb, 0, none⟩ 1 1 A1 53 ys 3 1 Try.underlying35 ins_size hg1 (by simp only [Nat.min_def]; split <;> omega) hys
      (fun j v hj => by
        rw [hW1, Addr.add_lit, setRow_cell_other _ _ _ _ hvb]
        show w.cell? _ = _
        rw [cell_of_row w vb _ ys.toArray 53 (0, 0) hv]
        simpa using hj) (by rw [hys, hA1s]; omega) h1y
  have hfin : (A2.toList.take ((n + 1) * 3)) = xs.take (i * 3) ++ (ys ++ xs.drop (i * 3)) := by
    have h := insert_splice cur.toList xs ys (i * 3) 3 (by rw [hxs]; exact hcur) (by rw [hxs]; omega) hys (by rw [hxs, Array.length_toList, hsz]; omega)
    rw [hA2, hA1]
    simp only []
    rw [← h, hxs]
    congr 1
    · omega
    · congr 1
      congr 1
      omega
  have hA2s : A2.size = cap * 3 := by
    rw [hA2, List.size_toArray, length_splice _ _ _ (by rw [hys, Array.length_toList, hA1s]; omega), Array.length_toList, hA1s]
  have hdone : InsertedAt w base 53 3 (.slice (some ⟨g, 0, none⟩) n cap) (n + 1) (xs.take (i * 3) ++ (ys ++ xs.drop (i * 3))) (.returned (.slice (some ⟨g, 0, none⟩) (n + 1) cap)) (W1.setRow g A2) := by
    refine ⟨_, rfl, ⟨?_, .inr ⟨g, cap, A2, rfl, hbase, setRow_heap W1 g A1 A2 53 (0, 0) hg1, hroom, by unfold maxLen; omega, hA2s, hfin⟩⟩, ?_⟩
    · rw [← hfin, List.length_take, Array.length_toList, hA2s]; omega
    · show w.grownBy _ (some g)
      rw [hW1]
      exact grown_setRow g (grown_setRow (w := w) (w1 := w.drew) g ⟨rfl, rfl, rfl, Nat.le_refl _, fun k hk _ => rfl⟩ A1) A2
  have HD := Aside0.mk hdone
  have HW := Aside0.mk hW1
  rw [← hW1] at hcp1
  have hb2 : ¬ (cap = i + 1) := by omega
  have hb4 : ¬ (cap = i) := by omega
  have hw1 : IntKind.i64.wrap ((i : Int) + 1) = (i : Int) + 1 := by rw [IntKind.wrap_i64]; omega
  have hb1 : (0 : Int) ≤ (i : Int) + 1 := by omega
  have htn : ((i : Int) + 1).toNat = i + 1 := by omega
  have hb3 : (i : Int) ≤ (n : Int) + 1 := by omega
  have hz2 : ¬ ((i : Int) = (n : Int)) := by omega
  have hin : i ≤ n := by omega
  have hin2 : i ≤ n + 1 := by omega
  clear hdone hW1 hfin hA2s hg1 hA1s hA1 hA2 hxc hcl hdl hcur hsz hg hv h1 h1y hxs hys hgl hvl
  go_enter Try.func41, Try.ntmps41
  go_wp2_with (simp only [hov])
  go_region_law (refine step_copy_runI rfl _ _ 35 35 rfl (.slice (some ⟨g, (i + 1) * 3, none⟩) (n - i) (cap - (i + 1))) (.slice (some ⟨g, i * 3, none⟩) (n + 1 - i) (cap - i)) (by simp [Act.eval, Act.put]) (by simp [Act.eval, Act.put]) (hcp1 _ _ _) ?_)
  go_wp2_with (refine wpList_copy_runI _ rfl _ _ 35 35 rfl _ _ rfl rfl (hcp2 _ _) ?_)
  go_ret
  exact HD.out
set_option maxHeartbeats 4000000 in
set_option maxRecDepth 100000 in
theorem insert_end (base n vb : Nat) (v : Value) (xs ys : List Value) (w : World) (hown : w.ownsRow base 53 3 v n xs) (hbase : base ≤ w.heap.size) (hbig : (n + 1) * 24 ≤ 140737488355328) (hys : ys.length = 3)
    (hv : w.heap[vb]? = some (.cells ys.toArray 53 (0, 0))) (h1y : ∀ u ∈ ys, u.oneCell' = true) :
    Calls Try.prog 41 #[v, .int .i64 n, .slice (some ⟨vb, 0, none⟩) 1 1] w (InsertedAt w base 53 3 v (n + 1) (xs ++ ys)) := by
  obtain ⟨i0, hi0, hz0, hz1, hz2⟩ := info_parts ins_info
  have hvc : ∀ j u, ys[j]? = some u → w.cell? ((⟨vb, 0, none⟩ : Addr).add j) = some u := fun j u hj => by
    rw [Addr.add_lit, cell_of_row w vb _ ys.toArray 53 (0, 0) hv]
    simpa using hj
  obtain ⟨cap, A, rfl, hcap, hcap2⟩ : ∃ (cap : Nat) (A : Option Addr), v = .slice A n cap ∧ n ≤ cap ∧ cap ≤ 9223372036854775807 := by
    rcases hown.2 with ⟨rfl, rfl⟩ | ⟨g, cap, cur, rfl, _, _, h1, h2, _⟩
    · exact ⟨0, none, rfl, by omega, by omega⟩
    · exact ⟨cap, _, rfl, h1, by unfold maxLen at h2; omega⟩
  have HO := Aside0.mk hown
  have HV := Aside0.mk hvc
  clear hown hvc hv
  rcases Nat.eq_or_lt_of_le hcap with e | e
  · subst e
    go_enter Try.func41, Try.ntmps41
    go_wp2_with (at_builtin; refine wpList_append_own _ rfl _ _ 35 rfl base 53 i0 _ 3 24 Try.underlying35 hi0 hz0 hz1 hz2 rfl (by decide) _ n xs rfl HO.out ⟨vb, 0, none⟩ 1 1 ys rfl (by omega) HV.out h1y (by unfold maxLen; omega) hbig hbase ?_; intro v' w1 hown' hgrow _; have HD := Aside0.mk (⟨v', rfl, hown', hgrow⟩ : InsertedAt w base 53 3 (.slice A n n) (n + 1) (xs ++ ys) (.returned v') w1); clear hown' hgrow)
    all_goals (go_ret; exact HD.out)
  · have hne : ¬ (cap = n) := by omega
    go_enter Try.func41, Try.ntmps41
    go_wp2_with (at_builtin; refine wpList_append_own _ rfl _ _ 35 rfl base 53 i0 _ 3 24 Try.underlying35 hi0 hz0 hz1 hz2 rfl (by decide) _ n xs rfl HO.out ⟨vb, 0, none⟩ 1 1 ys rfl (by omega) HV.out h1y (by unfold maxLen; omega) hbig hbase ?_; intro v' w1 hown' hgrow _; have HD := Aside0.mk (⟨v', rfl, hown', hgrow⟩ : InsertedAt w base 53 3 (.slice A n cap) (n + 1) (xs ++ ys) (.returned v') w1); clear hown' hgrow)
    all_goals (go_ret; exact HD.out)
set_option maxHeartbeats 8000000 in
set_option maxRecDepth 100000 in
theorem insert_grow (base g n cap i vb : Nat) (cur : Array Value) (xs ys : List Value) (w : World) (hi : i < n) (hnc : n ≤ cap) (hroom : cap < n + 1) (hbase : base ≤ w.heap.size) (hvb : vb ≠ g) (hbig : (n + 1) * 24 ≤ 140737488355328)
    (hxs : xs.length = n * 3) (hys : ys.length = 3) (hg : w.heap[g]? = some (.cells cur 53 (0, 0))) (hcur : cur.toList.take (n * 3) = xs) (hv : w.heap[vb]? = some (.cells ys.toArray 53 (0, 0)))
    (h1 : ∀ u ∈ xs, u.oneCell' = true) (h1y : ∀ u ∈ ys, u.oneCell' = true) :
    Calls Try.prog 41 #[.slice (some ⟨g, 0, none⟩) n cap, .int .i64 i, .slice (some ⟨vb, 0, none⟩) 1 1] w (InsertedAt w base 53 3 (.slice (some ⟨g, 0, none⟩) n cap) (n + 1) (xs.take (i * 3) ++ (ys ++ xs.drop (i * 3)))) := by
  have hgl : g < w.heap.size := (Array.getElem?_eq_some_iff.1 hg).1
  have hvl : vb < w.heap.size := (Array.getElem?_eq_some_iff.1 hv).1
  obtain ⟨i0, hi0, hz0, hzs, hzb⟩ := info_parts ins_info
  have hdl : (xs.drop (i * 3)).length = (n - i) * 3 := by rw [List.length_drop, hxs]; omega
  have htl : (xs.take (i * 3)).length = i * 3 := by rw [List.length_take, hxs]; omega
  have hxc : ∀ j v, xs[j]? = some v → w.cell? ⟨g, j, none⟩ = some v := fun j v hj => by
    rw [cell_of_row w g _ cur 53 (0, 0) hg]
    rw [← hcur, List.getElem?_take] at hj
    split at hj
    · rw [← Array.getElem?_toList]; exact hj
    · cases hj
  have hvc : ∀ j u, ys[j]? = some u → w.cell? ⟨vb, j, none⟩ = some u := fun j u hj => by
    rw [cell_of_row w vb _ ys.toArray 53 (0, 0) hv]
    simpa using hj
  have hold : (Builtin.firstCells i0.size i (.slice (some ⟨g, 0, none⟩) i cap)).run Try.prog w.drew = .ok (xs.take (i * 3)).toArray w.drew := by
    rw [hzs]
    exact run_firstCells_some w.drew 3 i ⟨g, 0, none⟩ i cap (xs.take (i * 3)) htl (fun j v hj => by
      rw [Addr.add_lit]
      show w.cell? _ = _
      rw [List.getElem?_take] at hj
      split at hj
      · simpa using hxc j v hj
      · cases hj)
  have hik : i + (n + 1 - i) = n + 1 := by omega
  have hkk : (n : Int) + 1 - (i : Int) = ((n + 1 - i : Nat) : Int) := by omega
  have hrz : ∀ ty, (Builtin.append_ #[35, 3] ty #[.slice (some ⟨g, 0, none⟩) i cap, .int .i64 ((n : Int) + 1 - (i : Int))]).run Try.prog w =
      .ok (.slice (some ⟨w.heap.size, 0, none⟩) (n + 1) (grownCap w (n + 1) cap 53)) (w.drew.alloc (.cells ((xs.take (i * 3)).toArray ++ Builtin.zeroCells (Value.agg #[.int .i64 0, .int .i64 0, .int .i64 0]).cells (n + 1 - i) ++ Builtin.zeroCells (Value.agg #[.int .i64 0, .int .i64 0, .int .i64 0]).cells (grownCap w (n + 1) cap 53 - (n + 1))) 53)) := fun ty => by
    have h := Lib.run_append_grow_zeros w 35 3 ty 53 i0 _ .i64 .i64 Try.underlying35 Try.underlying3 hi0 hz0 (some ⟨g, 0, none⟩) i cap (xs.take (i * 3)) hold (n + 1 - i) (by omega) (by omega) (by omega) (by omega) (by rw [hzb]; omega) (by rw [hzb, hik]; exact growslice_fits hroom hbig)
    rw [hik] at h
    rw [hkk]
    exact h
  obtain ⟨G, hG⟩ : ∃ G, G = grownCap w (n + 1) cap 53 := ⟨_, rfl⟩
  obtain ⟨ROW, hROW⟩ : ∃ ROW : Array Value, ROW = (xs.take (i * 3)).toArray ++ Builtin.zeroCells (Value.agg #[.int .i64 0, .int .i64 0, .int .i64 0]).cells (n + 1 - i) ++ Builtin.zeroCells (Value.agg #[.int .i64 0, .int .i64 0, .int .i64 0]).cells (G - (n + 1)) := ⟨_, rfl⟩
  rw [← hG] at hrz
  rw [← hROW] at hrz
  have hGn : n + 1 ≤ G := by rw [hG]; exact grownCap_ge w _ _ _
  have hG63 : G ≤ 9223372036854775807 := by
    have := grownCap_le_maxLen w (n + 1) cap 53 (by unfold maxLen; omega)
    rw [← hG] at this
    unfold maxLen at this
    omega
  have hRl : ROW.size = G * 3 := by
    rw [hROW]
    simp only [Array.size_append, List.size_toArray, htl, size_zeroCells, Value.cells, List.size_toArray, List.length_cons, List.length_nil]
    omega
  obtain ⟨W1, hW1⟩ : ∃ W1, W1 = w.drew.alloc (.cells ROW 53) := ⟨_, rfl⟩
  rw [← hW1] at hrz
  have hN1 : W1.heap[w.heap.size]? = some (.cells ROW 53 (0, 0)) := by rw [hW1]; exact heap_alloc_new w.drew _
  have hO1 : ∀ k, k < w.heap.size → W1.heap[k]? = w.heap[k]? := fun k hk => by rw [hW1]; exact heap_alloc_old w.drew _ hk
  obtain ⟨A1, hA1⟩ : ∃ A1, A1 = (splice ROW.toList (i * 3) ys).toArray := ⟨_, rfl⟩
  have hA1s : A1.size = G * 3 := by
    rw [hA1, List.size_toArray, length_splice _ _ _ (by rw [hys, Array.length_toList, hRl]; omega), Array.length_toList, hRl]
  have hcpA : ∀ ty dc, (Builtin.copy_ #[35, 35] ty #[.slice (some ⟨w.heap.size, i * 3, none⟩) (n + 1 - i) dc, .slice (some ⟨vb, 0, none⟩) 1 1]).run Try.prog W1 = .ok (goInt ((1 : Nat) : Int)) (W1.setRow w.heap.size A1) := fun ty dc => by
    rw [hA1]
    exact run_copy_rowk W1 35 35 ty 53 w.heap.size (i * 3) (n + 1 - i) dc ⟨vb, 0, none⟩ 1 1 ROW 53 ys 3 1 Try.underlying35 ins_size hN1 (by simp only [Nat.min_def]; split <;> omega) hys
      (fun j v hj => by
        rw [Addr.add_lit, World.cell?_of_block (hO1 vb hvl)]
        simpa using hvc j v hj) (by rw [hys, hRl]; omega) h1y
  obtain ⟨W2, hW2⟩ : ∃ W2, W2 = W1.setRow w.heap.size A1 := ⟨_, rfl⟩
  have hN2 : W2.heap[w.heap.size]? = some (.cells A1 53 (0, 0)) := by rw [hW2]; exact setRow_heap W1 _ ROW A1 53 (0, 0) hN1
  have hO2 : ∀ k, k < w.heap.size → W2.heap[k]? = w.heap[k]? := fun k hk => by rw [hW2, setRow_other _ _ _ _ (by omega)]; exact hO1 k hk
  obtain ⟨A2, hA2⟩ : ∃ A2, A2 = (splice A1.toList ((i + 1) * 3) (xs.drop (i * 3))).toArray := ⟨_, rfl⟩
  have hA2s : A2.size = G * 3 := by
    rw [hA2, List.size_toArray, length_splice _ _ _ (by rw [hdl, Array.length_toList, hA1s]; omega), Array.length_toList, hA1s]
  have hcpB : ∀ ty dc sc, (Builtin.copy_ #[35, 35] ty #[.slice (some ⟨w.heap.size, (i + 1) * 3, none⟩) (n - i) dc, .slice (some ⟨g, i * 3, none⟩) (n - i) sc]).run Try.prog W2.drew = .ok (goInt ((n - i : Nat) : Int)) (W2.drew.setRow w.heap.size A2) := fun ty dc sc => by
    rw [hA2]
    exact run_copy_rowk W2.drew 35 35 ty 53 w.heap.size ((i + 1) * 3) (n - i) dc ⟨g, i * 3, none⟩ (n - i) sc A1 53 (xs.drop (i * 3)) 3 (n - i) Try.underlying35 ins_size hN2 (by simp only [Nat.min_def]; split <;> omega) hdl
      (fun j v hj => by
        rw [List.getElem?_drop] at hj
        rw [Addr.add_lit]
        show W2.cell? _ = _
        rw [World.cell?_of_block (hO2 g hgl)]
        exact hxc _ _ hj) (by rw [hdl, hA1s]; omega) (fun v hv => h1 v (List.mem_of_mem_drop hv))
  have hfin : A2.toList.take ((n + 1) * 3) = xs.take (i * 3) ++ (ys ++ xs.drop (i * 3)) := by
    have hr : ROW.toList.take (i * 3) = xs.take (i * 3) := by
      rw [hROW]
      simp only [Array.toList_append, List.append_assoc]
      rw [List.take_append_of_le_length (by omega), List.take_of_length_le (by omega)]
    have e1 : A1.toList.take ((i + 1) * 3) = xs.take (i * 3) ++ ys := by
      rw [hA1]
      simp only [splice]
      rw [hr, ← List.append_assoc]
      exact List.take_left' (by rw [List.length_append, htl, hys]; omega)
    rw [hA2]
    simp only [splice]
    rw [e1, ← List.append_assoc, List.append_assoc]
    rw [← List.append_assoc, List.take_append_of_le_length (by simp only [List.length_append, htl, hys, hdl]; omega)]
    rw [List.take_of_length_le (by simp only [List.length_append, htl, hys, hdl]; omega), List.append_assoc]
  have hdone : InsertedAt w base 53 3 (.slice (some ⟨g, 0, none⟩) n cap) (n + 1) (xs.take (i * 3) ++ (ys ++ xs.drop (i * 3))) (.returned (.slice (some ⟨w.heap.size, 0, none⟩) (n + 1) G)) (W2.drew.setRow w.heap.size A2) := by
    refine ⟨_, rfl, ⟨?_, .inr ⟨w.heap.size, G, A2, rfl, hbase, setRow_heap W2.drew _ A1 A2 53 (0, 0) hN2, hGn, by unfold maxLen; omega, hA2s, hfin⟩⟩, ?_⟩
    · rw [← hfin, List.length_take, Array.length_toList, hA2s]; omega
    · refine ⟨?_, ?_, ?_, ?_, fun k hk _ => ?_⟩
      · rw [hW2, hW1]; rfl
      · rw [hW2, hW1]; rfl
      · rw [hW2, hW1]; rfl
      · rw [setRow_size, hW2]
        show _ ≤ (W1.setRow _ _).heap.size
        rw [setRow_size, hW1]
        simp
      · rw [setRow_other _ _ _ _ (by omega)]
        exact hO2 k hk
  have HD := Aside0.mk hdone
  have HW2 := Aside0.mk hW2
  have HW1 := Aside0.mk hW1
  rw [← hW2] at hcpA
  have hGi : ¬ (G = i) := by omega
  have hGim : ¬ (G = i + 1) := by omega
  have hci : ¬ (cap = i) := by omega
  have hz2 : ¬ ((i : Int) = (n : Int)) := by omega
  have hz3 : (cap : Int) < (n : Int) + 1 := by omega
  have hw1 : IntKind.i64.wrap ((i : Int) + 1) = (i : Int) + 1 := by rw [IntKind.wrap_i64]; omega
  have hb1 : (0 : Int) ≤ (i : Int) + 1 := by omega
  have hin : i ≤ n := by omega
  have hin2 : i ≤ n + 1 := by omega
  have htn : ((i : Int) + 1).toNat = i + 1 := by omega
  have hb3 : (i : Int) ≤ (n : Int) := by omega
  clear hdone hW1 hW2 hfin hA2s hA2 hN2 hO2 hA1s hA1 hN1 hO1 hRl hROW hG hkk hik hold hvc hxc htl hdl hcur hg hv h1 h1y hxs hys hgl hvl hi0 hz0 hzs hzb
  go_enter Try.func41, Try.ntmps41
  go_wp2_with (first
    | (at_builtin; refine Lib.wpList_append_run _ rfl _ _ _ _ rfl _ _ rfl rfl _ _ (hrz _) ?_)
    | (refine wpList_copy_runI _ rfl _ _ 35 35 rfl _ _ rfl rfl (hcpA _ _) ?_))
  go_region_law (refine step_copy_runI rfl _ _ 35 35 rfl (.slice (some ⟨w.heap.size, (i + 1) * 3, none⟩) (n - i) (G - (i + 1))) (.slice (some ⟨g, i * 3, none⟩) (n - i) (cap - i)) (by simp [Act.eval, Act.put]) (by simp [Act.eval, Act.put]) (hcpB _ _ _) ?_)
  go_wp2
  go_ret
  exact HD.out
/-- The row as it was made, as Go's insertion leaves it. -/
theorem insert_any (base n i vb : Nat) (v : Value) (xs ys : List Value) (w : World) (hown : w.ownsRow base 53 3 v n xs) (hi : i ≤ n) (hbase : base ≤ w.heap.size) (hbig : (n + 1) * 24 ≤ 140737488355328) (hys : ys.length = 3)
    (hv : w.heap[vb]? = some (.cells ys.toArray 53 (0, 0))) (hne : v.ownBlock ≠ some vb) (h1 : ∀ u ∈ xs, u.oneCell' = true) (h1y : ∀ u ∈ ys, u.oneCell' = true) :
    Calls Try.prog 41 #[v, .int .i64 i, .slice (some ⟨vb, 0, none⟩) 1 1] w (InsertedAt w base 53 3 v (n + 1) (xs.take (i * 3) ++ (ys ++ xs.drop (i * 3)))) := by
  rcases Nat.eq_or_lt_of_le hi with e | hlt
  · subst e
    have := insert_end base i vb v xs ys w hown hbase hbig hys hv h1y
    rw [List.take_of_length_le (by rw [hown.1]; omega), List.drop_of_length_le (by rw [hown.1]; omega), List.append_nil]
    exact this
  · obtain ⟨hl, h⟩ := hown
    rcases h with ⟨_, h0⟩ | ⟨g, cap, cur, rfl, hb, hg, hnc, hcm, hsz, hcur⟩
    · omega
    · have hvb : vb ≠ g := fun e => hne (by rw [e]; rfl)
      unfold maxLen at hcm
      rcases Nat.lt_or_ge cap (n + 1) with hc | hc
      · exact insert_grow base g n cap i vb cur xs ys w hlt hnc hc hbase hvb hbig hl hys hg hcur hv h1 h1y
      · exact insert_room base g n cap i vb cur xs ys w hlt hc hcm hb hvb hl hys hg hsz hcur hv h1 h1y
/-- .. and as a list. -/
theorem insert_list (w w0 : World) (base n : Nat) (i : Nat) (vb : Nat) (v : Value) (l : List S53) (y : S53) (ok : Nat → Prop) (HO : Kd.R k53 53 w base ok v l) (hi : i ≤ l.length) (hbase : base ≤ w.heap.size) (hbig : (l.length + 1) * 24 ≤ 140737488355328)
    (hv : w.heap[vb]? = some (.cells #[.int .i64 y.f0, .int .i64 y.f1, .int .i64 y.f2] 53 (0, 0))) (hne : v.ownBlock ≠ some vb) :
    Calls Try.prog 41 #[v, .int .i64 i, .slice (some ⟨vb, 0, none⟩) 1 1] w fun e w' => ∃ v', e = .returned v' ∧ Kd.R k53 53 w' base (fun _ => True) v' (l.take i ++ y :: l.drop i) ∧ w.grownBy w' v.ownBlock := by
  obtain ⟨h0, xs, hown, hreps⟩ := HO
  have hone : ∀ u ∈ xs, u.oneCell' = true := Kd.reps_one hreps (by decide) (fun p c h => k53.K_one (k53.K_of_M h))
  refine (insert_any base l.length i vb v xs [.int .i64 y.f0, .int .i64 y.f1, .int .i64 y.f2] w hown hi hbase hbig rfl hv hne hone (by simp [Value.oneCell'])).mono ?_
  rintro e w' ⟨v', rfl, ho, hg⟩
  have hl : (l.take i ++ y :: l.drop i).length = l.length + 1 := by
    rw [List.length_append, List.length_cons, List.length_take, List.length_drop]; omega
  have hflat : ∀ (p : S53) (c : List Value), k53.M w base (fun k => ok k ∧ some k ≠ v.ownBlock) p c → k53.M w' base (fun k => (fun _ => True) k ∧ some k ≠ v'.ownBlock) p c := fun p c h => by
    rw [k53_openM h]; exact k53_mkM _ _ _ _
  have hr1 := hreps.imp_ hflat
  refine ⟨v', rfl, ⟨fun _ _ => trivial, _, by rw [hl]; exact ho, ?_⟩, hg⟩
  exact Kd.reps_append (Kd.reps_take hr1 hi) (Reps.front (k53_mkM _ _ _ _) rfl (Kd.reps_drop hr1) rfl)

end Go.Proofs.Yteieknlkcodkcaa.Q
namespace Go.Proofs.Yteieknlkcodkcaa.Q
open Go.RowKit Go.Proofs.YteieknlkcodkcaaW.PrintWords Go.Proofs.YteieknlkcodkcaaW.PrintLast Go.Proofs.YteieknlkcodkcaaW.PrintMore
attribute [local go_sem] max2_int min2_int max_two min_two max_three min_three max_four min_four   -- for this text's walks alone
set_option linter.unusedVariables false
set_option linter.unusedSimpArgs false

/-! ### quota_place_1: function 47 -/
def quota_place_1.f (a0_0 : Int) (a0_1 : Int) (a0_2 : Int) (a1 : Int) : Option (Int) := if a0_0 < a1 then (some (-1)) else (some (mn (wrap64 (a0_0 - a1)) 1))
set_option maxHeartbeats 8000000 in
set_option maxRecDepth 100000 in
theorem quota_place_1.calls (a0_0 : Int) (a0_1 : Int) (a0_2 : Int) (a1 : Int) (r : Int) (w : World) (h : quota_place_1.f a0_0 a0_1 a0_2 a1 = some r) :
    Calls Try.prog 47 #[.agg #[.int .i64 a0_0, .int .i64 a0_1, .int .i64 a0_2], .int .i64 a1] w fun e w' => e = .returned (.int .i64 r) ∧ Below w.heap.size w w' := by
  have hu53 := Try.underlying53
  have HB := Aside0.mk (Below.refl w.heap.size w)
  have H : (if a0_0 < a1 then (some (-1)) else (some (mn (wrap64 (a0_0 - a1)) 1))) = some r := h
  clear h
  by_cases c3 : a0_0 < a1
  · rw [if_pos c3] at H
    have c3b0 : decide (a0_0 < a1) = true := decide_eq_true c3
    clear c3
    obtain rfl := Option.some.inj H
    go_enter Try.func47, Try.ntmps47
    go_wp2_with (first | ((with_reducible refine gate_dst (N := 2) rfl ?_); refine box_event ?hg (N := 2) ?hd (cs := #[.int .i64 a0_0, .int .i64 a0_1, .int .i64 a0_2]) (t := 53) ?hr ?_; (case hd => rfl); (case hg => rfl); (case hr => first | (go_simp; done) | (go_simp; rfl)); intro gb124 hg w4 hbox hb; have n0_ := Aside0.mk (below_step (by repeat (first | (with_reducible first | exact HB.out | apply below_alloc | apply pw_below_drewN | apply below_drew1) | exact HB.out)) hb); have n1_ := Aside0.mk (hbox); have n2_ := Aside0.mk ((by rw [hg]; exact (below_size (by repeat (first | (with_reducible first | exact HB.out | apply below_alloc | apply pw_below_drewN | apply below_drew1) | exact HB.out))) : w.heap.size ≤ gb124)); have n3_ := Aside0.mk ((by rw [hg]; exact (below_size (by repeat (first | (with_reducible first | exact HB.out | apply below_alloc | apply pw_below_drewN | apply below_drew1) | exact HB.out))) : w.heap.size ≤ gb124)); clear HB; have HB := n0_; have BK124 := n1_; have GW124 := n2_; have GE124 := n3_; clear n0_ n1_ n2_ n3_; clear hb hbox hg; have hcz5_0 : w4.cell? ⟨gb124, 0, none⟩ = some (.int .i64 a0_0) := (blk_cell BK124.out 0).trans rfl; have hcz5_1 : w4.cell? ⟨gb124, 1, none⟩ = some (.int .i64 a0_1) := (blk_cell BK124.out 1).trans rfl; have hcz5_2 : w4.cell? ⟨gb124, 2, none⟩ = some (.int .i64 a0_2) := (blk_cell BK124.out 2).trans rfl; have hfz5_0 := blk_frozen BK124.out 0; have hfz5_1 := blk_frozen BK124.out 1; have hfz5_2 := blk_frozen BK124.out 2))
    go_ret
    exact ⟨by first | rfl | (simp [errW_none, errW_some] <;> rfl) | (simp [*, errW_none, errW_some] <;> rfl), by repeat (first | (with_reducible first | exact HB.out | apply below_alloc | apply pw_below_drewN | apply below_drew1 | refine below_set ?_ GE124.out) | exact HB.out)⟩
  · rw [if_neg c3] at H
    have c3b0 : decide (a0_0 < a1) = false := decide_eq_false c3
    clear c3
    obtain ⟨ji6, hji6⟩ : ∃ j_ : Int, (mn (wrap64 (a0_0 - a1)) 1) = j_ := ⟨_, rfl⟩
    replace H : (some ji6) = some r := by first | (rw [hji6] at H; exact H) | (simp only [hji6] at H ⊢; exact H)
    (try (have hji6h : ji6 ≤ 1 := by (rw [← hji6]; unfold mn; (repeat' split) <;> omega)))
    (try (have hji6g : ji6 ≤ 64 := by omega))
    have hji6_ : (if 1 < (wrap64 (a0_0 - a1)) then 1 else (wrap64 (a0_0 - a1))) = ji6 := hji6
    obtain rfl := Option.some.inj H
    go_enter Try.func47, Try.ntmps47
    go_wp2_with (first | ((with_reducible refine gate_dst (N := 2) rfl ?_); refine box_event ?hg (N := 2) ?hd (cs := #[.int .i64 a0_0, .int .i64 a0_1, .int .i64 a0_2]) (t := 53) ?hr ?_; (case hd => rfl); (case hg => rfl); (case hr => first | (go_simp; done) | (go_simp; rfl)); intro gb124 hg w7 hbox hb; have n0_ := Aside0.mk (below_step (by repeat (first | (with_reducible first | exact HB.out | apply below_alloc | apply pw_below_drewN | apply below_drew1) | exact HB.out)) hb); have n1_ := Aside0.mk (hbox); have n2_ := Aside0.mk ((by rw [hg]; exact (below_size (by repeat (first | (with_reducible first | exact HB.out | apply below_alloc | apply pw_below_drewN | apply below_drew1) | exact HB.out))) : w.heap.size ≤ gb124)); have n3_ := Aside0.mk ((by rw [hg]; exact (below_size (by repeat (first | (with_reducible first | exact HB.out | apply below_alloc | apply pw_below_drewN | apply below_drew1) | exact HB.out))) : w.heap.size ≤ gb124)); clear HB; have HB := n0_; have BK124 := n1_; have GW124 := n2_; have GE124 := n3_; clear n0_ n1_ n2_ n3_; clear hb hbox hg; have hcz8_0 : w7.cell? ⟨gb124, 0, none⟩ = some (.int .i64 a0_0) := (blk_cell BK124.out 0).trans rfl; have hcz8_1 : w7.cell? ⟨gb124, 1, none⟩ = some (.int .i64 a0_1) := (blk_cell BK124.out 1).trans rfl; have hcz8_2 : w7.cell? ⟨gb124, 2, none⟩ = some (.int .i64 a0_2) := (blk_cell BK124.out 2).trans rfl; have hfz8_0 := blk_frozen BK124.out 0; have hfz8_1 := blk_frozen BK124.out 1; have hfz8_2 := blk_frozen BK124.out 2))
    go_ret
    exact ⟨by first | rfl | (simp [errW_none, errW_some] <;> rfl) | (simp only [← hji6]; first | rfl | (simp [errW_none, errW_some] <;> rfl)) | (simp [*, errW_none, errW_some] <;> rfl), by repeat (first | (with_reducible first | exact HB.out | apply below_alloc | apply pw_below_drewN | apply below_drew1 | refine below_set ?_ GE124.out) | exact HB.out)⟩

end Go.Proofs.Yteieknlkcodkcaa.Q
namespace Go.Proofs.Yteieknlkcodkcaa.Q
open Go.RowKit Go.Proofs.YteieknlkcodkcaaW.PrintWords Go.Proofs.YteieknlkcodkcaaW.PrintLast Go.Proofs.YteieknlkcodkcaaW.PrintMore
attribute [local go_sem] max2_int min2_int max_two min_two max_three min_three max_four min_four   -- for this text's walks alone
set_option linter.unusedVariables false
set_option linter.unusedSimpArgs false

/-- What the search compares: -1, 0 or 1, or what an overflow leaves. -/
def cmpAt (s : S53) (n : Int) : Int := if s.f0 < n then -1 else mn (wrap64 (s.f0 - n)) 1
theorem cmpAt_calls (s : S53) (n : Int) (w : World) : Calls Try.prog 47 #[.agg #[.int .i64 s.f0, .int .i64 s.f1, .int .i64 s.f2], .int .i64 n] w fun e w' => e = .returned (.int .i64 (cmpAt s n)) ∧ Below w.heap.size w w' :=
  quota_place_1.calls s.f0 s.f1 s.f2 n (cmpAt s n) w (by unfold quota_place_1.f cmpAt; split <;> rfl)
def quota_place.l0 : Nat → List S53 → Int → Int → Int → Option Int
  | 0, _, _, _, _ => none
  | k + 1, l, n, i, j => if i < j then (if cmpAt (rd_T53 l ((i + j) / 2)) n < 0 then (quota_place.l0 k l n ((i + j) / 2 + 1) j) else (quota_place.l0 k l n i ((i + j) / 2))) else (some i)
def quota_place.f (k : Nat) (l : List S53) (n : Int) : Option (Int × Bool) := if l.length ≤ 1000000 then ((quota_place.l0 k l n 0 (l.length : Int)).bind fun i => some (i, decide (i < (l.length : Int)) && decide (cmpAt (rd_T53 l i) n = 0))) else none
theorem quota_place.mono_l : ∀ k, (∀ y0 y1 y2 y3, LeO (quota_place.l0 k y0 y1 y2 y3) (quota_place.l0 (k + 1) y0 y1 y2 y3))
  | 0 => fun _ _ _ _ r h => by simp [quota_place.l0] at h
  | k + 1 => by
    have ih0 := quota_place.mono_l k
    intro y0 y1 y2 y3
    unfold quota_place.l0
    exact LeO.ite (LeO.ite (ih0 _ _ _ _) (ih0 _ _ _ _)) (LeO.refl _)
theorem quota_place.mono : ∀ a0 a1 k, LeO (quota_place.f k a0 a1) (quota_place.f (k + 1) a0 a1) := fun a0 a1 k => LeO.ite (LeO.bind (quota_place.mono_l k a0 a1 _ _) (fun _ => LeO.refl _)) (LeO.refl _)
theorem quota_place.range (l : List S53) (n : Int) : ∀ (k : Nat) (i j r : Int), quota_place.l0 k l n i j = some r → 0 ≤ i → i ≤ j → i ≤ r ∧ r ≤ j
  | 0, _, _, _, h, _, _ => by simp [quota_place.l0] at h
  | k + 1, i, j, r, h, h0, h1 => by
    unfold quota_place.l0 at h
    split at h
    · split at h
      · have := quota_place.range l n k _ _ _ h (by omega) (by omega); omega
      · have := quota_place.range l n k _ _ _ h (by omega) (by omega); omega
    · have := Option.some.inj h; omega
theorem kd_below53 {w w1 : World} {A : Option Addr} {n : Nat} {xs : List S53} (h : Kd.C k53 w A n xs) (hb : Below w.heap.size w w1) : Kd.C k53 w1 A n xs := Kd.C_below h hb
theorem below_chain2 {w w1 w2 : World} (h : Below w.heap.size w w1) (k : Below w1.heap.size w1 w2) : Below w.heap.size w w2 := below_then h h.size k
set_option maxHeartbeats 2000000 in
theorem quota_place.search (k : Nat) (A0 : Option Addr) (c0 : Nat) (l0 : List S53) (n r : Int) (w : World) (hr0 : Kd.C k53 w A0 l0.length l0) (hl : l0.length ≤ 1000000) (h : quota_place.l0 k l0 n 0 (l0.length : Int) = some r) :
    Calls Try.prog 46 #[.slice A0 l0.length c0, .int .i64 n, .func (.func 47) #[] #[]] w fun e w' => e = .returned (.tuple #[.int .i64 r, .bool (decide (r < (l0.length : Int)) && decide (cmpAt (rd_T53 l0 r) n = 0))]) ∧ Below w.heap.size w w' := by
  have HR := Aside0.mk hr0
  have H := Aside0.mk h
  have hr := quota_place.range l0 n k _ _ _ h (by omega) (by omega)
  have hr1 := hr.1
  have hr2 := hr.2
  clear hr0 h hr
  generalize hbd : (decide (r < (l0.length : Int)) && decide (cmpAt (rd_T53 l0 r) n = 0)) = b
  have HD := Aside0.mk hbd
  clear hbd
  go_enter Try.func46, Try.ntmps46
  go_wp2
  go_loopg [9, 10] k (fun kq v9 v10 w' => ∃ x y : Int, v9 = .int .i64 x ∧ v10 = .int .i64 y ∧ 0 ≤ x ∧ x ≤ y ∧ y ≤ (l0.length : Int) ∧ Aside0 (quota_place.l0 kq l0 n x y = some r) ∧ Aside0 (kq ≤ k) ∧ Aside0 (Below w.heap.size w w'))
  case atStart => exact ⟨0, _, rfl, rfl, by omega, by omega, by omega, H, ⟨Nat.le_refl _⟩, ⟨Below.refl _ _⟩⟩
  case round =>
    clear H
    obtain ⟨x, y, rfl, rfl, h0, h1, h2, HA, HK, HB⟩ := hrel
    cases gk with
    | zero => exact absurd HA.out (by simp [quota_place.l0])
    | succ k1 =>
      have H := HA.out
      clear HA
      simp only [quota_place.l0] at H
      by_cases c : x < y
      · rw [if_pos c] at H
        have p : 0 ≤ (x + y) / 2 := by omega
        have q : (x + y) / 2 < (l0.length : Int) := by omega
        have p1 : x ≤ (x + y) / 2 := by omega
        have p2 : (x + y) / 2 < y := by omega
        obtain ⟨ad, e, hx0, hx1, hx2⟩ := at_T53 (kd_below53 HR.out HB.out) ((x + y) / 2) p q
        cases e
        have hcall := cmpAt_calls (rd_T53 l0 ((x + y) / 2)) n wr
        by_cases d : cmpAt (rd_T53 l0 ((x + y) / 2)) n < 0
        · rw [if_pos d] at H
          generalize cmpAt (rd_T53 l0 ((x + y) / 2)) n = q at hcall d
          have H' := Aside0.mk H
          have HCC := Aside0.mk hcall
          have db : decide (q < 0) = true := decide_eq_true d
          clear H hcall d
          go_wp2_with fail
          refine HCC.out.mono ?_
          rintro e w1 ⟨rfl, hb⟩
          go_wp2
          go_roundg k1
          case measure => have := HK.out; omega
          case rel => exact ⟨_, _, rfl, rfl, by omega, by omega, h2, H', ⟨by have := HK.out; omega⟩, ⟨below_chain2 HB.out hb⟩⟩
        · rw [if_neg d] at H
          generalize cmpAt (rd_T53 l0 ((x + y) / 2)) n = q at hcall d
          have H' := Aside0.mk H
          have HCC := Aside0.mk hcall
          have db : decide (q < 0) = false := decide_eq_false d
          clear H hcall d
          go_wp2_with fail
          refine HCC.out.mono ?_
          rintro e w1 ⟨rfl, hb⟩
          go_wp2
          go_roundg k1
          case measure => have := HK.out; omega
          case rel => exact ⟨_, _, rfl, rfl, h0, p1, by omega, H', ⟨by have := HK.out; omega⟩, ⟨below_chain2 HB.out hb⟩⟩
      · rw [if_neg c] at H
        have cb : decide (x < y) = false := decide_eq_false c
        obtain rfl := Option.some.inj H
        clear H c
        by_cases d : x < (l0.length : Int)
        · obtain ⟨ad, e, hx0, hx1, hx2⟩ := at_T53 (kd_below53 HR.out HB.out) x h0 d
          cases e
          have hcall := cmpAt_calls (rd_T53 l0 x) n wr
          have d1 : decide (x < (l0.length : Int)) = true := decide_eq_true d
          have HCC := Aside0.mk hcall
          have hd := HD.out
          rw [d1, Bool.true_and] at hd
          clear hcall HD
          generalize cmpAt (rd_T53 l0 x) n = q at HCC hd
          have HD := Aside0.mk hd
          clear hd
          go_wp2_with fail
          refine HCC.out.mono ?_
          rintro e w1 ⟨rfl, hb⟩
          go_wp2
          go_ret2
          exact ⟨by rw [← HD.out]; rfl, below_chain2 HB.out hb⟩
        · have d1 : decide (x < (l0.length : Int)) = false := decide_eq_false d
          have hd := HD.out
          rw [d1, Bool.false_and] at hd
          clear HD
          have HD := Aside0.mk hd
          clear hd
          go_wp2
          go_ret2
          exact ⟨by rw [← HD.out]; rfl, HB.out⟩
theorem quota_place.calls (k : Nat) (A0 : Option Addr) (c0 : Nat) (l0 : List (S53)) (a1 : Int) (r1 : Int) (r2 : Bool) (w : World) (hr0 : Kd.C k53 w A0 l0.length l0) (hc0 : l0.length ≤ c0) (h : quota_place.f k l0 a1 = some (r1, r2)) :
    Calls Try.prog 40 #[.slice A0 l0.length c0, .int .i64 a1] w fun e w' => e = .returned (.tuple #[.int .i64 r1, .bool r2]) ∧ Below w.heap.size w w' := by
  by_cases hl : l0.length ≤ 1000000
  · unfold quota_place.f at h
    rw [if_pos hl] at h
    cases hs : quota_place.l0 k l0 a1 0 (l0.length : Int) with
    | none => rw [hs] at h; exact absurd h (by simp)
    | some i =>
      rw [hs] at h
      simp only [Option.bind_some, Option.some.injEq, Prod.mk.injEq] at h
      obtain ⟨rfl, rfl⟩ := h
      have hs' := quota_place.search k A0 c0 l0 a1 i w hr0 hl hs
      generalize (decide (i < (l0.length : Int)) && decide (cmpAt (rd_T53 l0 i) a1 = 0)) = b at hs' ⊢
      have HS := Aside0.mk hs'
      clear hs' hs hr0 hc0 hl
      go_enter Try.func40, Try.ntmps40
      go_wp2_with fail
      refine HS.out.mono ?_
      rintro e w1 ⟨rfl, hb⟩
      go_wp2
      go_ret2
      exact ⟨rfl, hb⟩
  · unfold quota_place.f at h
    rw [if_neg hl] at h
    exact absurd h (by simp)

end Go.Proofs.Yteieknlkcodkcaa.Q
namespace Go.Proofs.Yteieknlkcodkcaa.Q
open Go.RowKit Go.Proofs.YteieknlkcodkcaaW.PrintWords Go.Proofs.YteieknlkcodkcaaW.PrintLast Go.Proofs.YteieknlkcodkcaaW.PrintMore
attribute [local go_sem] max2_int min2_int max_two min_two max_three min_three max_four min_four   -- for this text's walks alone
set_option linter.unusedVariables false
set_option linter.unusedSimpArgs false

def quota_Open.f (k : Nat) (l : List S53) (t wt : Int) : Option (List S53 × Int) := (quota_place.f k l t).bind fun p =>
  if t < 1 then some ([], 1) else if wt < 1 then some ([], 1) else if wt > 1048576 then some ([], 1) else if p.2 = true then some ([], 6) else if (l.length : Int) ≥ 1000 then some ([], 2)
  else some (l.take p.1.toNat ++ ⟨t, wt, 0⟩ :: l.drop p.1.toNat, 0)
theorem quota_Open.mono : ∀ a0 a1 a2 k, LeO (quota_Open.f k a0 a1 a2) (quota_Open.f (k + 1) a0 a1 a2) := fun a0 a1 _ k => LeO.bind (quota_place.mono a0 a1 k) (fun _ => LeO.refl _)
def OpenedAs (w : World) (r1 : List S53) (r2 : Int) (e : Ending) (w' : World) : Prop := ∃ v0_ : Value, e = .returned (.tuple #[v0_, .int .i64 r2]) ∧ Kd.R k53 53 w' w.heap.size (fun _ => True) v0_ r1 ∧ Below w.heap.size w w'
theorem quota_place.place_range (k : Nat) (l : List S53) (n i : Int) (is : Bool) (h : quota_place.f k l n = some (i, is)) : 0 ≤ i ∧ i ≤ (l.length : Int) := by
  unfold quota_place.f at h
  split at h
  · cases hs : quota_place.l0 k l n 0 (l.length : Int) with
    | none => rw [hs] at h; exact absurd h (by simp)
    | some j =>
      rw [hs] at h
      simp only [Option.bind_some, Option.some.injEq, Prod.mk.injEq] at h
      have := quota_place.range l n k _ _ _ hs (by omega) (by omega)
      omega
  · exact absurd h (by simp)
set_option maxHeartbeats 4000000 in
set_option maxRecDepth 100000 in
theorem quota_Open.calls (k : Nat) (A0 : Option Addr) (c0 : Nat) (l0 : List (S53)) (a1 : Int) (a2 : Int) (r1 : List (S53)) (r2 : Int) (w : World) (hr0 : Kd.C k53 w A0 l0.length l0) (hc0 : l0.length ≤ c0) (h : quota_Open.f k l0 a1 a2 = some (r1, r2)) :
    Calls Try.prog 22 #[.slice A0 l0.length c0, .int .i64 a1, .int .i64 a2] w fun e w' => ∃ v0_ : Value, e = .returned (.tuple #[v0_, .int .i64 r2]) ∧ Kd.R k53 53 w' w.heap.size (fun _ => True) v0_ r1 ∧ Below w.heap.size w w' := by
  unfold quota_Open.f at h
  cases hp : quota_place.f k l0 a1 with
  | none => rw [hp] at h; exact absurd h (by simp)
  | some p =>
    obtain ⟨i, is⟩ := p
    rw [hp] at h
    simp only [Option.bind_some] at h
    have hir := quota_place.place_range k l0 a1 i is hp
    have HP := Aside0.mk (quota_place.calls k A0 c0 l0 a1 i is w hr0 hc0 hp)
    clear hp
    have HR := Aside0.mk hr0
    have hnil : ∀ (w' : World), Below w.heap.size w w' → OpenedAs w [] r2 (.returned (.tuple #[.slice none 0 0, .int .i64 r2])) w' := fun w' hb => ⟨_, rfl, Kd.R_nil _ _ _ _ _, hb⟩
    have HN := Aside0.mk hnil
    clear hnil hr0
    show Calls _ _ _ w (OpenedAs w r1 r2)
    by_cases c1 : a1 < 1
    · rw [if_pos c1] at h
      simp only [Option.some.injEq, Prod.mk.injEq] at h
      obtain ⟨rfl, rfl⟩ := h
      go_enter Try.func22, Try.ntmps22
      go_wp2_with (go_at_call 40; (with_reducible refine HP.out.mono ?_); rintro e w1 ⟨rfl, hb⟩)
      go_ret2
      exact HN.out _ hb
    rw [if_neg c1] at h
    by_cases c2 : a2 < 1
    · rw [if_pos c2] at h
      simp only [Option.some.injEq, Prod.mk.injEq] at h
      obtain ⟨rfl, rfl⟩ := h
      go_enter Try.func22, Try.ntmps22
      go_wp2_with (go_at_call 40; (with_reducible refine HP.out.mono ?_); rintro e w1 ⟨rfl, hb⟩)
      go_ret2
      exact HN.out _ hb
    rw [if_neg c2] at h
    by_cases c3 : a2 > 1048576
    · rw [if_pos c3] at h
      simp only [Option.some.injEq, Prod.mk.injEq] at h
      obtain ⟨rfl, rfl⟩ := h
      go_enter Try.func22, Try.ntmps22
      go_wp2_with (go_at_call 40; (with_reducible refine HP.out.mono ?_); rintro e w1 ⟨rfl, hb⟩)
      go_ret2
      exact HN.out _ hb
    rw [if_neg c3] at h
    cases is with
    | true =>
      rw [if_pos rfl] at h
      simp only [Option.some.injEq, Prod.mk.injEq] at h
      obtain ⟨rfl, rfl⟩ := h
      go_enter Try.func22, Try.ntmps22
      go_wp2_with (go_at_call 40; (with_reducible refine HP.out.mono ?_); rintro e w1 ⟨rfl, hb⟩)
      go_ret2
      exact HN.out _ hb
    | false =>
      rw [if_neg (by simp)] at h
      by_cases c5 : (l0.length : Int) ≥ 1000
      · rw [if_pos c5] at h
        simp only [Option.some.injEq, Prod.mk.injEq] at h
        obtain ⟨rfl, rfl⟩ := h
        go_enter Try.func22, Try.ntmps22
        go_wp2_with (go_at_call 40; (with_reducible refine HP.out.mono ?_); rintro e w1 ⟨rfl, hb⟩)
        go_ret2
        exact HN.out _ hb
      rw [if_neg c5] at h
      simp only [Option.some.injEq, Prod.mk.injEq] at h
      obtain ⟨rfl, rfl⟩ := h
      obtain ⟨j, rfl⟩ : ∃ j : Nat, i = (j : Int) := ⟨i.toNat, by omega⟩
      have hj : j ≤ l0.length := by omega
      have hlen : l0.length < 1000 := by omega
      have c5b : decide ((l0.length : Int) ≥ 1000) = false := decide_eq_false c5
      have hcl := fun (w1 : World) (hb : Below w.heap.size w w1) => clone_any A0 c0 l0 w1 (Kd.C_below HR.out hb) hc0 (by omega)
      have HCL := Aside0.mk hcl
      clear hcl hir
      go_enter Try.func22, Try.ntmps22
      go_wp2_with (go_at_call 40; (with_reducible refine HP.out.mono ?_); rintro e w1 ⟨rfl, hb⟩)
      refine (HCL.out w1 hb).mono ?_
      rintro e w2 ⟨v2, rfl, ho, hb2⟩
      have hne : v2.ownBlock ≠ some w2.heap.size := fun e => by
        obtain ⟨inner, hown⟩ := Kd.R_own ho
        have := own_lt hown _ e
        omega
      have hbase : ∀ k, v2.ownBlock = some k → w.heap.size ≤ k := fun k e => by
        obtain ⟨inner, hown⟩ := Kd.R_own ho
        exact Nat.le_trans hb.size (own_base hown _ e)
      have hins := insert_list (w2.alloc (.cells #[.int .i64 a1, .int .i64 a2, .int .i64 0] 53)) w w1.heap.size l0.length j w2.heap.size v2 l0 ⟨a1, a2, 0⟩ (fun _ => True) (Kd.R_alloc ho _) hj (by have := hb2.size; simp; omega) (by omega) (heap_alloc_new w2 _) hne
      have hb12 : Below w.heap.size w w2 := below_then hb hb.size hb2
      have hb3 : Below w.heap.size w (w2.alloc (.cells #[.int .i64 a1, .int .i64 a2, .int .i64 0] 53)) := hb12.alloc hb12.size _
      have hfin : ∀ (v' : Value) (w' : World), Kd.R k53 53 w' w1.heap.size (fun _ => True) v' (l0.take j ++ (⟨a1, a2, 0⟩ : S53) :: l0.drop j) → (w2.alloc (.cells #[.int .i64 a1, .int .i64 a2, .int .i64 0] 53)).grownBy w' v2.ownBlock → OpenedAs w (l0.take j ++ (⟨a1, a2, 0⟩ : S53) :: l0.drop j) 0 (.returned (.tuple #[v', .int .i64 0])) w' := fun v' w' hr hg =>
        ⟨_, rfl, Kd.R_lower hr hb.size, hb3.grown hg hb3.size hbase⟩
      have HI := Aside0.mk hins
      have HF := Aside0.mk hfin
      clear hins hfin hb3 hb12 hbase hne ho
      go_wp2_with fail
      refine HI.out.mono ?_
      rintro e w3 ⟨v3, rfl, hr3, hg3⟩
      have HD := Aside0.mk (HF.out v3 w3 hr3 hg3)
      clear hr3 hg3
      go_wp2
      go_ret2
      exact HD.out

end Go.Proofs.Yteieknlkcodkcaa.Q
namespace Go.Proofs.Yteieknlkcodkcaa.Q
open Go.RowKit Go.Proofs.YteieknlkcodkcaaW.PrintWords Go.Proofs.YteieknlkcodkcaaW.PrintLast Go.Proofs.YteieknlkcodkcaaW.PrintMore
attribute [local go_sem] max2_int min2_int max_two min_two max_three min_three max_four min_four   -- for this text's walks alone
set_option linter.unusedVariables false
set_option linter.unusedSimpArgs false

def quota_Use.f (k : Nat) (l : List S53) (t more : Int) : Option (List S53 × Int) := (quota_place.f k l t).bind fun p =>
  if p.2 = true then (if more > 1099511627776 then some ([], 1) else if more < -1099511627776 then some ([], 1) else if wrap64 ((rd_T53 l p.1).f2 + more) < 0 then some ([], 1) else if wrap64 ((rd_T53 l p.1).f2 + more) > 1099511627776 then some ([], 1)
    else some (l.set p.1.toNat ⟨(rd_T53 l p.1).f0, (rd_T53 l p.1).f1, wrap64 ((rd_T53 l p.1).f2 + more)⟩, 0))
  else some ([], 5)
theorem quota_Use.mono : ∀ a0 a1 a2 k, LeO (quota_Use.f k a0 a1 a2) (quota_Use.f (k + 1) a0 a1 a2) := fun a0 a1 _ k => LeO.bind (quota_place.mono a0 a1 k) (fun _ => LeO.refl _)
/-- An account of a row of the call's own: its cell 'Used', and the row behind a store there. -/
theorem own_used {W : World} {base : Nat} {ok : Nat → Prop} {v : Value} {l : List S53} (HO : Kd.R k53 53 W base ok v l) (j : Nat) (hj : j < l.length) :
    ∃ g cap, v = .slice (some ⟨g, 0, none⟩) l.length cap ∧ base ≤ g ∧ W.cell? ⟨g, j * 3 + 2, none⟩ = some (.int .i64 (rd_T53 l j).f2) ∧ W.frozen? ⟨g, j * 3 + 2, none⟩ = false ∧
      ∀ u : Int, Kd.R k53 53 (W.setCell ⟨g, j * 3 + 2, none⟩ (.int .i64 u)) base ok v (l.set j ⟨(rd_T53 l j).f0, (rd_T53 l j).f1, u⟩) ∧ W.grownBy (W.setCell ⟨g, j * 3 + 2, none⟩ (.int .i64 u)) (some g) := by
  obtain ⟨inner, hown⟩ := Kd.R_own HO
  rcases hown.2 with ⟨_, h0⟩ | ⟨g, cap, cur, rfl, hb, hg, hnc, hcm, hsz, hcur⟩
  · omega
  · obtain ⟨_, _, hC⟩ := Kd.R_reads' HO
    obtain ⟨ad, e, hx0, hx1, hx2⟩ := at_T53 hC (j : Int) (Int.natCast_nonneg j) (by omega)
    injection e with e
    subst e
    simp only [Int.toNat_natCast, Addr.add_lit, Nat.zero_add] at hx0 hx1 hx2
    refine ⟨g, cap, rfl, hb, hx2, blk_frozen hg _, fun u => ?_⟩
    have h := Kd.R_seg (okp := fun _ => False) HO (j : Int) (Int.natCast_nonneg j) (by omega) (c := [.int .i64 (rd_T53 l j).f0, .int .i64 (rd_T53 l j).f1, .int .i64 (rd_T53 l j).f2]) (seg := [.int .i64 u]) (j := 2) rfl
      (fun k v hk => by
        have hs : k53.sz = 3 := rfl
        rw [Int.toNat_natCast, hs]
        match k, hk with
        | 0, hk => simp at hk; subst hk; exact hx0
        | 1, hk => simp at hk; subst hk; exact hx1
        | 2, hk => simp at hk; subst hk; exact hx2
        | k + 3, hk => simp at hk) (Nat.le_refl 3) (x' := ⟨(rd_T53 l j).f0, (rd_T53 l j).f1, u⟩) (k53_mkM _ _ _ _) (fun _ h => h.elim)
    have hs : k53.sz = 3 := rfl
    simpa [World.setCells, hs] using h
def UsedAs (w : World) (r1 : List S53) (r2 : Int) (e : Ending) (w' : World) : Prop := ∃ v0_ : Value, e = .returned (.tuple #[v0_, .int .i64 r2]) ∧ Kd.R k53 53 w' w.heap.size (fun _ => True) v0_ r1 ∧ Below w.heap.size w w'
theorem quota_place.place_true (k : Nat) (l : List S53) (n i : Int) (h : quota_place.f k l n = some (i, true)) : 0 ≤ i ∧ i < (l.length : Int) ∧ l.length ≤ 1000000 := by
  unfold quota_place.f at h
  split at h
  · rename_i hl
    cases hs : quota_place.l0 k l n 0 (l.length : Int) with
    | none => rw [hs] at h; exact absurd h (by simp)
    | some j =>
      rw [hs] at h
      simp only [Option.bind_some, Option.some.injEq, Prod.mk.injEq] at h
      have := quota_place.range l n k _ _ _ hs (by omega) (by omega)
      obtain ⟨rfl, h2⟩ := h
      simp only [Bool.and_eq_true, decide_eq_true_eq] at h2
      omega
  · exact absurd h (by simp)
set_option maxHeartbeats 4000000 in
set_option maxRecDepth 100000 in
theorem quota_Use.calls (k : Nat) (A0 : Option Addr) (c0 : Nat) (l0 : List (S53)) (a1 : Int) (a2 : Int) (r1 : List (S53)) (r2 : Int) (w : World) (hr0 : Kd.C k53 w A0 l0.length l0) (hc0 : l0.length ≤ c0) (h : quota_Use.f k l0 a1 a2 = some (r1, r2)) :
    Calls Try.prog 24 #[.slice A0 l0.length c0, .int .i64 a1, .int .i64 a2] w fun e w' => ∃ v0_ : Value, e = .returned (.tuple #[v0_, .int .i64 r2]) ∧ Kd.R k53 53 w' w.heap.size (fun _ => True) v0_ r1 ∧ Below w.heap.size w w' := by
  unfold quota_Use.f at h
  cases hp : quota_place.f k l0 a1 with
  | none => rw [hp] at h; exact absurd h (by simp)
  | some p =>
    obtain ⟨i, is⟩ := p
    rw [hp] at h
    simp only [Option.bind_some] at h
    have hp' := hp
    have HP := Aside0.mk (quota_place.calls k A0 c0 l0 a1 i is w hr0 hc0 hp)
    clear hp
    have HR := Aside0.mk hr0
    have hnil : ∀ (w' : World), Below w.heap.size w w' → UsedAs w [] r2 (.returned (.tuple #[.slice none 0 0, .int .i64 r2])) w' := fun w' hb => ⟨_, rfl, Kd.R_nil _ _ _ _ _, hb⟩
    have HN := Aside0.mk hnil
    clear hnil hr0
    show Calls _ _ _ w (UsedAs w r1 r2)
    cases is with
    | false =>
      rw [if_neg (by simp)] at h
      clear hp'
      simp only [Option.some.injEq, Prod.mk.injEq] at h
      obtain ⟨rfl, rfl⟩ := h
      go_enter Try.func24, Try.ntmps24
      go_wp2_with (go_at_call 40; (with_reducible refine HP.out.mono ?_); rintro e w1 ⟨rfl, hb⟩)
      go_ret2
      exact HN.out _ hb
    | true =>
      rw [if_pos rfl] at h
      have hir := quota_place.place_true k l0 a1 i hp'
      obtain ⟨j, rfl⟩ : ∃ j : Nat, i = (j : Int) := ⟨i.toNat, by omega⟩
      have hj : j < l0.length := by omega
      have hlen : l0.length ≤ 1000000 := hir.2.2
      clear hp' hir
      obtain ⟨ad, e, hx0, hx1, hx2⟩ := at_T53 HR.out (j : Int) (Int.natCast_nonneg j) (by omega)
      cases e
      have p0 : (0 : Int) ≤ (j : Int) := Int.natCast_nonneg j
      have q0 : (j : Int) < (l0.length : Int) := by omega
      simp only [Int.toNat_natCast] at hx0 hx1 hx2
      have hk : ∀ (w1 : World), Below w.heap.size w w1 → w1.cell? ⟨(ad.add (j * 3)).block, (ad.add (j * 3)).off + 2, none⟩ = some (.int .i64 (rd_T53 l0 j).f2) := fun w1 hb => pw_cell_below hb hx2
      have HK := Aside0.mk hk
      clear hk hx0 hx1 hx2
      by_cases c1 : a2 > 1099511627776
      · rw [if_pos c1] at h
        simp only [Option.some.injEq, Prod.mk.injEq] at h
        obtain ⟨rfl, rfl⟩ := h
        go_enter Try.func24, Try.ntmps24
        go_wp2_with (go_at_call 40; (with_reducible refine HP.out.mono ?_); rintro e w1 ⟨rfl, hb⟩)
        go_ret2
        exact HN.out _ hb
      rw [if_neg c1] at h
      by_cases c2 : a2 < -1099511627776
      · rw [if_pos c2] at h
        simp only [Option.some.injEq, Prod.mk.injEq] at h
        obtain ⟨rfl, rfl⟩ := h
        go_enter Try.func24, Try.ntmps24
        go_wp2_with (go_at_call 40; (with_reducible refine HP.out.mono ?_); rintro e w1 ⟨rfl, hb⟩)
        go_ret2
        exact HN.out _ hb
      rw [if_neg c2] at h
      by_cases c3 : wrap64 ((rd_T53 l0 j).f2 + a2) < 0
      · rw [if_pos c3] at h
        simp only [Option.some.injEq, Prod.mk.injEq] at h
        obtain ⟨rfl, rfl⟩ := h
        go_enter Try.func24, Try.ntmps24
        go_wp2_with (go_at_call 40; (with_reducible refine HP.out.mono ?_); rintro e w1 ⟨rfl, hb⟩; have hxx := HK.out _ hb)
        go_ret2
        exact HN.out _ hb
      rw [if_neg c3] at h
      by_cases c4 : wrap64 ((rd_T53 l0 j).f2 + a2) > 1099511627776
      · rw [if_pos c4] at h
        simp only [Option.some.injEq, Prod.mk.injEq] at h
        obtain ⟨rfl, rfl⟩ := h
        go_enter Try.func24, Try.ntmps24
        go_wp2_with (go_at_call 40; (with_reducible refine HP.out.mono ?_); rintro e w1 ⟨rfl, hb⟩; have hxx := HK.out _ hb)
        go_ret2
        exact HN.out _ hb
      rw [if_neg c4] at h
      simp only [Option.some.injEq, Prod.mk.injEq] at h
      obtain ⟨rfl, rfl⟩ := h
      have hcl := fun (w1 : World) (hb : Below w.heap.size w w1) => clone_any (some ad) c0 l0 w1 (Kd.C_below HR.out hb) hc0 (by omega)
      have HCL := Aside0.mk hcl
      clear hcl
      have c3b : decide (wrap64 ((rd_T53 l0 j).f2 + a2) < 0) = false := decide_eq_false c3
      have c4b : decide (1099511627776 < wrap64 ((rd_T53 l0 j).f2 + a2)) = false := decide_eq_false c4
      clear c3 c4
      simp only [Int.toNat_natCast]
      go_enter Try.func24, Try.ntmps24
      go_wp2_with (go_at_call 40; (with_reducible refine HP.out.mono ?_); rintro e w1 ⟨rfl, hb⟩; have hxx := HK.out _ hb)
      refine (HCL.out w1 hb).mono ?_
      rintro e w2 ⟨v2, rfl, ho, hb2⟩
      obtain ⟨g, cap, rfl, hbg, hcell, hfz, hset⟩ := own_used ho j hj
      have hb12 : Below w.heap.size w w2 := below_then hb hb.size hb2
      have hlt := World.block_lt_of_cell? w2 _ hcell
      have hfin : UsedAs w (l0.set j ⟨(rd_T53 l0 j).f0, (rd_T53 l0 j).f1, wrap64 ((rd_T53 l0 j).f2 + a2)⟩) 0 (.returned (.tuple #[.slice (some ⟨g, 0, none⟩) l0.length cap, .int .i64 0])) (w2.setCell ⟨g, j * 3 + 2, none⟩ (.int .i64 (wrap64 ((rd_T53 l0 j).f2 + a2)))) :=
        ⟨_, rfl, Kd.R_lower (hset _).1 hb.size, hb12.grown (hset _).2 hb12.size (fun k e => by cases e; exact Nat.le_trans hb.size hbg)⟩
      have HF := Aside0.mk hfin
      clear hfin hset ho hb2 hb12
      go_wp2_with fail
      go_ret2
      exact HF.out

end Go.Proofs.Yteieknlkcodkcaa.Q
namespace Go.Proofs.Yteieknlkcodkcaa.Q
open Go.RowKit Go.Proofs.YteieknlkcodkcaaW.PrintWords Go.Proofs.YteieknlkcodkcaaW.PrintLast Go.Proofs.YteieknlkcodkcaaW.PrintMore
attribute [local go_sem] max2_int min2_int max_two min_two max_three min_three max_four min_four   -- for this text's walks alone
set_option linter.unusedVariables false
set_option linter.unusedSimpArgs false

/-! ### quota_Valid_1: function 33 -/
def quota_Valid_1.f (a0_0 : Int) (a0_1 : Int) : Option (Bool) := if a0_0 < 1 then (some true) else (if a0_0 > 1048576 then (some true) else (if a0_1 < 0 then (some true) else (some (decide (a0_1 > 1099511627776)))))
set_option maxHeartbeats 8000000 in
set_option maxRecDepth 100000 in
theorem quota_Valid_1.calls (a0_0 : Int) (a0_1 : Int) (r : Bool) (w : World) (h : quota_Valid_1.f a0_0 a0_1 = some r) :
    Calls Try.prog 33 #[.agg #[.int .i64 a0_0, .int .i64 a0_1]] w fun e w' => e = .returned (.bool r) ∧ Below w.heap.size w w' := by
  have hu32 := Try.underlying32
  have HB := Aside0.mk (Below.refl w.heap.size w)
  have H : (if a0_0 < 1 then (some true) else (if a0_0 > 1048576 then (some true) else (if a0_1 < 0 then (some true) else (some (decide (a0_1 > 1099511627776)))))) = some r := h
  clear h
  by_cases c2 : a0_0 < 1
  · rw [if_pos c2] at H
    have c2b0 : decide (a0_0 < 1) = true := decide_eq_true c2
    clear c2
    obtain rfl := Option.some.inj H
    go_enter Try.func33, Try.ntmps33
    go_wp2_with (first | ((with_reducible refine gate_dst (N := 1) rfl ?_); refine box_event ?hg (N := 1) ?hd (cs := #[.int .i64 a0_0, .int .i64 a0_1]) (t := 32) ?hr ?_; (case hd => rfl); (case hg => rfl); (case hr => first | (go_simp; done) | (go_simp; rfl)); intro gb101 hg w3 hbox hb; have n0_ := Aside0.mk (below_step (by repeat (first | (with_reducible first | exact HB.out | apply below_alloc | apply pw_below_drewN | apply below_drew1) | exact HB.out)) hb); have n1_ := Aside0.mk (hbox); have n2_ := Aside0.mk ((by rw [hg]; exact (below_size (by repeat (first | (with_reducible first | exact HB.out | apply below_alloc | apply pw_below_drewN | apply below_drew1) | exact HB.out))) : w.heap.size ≤ gb101)); have n3_ := Aside0.mk ((by rw [hg]; exact (below_size (by repeat (first | (with_reducible first | exact HB.out | apply below_alloc | apply pw_below_drewN | apply below_drew1) | exact HB.out))) : w.heap.size ≤ gb101)); clear HB; have HB := n0_; have BK101 := n1_; have GW101 := n2_; have GE101 := n3_; clear n0_ n1_ n2_ n3_; clear hb hbox hg; have hcz4_0 : w3.cell? ⟨gb101, 0, none⟩ = some (.int .i64 a0_0) := (blk_cell BK101.out 0).trans rfl; have hcz4_1 : w3.cell? ⟨gb101, 1, none⟩ = some (.int .i64 a0_1) := (blk_cell BK101.out 1).trans rfl; have hfz4_0 := blk_frozen BK101.out 0; have hfz4_1 := blk_frozen BK101.out 1))
    go_ret
    exact ⟨by first | rfl | (simp [errW_none, errW_some] <;> rfl) | (simp [*, errW_none, errW_some] <;> rfl), by repeat (first | (with_reducible first | exact HB.out | apply below_alloc | apply pw_below_drewN | apply below_drew1 | refine below_set ?_ GE101.out) | exact HB.out)⟩
  · rw [if_neg c2] at H
    have c2b0 : decide (a0_0 < 1) = false := decide_eq_false c2
    clear c2
    by_cases c5 : a0_0 > 1048576
    · rw [if_pos c5] at H
      have c5b0 : decide (1048576 < a0_0) = true := decide_eq_true c5
      clear c5
      obtain rfl := Option.some.inj H
      go_enter Try.func33, Try.ntmps33
      go_wp2_with (first | ((with_reducible refine gate_dst (N := 1) rfl ?_); refine box_event ?hg (N := 1) ?hd (cs := #[.int .i64 a0_0, .int .i64 a0_1]) (t := 32) ?hr ?_; (case hd => rfl); (case hg => rfl); (case hr => first | (go_simp; done) | (go_simp; rfl)); intro gb101 hg w6 hbox hb; have n0_ := Aside0.mk (below_step (by repeat (first | (with_reducible first | exact HB.out | apply below_alloc | apply pw_below_drewN | apply below_drew1) | exact HB.out)) hb); have n1_ := Aside0.mk (hbox); have n2_ := Aside0.mk ((by rw [hg]; exact (below_size (by repeat (first | (with_reducible first | exact HB.out | apply below_alloc | apply pw_below_drewN | apply below_drew1) | exact HB.out))) : w.heap.size ≤ gb101)); have n3_ := Aside0.mk ((by rw [hg]; exact (below_size (by repeat (first | (with_reducible first | exact HB.out | apply below_alloc | apply pw_below_drewN | apply below_drew1) | exact HB.out))) : w.heap.size ≤ gb101)); clear HB; have HB := n0_; have BK101 := n1_; have GW101 := n2_; have GE101 := n3_; clear n0_ n1_ n2_ n3_; clear hb hbox hg; have hcz7_0 : w6.cell? ⟨gb101, 0, none⟩ = some (.int .i64 a0_0) := (blk_cell BK101.out 0).trans rfl; have hcz7_1 : w6.cell? ⟨gb101, 1, none⟩ = some (.int .i64 a0_1) := (blk_cell BK101.out 1).trans rfl; have hfz7_0 := blk_frozen BK101.out 0; have hfz7_1 := blk_frozen BK101.out 1))
      go_ret
      exact ⟨by first | rfl | (simp [errW_none, errW_some] <;> rfl) | (simp [*, errW_none, errW_some] <;> rfl), by repeat (first | (with_reducible first | exact HB.out | apply below_alloc | apply pw_below_drewN | apply below_drew1 | refine below_set ?_ GE101.out) | exact HB.out)⟩
    · rw [if_neg c5] at H
      have c5b0 : decide (1048576 < a0_0) = false := decide_eq_false c5
      clear c5
      by_cases c8 : a0_1 < 0
      · rw [if_pos c8] at H
        have c8b0 : decide (a0_1 < 0) = true := decide_eq_true c8
        clear c8
        obtain rfl := Option.some.inj H
        go_enter Try.func33, Try.ntmps33
        go_wp2_with (first | ((with_reducible refine gate_dst (N := 1) rfl ?_); refine box_event ?hg (N := 1) ?hd (cs := #[.int .i64 a0_0, .int .i64 a0_1]) (t := 32) ?hr ?_; (case hd => rfl); (case hg => rfl); (case hr => first | (go_simp; done) | (go_simp; rfl)); intro gb101 hg w9 hbox hb; have n0_ := Aside0.mk (below_step (by repeat (first | (with_reducible first | exact HB.out | apply below_alloc | apply pw_below_drewN | apply below_drew1) | exact HB.out)) hb); have n1_ := Aside0.mk (hbox); have n2_ := Aside0.mk ((by rw [hg]; exact (below_size (by repeat (first | (with_reducible first | exact HB.out | apply below_alloc | apply pw_below_drewN | apply below_drew1) | exact HB.out))) : w.heap.size ≤ gb101)); have n3_ := Aside0.mk ((by rw [hg]; exact (below_size (by repeat (first | (with_reducible first | exact HB.out | apply below_alloc | apply pw_below_drewN | apply below_drew1) | exact HB.out))) : w.heap.size ≤ gb101)); clear HB; have HB := n0_; have BK101 := n1_; have GW101 := n2_; have GE101 := n3_; clear n0_ n1_ n2_ n3_; clear hb hbox hg; have hcz10_0 : w9.cell? ⟨gb101, 0, none⟩ = some (.int .i64 a0_0) := (blk_cell BK101.out 0).trans rfl; have hcz10_1 : w9.cell? ⟨gb101, 1, none⟩ = some (.int .i64 a0_1) := (blk_cell BK101.out 1).trans rfl; have hfz10_0 := blk_frozen BK101.out 0; have hfz10_1 := blk_frozen BK101.out 1))
        go_ret
        exact ⟨by first | rfl | (simp [errW_none, errW_some] <;> rfl) | (simp [*, errW_none, errW_some] <;> rfl), by repeat (first | (with_reducible first | exact HB.out | apply below_alloc | apply pw_below_drewN | apply below_drew1 | refine below_set ?_ GE101.out) | exact HB.out)⟩
      · rw [if_neg c8] at H
        have c8b0 : decide (a0_1 < 0) = false := decide_eq_false c8
        clear c8
        obtain rfl := Option.some.inj H
        go_enter Try.func33, Try.ntmps33
        go_wp2_with (first | ((with_reducible refine gate_dst (N := 1) rfl ?_); refine box_event ?hg (N := 1) ?hd (cs := #[.int .i64 a0_0, .int .i64 a0_1]) (t := 32) ?hr ?_; (case hd => rfl); (case hg => rfl); (case hr => first | (go_simp; done) | (go_simp; rfl)); intro gb101 hg w11 hbox hb; have n0_ := Aside0.mk (below_step (by repeat (first | (with_reducible first | exact HB.out | apply below_alloc | apply pw_below_drewN | apply below_drew1) | exact HB.out)) hb); have n1_ := Aside0.mk (hbox); have n2_ := Aside0.mk ((by rw [hg]; exact (below_size (by repeat (first | (with_reducible first | exact HB.out | apply below_alloc | apply pw_below_drewN | apply below_drew1) | exact HB.out))) : w.heap.size ≤ gb101)); have n3_ := Aside0.mk ((by rw [hg]; exact (below_size (by repeat (first | (with_reducible first | exact HB.out | apply below_alloc | apply pw_below_drewN | apply below_drew1) | exact HB.out))) : w.heap.size ≤ gb101)); clear HB; have HB := n0_; have BK101 := n1_; have GW101 := n2_; have GE101 := n3_; clear n0_ n1_ n2_ n3_; clear hb hbox hg; have hcz12_0 : w11.cell? ⟨gb101, 0, none⟩ = some (.int .i64 a0_0) := (blk_cell BK101.out 0).trans rfl; have hcz12_1 : w11.cell? ⟨gb101, 1, none⟩ = some (.int .i64 a0_1) := (blk_cell BK101.out 1).trans rfl; have hfz12_0 := blk_frozen BK101.out 0; have hfz12_1 := blk_frozen BK101.out 1))
        go_ret
        exact ⟨by first | rfl | (simp [errW_none, errW_some] <;> rfl) | (simp [*, errW_none, errW_some] <;> rfl), by repeat (first | (with_reducible first | exact HB.out | apply below_alloc | apply pw_below_drewN | apply below_drew1 | refine below_set ?_ GE101.out) | exact HB.out)⟩

end Go.Proofs.Yteieknlkcodkcaa.Q
namespace Go.Proofs.Yteieknlkcodkcaa.Q
open Go.RowKit Go.Proofs.YteieknlkcodkcaaW.PrintWords Go.Proofs.YteieknlkcodkcaaW.PrintLast Go.Proofs.YteieknlkcodkcaaW.PrintMore
attribute [local go_sem] max2_int min2_int max_two min_two max_three min_three max_four min_four   -- for this text's walks alone
set_option linter.unusedVariables false
set_option linter.unusedSimpArgs false

/-- What 'quota.Valid' asks of one share. -/
def badShare (s : S32) : Bool := decide (s.f0 < 1) || (decide (s.f0 > 1048576) || (decide (s.f1 < 0) || decide (s.f1 > 1099511627776)))
def quota_Valid.f (l0 : List S32) : Option Bool := some (decide ((l0.length : Int) ≤ 1000) && !(l0.any badShare))
theorem badShare_eq (s : S32) : quota_Valid_1.f s.f0 s.f1 = some (badShare s) := by
  unfold quota_Valid_1.f badShare
  by_cases a : s.f0 < 1 <;> by_cases b : s.f0 > 1048576 <;> by_cases c : s.f1 < 0 <;> simp [a, b, c] <;> omega
theorem badShare_calls (s : S32) (w : World) : Calls Try.prog 33 #[.agg #[.int .i64 s.f0, .int .i64 s.f1]] w fun e w' => e = .returned (.bool (badShare s)) ∧ Below w.heap.size w w' :=
  quota_Valid_1.calls s.f0 s.f1 (badShare s) w (badShare_eq s)
/-- Where the first bad share is, or -1. -/
def badAt (l : List S32) (i : Int) : Int := match l with
  | [] => -1
  | s :: r => if badShare s then i else badAt r (i + 1)
theorem badAt_any (l : List S32) (i : Int) (h : 0 ≤ i) : decide (badAt l i ≥ 0) = l.any badShare := by
  induction l generalizing i with
  | nil => simp [badAt]
  | cons s r ih =>
    unfold badAt
    cases e : badShare s with
    | true => simp [e, h]
    | false => simp only [Bool.false_eq_true, if_false, List.any_cons, e, Bool.false_or]; exact ih (i + 1) (by omega)
theorem badAt_lt (l : List S32) (i : Int) : badAt l i < i + (l.length : Int) ∨ badAt l i = -1 := by
  induction l generalizing i with
  | nil => exact .inr rfl
  | cons s r ih =>
    unfold badAt
    split
    · left; simp; omega
    · rcases ih (i + 1) with h | h
      · left; simp; omega
      · exact .inr h
theorem badAt_drop (l : List S32) (x : Nat) (h : x < l.length) : badAt (l.drop x) x = if badShare (rd_T32 l x) then (x : Int) else badAt (l.drop (x + 1)) ((x + 1 : Nat) : Int) := by
  have e : l.drop x = l[x] :: l.drop (x + 1) := List.drop_eq_getElem_cons h
  rw [e]
  simp only [badAt]
  have : rd_T32 l x = l[x] := by simp [rd_T32, List.getD_eq_getElem?_getD, h]
  rw [this]
  simp
theorem kd_below32 {w w1 : World} {A : Option Addr} {n : Nat} {xs : List S32} (h : Kd.C k32 w A n xs) (hb : Below w.heap.size w w1) : Kd.C k32 w1 A n xs := Kd.C_below h hb
theorem below_chain1 {w w1 w2 : World} (h : Below w.heap.size w w1) (k : Below w1.heap.size w1 w2) : Below w.heap.size w w2 := below_then h h.size k
set_option maxHeartbeats 2000000 in
theorem quota_Valid.index (A0 : Option Addr) (c0 : Nat) (l0 : List S32) (w : World) (hr0 : Kd.C k32 w A0 l0.length l0) (hc0 : l0.length ≤ c0) (hl : l0.length ≤ 9223372036854775807) :
    Calls Try.prog 45 #[.slice A0 l0.length c0, .func (.func 33) #[] #[]] w fun e w' => e = .returned (.int .i64 (badAt l0 0)) ∧ Below w.heap.size w w' := by
  have HR := Aside0.mk hr0
  clear hr0 hc0
  generalize hr : badAt l0 0 = r
  have HE := Aside0.mk hr
  clear hr
  go_enter Try.func45, Try.ntmps45
  go_wp2
  go_loopg [8] l0.length (fun kq v8 w' => ∃ x : Nat, v8 = .int .i64 x ∧ Aside0 (badAt (l0.drop x) x = r) ∧ x ≤ l0.length ∧ Aside0 (kq + x = l0.length) ∧ Aside0 (Below w.heap.size w w'))
  case atStart => exact ⟨0, rfl, ⟨by simpa using HE.out⟩, Nat.zero_le _, ⟨rfl⟩, ⟨Below.refl _ _⟩⟩
  case round =>
    clear HE
    obtain ⟨x, rfl, HE, hx, HK, HB⟩ := hrel
    by_cases c : x < l0.length
    · have p : (0 : Int) ≤ (x : Int) := Int.natCast_nonneg x
      have q : (x : Int) < (l0.length : Int) := Int.ofNat_lt.mpr c
      obtain ⟨ad, e, hx0, hx1⟩ := at_T32 (kd_below32 HR.out HB.out) (x : Int) p q
      cases e
      simp only [Int.toNat_natCast] at hx0 hx1
      have hE := HE.out
      rw [badAt_drop _ _ c] at hE
      have hcall := badShare_calls (rd_T32 l0 x) wr
      cases hb : badShare (rd_T32 l0 x) with
      | true =>
        rw [hb] at hE hcall
        have HCC := Aside0.mk hcall
        have HE' : Aside0 ((x : Int) = r) := ⟨by simpa using hE⟩
        clear hE hcall hb HE
        go_wp2_with fail
        refine HCC.out.mono ?_
        rintro e w1 ⟨rfl, hb⟩
        go_wp2
        go_ret
        exact ⟨by rw [← HE'.out]; rfl, below_chain1 HB.out hb⟩
      | false =>
        rw [hb] at hE hcall
        have HCC := Aside0.mk hcall
        have HE' : Aside0 (badAt (l0.drop (x + 1)) ((x + 1 : Nat) : Int) = r) := ⟨by simpa using hE⟩
        clear hE hcall hb HE
        go_wp2_with fail
        refine HCC.out.mono ?_
        rintro e w1 ⟨rfl, hb⟩
        go_wp2
        go_roundg (l0.length - (x + 1))
        case measure => have := HK.out; omega
        case rel => exact ⟨x + 1, by go_num, HE', c, ⟨by omega⟩, ⟨below_chain1 HB.out hb⟩⟩
    · have e : x = l0.length := by omega
      subst e
      have HE' : Aside0 (-1 = r) := ⟨by simpa [badAt] using HE.out⟩
      clear HE c
      go_wp2
      go_ret
      exact ⟨by rw [← HE'.out]; rfl, HB.out⟩
set_option maxHeartbeats 2000000 in
theorem quota_Valid.contains (A0 : Option Addr) (c0 : Nat) (l0 : List S32) (w : World) (hr0 : Kd.C k32 w A0 l0.length l0) (hc0 : l0.length ≤ c0) (hl : l0.length ≤ 9223372036854775807) :
    Calls Try.prog 32 #[.slice A0 l0.length c0, .func (.func 33) #[] #[]] w fun e w' => e = .returned (.bool (l0.any badShare)) ∧ Below w.heap.size w w' := by
  have h := quota_Valid.index A0 c0 l0 w hr0 hc0 hl
  have HA := Aside0.mk (badAt_any l0 0 (by omega))
  clear hr0 hc0
  generalize badAt l0 0 = r at h HA
  generalize l0.any badShare = b at HA
  have H := Aside0.mk h
  clear h
  go_enter Try.func32, Try.ntmps32
  go_wp2_with fail
  refine H.out.mono ?_
  rintro e w1 ⟨rfl, hb⟩
  go_wp2
  go_ret
  exact ⟨by rw [← HA.out]; rfl, hb⟩
theorem quota_Valid.calls (A0 : Option Addr) (c0 : Nat) (l0 : List (S32)) (r : Bool) (w : World) (hr0 : Kd.C k32 w A0 l0.length l0) (hc0 : l0.length ≤ c0) (h : quota_Valid.f l0 = some r) :
    Calls Try.prog 10 #[.slice A0 l0.length c0] w fun e w' => e = .returned (.bool r) ∧ Below w.heap.size w w' := by
  have hl : l0.length ≤ 9223372036854775807 := hr0.2.1
  have hcon := quota_Valid.contains A0 c0 l0 w hr0 hc0 hl
  have hf : (decide ((l0.length : Int) ≤ 1000) && !(l0.any badShare)) = r := Option.some.inj h
  clear hr0 hc0 h
  generalize l0.any badShare = b at hcon hf
  have H := Aside0.mk hcon
  have HF := Aside0.mk hf
  clear hcon hf
  by_cases c : l0.length ≤ 1000
  · have c1 : decide ((l0.length : Int) ≤ 1000) = true := decide_eq_true (by omega)
    have HF' : Aside0 ((!b) = r) := ⟨by rw [← HF.out, c1]; rfl⟩
    clear HF
    go_enter Try.func10, Try.ntmps10
    go_wp2_with fail
    refine H.out.mono ?_
    rintro e w1 ⟨rfl, hb⟩
    go_wp2
    go_ret
    exact ⟨by rw [← HF'.out]; rfl, hb⟩
  · have c1 : decide ((l0.length : Int) ≤ 1000) = false := decide_eq_false (by omega)
    have HF' : Aside0 (false = r) := ⟨by rw [← HF.out, c1]; rfl⟩
    clear HF
    go_enter Try.func10, Try.ntmps10
    go_wp2
    go_ret
    exact ⟨by rw [← HF'.out]; rfl, Below.refl _ _⟩

end Go.Proofs.Yteieknlkcodkcaa.Q
namespace Go.Proofs.Yteieknlkcodkcaa.Q
open Go.RowKit Go.Proofs.YteieknlkcodkcaaW.PrintWords Go.Proofs.YteieknlkcodkcaaW.PrintLast Go.Proofs.YteieknlkcodkcaaW.PrintMore
attribute [local go_sem] max2_int min2_int max_two min_two max_three min_three max_four min_four   -- for this text's walks alone
set_option linter.unusedVariables false
set_option linter.unusedSimpArgs false

/-! A region whose operations only read, but for the last ones, inside the wide fence: one walk in the order of the text. -/
theorem wpIn_of_still {P : Program} {n : Nat} {o : Oper} {a : Act} {w : World} {K : Act → Prop} {K' : Act → World → Prop} {Q' : Exit → Act → World → Prop} (h : ∀ a, K a → K' a w) (hh : o.still P a w K) : o.wpIn Fence.wide n P a w K' Q' := by
  refine ⟨fun _ _ => trivial, ?_⟩
  show o.uponIn Fence.wide n P a K' Q' ((execOp a.eval o).run P w)
  unfold Oper.still at hh
  generalize (execOp a.eval o).run P w = r at *
  cases r with
  | ok x w' =>
    cases x <;> simp only [Oper.stillUpon] at hh <;> simp only [Oper.uponIn]
    case enter f args =>
      obtain ⟨rfl, v, hc, hn⟩ := hh
      refine ⟨fun hd => by simp [Fence.wide] at hd, (callsIn_wide.2 hc).mono fun e w'' ⟨he, hw⟩ => ?_⟩
      subst he; subst hw; exact h _ hn
    all_goals (obtain ⟨rfl, h2⟩ := hh; exact h _ h2)
  | halt x w' => simp only [Oper.stillUpon] at hh
theorem wpOpIn_of_stOp {P : Program} {n : Nat} {ops : Array Oper} {w : World} {i : Nat} {a : Act} {K : Act → Prop} {K' : Act → World → Prop} {Q' : Exit → Act → World → Prop} (h : ∀ a, K a → K' a w) (hh : stOp P ops w i K a) : wpOpIn Fence.wide n P ops Q' i K' a w := by
  unfold stOp at hh
  unfold wpOpIn
  split
  · rename_i ho; simp only [ho] at hh; exact h _ hh
  · rename_i o ho
    simp only [ho] at hh
    split
    · rename_i hw; simp only [hw, if_true] at hh; exact wpIn_of_still h hh
    · rename_i hw; simp only [hw] at hh; exact ⟨fun _ _ => trivial, h _ hh⟩
theorem wpAnyIn_of_head {P : Program} {m : Nat} {md : Region.Mode} {ops : Array Oper} {w : World} {n g : Nat} {L : Array Bool → Act → Prop} {Q' : Exit → Act → World → Prop} (hL : ∀ listed a, L listed a → wpAnyIn Fence.wide m P md ops Q' g listed a w) :
    ∀ (f : Nat) (listed : Array Bool) (a : Act), wpAnyL P md ops w n L f listed a → wpAnyIn Fence.wide m P md ops Q' (f + g) listed a w
  | 0, listed, a, h => by rw [Nat.zero_add]; exact hL _ _ h
  | f + 1, listed, a, h => by
    rw [show f + 1 + g = (f + g) + 1 by omega]
    exact ⟨fun h0 => absurd h0 h.1, fun i hi => wpOpIn_of_stOp (fun a' h' => wpAnyIn_of_head hL f _ a' h') (h.2 i hi).2⟩
theorem wpAnyIn_of_seq {P : Program} {m : Nat} {md : Region.Mode} {ops : Array Oper} {Q' : Exit → Act → World → Prop} : ∀ (l : List Oper) (k : Nat) (listed : Array Bool) (a : Act) (w : World), (∀ j, l[j]? = ops[k + j]?) →
    Region.seqB md ops l.length k listed = true → wpListIn Fence.wide m P ops Q' l a w → wpAnyIn Fence.wide m P md ops Q' l.length listed a w
  | [], _, _, _, _, _, hB, h => ⟨by simpa [Region.seqB] using hB, h⟩
  | o :: l, k, listed, a, w, hl, hB, h => by
    have h0 : ops[k]? = some o := by simpa using (hl 0).symm
    simp only [List.length_cons, Region.seqB, Bool.and_eq_true, decide_eq_true_eq] at hB
    refine ⟨fun h1 => (by rw [hB.1] at h1; cases h1), fun i hi => ?_⟩
    rw [hB.1] at hi
    have hik : i = k := by simpa using hi
    subst hik
    have hw : wpOpIn Fence.wide m P ops Q' i (wpListIn Fence.wide m P ops Q' l) a w := by
      unfold wpOpIn; simp only [h0]; exact h
    exact wpOpIn_mono (fun a' w' h' => wpAnyIn_of_seq l (i + 1) _ a' w' (fun j => by have := hl (j + 1); simpa [Nat.add_assoc, Nat.add_comm 1 j] using this) hB.2 h') hw
theorem wpIn_region_still_tail {P : Program} {m : Nat} {id : Nat} {Q : Exit → Act → World → Prop} {a : Act} {w : World} {l : List Oper} (n : Nat) (hm : P.follows .mixedOrders = true) (hB : Region.lexTailB .any l.toArray n = true)
    (h : wpStill P l.toArray w.drew (fun a' => wpListIn Fence.wide m P l.toArray Q (l.drop n) a' w.drew) (l.take n) a) : (Code.region id l.toArray true).wpIn Fence.wide m P Q a w := by
  simp only [Region.lexTailB, Bool.and_eq_true, decide_eq_true_eq] at hB
  obtain ⟨⟨⟨⟨hsel, hn⟩, hs⟩, hc⟩, hlex⟩ := hB
  have hn' : n < l.length := by simpa using hn
  have htl : (l.take n).length = n := by simp; omega
  have hdl : (l.drop n).length = l.toArray.size - n := by simp
  have inv0 : HeadInv .any l.toArray n (Array.replicate l.toArray.size false) :=
    ⟨by simp, fun j oj _ hl => (by rw [getD_replicate_false] at hl; cases hl), fun t _ ht => getD_in (by simpa using ht) (getD_replicate_false _ _)⟩
  have H := wpAnyL_lex (md := .any) (g := l.toArray.size - n) hsel hs hc hn (l.take n) 0 _ a (fun j hj => by
    have hj' : j < n := by rw [htl] at hj; exact hj
    simp [hj']) (by simpa using htl) inv0 (by rw [htl]; exact hlex) h
  refine wpIn_region_any hm ?_
  have := wpAnyIn_of_head (m := m) (Q' := Q) (g := l.toArray.size - n) (fun listed a' hL => by
    have := wpAnyIn_of_seq (m := m) (md := .any) (Q' := Q) (l.drop n) n listed a' w.drew (fun j => by simp [List.getElem?_drop]) (by rw [hdl]; exact hL.1) hL.2
    rwa [hdl] at this) _ _ _ H
  rw [htl, show n + (l.toArray.size - n) = l.toArray.size by omega] at this
  exact this

end Go.Proofs.Yteieknlkcodkcaa.Q
namespace Go.Proofs.Yteieknlkcodkcaa.Q
open Go.RowKit Go.Proofs.YteieknlkcodkcaaW.PrintWords Go.Proofs.YteieknlkcodkcaaW.PrintLast Go.Proofs.YteieknlkcodkcaaW.PrintMore
attribute [local go_sem] max2_int min2_int max_two min_two max_three min_three max_four min_four   -- for this text's walks alone
set_option linter.unusedVariables false
set_option linter.unusedSimpArgs false

/-- Who has more than it gets, but one: tenants, and how much more. -/
def exl : List S53 → List Int → Int → Int → List (Int × Int)
  | [], _, _, _ => []
  | a :: l, g, but, i => if i ≠ but ∧ rd g i < a.f2 then (a.f0, wrap64 (a.f2 - rd g i)) :: exl l g but (i + 1) else exl l g but (i + 1)
theorem exl_length (l : List S53) (g : List Int) (but : Int) : ∀ i, (exl l g but i).length ≤ l.length := by
  induction l with
  | nil => intro i; simp [exl]
  | cons a l ih =>
    intro i
    unfold exl
    have := ih (i + 1)
    split <;> simp <;> omega
theorem exl_snoc (l : List S53) (a : S53) (g : List Int) (but : Int) : ∀ i, exl (l ++ [a]) g but i = exl l g but i ++ (if i + (l.length : Int) ≠ but ∧ rd g (i + l.length) < a.f2 then [(a.f0, wrap64 (a.f2 - rd g (i + l.length)))] else []) := by
  induction l with
  | nil => intro i; simp [exl]
  | cons b l ih =>
    intro i
    have e : i + ((b :: l).length : Int) = (i + 1) + (l.length : Int) := by simp; omega
    rw [e]
    simp only [List.cons_append, exl]
    rw [ih (i + 1)]
    split <;> simp
theorem take_rd53 (l : List S53) (k : Nat) (h : k < l.length) : l.take (k + 1) = l.take k ++ [rd_T53 l k] := by
  rw [List.take_succ_eq_append_getElem h]
  congr 1
  simp [rd_T53, List.getD_eq_getElem?_getD, h]
theorem grown_drewN (w : World) (n : Nat) : w.grownBy (w.drewN n) none := ⟨rfl, rfl, rfl, Nat.le_refl _, fun _ _ _ => rfl⟩
theorem World.grownBy.drew (w : World) : w.grownBy w.drew none := ⟨rfl, rfl, rfl, Nat.le_refl _, fun _ _ _ => rfl⟩
theorem yields_one {e : Ending} {A B : Prop} (h : (e = .returned (.bool true) ∧ A) ∨ (e = .returned (.bool false) ∧ B)) : ∃ b : Bool, e = .returned (.bool b) ∧ Aside0 ((b = true ∧ A) ∨ (b = false ∧ B)) := by
  rcases h with ⟨rfl, h⟩ | ⟨rfl, h⟩
  · exact ⟨true, rfl, ⟨.inl ⟨rfl, h⟩⟩⟩
  · exact ⟨false, rfl, ⟨.inr ⟨rfl, h⟩⟩⟩
attribute [local go_sem] Oper.semAt_some
/-- What the iterator reads, in the world at hand. -/
structure ExR (B : Nat) (A0 : Option Addr) (c0 : Nat) (l0 : List S53) (G : Option Addr) (cg : Nat) (g : List Int) (but : Int) (W : World) : Prop where
  c1 : W.cell? ⟨B, 0, none⟩ = some (.slice A0 l0.length c0)
  c2 : W.cell? ⟨B + 2, 0, none⟩ = some (.int .i64 but)
  c3 : W.cell? ⟨B + 1, 0, none⟩ = some (.slice G g.length cg)
  hl : Kd.C k53 W A0 l0.length l0
  hg : Kd.C (Kd.int .i64) W G g.length g
theorem ExR.below {B : Nat} {A0 : Option Addr} {c0 : Nat} {l0 : List S53} {G : Option Addr} {cg : Nat} {g : List Int} {but : Int} {W W' : World} (h : ExR B A0 c0 l0 G cg g but W) (hb : Below W.heap.size W W') : ExR B A0 c0 l0 G cg g but W' :=
  ⟨pw_cell_below hb h.c1, pw_cell_below hb h.c2, pw_cell_below hb h.c3, Kd.C_below h.hl hb, Kd.C_below h.hg hb⟩
set_option maxRecDepth 100000 in
set_option maxHeartbeats 4000000 in
theorem excess1_in (n : Nat) (hn : 1 ≤ n) (lp B : Nat) (A0 : Option Addr) (c0 : Nat) (l0 : List S53) (G : Option Addr) (cg : Nat) (g : List Int) (but : Int) (W : World)
    (J Jx : List (Int × Int) → World → Prop) (Kp : World → World → Prop) (hJ : AbidesFrom W.heap.size J) (hKR : ∀ W1 W', ExR B A0 c0 l0 G cg g but W1 → Kp W1 W' → ExR B A0 c0 l0 G cg g but W')
    (hY : ∀ pre x W1, J pre W1 → pre.length < l0.length → YieldAt Fence.wide (n - 1) Try.prog lp #[.int .i64 x.1, .int .i64 x.2] W1 fun e W' => (e = .returned (.bool true) ∧ J (pre ++ [x]) W' ∧ Kp W1 W') ∨ (e = .returned (.bool false) ∧ Jx (pre ++ [x]) W'))
    (hW : ExR B A0 c0 l0 G cg g but W) (hlen : l0.length = g.length) (h0 : J [] W) :
    CallsIn Fence.wide n Try.prog 50 #[.func (.yield lp) #[] #[], .pointer (some ⟨B, 0, none⟩), .pointer (some ⟨B + 2, 0, none⟩), .pointer (some ⟨B + 1, 0, none⟩)] W fun e W' => (∃ v, e = .returned v) ∧ ((∃ xs, xs = exl l0 g but 0 ∧ J xs W') ∨ (∃ pre, True ∧ Jx pre W')) := by
  have HW := Aside0.mk hW
  have HN := Aside0.mk hlen
  have hm := hW.hl.2.1
  have hW1 := hW.c1
  clear hW hlen
  refine callsIn_of_wp Try.func50 rfl trivial ?_ rfl
  simp only [Try.ntmps50, List.size_toArray, List.length_cons, List.length_nil, Nat.reduceAdd, Nat.reduceSub, Array.replicate_succ, Array.replicate_zero, List.push_toArray, List.append_toArray, List.nil_append, List.cons_append]
  gi_wp2
  gi_loopw [9] (fun i wr => ∃ k : Nat, k ≤ l0.length ∧ i = .int .i64 k ∧ Aside0 (J (exl (l0.take k) g but 0) wr) ∧ Aside0 (ExR B A0 c0 l0 G cg g but wr)) (fun i _ => l0.length - (intOf i).toNat)
  case atStart => exact ⟨0, Nat.zero_le _, rfl, ⟨h0⟩, HW⟩
  case round =>
    obtain ⟨k, hk, rfl, HJ, HB⟩ := hrel
    by_cases hlt : k < l0.length
    · have p : (0 : Int) ≤ (k : Int) := Int.natCast_nonneg k
      have q : (k : Int) < (l0.length : Int) := by omega
      obtain ⟨ad, e, hx0, hx1, hx2⟩ := at_T53 HB.out.hl (k : Int) p q
      cases e
      simp only [Int.toNat_natCast] at hx0 hx1 hx2
      have hb2 := HB.out.c2
      have hb3 := HB.out.c3
      have q2 : (k : Int) < (g.length : Int) := by rw [← HN.out]; omega
      obtain ⟨ad2, e, hy0⟩ := Kd.at_int HB.out.hg (k : Int) p q2
      cases e
      simp only [Int.toNat_natCast] at hy0
      have l0_ := World.block_lt_of_cell? _ _ hx0
      have l1_ := World.block_lt_of_cell? _ _ hb2
      have l2_ := World.block_lt_of_cell? _ _ hb3
      have l3_ := World.block_lt_of_cell? _ _ hy0
      obtain ⟨W1, hW1⟩ : ∃ W1, W1 = wr.alloc (.cells #[.int .i64 (rd_T53 l0 k).f0, .int .i64 (rd_T53 l0 k).f1, .int .i64 (rd_T53 l0 k).f2] 53) := ⟨_, rfl⟩
      have v2 : W1.cell? ⟨B + 2, 0, none⟩ = some (.int .i64 but) := by rw [hW1, World.cell?_alloc_lt _ _ _ l1_]; exact hb2
      have v3 : W1.cell? ⟨B + 1, 0, none⟩ = some (.slice (some ad2) g.length cg) := by rw [hW1, World.cell?_alloc_lt _ _ _ l2_]; exact hb3
      have v4 : W1.cell? (ad2.add k) = some (.int .i64 (rd g k)) := by rw [hW1, World.cell?_alloc_lt _ _ _ l3_]; exact hy0
      have v5 : W1.cell? ⟨wr.heap.size, 0, none⟩ = some (.int .i64 (rd_T53 l0 k).f0) := by rw [hW1, World.cell?_alloc_at _ _ _ _ rfl]; rfl
      have v6 : W1.cell? ⟨wr.heap.size, 2, none⟩ = some (.int .i64 (rd_T53 l0 k).f2) := by rw [hW1, World.cell?_alloc_at _ _ _ _ rfl]; rfl
      have hJ1 : J (exl (l0.take k) g but 0) W1 := by
        rw [hW1]
        exact hJ _ _ _ none HJ.out (World.grownBy_alloc wr _ none) (fun r e => by cases e)
      have HJ1 := Aside0.mk hJ1
      have HB1 : Aside0 (ExR B (some ad) c0 l0 (some ad2) cg g but W1) := ⟨by rw [hW1]; exact HB.out.below ((Below.refl _ _).alloc (Nat.le_refl _) _)⟩
      have HW1 := Aside0.mk hW1
      clear hJ1 hW1
      have hto : l0.take (k + 1) = l0.take k ++ [rd_T53 l0 k] := take_rd53 l0 k hlt
      have hex := exl_snoc (l0.take k) (rd_T53 l0 k) g but 0
      rw [← hto, List.length_take, Nat.min_eq_left (by omega), Int.zero_add] at hex
      have HEX := Aside0.mk hex
      clear hex hto
      by_cases c : (k : Int) ≠ but
      · have cb : ((k : Int) != but) = true := by simpa using c
        have cb2 : ((k : Int) == but) = false := by simpa using c
        by_cases d : rd g k < (rd_T53 l0 k).f2
        · have db : decide (rd g k < (rd_T53 l0 k).f2) = true := decide_eq_true d
          have HEX' : Aside0 (exl (l0.take (k + 1)) g but 0 = exl (l0.take k) g but 0 ++ [((rd_T53 l0 k).f0, wrap64 ((rd_T53 l0 k).f2 - rd g k))]) := ⟨by rw [HEX.out, if_pos ⟨c, d⟩]⟩
          clear HEX d c
          have hJd : J (exl (l0.take k) g but 0) W1.drew := hJ _ _ _ none HJ1.out (World.grownBy.drew W1) (fun r e => by cases e)
          obtain ⟨fn, tmps, assign, body, hy, hR⟩ := hY _ ((rd_T53 l0 k).f0, wrap64 ((rd_T53 l0 k).f2 - rd g k)) W1.drew hJd (by have := exl_length (l0.take k) g but 0; rw [List.length_take] at this; omega)
          dsimp only at hy
          have hwr : IntKind.i64.wrap ((rd_T53 l0 k).f2 - rd g k) = wrap64 ((rd_T53 l0 k).f2 - rd g k) := by rw [IntKind.wrap_i64]; unfold wrap64; rfl
          have HR := Aside0.mk hR
          have HKR := Aside0.mk hKR
          clear hR hJd hY hJ hKR cb2 h0
          gi_wp2
          rw [← HW1.out]
          clear hx0 hx1 hx2 hb2 hb3 hy0 l0_ l1_ l2_ l3_
          refine wpIn_region_still_tail 23 (by kernel_rfl) (by kernel_rfl) ?_
          simp only [List.take_succ_cons, List.take_zero, List.drop_succ_cons, List.drop_zero]
          repeat still_step
          refine wpStill_nil ?_
          gi_wp2
          refine HR.out.mono ?_
          rintro e W3 (⟨rfl, hJ3, hk3⟩ | ⟨rfl, hJx3⟩)
          · have HJ3 := Aside0.mk hJ3
            have HK3 := Aside0.mk hk3
            clear hJ3 hk3
            gi_wp2
            go_roundw
            case rel => exact ⟨k + 1, hlt, by go_num, ⟨by rw [HEX'.out]; exact HJ3.out⟩, ⟨HKR.out _ _ (HB1.out.below (below_drew (Below.refl _ _))) HK3.out⟩⟩
            case measure => simp [intOf]; omega
          · have HJX := Aside0.mk hJx3
            clear hJx3
            gi_wp2
            refine bodyPost_ret (results_none rfl _ _ _) rfl ?_
            exact ⟨⟨_, rfl⟩, .inr ⟨_, trivial, HJX.out⟩⟩
        · have db : decide (rd g k < (rd_T53 l0 k).f2) = false := decide_eq_false d
          have HEX' : Aside0 (exl (l0.take (k + 1)) g but 0 = exl (l0.take k) g but 0) := ⟨by rw [HEX.out, if_neg (fun h => d h.2), List.append_nil]⟩
          clear HEX d c
          gi_wp2
          rw [← HW1.out]
          clear hx0 hx1 hx2 hb2 hb3 hy0 l0_ l1_ l2_ l3_
          refine wpIn_region_quiet_lit rfl (by kernel_rfl) (by kernel_rfl) ?_
          repeat gi_big_quiet_step (fail)
          refine BigFrame.wpQuietIn_skip (by intro w _ f hf; trivial) rfl ?_
          simp only [Act.put, List.setIfInBounds_toArray, List.set_cons_zero, List.set_cons_succ]
          repeat gi_big_quiet_step (fail)
          refine wpQuietIn_nil ?_
          intro _ hw'
          obtain ⟨nq, hw''⟩ := hw'
          subst hw''
          gi_wp2
          go_roundw
          case rel => exact ⟨k + 1, hlt, by go_num, ⟨by rw [HEX'.out]; exact hJ _ _ _ none HJ1.out (grown_drewN W1 nq) (fun r e => by cases e)⟩, ⟨HB1.out.below (pw_below_drewN (Below.refl _ _) nq)⟩⟩
          case measure => simp [intOf]; omega
      · have ce : (k : Int) = but := Classical.not_not.mp c
        have cb : ((k : Int) != but) = false := by simpa using ce
        have HEX' : Aside0 (exl (l0.take (k + 1)) g but 0 = exl (l0.take k) g but 0) := ⟨by rw [HEX.out, if_neg (fun h => h.1 ce), List.append_nil]⟩
        clear HEX c ce
        gi_wp2
        rw [← HW1.out]
        clear hx0 hx1 hx2 hb2 hb3 hy0 l0_ l1_ l2_ l3_
        refine wpIn_region_quiet_lit rfl (by kernel_rfl) (by kernel_rfl) ?_
        repeat gi_big_quiet_step (fail)
        refine BigFrame.wpQuietIn_skip (by intro w _ f hf; trivial) rfl ?_
        simp only [Act.put, List.setIfInBounds_toArray, List.set_cons_zero, List.set_cons_succ]
        repeat gi_big_quiet_step (fail)
        refine wpQuietIn_nil ?_
        intro _ hw'
        obtain ⟨nq, hw''⟩ := hw'
        subst hw''
        gi_wp2
        go_roundw
        case rel => exact ⟨k + 1, hlt, by go_num, ⟨by rw [HEX'.out]; exact hJ _ _ _ none HJ1.out (grown_drewN W1 nq) (fun r e => by cases e)⟩, ⟨HB1.out.below (pw_below_drewN (Below.refl _ _) nq)⟩⟩
        case measure => simp [intOf]; omega
    · obtain rfl : k = l0.length := by omega
      have hJ' := HJ.out
      rw [List.take_of_length_le (Nat.le_refl _)] at hJ'
      have HJ2 := Aside0.mk hJ'
      clear hJ' HJ
      gi_wp2
      go_end0
      exact ⟨⟨_, rfl⟩, .inl ⟨_, rfl, HJ2.out⟩⟩

end Go.Proofs.Yteieknlkcodkcaa.Q
namespace Go.Proofs.Yteieknlkcodkcaa.Q
open Go.RowKit Go.Proofs.YteieknlkcodkcaaW.PrintWords Go.Proofs.YteieknlkcodkcaaW.PrintLast Go.Proofs.YteieknlkcodkcaaW.PrintMore
attribute [local go_sem] max2_int min2_int max_two min_two max_three min_three max_four min_four   -- for this text's walks alone
set_option linter.unusedVariables false
set_option linter.unusedSimpArgs false

/-- What each one wants: what it uses; one of them more. -/
def sharesOf (l : List S53) (p : Int) (more : Int) : List S32 := (l.map fun a => (⟨a.f1, a.f2⟩ : S32)).set p.toNat ⟨(rd_T53 l p).f1, min 1099511627776 (wrap64 ((rd_T53 l p).f2 + more))⟩
/-- Who has most beyond what it gets, but one. -/
def mostOf : List S53 → List Int → Int → Int → Int → Int → Int
  | [], _, _, _, out, _ => out
  | a :: l, g, but, i, out, most => if i ≠ but ∧ a.f2 > rd g i ∧ wrap64 (a.f2 - rd g i) > most then mostOf l g but (i + 1) a.f0 (wrap64 (a.f2 - rd g i)) else mostOf l g but (i + 1) out most
def quota_Victim.f (k : Nat) (n : Int) (l : List S53) (t more : Int) : Option (Int × Int) := (quota_place.f k l t).bind fun p =>
  if p.2 = true then (if more < 0 then some (0, 1) else if more > 1099511627776 then some (0, 1) else (quota_Total.f k l).bind fun tot => if wrap64 (tot + more) ≤ n then some (0, 0) else
    (quota_Fair.f k n (sharesOf l p.1 more)).bind fun g => if g.length = l.length then (if rd g p.1 < wrap64 ((rd_T53 l p.1).f2 + more) then some (0, 160) else some (mostOf l g p.1 0 0 0, 0)) else none)
  else some (0, 5)
theorem quota_Victim.mono : ∀ a0 a1 a2 a3 k, LeO (quota_Victim.f k a0 a1 a2 a3) (quota_Victim.f (k + 1) a0 a1 a2 a3) := fun a0 a1 a2 _ k =>
  LeO.bind (quota_place.mono a1 a2 k) (fun _ => LeO.ite (LeO.ite (LeO.refl _) (LeO.ite (LeO.refl _) (LeO.bind (quota_Total.mono a1 k) (fun _ => LeO.ite (LeO.refl _) (LeO.bind (quota_Fair.mono a0 _ k) (fun _ => LeO.refl _)))))) (LeO.refl _))
/-- The cells of what somebody wants. -/
def shc (a : S53) : List Value := [.int .i64 a.f1, .int .i64 a.f2]
theorem shc_len (l : List S53) : (l.flatMap shc).length = l.length * 2 := by
  induction l with
  | nil => rfl
  | cons a l ih => simp only [List.flatMap_cons, List.length_append, ih, List.length_cons]; show 2 + _ = _; omega
theorem shc_reps (w : World) (base : Nat) (ok : Nat → Prop) (l : List S53) : Reps (k32.M w base ok) 2 (l.map fun a => (⟨a.f1, a.f2⟩ : S32)) (l.flatMap shc) := by
  induction l with
  | nil => exact Reps.none _ _
  | cons a l ih => exact Reps.front (k32_mkM _ _ _ ⟨a.f1, a.f2⟩) rfl ih rfl
theorem take_rd53v (l : List S53) (k : Nat) (h : k < l.length) : l.take (k + 1) = l.take k ++ [rd_T53 l k] := by
  rw [List.take_succ_eq_append_getElem h]
  congr 1
  simp [rd_T53, List.getD_eq_getElem?_getD, h]
/-- One of a row of wants of the call's own: its cell 'Want', and the row behind a store there. -/
theorem own_want {W : World} {base : Nat} {ok : Nat → Prop} {v : Value} {l : List S32} (HO : Kd.R k32 32 W base ok v l) (j : Nat) (hj : j < l.length) :
    ∃ g cap, v = .slice (some ⟨g, 0, none⟩) l.length cap ∧ base ≤ g ∧ W.cell? ⟨g, j * 2 + 1, none⟩ = some (.int .i64 (rd_T32 l j).f1) ∧ W.frozen? ⟨g, j * 2 + 1, none⟩ = false ∧
      ∀ u : Int, Kd.R k32 32 (W.setCell ⟨g, j * 2 + 1, none⟩ (.int .i64 u)) base ok v (l.set j ⟨(rd_T32 l j).f0, u⟩) ∧ W.grownBy (W.setCell ⟨g, j * 2 + 1, none⟩ (.int .i64 u)) (some g) := by
  obtain ⟨inner, hown⟩ := Kd.R_own HO
  rcases hown.2 with ⟨_, h0⟩ | ⟨g, cap, cur, rfl, hb, hg, hnc, hcm, hsz, hcur⟩
  · omega
  · obtain ⟨_, _, hC⟩ := Kd.R_reads' HO
    obtain ⟨ad, e, hx0, hx1⟩ := at_T32 hC (j : Int) (Int.natCast_nonneg j) (by omega)
    injection e with e
    subst e
    simp only [Int.toNat_natCast, Addr.add_lit, Nat.zero_add] at hx0 hx1
    refine ⟨g, cap, rfl, hb, hx1, blk_frozen hg _, fun u => ?_⟩
    have h := Kd.R_seg (okp := fun _ => False) HO (j : Int) (Int.natCast_nonneg j) (by omega) (c := [.int .i64 (rd_T32 l j).f0, .int .i64 (rd_T32 l j).f1]) (seg := [.int .i64 u]) (j := 1) rfl
      (fun k v hk => by
        have hs : k32.sz = 2 := rfl
        rw [Int.toNat_natCast, hs]
        match k, hk with
        | 0, hk => simp at hk; subst hk; exact hx0
        | 1, hk => simp at hk; subst hk; exact hx1
        | k + 2, hk => simp at hk) (Nat.le_refl 2) (x' := ⟨(rd_T32 l j).f0, u⟩) (k32_mkM _ _ _ _) (fun _ h => h.elim)
    have hs : k32.sz = 2 := rfl
    simpa [World.setCells, hs] using h
/-- The greatest excess so far. -/
def outMost (l : List (Int × Int)) (z : Int × Int) : Int × Int := l.foldl (fun z x => if z.2 < x.2 then x else z) z
theorem outMost_snoc (l : List (Int × Int)) (x z : Int × Int) : outMost (l ++ [x]) z = if (outMost l z).2 < x.2 then x else outMost l z := by
  unfold outMost
  rw [List.foldl_append]
  rfl
theorem mostOf_eq (l : List S53) (g : List Int) (but : Int) : ∀ (i out most : Int), mostOf l g but i out most = (outMost (exl l g but i) (out, most)).1 := by
  induction l with
  | nil => intro i out most; rfl
  | cons a l ih =>
    intro i out most
    unfold mostOf exl
    by_cases c : i ≠ but ∧ rd g i < a.f2
    · rw [if_pos c]
      by_cases d : wrap64 (a.f2 - rd g i) > most
      · rw [if_pos ⟨c.1, c.2, d⟩, ih]
        simp only [outMost, List.foldl_cons]
        rw [if_pos (by exact d)]
      · rw [if_neg (fun h => d h.2.2), ih]
        simp only [outMost, List.foldl_cons]
        rw [if_neg (by exact d)]
    · rw [if_neg c, if_neg (fun h => c ⟨h.1, h.2.1⟩), ih]
/-- What a round of the loop keeps. -/
def KpV (B n₀ : Nat) (W W' : World) : Prop := Below n₀ W W' ∧ ∀ b, B ≤ b → b ≤ B + 2 → W'.heap[b]? = W.heap[b]?
theorem C_kept53 {w0 W W' : World} {A : Option Addr} {n : Nat} {xs : List S53} (h0 : Kd.C k53 w0 A n xs) (h : Kd.C k53 W A n xs) (hb : Below w0.heap.size W W') : Kd.C k53 W' A n xs :=
  ⟨h.1, h.2.1, fun hn => by
    obtain ⟨ad, e, hc⟩ := h.2.2 hn
    obtain ⟨ad0, e0, hx0, _, _⟩ := at_T53 h0 0 (by omega) (by omega)
    have e1 : ad = ad0 := by rw [e] at e0; injection e0
    subst e1
    have hlt : ad.block < w0.heap.size := by have := World.block_lt_of_cell? _ _ hx0; rwa [add_block] at this
    refine ⟨ad, e, fun j p hj => ?_⟩
    obtain ⟨c, hs, hK, hcell⟩ := hc j p hj
    exact ⟨c, hs, by rw [k53_open hK]; exact k53_mk _ _, fun i u hu => (hb.cell (by rw [add_block]; exact hlt)).trans (hcell i u hu)⟩⟩
theorem C_keptI {w0 W W' : World} {A : Option Addr} {n : Nat} {xs : List Int} (h0 : Kd.C (Kd.int .i64) w0 A n xs) (h : Kd.C (Kd.int .i64) W A n xs) (hb : Below w0.heap.size W W') : Kd.C (Kd.int .i64) W' A n xs :=
  ⟨h.1, h.2.1, fun hn => by
    obtain ⟨ad, e, hc⟩ := h.2.2 hn
    obtain ⟨ad0, e0, hx0⟩ := Kd.at_int h0 0 (by omega) (by omega)
    have e1 : ad = ad0 := by rw [e] at e0; injection e0
    subst e1
    have hlt : ad.block < w0.heap.size := by have := World.block_lt_of_cell? _ _ hx0; rwa [add_block] at this
    refine ⟨ad, e, fun j p hj => ?_⟩
    obtain ⟨c, hs, hK, hcell⟩ := hc j p hj
    exact ⟨c, hs, hK, fun i u hu => (hb.cell (by rw [add_block]; exact hlt)).trans (hcell i u hu)⟩⟩
theorem ExR.kept {B : Nat} {A0 : Option Addr} {c0 : Nat} {l0 : List S53} {G : Option Addr} {cg : Nat} {g : List Int} {but : Int} {w0 W W' : World} (h : ExR B A0 c0 l0 G cg g but W) (hl : Kd.C k53 w0 A0 l0.length l0) (hg : Kd.C (Kd.int .i64) w0 G g.length g)
    (hk : KpV B w0.heap.size W W') : ExR B A0 c0 l0 G cg g but W' :=
  ⟨(World.cell?_of_block (hk.2 B (by omega) (by omega))).trans h.c1, (World.cell?_of_block (hk.2 (B + 2) (by omega) (by omega))).trans h.c2, (World.cell?_of_block (hk.2 (B + 1) (by omega) (by omega))).trans h.c3, C_kept53 hl h.hl hk.1, C_keptI hg h.hg hk.1⟩
attribute [local go_sem] Oper.semAt_some
theorem vic_info : (Try.prog.info? 32).map (fun i => (i.zero, i.size, i.bytes)) = some (some (.agg #[.int .i64 0, .int .i64 0]), 2, 16) := by kernel_rfl
def VicAs (w : World) (r1 r2 : Int) (e : Ending) (w' : World) : Prop := e = .returned (.tuple #[.int .i64 r1, .int .i64 r2]) ∧ Below w.heap.size w w'
set_option maxHeartbeats 4000000 in
set_option maxRecDepth 100000 in
/-- The way that looks for somebody. -/
theorem victim_main (k : Nat) (n : Int) (A1 : Option Addr) (c1 : Nat) (l1 : List S53) (t more : Int) (j : Nat) (tot : Int) (g : List Int) (r1 r2 : Int) (w : World) (hr1 : Kd.C k53 w A1 l1.length l1) (hc1 : l1.length ≤ c1) (hj : j < l1.length) (hlen : l1.length ≤ 1000000)
    (HP : Aside0 (Calls Try.prog 40 #[.slice A1 l1.length c1, .int .i64 t] w fun e w' => e = .returned (.tuple #[.int .i64 (j : Int), .bool true]) ∧ Below w.heap.size w w'))
    (m0 : 0 ≤ more) (m1 : more ≤ 1099511627776) (ht : quota_Total.f k l1 = some tot) (htc : ¬ wrap64 (tot + more) ≤ n) (hf : quota_Fair.f k n (sharesOf l1 j more) = some g) (hg : g.length = l1.length)
    (hr : (if rd g j < wrap64 ((rd_T53 l1 j).f2 + more) then some ((0 : Int), (160 : Int)) else some (mostOf l1 g j 0 0 0, 0)) = some (r1, r2)) :
    Calls Try.prog 29 #[.int .i64 n, .slice A1 l1.length c1, .int .i64 t, .int .i64 more] w (VicAs w r1 r2) := by
  have HR := Aside0.mk hr1
  have HT := Aside0.mk ht
  have HF := Aside0.mk hf
  have HG := Aside0.mk hg
  have HH := Aside0.mk hr
  have htb : decide (wrap64 (tot + more) ≤ n) = false := decide_eq_false htc
  obtain ⟨i0, hi0, hz0, hz1, hz2⟩ := info_parts vic_info
  clear hr1 ht hf hg hr htc
  refine (callsIn_wide (n := 9)).1 ?_
  refine callsIn_of_wp_marks Try.func29 rfl trivial ?_ rfl
  refine (wpIn_wide (n := 9)).2 ?_
  simp only [Try.ntmps29, List.size_toArray, List.length_cons, List.length_nil, Nat.reduceAdd, Nat.reduceSub, Array.replicate_succ, Array.replicate_zero, List.push_toArray, List.append_toArray, List.nil_append, List.cons_append]
  go_wp2_with (first | (go_at_call 40; (with_reducible refine HP.out.mono ?_); rintro e w1 ⟨rfl, hb⟩) | (go_at_call 27; refine (quota_Total.calls k _ _ l1 tot _ (Kd.C_below HR.out hb) hc1 HT.out).mono ?_; rintro e w2 ⟨rfl, hb2⟩))
  have hb12 : Below w.heap.size w w2 := below_then hb hb.size hb2
  have HB := Aside0.mk hb12
  clear hb12 hb hb2 HP HT htb
  obtain ⟨W2, hW2⟩ : ∃ W2 : World, W2 = w2 := ⟨_, rfl⟩
  rw [← hW2] at HB ⊢
  clear hW2 w2
  go_loopw [12, 45] (fun v i wr => ∃ x : Nat, x ≤ l1.length ∧ i = .int .i64 x ∧ Aside0 (wr.ownsRow W2.heap.size 32 2 v x ((l1.take x).flatMap shc)) ∧ Aside0 (Below W2.heap.size W2 wr)) (fun _ i _ => l1.length - (intOf i).toNat)
  case atStart => exact ⟨0, Nat.zero_le _, rfl, ⟨World.ownsRow_nil _ _ _ _⟩, ⟨Below.refl _ _⟩⟩
  case round =>
    obtain ⟨x, hx, rfl, HO, HW⟩ := hrel
    by_cases hlt : x < l1.length
    · have p : (0 : Int) ≤ (x : Int) := Int.natCast_nonneg x
      have q : (x : Int) < (l1.length : Int) := by omega
      obtain ⟨ad, e, hx0, hx1, hx2⟩ := at_T53 (Kd.C_below (Kd.C_below HR.out HB.out) HW.out) (x : Int) p q
      cases e
      simp only [Int.toNat_natCast] at hx0 hx1 hx2
      have htk := take_rd53v l1 x hlt
      have hfm : (l1.take (x + 1)).flatMap shc = (l1.take x).flatMap shc ++ [.int .i64 (rd_T53 l1 x).f1, .int .i64 (rd_T53 l1 x).f2] := by
        rw [htk, List.flatMap_append]; rfl
      have HFM := Aside0.mk hfm
      have hows := (HO.out.alloc (.cells #[.int .i64 (rd_T53 l1 x).f0, .int .i64 (rd_T53 l1 x).f1, .int .i64 (rd_T53 l1 x).f2] 53)).alloc (.cells #[.int .i64 (rd_T53 l1 x).f1, .int .i64 (rd_T53 l1 x).f2] 32)
      have hbls : Below W2.heap.size W2 ((wr.alloc (.cells #[.int .i64 (rd_T53 l1 x).f0, .int .i64 (rd_T53 l1 x).f1, .int .i64 (rd_T53 l1 x).f2] 53)).alloc (.cells #[.int .i64 (rd_T53 l1 x).f1, .int .i64 (rd_T53 l1 x).f2] 32)) := (HW.out.alloc HW.out.size _).alloc (by have := HW.out.size; simp; omega) _
      have hnew : ∀ jj u, [Value.int .i64 (rd_T53 l1 x).f1, .int .i64 (rd_T53 l1 x).f2][jj]? = some u → ((wr.alloc (.cells #[.int .i64 (rd_T53 l1 x).f0, .int .i64 (rd_T53 l1 x).f1, .int .i64 (rd_T53 l1 x).f2] 53)).alloc (.cells #[.int .i64 (rd_T53 l1 x).f1, .int .i64 (rd_T53 l1 x).f2] 32)).cell? ((⟨wr.heap.size + 1, 0, none⟩ : Addr).add jj) = some u := by
        have h := heap_alloc_new (wr.alloc (.cells #[.int .i64 (rd_T53 l1 x).f0, .int .i64 (rd_T53 l1 x).f1, .int .i64 (rd_T53 l1 x).f2] 53)) (.cells #[.int .i64 (rd_T53 l1 x).f1, .int .i64 (rd_T53 l1 x).f2] 32)
        rw [World.size_alloc] at h
        exact World.news_of_block (cs := #[.int .i64 (rd_T53 l1 x).f1, .int .i64 (rd_T53 l1 x).f2]) h
      have HOS := Aside0.mk hows
      have HBL := Aside0.mk hbls
      have HNW := Aside0.mk hnew
      have hszl : W2.heap.size ≤ wr.heap.size + 1 + 1 := by have := HW.out.size; omega
      clear htk hfm hows hbls hnew HO
      go_wp2_with (at_builtin; refine wpList_append_own _ rfl _ _ 22 rfl W2.heap.size 32 i0 _ 2 16 Try.underlying22 hi0 hz0 hz1 hz2 rfl (by decide) _ x _ rfl HOS.out ⟨wr.heap.size + 1, 0, none⟩ 1 1 [.int .i64 (rd_T53 l1 x).f1, .int .i64 (rd_T53 l1 x).f2] rfl rfl HNW.out (by simp [Value.oneCell']) (by unfold maxLen; omega) (by omega) (by simp; omega) ?_; intro v' w3 hown' hgrow _; have HO3 := Aside0.mk hown'; have HW3 := Aside0.mk (HBL.out.grown hgrow HBL.out.size (fun k e => own_base HOS.out k e)); clear hown' hgrow)
      go_roundw
      case rel => exact ⟨x + 1, hlt, by go_num, ⟨by rw [HFM.out]; exact HO3.out⟩, HW3⟩
      case measure => simp [intOf]; omega
    · obtain rfl : x = l1.length := by omega
      have hO := HO.out
      rw [List.take_of_length_le (Nat.le_refl _)] at hO
      have HK : Aside0 (Kd.R k32 32 wr W2.heap.size (fun _ => True) u12 (l1.map fun a => (⟨a.f1, a.f2⟩ : S32))) := ⟨fun _ _ => trivial, _, by rw [List.length_map]; exact hO, shc_reps _ _ _ _⟩
      clear HO hO
      obtain ⟨gb, cap, rfl, hbg, hcell, hfz, hset⟩ := own_want HK.out j (by rw [List.length_map]; exact hj)
      have hrm : rd_T32 (l1.map fun a => (⟨a.f1, a.f2⟩ : S32)) (j : Int) = ⟨(rd_T53 l1 j).f1, (rd_T53 l1 j).f2⟩ := by
        simp [rd_T32, rd_T53, List.getD_eq_getElem?_getD, hj]
      rw [hrm] at hcell hset
      rw [List.length_map] at hset
      have hjl : (j : Int) < (l1.length : Int) := by omega
      have hj0 : (0 : Int) ≤ (j : Int) := Int.natCast_nonneg j
      have HSET := Aside0.mk hset
      have hst := HSET.out (min 1099511627776 (wrap64 ((rd_T53 l1 j).f2 + more)))
      have hsh : ((l1.map fun a => (⟨a.f1, a.f2⟩ : S32)).set j ⟨(rd_T53 l1 j).f1, min 1099511627776 (wrap64 ((rd_T53 l1 j).f2 + more))⟩) = sharesOf l1 j more := by unfold sharesOf; rw [Int.toNat_natCast]
      simp only [hsh] at hst
      have HST := Aside0.mk hst.1
      have HSG := Aside0.mk hst.2
      have hslen : (sharesOf l1 j more).length = l1.length := by unfold sharesOf; simp
      have HSL := Aside0.mk hslen
      rw [List.length_map] at HK
      rw [List.length_map]
      clear hset hst hsh HSET hrm hslen
      generalize hmv : min 1099511627776 (wrap64 ((rd_T53 l1 j).f2 + more)) = mv at HST HSG
      have hmv2 : (if wrap64 ((rd_T53 l1 j).f2 + more) < 1099511627776 then wrap64 ((rd_T53 l1 j).f2 + more) else 1099511627776) = mv := by
        rw [← hmv]; split <;> omega
      clear hmv
      have hst' := HST.out
      rw [show l1.length = (sharesOf l1 j more).length from HSL.out.symm] at hst'
      obtain ⟨_, hcl, hcc⟩ := Kd.R_reads' hst'
      have hfc := quota_Fair.calls k n (some ⟨gb, 0, none⟩) cap (sharesOf l1 j more) g _ hcc hcl HF.out
      rw [HSL.out] at hfc
      have HFC := Aside0.mk hfc
      have hbw : Below W2.heap.size W2 (wr.setCell ⟨gb, j * 2 + 1, none⟩ (.int .i64 mv)) := HW.out.setCell (p := ⟨gb, j * 2 + 1, none⟩) hbg _
      have HBW := Aside0.mk hbw
      clear hst' hcl hcc hfc hbw HST HSG HK HF
      go_wp2_with (go_at_call 16; (with_reducible refine HFC.out.mono ?_); rintro e w4 ⟨v4, rfl, hr4, hb4⟩)
      have HR4 := Aside0.mk hr4
      have HB4 := Aside0.mk (below_then HBW.out HBW.out.size hb4)
      clear hr4 hb4
      have hbw4 : Below w.heap.size w w4 := below_then HB.out HB.out.size HB4.out
      have HBW4 := Aside0.mk hbw4
      obtain ⟨G, cg, rfl, hgl, hgc⟩ := Kd.R_reads HR4.out
      have HGC := Aside0.mk hgc
      have hl4 := Kd.C_below HR.out hbw4
      obtain ⟨ad, e, hx0, hx1, hx2⟩ := at_T53 hl4 (j : Int) hj0 hjl
      cases e
      have hjg : (j : Int) < (g.length : Int) := by rw [HG.out]; exact hjl
      obtain ⟨ad2, e, hy0⟩ := Kd.at_int hgc (j : Int) hj0 hjg
      cases e
      have HL4 := Aside0.mk hl4
      simp only [Int.toNat_natCast] at hx0 hx1 hx2 hy0
      have hwr : IntKind.i64.wrap ((rd_T53 l1 j).f2 + more) = wrap64 ((rd_T53 l1 j).f2 + more) := by rw [IntKind.wrap_i64]; unfold wrap64; rfl
      clear hbw4 hgc hl4 hmv2 hcell hfz
      by_cases c : rd g j < wrap64 ((rd_T53 l1 j).f2 + more)
      · have cb : decide (rd g j < wrap64 ((rd_T53 l1 j).f2 + more)) = true := decide_eq_true c
        have hh := HH.out
        rw [if_pos c] at hh
        simp only [Option.some.injEq, Prod.mk.injEq] at hh
        obtain ⟨rfl, rfl⟩ := hh
        clear HH c
        have HBW5 := HBW4
        go_quiet (fail)
        go_wp2
        exact ⟨_, results_tmp2 rfl _ _ _, rfl, pw_below_drewN HBW5.out nq⟩
      · have cb : decide (rd g j < wrap64 ((rd_T53 l1 j).f2 + more)) = false := decide_eq_false c
        have hh := HH.out
        rw [if_neg c] at hh
        simp only [Option.some.injEq, Prod.mk.injEq] at hh
        obtain ⟨rfl, rfl⟩ := hh
        clear HH c
        go_quiet (fail)
        obtain ⟨W5, hW5⟩ : ∃ W5 : World, W5 = w4.drewN nq := ⟨_, rfl⟩
        have HL5 : Aside0 (Kd.C k53 W5 (some ad) l1.length l1) := ⟨by rw [hW5]; exact Kd.C_drewN HL4.out nq⟩
        have HG5 : Aside0 (Kd.C (Kd.int .i64) W5 (some ad2) g.length g) := ⟨by rw [hW5]; exact Kd.C_drewN HGC.out nq⟩
        have HB5 : Aside0 (Below w.heap.size w W5) := ⟨by rw [hW5]; exact pw_below_drewN HBW4.out nq⟩
        rw [← hW5]
        clear hW5 HL4 HGC HBW4 HR4 HB4 HBW HFC HW HSL hx0 hx1 hx2 hy0 hwr cb hjg
        go_wp2
        refine (wpIn_wide (n := 9)).1 ?_
        obtain ⟨W6, hW6⟩ : ∃ W6 : World, W6 = (((((W5.alloc (.cells #[.int .i64 0] 3)).alloc (.cells #[.int .i64 0] 3)).alloc (.cells #[.slice (some ad) l1.length c1] 35)).alloc (.cells #[.slice (some ad2) g.length cg] 23)).alloc (.cells #[.int .i64 j] 3)) := ⟨_, rfl⟩
        have hs6 : W6.heap.size = W5.heap.size + 5 := by rw [hW6]; simp
        have hb6 : Below W5.heap.size W5 W6 := by
          rw [hW6]
          exact (((((Below.refl _ _).alloc (Nat.le_refl _) _).alloc (by simp) _).alloc (by simp; omega) _).alloc (by simp; omega) _).alloc (by simp; omega) _
        have hbw6 : Below w.heap.size w W6 := below_then HB5.out HB5.out.size hb6
        have k0 : W6.cell? ⟨W5.heap.size, 0, none⟩ = some (.int .i64 0) ∧ W6.frozen? ⟨W5.heap.size, 0, none⟩ = false := by rw [hW6]; constructor <;> simp [go_sem]
        have k1 : W6.cell? ⟨W5.heap.size + 1, 0, none⟩ = some (.int .i64 0) ∧ W6.frozen? ⟨W5.heap.size + 1, 0, none⟩ = false := by rw [hW6]; constructor <;> simp [go_sem]
        have hex : ExR (W5.heap.size + 2) (some ad) c1 l1 (some ad2) cg g j W6 := by
          refine ⟨?_, ?_, ?_, Kd.C_below HL5.out hb6, Kd.C_below HG5.out hb6⟩ <;> rw [hW6] <;> simp [go_sem]
        rw [← hW6]
        clear hW6
        refine wpIn_rangeFunc_ownF rfl (by omega) (gf := 50) (lb := #[.pointer (some ⟨W5.heap.size + 2, 0, none⟩), .pointer (some ⟨W5.heap.size + 2 + 2, 0, none⟩), .pointer (some ⟨W5.heap.size + 2 + 1, 0, none⟩)]) rfl trivial (enters_of Try.func50 (by kernel_rfl) rfl)
          (encs := fun x : Int × Int => #[Value.int .i64 x.1, Value.int .i64 x.2]) (Kp := KpV (W5.heap.size + 2) W5.heap.size) (S := fun xs => xs = exl l1 g j 0) (Sp := fun _ => True) (N := l1.length) (w0 := W6) ?hseq ?hKt ?hKb (Below.refl _ _) (fun _ => rfl)
          (fun pre W => ((W.cell? ⟨W5.heap.size, 0, none⟩ = some (.int .i64 (outMost pre (0, 0)).1) ∧ W.frozen? ⟨W5.heap.size, 0, none⟩ = false) ∧ (W.cell? ⟨W5.heap.size + 1, 0, none⟩ = some (.int .i64 (outMost pre (0, 0)).2) ∧ W.frozen? ⟨W5.heap.size + 1, 0, none⟩ = false)) ∧ Below w.heap.size w W)
          (fun _ _ _ => False) ?hI (fun _ _ _ _ _ hs _ _ => hs) ?h0 ?a1 ?assign ?body ?done ?stop
        case hseq =>
          intro l J Jx W hW hJ hJx hY hj0
          exact excess1_in 8 (by omega) l (W5.heap.size + 2) (some ad) c1 l1 (some ad2) cg g j W J Jx _ hJ (fun W1 W' h hk => h.kept HL5.out HG5.out hk) hY (hex.below hW) HG.out.symm hj0
        case hKt => exact fun h k => ⟨h.1.trans k.1, fun b b1 b2 => (k.2 b b1 b2).trans (h.2 b b1 b2)⟩
        case hKb =>
          intro W l o o' hl ho h1 h2
          exact ⟨belowK_b (w := W6) (by omega) W l o o' hl ho h1 h2, fun b b1 b2 => World.putObj_heap_other (by omega)⟩
        case hI => exact OwnFrom.and (Own.from (fun s A B row hs hg hr => ⟨⟨cell_kept hs.1.1 hg hr, (frozen_kept hs.1.1 hg hr).trans hs.1.2⟩, ⟨cell_kept hs.2.1 hg hr, (frozen_kept hs.2.1 hg hr).trans hs.2.2⟩⟩) _) (ownFrom_below (Nat.le_refl _) (by have := HB5.out.size; omega))
        case h0 => exact ⟨⟨k0, k1⟩, hbw6⟩
        case assign =>
          intro l x W K hK
          gi_wp2
          exact hK
        case body =>
          rintro l pre x W ⟨⟨⟨b0, b1⟩, ⟨b2, b3⟩⟩, hB⟩ _
          have hsn := outMost_snoc pre x (0, 0)
          by_cases c : (outMost pre (0, 0)).2 < x.2
          · rw [if_pos c] at hsn
            have HSN := Aside0.mk hsn
            have cb : decide ((outMost pre (0, 0)).2 < x.2) = true := decide_eq_true c
            clear hsn c
            gi_wp2
            have e1 : (W.setCell ⟨W5.heap.size, 0, none⟩ (.int .i64 x.1)).cell? ⟨W5.heap.size + 1, 0, none⟩ = some (.int .i64 (outMost pre (0, 0)).2) := by
              rw [World.cell?_setCell_other _ _ _ _ (by simp)]; exact b2
            refine ⟨(KeepsOthers.setCell _ _ _).trans (KeepsOthers.setCell _ _ _), ⟨((Below.refl _ W).setCell (p := ⟨W5.heap.size, 0, none⟩) (Nat.le_refl _) _).setCell (p := ⟨W5.heap.size + 1, 0, none⟩) (by simp) _, fun b hb1 hb2 => ?_⟩, ⟨⟨?_, ?_⟩, ⟨?_, ?_⟩⟩, ?_⟩
            · rw [Below.heap_setCell _ _ _ _ (by simp; omega), Below.heap_setCell _ _ _ _ (by simp; omega)]
            · rw [HSN.out, World.cell?_setCell_other _ _ _ _ (by simp)]
              exact World.cell?_setCell_same' _ _ _ (by rw [b0]; rfl)
            · rw [World.frozen?_setCell, World.frozen?_setCell]; exact b1
            · rw [HSN.out]
              exact World.cell?_setCell_same' _ _ _ (by rw [e1]; rfl)
            · rw [World.frozen?_setCell, World.frozen?_setCell]; exact b3
            · exact (hB.setCell (p := ⟨W5.heap.size, 0, none⟩) HB5.out.size _).setCell (p := ⟨W5.heap.size + 1, 0, none⟩) (by have := HB5.out.size; show w.heap.size ≤ W5.heap.size + 1; omega) _
          · rw [if_neg c] at hsn
            have HSN := Aside0.mk hsn
            have cb : decide ((outMost pre (0, 0)).2 < x.2) = false := decide_eq_false c
            clear hsn c
            gi_wp2
            exact ⟨KeepsOthers.refl _, ⟨Below.refl _ _, fun _ _ _ => rfl⟩, ⟨⟨by rw [HSN.out]; exact b0, b1⟩, ⟨by rw [HSN.out]; exact b2, b3⟩⟩, hB⟩
        case done =>
          rintro D ys W hD rfl ⟨⟨⟨b0, _⟩, _⟩, hB⟩ hK
          have HB' := Aside0.mk hB
          clear hB
          rw [← mostOf_eq] at b0
          go_wp2
          refine ⟨by simp, .inl ⟨_, _, rfl, run_takeDeferred hK, ?_⟩⟩
          exact ⟨_, results_tmp2 rfl _ _ _, rfl, HB'.out.trans (belowK_b (w := w) (Nat.le_refl _) W D _ _ (by have := HB5.out.size; omega) hK rfl rfl)⟩
        case stop =>
          rintro D c pre W _ _ h _
          exact h.elim
set_option maxHeartbeats 4000000 in
set_option maxRecDepth 100000 in
theorem quota_Victim.calls (k : Nat) (a0 : Int) (A1 : Option Addr) (c1 : Nat) (l1 : List (S53)) (a2 : Int) (a3 : Int) (r1 : Int) (r2 : Int) (w : World) (hr1 : Kd.C k53 w A1 l1.length l1) (hc1 : l1.length ≤ c1) (h : quota_Victim.f k a0 l1 a2 a3 = some (r1, r2)) :
    Calls Try.prog 29 #[.int .i64 a0, .slice A1 l1.length c1, .int .i64 a2, .int .i64 a3] w fun e w' => e = .returned (.tuple #[.int .i64 r1, .int .i64 r2]) ∧ Below w.heap.size w w' := by
  unfold quota_Victim.f at h
  cases hp : quota_place.f k l1 a2 with
  | none => rw [hp] at h; exact absurd h (by simp)
  | some p =>
    obtain ⟨i, is⟩ := p
    rw [hp] at h
    simp only [Option.bind_some] at h
    have hp' := hp
    have HP := Aside0.mk (quota_place.calls k A1 c1 l1 a2 i is w hr1 hc1 hp)
    clear hp
    have HR := Aside0.mk hr1
    show Calls _ _ _ w (VicAs w r1 r2)
    cases is with
    | false =>
      rw [if_neg (by simp)] at h
      simp only [Option.some.injEq, Prod.mk.injEq] at h
      obtain ⟨rfl, rfl⟩ := h
      clear hp' hr1
      go_enter Try.func29, Try.ntmps29
      go_wp2_with (go_at_call 40; (with_reducible refine HP.out.mono ?_); rintro e w1 ⟨rfl, hb⟩)
      go_ret2
      exact ⟨rfl, hb⟩
    | true =>
      rw [if_pos rfl] at h
      have hir := quota_place.place_true k l1 a2 i hp'
      obtain ⟨j, rfl⟩ : ∃ j : Nat, i = (j : Int) := ⟨i.toNat, by omega⟩
      have hj : j < l1.length := by omega
      have hlen : l1.length ≤ 1000000 := hir.2.2
      clear hp' hir
      by_cases m0 : a3 < 0
      · rw [if_pos m0] at h
        simp only [Option.some.injEq, Prod.mk.injEq] at h
        obtain ⟨rfl, rfl⟩ := h
        clear hr1
        go_enter Try.func29, Try.ntmps29
        go_wp2_with (go_at_call 40; (with_reducible refine HP.out.mono ?_); rintro e w1 ⟨rfl, hb⟩)
        go_ret2
        exact ⟨rfl, hb⟩
      rw [if_neg m0] at h
      by_cases m1 : a3 > 1099511627776
      · rw [if_pos m1] at h
        simp only [Option.some.injEq, Prod.mk.injEq] at h
        obtain ⟨rfl, rfl⟩ := h
        clear hr1
        go_enter Try.func29, Try.ntmps29
        go_wp2_with (go_at_call 40; (with_reducible refine HP.out.mono ?_); rintro e w1 ⟨rfl, hb⟩)
        go_ret2
        exact ⟨rfl, hb⟩
      rw [if_neg m1] at h
      cases ht : quota_Total.f k l1 with
      | none => rw [ht] at h; exact absurd h (by simp)
      | some tot =>
        rw [ht] at h
        simp only [Option.bind_some] at h
        by_cases c : wrap64 (tot + a3) ≤ a0
        · rw [if_pos c] at h
          simp only [Option.some.injEq, Prod.mk.injEq] at h
          obtain ⟨rfl, rfl⟩ := h
          have HT := Aside0.mk ht
          have cb : decide (wrap64 (tot + a3) ≤ a0) = true := decide_eq_true c
          have HC1 := Aside0.mk hc1
          clear hr1 ht c
          go_enter Try.func29, Try.ntmps29
          go_wp2_with (first | (go_at_call 40; (with_reducible refine HP.out.mono ?_); rintro e w1 ⟨rfl, hb⟩) | (go_at_call 27; refine (quota_Total.calls k _ _ l1 tot _ (Kd.C_below HR.out hb) hc1 HT.out).mono ?_; rintro e w2 ⟨rfl, hb2⟩))
          go_ret2
          exact ⟨rfl, below_then hb hb.size hb2⟩
        rw [if_neg c] at h
        cases hf : quota_Fair.f k a0 (sharesOf l1 (j : Int) a3) with
        | none => rw [hf] at h; exact absurd h (by simp)
        | some g =>
          rw [hf] at h
          simp only [Option.bind_some] at h
          by_cases hg : g.length = l1.length
          · rw [if_pos hg] at h
            exact victim_main k a0 A1 c1 l1 a2 a3 j tot g r1 r2 w hr1 hc1 hj hlen HP (by omega) (by omega) ht c hf hg h
          · rw [if_neg hg] at h
            exact absurd h (by simp)

end Go.Proofs.Yteieknlkcodkcaa.Q
