-- Written by wip/tools/drive.py out of the translation (the kit's print.py, with hand-proved functions beside). Not trusted: Lean checks it.
import Derived.Test.YteieknlkcodkcaaQx0
import Derived.Deep.Slices
import Derived.Deep.Fields
import Derived.ChangeSame
import Derived.ChangeShapes
import Derived.WideShapes
namespace Go.Proofs.Yteieknlkcodkcaa.Q
open Go.RowKit Go.Proofs.YteieknlkcodkcaaW.PrintWords Go.Proofs.YteieknlkcodkcaaW.PrintLast Go.Proofs.YteieknlkcodkcaaW.PrintMore
attribute [local go_sem] max2_int min2_int max_two min_two max_three min_three max_four min_four   -- for this text's walks alone
set_option linter.unusedVariables false
set_option linter.unusedSimpArgs false

-- @import Derived.Deep.Slices
-- @import Derived.Deep.Fields
-- @import Derived.ChangeSame
-- @import Derived.ChangeShapes
-- @import Derived.WideShapes
open Go.ChangeShapes Go.WideShapes Go.Deep
/-! What a reading says of cells, kind by kind. -/
def Opens {H : Type} (enc : TypeId × Value → H) (P : Program) (w : World) (t : TypeId) {α : Type} (d : Kd α) (wf : α → Prop) : Prop :=
  ∀ (base : Nat) (spare : Nat → Bool) (held : Bool) (fuel : Nat) (cs : List Value) (x : DataW H × List MemPlace), DataW.trod enc P w base spare held fuel t cs = some x → ∃ a, d.K w a cs ∧ wf a
theorem Opens.int {H : Type} {enc : TypeId × Value → H} {P : Program} {w : World} {t : TypeId} {k : IntKind} (ht : P.underlying t = some (.int k)) : Opens enc P w t (Kd.int k) (fun n => (Lit.int k n).wf = true) := fun base spare held fuel cs x h => by
  obtain ⟨n, rfl, _, hw⟩ := DataW.trod_int ht h
  exact ⟨n, rfl, hw⟩
theorem list_of {α : Type} {P : Nat → α → Prop} : ∀ (n : Nat), (∀ i, i < n → ∃ a, P i a) → ∃ l : List α, l.length = n ∧ ∀ i a, l[i]? = some a → P i a
  | 0, _ => ⟨[], rfl, fun i a h => by simp at h⟩
  | n + 1, h => by
    obtain ⟨l, hl, hp⟩ := list_of n (fun i hi => h i (by omega))
    obtain ⟨a, ha⟩ := h n (by omega)
    refine ⟨l ++ [a], by simp [hl], fun i b hb => ?_⟩
    rcases Nat.lt_or_ge i l.length with hi | hi
    · rw [List.getElem?_append_left hi] at hb; exact hp i b hb
    · have : i = n := by
        have := (List.getElem?_eq_some_iff.1 hb).1
        simp at this
        omega
      subst this
      rw [List.getElem?_append_right (by omega), hl, Nat.sub_self] at hb
      simp at hb
      subst hb
      exact ha
theorem Opens.slice {H : Type} {enc : TypeId × Value → H} {P : Program} {w : World} {t e : TypeId} {α : Type} {d : Kd α} {wf : α → Prop} (ht : P.underlying t = some (.slice e)) (hc : P.cellsOf e = d.sz) (he : Opens enc P w e d wf) :
    Opens enc P w t (Kd.slice e d) (fun l => ∀ a ∈ l, wf a) := fun base spare held fuel cs x h => by
  rcases open_slice ht h with ⟨rfl, _⟩ | ⟨a, len, cap, m, n, D, Pl, rfl, _, hl, hm, hmm, _, hi⟩
  · exact ⟨[], ⟨none, 0, rfl, Nat.le_refl _, rfl, Nat.zero_le _, fun h => absurd h (Nat.lt_irrefl 0)⟩, fun a h => by simp at h⟩
  · have hlm : len ≤ m := by rw [hmm]; split <;> omega
    obtain ⟨l, hll, hlp⟩ := list_of (P := fun i b => wf b ∧ ∃ c, c.length = d.sz ∧ d.K w b c ∧ ∀ j u, c[j]? = some u → w.cell? (a.add (i * d.sz + j)) = some u) len (fun i hil => by
      obtain ⟨cs', hcs, htr⟩ := hi i (by omega)
      obtain ⟨b, hK, hwf⟩ := he _ _ _ _ _ _ htr
      rw [hc] at hcs
      obtain ⟨_, hcl, hat⟩ := World.cells?_some hcs
      refine ⟨b, hwf, cs', hcl, hK, fun j u hj => ?_⟩
      have hjl := (List.getElem?_eq_some_iff.1 hj).1
      rw [← Go.Deep.add_add, hat j (by omega), hj])
    unfold maxLen at hm
    refine ⟨l, ⟨some a, cap, by rw [hll], by omega, rfl, by omega, fun _ => ⟨a, rfl, fun j p hj => (hlp j p hj).2⟩⟩, fun b hb => ?_⟩
    obtain ⟨i, hi⟩ := List.getElem?_of_mem hb
    exact (hlp i b hi).1
def wf32 (s : S32) : Prop := (Lit.int .i64 s.f0).wf = true ∧ (Lit.int .i64 s.f1).wf = true
def wf53 (s : S53) : Prop := (Lit.int .i64 s.f0).wf = true ∧ (Lit.int .i64 s.f1).wf = true ∧ (Lit.int .i64 s.f2).wf = true
theorem opn_c3 : Try.prog.cellsOf 3 = 1 := by kernel_rfl
theorem opn_c32 : Try.prog.cellsOf 32 = 2 := by kernel_rfl
theorem opn_c53 : Try.prog.cellsOf 53 = 3 := by kernel_rfl
theorem int_field {H : Type} {enc : TypeId × Value → H} {w : World} {base : Nat} {spare : Nat → Bool} {held : Bool} {n : Nat} {c : Value} {ys : List (DataW H × List MemPlace)} {i : Nat} (hi : i < ys.length)
    (h : DataW.trod enc Try.prog w base spare held n 3 [c] = ys[i]?) : ∃ z : Int, c = .int .i64 z ∧ (Lit.int .i64 z).wf = true := by
  rw [List.getElem?_eq_getElem hi] at h
  obtain ⟨z, hz, _, hw⟩ := DataW.trod_int Try.underlying3 h
  injection hz with hz _
  exact ⟨z, hz, hw⟩
theorem Opens.s32 {H : Type} {enc : TypeId × Value → H} {w : World} : Opens enc Try.prog w 32 k32 wf32 := fun base spare held fuel cs x h => by
  obtain ⟨ys, n', _, _, hlen, hyl, hf⟩ := DataW.trod_struct Try.underlying32 h
  rw [opn_c32] at hlen
  match cs, hlen with
  | [c0, c1], _ =>
    have h0 : DataW.trod enc Try.prog w base spare held n' 3 [c0] = ys[0]? := by
      have hh : DataW.trod enc Try.prog w base spare held n' 3 (([c0, c1].drop 0).take (Try.prog.cellsOf 3)) = ys[0]? := hf 0 _ rfl
      rw [opn_c3] at hh
      exact hh
    have h1 : DataW.trod enc Try.prog w base spare held n' 3 [c1] = ys[1]? := by
      have hh : DataW.trod enc Try.prog w base spare held n' 3 (([c0, c1].drop 1).take (Try.prog.cellsOf 3)) = ys[1]? := hf 1 _ rfl
      rw [opn_c3] at hh
      exact hh
    obtain ⟨z0, rfl, w0⟩ := int_field (by rw [hyl]; decide) h0
    obtain ⟨z1, rfl, w1⟩ := int_field (by rw [hyl]; decide) h1
    exact ⟨⟨z0, z1⟩, k32_mk w _, w0, w1⟩
theorem Opens.s53 {H : Type} {enc : TypeId × Value → H} {w : World} : Opens enc Try.prog w 53 k53 wf53 := fun base spare held fuel cs x h => by
  obtain ⟨ys, n', _, _, hlen, hyl, hf⟩ := DataW.trod_struct Try.underlying53 h
  rw [opn_c53] at hlen
  match cs, hlen with
  | [c0, c1, c2], _ =>
    have h0 : DataW.trod enc Try.prog w base spare held n' 3 [c0] = ys[0]? := by
      have hh : DataW.trod enc Try.prog w base spare held n' 3 (([c0, c1, c2].drop 0).take (Try.prog.cellsOf 3)) = ys[0]? := hf 0 _ rfl
      rw [opn_c3] at hh
      exact hh
    have h1 : DataW.trod enc Try.prog w base spare held n' 3 [c1] = ys[1]? := by
      have hh : DataW.trod enc Try.prog w base spare held n' 3 (([c0, c1, c2].drop 1).take (Try.prog.cellsOf 3)) = ys[1]? := hf 1 _ rfl
      rw [opn_c3] at hh
      exact hh
    have h2 : DataW.trod enc Try.prog w base spare held n' 3 [c2] = ys[2]? := by
      have hh : DataW.trod enc Try.prog w base spare held n' 3 (([c0, c1, c2].drop 2).take (Try.prog.cellsOf 3)) = ys[2]? := hf 2 _ rfl
      rw [opn_c3] at hh
      exact hh
    obtain ⟨z0, rfl, w0⟩ := int_field (by rw [hyl]; decide) h0
    obtain ⟨z1, rfl, w1⟩ := int_field (by rw [hyl]; decide) h1
    obtain ⟨z2, rfl, w2⟩ := int_field (by rw [hyl]; decide) h2
    exact ⟨⟨z0, z1, z2⟩, k53_mk w _, w0, w1, w2⟩
/-- An argument that is a slice. -/
theorem Opens.arg {H : Type} {enc : TypeId × Value → H} {P : Program} {w : World} {t e : TypeId} {α : Type} {d : Kd α} {wf : α → Prop} (ho : Opens enc P w t (Kd.slice e d) (fun l => ∀ a ∈ l, wf a)) {base : Nat} {spare : Nat → Bool} {held : Bool} {A : Option Addr} {len cap : Nat} {x : DataW H} {p : List MemPlace}
    (h : DataW.Trod enc P w base spare held t (.slice A len cap) x p) : ∃ l : List α, len = l.length ∧ len ≤ cap ∧ d.C w A l.length l ∧ ∀ a ∈ l, wf a := by
  obtain ⟨fuel, hf⟩ := h
  obtain ⟨l, ⟨A', c', e', hl, hC⟩, hw⟩ := ho _ _ _ _ _ _ hf
  injection e' with e' _
  injection e' with e1 e2 e3
  subst e1; subst e2; subst e3
  exact ⟨l, rfl, hl, hC, hw⟩

end Go.Proofs.Yteieknlkcodkcaa.Q
