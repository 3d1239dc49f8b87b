-- Written by wip/tools/drive.py out of the translation (the kit's print.py, with hand-proved functions beside). Not trusted: Lean checks it.
import Derived.Test.YteieknlkcodkcaaQx0
import Derived.Test.YteieknlkcodkcaaQxHClone
import Derived.Test.YteieknlkcodkcaaQxHInsert
import Derived.Test.YteieknlkcodkcaaQxHPlace
namespace Go.Proofs.Yteieknlkcodkcaa.Q
open Go.RowKit Go.Proofs.YteieknlkcodkcaaW.PrintWords Go.Proofs.YteieknlkcodkcaaW.PrintLast Go.Proofs.YteieknlkcodkcaaW.PrintMore
attribute [local go_sem] max2_int min2_int max_two min_two max_three min_three max_four min_four   -- for this text's walks alone
set_option linter.unusedVariables false
set_option linter.unusedSimpArgs false

def quota_Open.f (k : Nat) (l : List S53) (t wt : Int) : Option (List S53 × Int) := (quota_place.f k l t).bind fun p =>
  if t < 1 then some ([], 1) else if wt < 1 then some ([], 1) else if wt > 1048576 then some ([], 1) else if p.2 = true then some ([], 6) else if (l.length : Int) ≥ 1000 then some ([], 2)
  else some (l.take p.1.toNat ++ ⟨t, wt, 0⟩ :: l.drop p.1.toNat, 0)
theorem quota_Open.mono : ∀ a0 a1 a2 k, LeO (quota_Open.f k a0 a1 a2) (quota_Open.f (k + 1) a0 a1 a2) := fun a0 a1 _ k => LeO.bind (quota_place.mono a0 a1 k) (fun _ => LeO.refl _)
def OpenedAs (w : World) (r1 : List S53) (r2 : Int) (e : Ending) (w' : World) : Prop := ∃ v0_ : Value, e = .returned (.tuple #[v0_, .int .i64 r2]) ∧ Kd.R k53 53 w' w.heap.size (fun _ => True) v0_ r1 ∧ Below w.heap.size w w'
theorem quota_place.place_range (k : Nat) (l : List S53) (n i : Int) (is : Bool) (h : quota_place.f k l n = some (i, is)) : 0 ≤ i ∧ i ≤ (l.length : Int) := by
  unfold quota_place.f at h
  split at h
  · cases hs : quota_place.l0 k l n 0 (l.length : Int) with
    | none => rw [hs] at h; exact absurd h (by simp)
    | some j =>
      rw [hs] at h
      simp only [Option.bind_some, Option.some.injEq, Prod.mk.injEq] at h
      have := quota_place.range l n k _ _ _ hs (by omega) (by omega)
      omega
  · exact absurd h (by simp)
set_option maxHeartbeats 4000000 in
set_option maxRecDepth 100000 in
theorem quota_Open.calls (k : Nat) (A0 : Option Addr) (c0 : Nat) (l0 : List (S53)) (a1 : Int) (a2 : Int) (r1 : List (S53)) (r2 : Int) (w : World) (hr0 : Kd.C k53 w A0 l0.length l0) (hc0 : l0.length ≤ c0) (h : quota_Open.f k l0 a1 a2 = some (r1, r2)) :
    Calls Try.prog 22 #[.slice A0 l0.length c0, .int .i64 a1, .int .i64 a2] w fun e w' => ∃ v0_ : Value, e = .returned (.tuple #[v0_, .int .i64 r2]) ∧ Kd.R k53 53 w' w.heap.size (fun _ => True) v0_ r1 ∧ Below w.heap.size w w' := by
  unfold quota_Open.f at h
  cases hp : quota_place.f k l0 a1 with
  | none => rw [hp] at h; exact absurd h (by simp)
  | some p =>
    obtain ⟨i, is⟩ := p
    rw [hp] at h
    simp only [Option.bind_some] at h
    have hir := quota_place.place_range k l0 a1 i is hp
    have HP := Aside0.mk (quota_place.calls k A0 c0 l0 a1 i is w hr0 hc0 hp)
    clear hp
    have HR := Aside0.mk hr0
    have hnil : ∀ (w' : World), Below w.heap.size w w' → OpenedAs w [] r2 (.returned (.tuple #[.slice none 0 0, .int .i64 r2])) w' := fun w' hb => ⟨_, rfl, Kd.R_nil _ _ _ _ _, hb⟩
    have HN := Aside0.mk hnil
    clear hnil hr0
    show Calls _ _ _ w (OpenedAs w r1 r2)
    by_cases c1 : a1 < 1
    · rw [if_pos c1] at h
      simp only [Option.some.injEq, Prod.mk.injEq] at h
      obtain ⟨rfl, rfl⟩ := h
      go_enter Try.func22, Try.ntmps22
      go_wp2_with (go_at_call 40; (with_reducible refine HP.out.mono ?_); rintro e w1 ⟨rfl, hb⟩)
      go_ret2
      exact HN.out _ hb
    rw [if_neg c1] at h
    by_cases c2 : a2 < 1
    · rw [if_pos c2] at h
      simp only [Option.some.injEq, Prod.mk.injEq] at h
      obtain ⟨rfl, rfl⟩ := h
      go_enter Try.func22, Try.ntmps22
      go_wp2_with (go_at_call 40; (with_reducible refine HP.out.mono ?_); rintro e w1 ⟨rfl, hb⟩)
      go_ret2
      exact HN.out _ hb
    rw [if_neg c2] at h
    by_cases c3 : a2 > 1048576
    · rw [if_pos c3] at h
      simp only [Option.some.injEq, Prod.mk.injEq] at h
      obtain ⟨rfl, rfl⟩ := h
      go_enter Try.func22, Try.ntmps22
      go_wp2_with (go_at_call 40; (with_reducible refine HP.out.mono ?_); rintro e w1 ⟨rfl, hb⟩)
      go_ret2
      exact HN.out _ hb
    rw [if_neg c3] at h
    cases is with
    | true =>
      rw [if_pos rfl] at h
      simp only [Option.some.injEq, Prod.mk.injEq] at h
      obtain ⟨rfl, rfl⟩ := h
      go_enter Try.func22, Try.ntmps22
      go_wp2_with (go_at_call 40; (with_reducible refine HP.out.mono ?_); rintro e w1 ⟨rfl, hb⟩)
      go_ret2
      exact HN.out _ hb
    | false =>
      rw [if_neg (by simp)] at h
      by_cases c5 : (l0.length : Int) ≥ 1000
      · rw [if_pos c5] at h
        simp only [Option.some.injEq, Prod.mk.injEq] at h
        obtain ⟨rfl, rfl⟩ := h
        go_enter Try.func22, Try.ntmps22
        go_wp2_with (go_at_call 40; (with_reducible refine HP.out.mono ?_); rintro e w1 ⟨rfl, hb⟩)
        go_ret2
        exact HN.out _ hb
      rw [if_neg c5] at h
      simp only [Option.some.injEq, Prod.mk.injEq] at h
      obtain ⟨rfl, rfl⟩ := h
      obtain ⟨j, rfl⟩ : ∃ j : Nat, i = (j : Int) := ⟨i.toNat, by omega⟩
      have hj : j ≤ l0.length := by omega
      have hlen : l0.length < 1000 := by omega
      have c5b : decide ((l0.length : Int) ≥ 1000) = false := decide_eq_false c5
      have hcl := fun (w1 : World) (hb : Below w.heap.size w w1) => clone_any A0 c0 l0 w1 (Kd.C_below HR.out hb) hc0 (by omega)
      have HCL := Aside0.mk hcl
      clear hcl hir
      go_enter Try.func22, Try.ntmps22
      go_wp2_with (go_at_call 40; (with_reducible refine HP.out.mono ?_); rintro e w1 ⟨rfl, hb⟩)
      refine (HCL.out w1 hb).mono ?_
      rintro e w2 ⟨v2, rfl, ho, hb2⟩
      have hne : v2.ownBlock ≠ some w2.heap.size := fun e => by
        obtain ⟨inner, hown⟩ := Kd.R_own ho
        have := own_lt hown _ e
        omega
      have hbase : ∀ k, v2.ownBlock = some k → w.heap.size ≤ k := fun k e => by
        obtain ⟨inner, hown⟩ := Kd.R_own ho
        exact Nat.le_trans hb.size (own_base hown _ e)
      have hins := insert_list (w2.alloc (.cells #[.int .i64 a1, .int .i64 a2, .int .i64 0] 53)) w w1.heap.size l0.length j w2.heap.size v2 l0 ⟨a1, a2, 0⟩ (fun _ => True) (Kd.R_alloc ho _) hj (by have := hb2.size; simp; omega) (by omega) (heap_alloc_new w2 _) hne
      have hb12 : Below w.heap.size w w2 := below_then hb hb.size hb2
      have hb3 : Below w.heap.size w (w2.alloc (.cells #[.int .i64 a1, .int .i64 a2, .int .i64 0] 53)) := hb12.alloc hb12.size _
      have hfin : ∀ (v' : Value) (w' : World), Kd.R k53 53 w' w1.heap.size (fun _ => True) v' (l0.take j ++ (⟨a1, a2, 0⟩ : S53) :: l0.drop j) → (w2.alloc (.cells #[.int .i64 a1, .int .i64 a2, .int .i64 0] 53)).grownBy w' v2.ownBlock → OpenedAs w (l0.take j ++ (⟨a1, a2, 0⟩ : S53) :: l0.drop j) 0 (.returned (.tuple #[v', .int .i64 0])) w' := fun v' w' hr hg =>
        ⟨_, rfl, Kd.R_lower hr hb.size, hb3.grown hg hb3.size hbase⟩
      have HI := Aside0.mk hins
      have HF := Aside0.mk hfin
      clear hins hfin hb3 hb12 hbase hne ho
      go_wp2_with fail
      refine HI.out.mono ?_
      rintro e w3 ⟨v3, rfl, hr3, hg3⟩
      have HD := Aside0.mk (HF.out v3 w3 hr3 hg3)
      clear hr3 hg3
      go_wp2
      go_ret2
      exact HD.out

end Go.Proofs.Yteieknlkcodkcaa.Q
