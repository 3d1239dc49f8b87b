-- Written by wip/tools/drive.py out of the translation (the kit's print.py, with hand-proved functions beside). Not trusted: Lean checks it.
import Derived.Test.YteieknlkcodkcaaQx0
import Derived.Test.YteieknlkcodkcaaQx2
namespace Go.Proofs.Yteieknlkcodkcaa.Q
open Go.RowKit Go.Proofs.YteieknlkcodkcaaW.PrintWords Go.Proofs.YteieknlkcodkcaaW.PrintLast Go.Proofs.YteieknlkcodkcaaW.PrintMore
attribute [local go_sem] max2_int min2_int max_two min_two max_three min_three max_four min_four   -- for this text's walks alone
set_option linter.unusedVariables false
set_option linter.unusedSimpArgs false

/-- What 'quota.Valid' asks of one share. -/
def badShare (s : S32) : Bool := decide (s.f0 < 1) || (decide (s.f0 > 1048576) || (decide (s.f1 < 0) || decide (s.f1 > 1099511627776)))
def quota_Valid.f (l0 : List S32) : Option Bool := some (decide ((l0.length : Int) ≤ 1000) && !(l0.any badShare))
theorem badShare_eq (s : S32) : quota_Valid_1.f s.f0 s.f1 = some (badShare s) := by
  unfold quota_Valid_1.f badShare
  by_cases a : s.f0 < 1 <;> by_cases b : s.f0 > 1048576 <;> by_cases c : s.f1 < 0 <;> simp [a, b, c] <;> omega
theorem badShare_calls (s : S32) (w : World) : Calls Try.prog 33 #[.agg #[.int .i64 s.f0, .int .i64 s.f1]] w fun e w' => e = .returned (.bool (badShare s)) ∧ Below w.heap.size w w' :=
  quota_Valid_1.calls s.f0 s.f1 (badShare s) w (badShare_eq s)
/-- Where the first bad share is, or -1. -/
def badAt (l : List S32) (i : Int) : Int := match l with
  | [] => -1
  | s :: r => if badShare s then i else badAt r (i + 1)
theorem badAt_any (l : List S32) (i : Int) (h : 0 ≤ i) : decide (badAt l i ≥ 0) = l.any badShare := by
  induction l generalizing i with
  | nil => simp [badAt]
  | cons s r ih =>
    unfold badAt
    cases e : badShare s with
    | true => simp [e, h]
    | false => simp only [Bool.false_eq_true, if_false, List.any_cons, e, Bool.false_or]; exact ih (i + 1) (by omega)
theorem badAt_lt (l : List S32) (i : Int) : badAt l i < i + (l.length : Int) ∨ badAt l i = -1 := by
  induction l generalizing i with
  | nil => exact .inr rfl
  | cons s r ih =>
    unfold badAt
    split
    · left; simp; omega
    · rcases ih (i + 1) with h | h
      · left; simp; omega
      · exact .inr h
theorem badAt_drop (l : List S32) (x : Nat) (h : x < l.length) : badAt (l.drop x) x = if badShare (rd_T32 l x) then (x : Int) else badAt (l.drop (x + 1)) ((x + 1 : Nat) : Int) := by
  have e : l.drop x = l[x] :: l.drop (x + 1) := List.drop_eq_getElem_cons h
  rw [e]
  simp only [badAt]
  have : rd_T32 l x = l[x] := by simp [rd_T32, List.getD_eq_getElem?_getD, h]
  rw [this]
  simp
theorem kd_below32 {w w1 : World} {A : Option Addr} {n : Nat} {xs : List S32} (h : Kd.C k32 w A n xs) (hb : Below w.heap.size w w1) : Kd.C k32 w1 A n xs := Kd.C_below h hb
theorem below_chain1 {w w1 w2 : World} (h : Below w.heap.size w w1) (k : Below w1.heap.size w1 w2) : Below w.heap.size w w2 := below_then h h.size k
set_option maxHeartbeats 2000000 in
theorem quota_Valid.index (A0 : Option Addr) (c0 : Nat) (l0 : List S32) (w : World) (hr0 : Kd.C k32 w A0 l0.length l0) (hc0 : l0.length ≤ c0) (hl : l0.length ≤ 9223372036854775807) :
    Calls Try.prog 45 #[.slice A0 l0.length c0, .func (.func 33) #[] #[]] w fun e w' => e = .returned (.int .i64 (badAt l0 0)) ∧ Below w.heap.size w w' := by
  have HR := Aside0.mk hr0
  clear hr0 hc0
  generalize hr : badAt l0 0 = r
  have HE := Aside0.mk hr
  clear hr
  go_enter Try.func45, Try.ntmps45
  go_wp2
  go_loopg [8] l0.length (fun kq v8 w' => ∃ x : Nat, v8 = .int .i64 x ∧ Aside0 (badAt (l0.drop x) x = r) ∧ x ≤ l0.length ∧ Aside0 (kq + x = l0.length) ∧ Aside0 (Below w.heap.size w w'))
  case atStart => exact ⟨0, rfl, ⟨by simpa using HE.out⟩, Nat.zero_le _, ⟨rfl⟩, ⟨Below.refl _ _⟩⟩
  case round =>
    clear HE
    obtain ⟨x, rfl, HE, hx, HK, HB⟩ := hrel
    by_cases c : x < l0.length
    · have p : (0 : Int) ≤ (x : Int) := Int.natCast_nonneg x
      have q : (x : Int) < (l0.length : Int) := Int.ofNat_lt.mpr c
      obtain ⟨ad, e, hx0, hx1⟩ := at_T32 (kd_below32 HR.out HB.out) (x : Int) p q
      cases e
      simp only [Int.toNat_natCast] at hx0 hx1
      have hE := HE.out
      rw [badAt_drop _ _ c] at hE
      have hcall := badShare_calls (rd_T32 l0 x) wr
      cases hb : badShare (rd_T32 l0 x) with
      | true =>
        rw [hb] at hE hcall
        have HCC := Aside0.mk hcall
        have HE' : Aside0 ((x : Int) = r) := ⟨by simpa using hE⟩
        clear hE hcall hb HE
        go_wp2_with fail
        refine HCC.out.mono ?_
        rintro e w1 ⟨rfl, hb⟩
        go_wp2
        go_ret
        exact ⟨by rw [← HE'.out]; rfl, below_chain1 HB.out hb⟩
      | false =>
        rw [hb] at hE hcall
        have HCC := Aside0.mk hcall
        have HE' : Aside0 (badAt (l0.drop (x + 1)) ((x + 1 : Nat) : Int) = r) := ⟨by simpa using hE⟩
        clear hE hcall hb HE
        go_wp2_with fail
        refine HCC.out.mono ?_
        rintro e w1 ⟨rfl, hb⟩
        go_wp2
        go_roundg (l0.length - (x + 1))
        case measure => have := HK.out; omega
        case rel => exact ⟨x + 1, by go_num, HE', c, ⟨by omega⟩, ⟨below_chain1 HB.out hb⟩⟩
    · have e : x = l0.length := by omega
      subst e
      have HE' : Aside0 (-1 = r) := ⟨by simpa [badAt] using HE.out⟩
      clear HE c
      go_wp2
      go_ret
      exact ⟨by rw [← HE'.out]; rfl, HB.out⟩
set_option maxHeartbeats 2000000 in
theorem quota_Valid.contains (A0 : Option Addr) (c0 : Nat) (l0 : List S32) (w : World) (hr0 : Kd.C k32 w A0 l0.length l0) (hc0 : l0.length ≤ c0) (hl : l0.length ≤ 9223372036854775807) :
    Calls Try.prog 32 #[.slice A0 l0.length c0, .func (.func 33) #[] #[]] w fun e w' => e = .returned (.bool (l0.any badShare)) ∧ Below w.heap.size w w' := by
  have h := quota_Valid.index A0 c0 l0 w hr0 hc0 hl
  have HA := Aside0.mk (badAt_any l0 0 (by omega))
  clear hr0 hc0
  generalize badAt l0 0 = r at h HA
  generalize l0.any badShare = b at HA
  have H := Aside0.mk h
  clear h
  go_enter Try.func32, Try.ntmps32
  go_wp2_with fail
  refine H.out.mono ?_
  rintro e w1 ⟨rfl, hb⟩
  go_wp2
  go_ret
  exact ⟨by rw [← HA.out]; rfl, hb⟩
theorem quota_Valid.calls (A0 : Option Addr) (c0 : Nat) (l0 : List (S32)) (r : Bool) (w : World) (hr0 : Kd.C k32 w A0 l0.length l0) (hc0 : l0.length ≤ c0) (h : quota_Valid.f l0 = some r) :
    Calls Try.prog 10 #[.slice A0 l0.length c0] w fun e w' => e = .returned (.bool r) ∧ Below w.heap.size w w' := by
  have hl : l0.length ≤ 9223372036854775807 := hr0.2.1
  have hcon := quota_Valid.contains A0 c0 l0 w hr0 hc0 hl
  have hf : (decide ((l0.length : Int) ≤ 1000) && !(l0.any badShare)) = r := Option.some.inj h
  clear hr0 hc0 h
  generalize l0.any badShare = b at hcon hf
  have H := Aside0.mk hcon
  have HF := Aside0.mk hf
  clear hcon hf
  by_cases c : l0.length ≤ 1000
  · have c1 : decide ((l0.length : Int) ≤ 1000) = true := decide_eq_true (by omega)
    have HF' : Aside0 ((!b) = r) := ⟨by rw [← HF.out, c1]; rfl⟩
    clear HF
    go_enter Try.func10, Try.ntmps10
    go_wp2_with fail
    refine H.out.mono ?_
    rintro e w1 ⟨rfl, hb⟩
    go_wp2
    go_ret
    exact ⟨by rw [← HF'.out]; rfl, hb⟩
  · have c1 : decide ((l0.length : Int) ≤ 1000) = false := decide_eq_false (by omega)
    have HF' : Aside0 (false = r) := ⟨by rw [← HF.out, c1]; rfl⟩
    clear HF
    go_enter Try.func10, Try.ntmps10
    go_wp2
    go_ret
    exact ⟨by rw [← HF'.out]; rfl, Below.refl _ _⟩

end Go.Proofs.Yteieknlkcodkcaa.Q
