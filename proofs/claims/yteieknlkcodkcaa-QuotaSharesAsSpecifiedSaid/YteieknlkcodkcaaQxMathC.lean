-- Written by wip/tools/drive.py out of the translation (the kit's print.py, with hand-proved functions beside). Not trusted: Lean checks it.
import Derived.Test.YteieknlkcodkcaaQx0
import Derived.Test.YteieknlkcodkcaaQx6
import Derived.Test.YteieknlkcodkcaaQx9
import Derived.Test.YteieknlkcodkcaaQxHOpens
import Derived.Test.YteieknlkcodkcaaQxHValid
import Derived.Test.YteieknlkcodkcaaQxMathA
import Derived.Test.YteieknlkcodkcaaQxMathB
import Derived.Test.YteieknlkcodkcaaQxMathS
namespace Go.Proofs.Yteieknlkcodkcaa.Q
open Go.RowKit Go.Proofs.YteieknlkcodkcaaW.PrintWords Go.Proofs.YteieknlkcodkcaaW.PrintLast Go.Proofs.YteieknlkcodkcaaW.PrintMore
attribute [local go_sem] max2_int min2_int max_two min_two max_three min_three max_four min_four   -- for this text's walks alone
set_option linter.unusedVariables false
set_option linter.unusedSimpArgs false

/-! With the greater capacity nobody gets less. -/
theorem cap_eq (a : Int) : weirgatelaw16_capacity.f a = some (decide (0 ≤ a ∧ a ≤ 1099511627776)) := by
  unfold weirgatelaw16_capacity.f
  by_cases h : a ≥ 0
  · rw [if_pos h]; simp; omega
  · rw [if_neg h]; simp; omega
theorem atL_mono (s : S32) (h : okS s) {x y : Int} (hxy : x ≤ y) : atL s x ≤ atL s y := by
  have := Int.mul_le_mul_of_nonneg_left hxy (show 0 ≤ s.f0 by have := h.1; omega)
  unfold atL
  omega
theorem allL_mono : ∀ {l : List S32}, (∀ s ∈ l, okS s) → ∀ {x y : Int}, x ≤ y → allL l x ≤ allL l y
  | [], _, _, _, _ => Int.le_refl _
  | s :: l, h, x, y, hxy => by
    have a := atL_mono s (h s (by simp)) hxy
    have b := allL_mono (l := l) (fun t ht => h t (by simp [ht])) hxy
    rw [allL_cons, allL_cons]
    omega
/-- Two lists, place by place. -/
def AllLe : List Int → List Int → Prop
  | [], [] => True
  | x :: a, y :: b => x ≤ y ∧ AllLe a b
  | _, _ => False
theorem fairGo_left (n : Int) : ∀ (l : List S32) (x y : Int), x ≤ y → AllLe (fairGo n x l) (fairGo n y l)
  | [], _, _, _ => trivial
  | s :: l, x, y, h => by
    refine ⟨?_, fairGo_left n l _ _ ?_⟩ <;> unfold moreOf <;> omega
theorem fairGo_level {n m : Int} (h0 : 0 ≤ n) (hnm : n < m) (hm : m ≤ 1099511627776) : ∀ (l : List S32) (x y : Int), (∀ s ∈ l, okS s) → 0 ≤ y → AllLe (fairGo n x l) (fairGo m y l)
  | [], _, _, _, _ => trivial
  | s :: l, x, y, h, hy => by
    have ok := h s (by simp)
    have b := moreOf_bd ok (n := m) (left := y) (by omega) (by omega) hy
    refine ⟨?_, fairGo_level h0 hnm hm l _ _ (fun t ht => h t (by simp [ht])) (by omega)⟩
    have e : s.f0 * (n + 1) = s.f0 * n + s.f0 := by rw [Int.mul_add, Int.mul_one]
    have c := atL_mono s ok (x := n + 1) (y := m) (by omega)
    have d : atL s n + moreOf n x s ≤ atL s (n + 1) := by
      unfold moreOf
      have e1 : atL s n = min (s.f0 * n) s.f1 := rfl
      have e2 : atL s (n + 1) = min (s.f0 * (n + 1)) s.f1 := rfl
      omega
    omega
theorem level_le {l : List S32} (h : okL l) {n m x y : Int} (hn : LevelIs n l x) (hm : LevelIs m l y) (hnm : n ≤ m) : x ≤ y := by
  by_cases c : x ≤ y
  · exact c
  · exfalso
    have a := allL_mono h.2 (x := y + 1) (y := x) (by omega)
    have b := hn.fits
    have d := hn.hi
    rcases hm.most with e | e <;> omega
theorem Grows_go : ∀ (sa sb pa pb : List Int), AllLe sa sb → pa.length = pb.length → (pa ++ sa).length ≤ 60 → Ev (fun k => weirgatelaw16_QuotaGrows.l0 k (pa ++ sa) (pb ++ sb) ((pa ++ sa).length : Int) (pa.length : Int)) true := by
  intro sa
  induction sa with
  | nil =>
    intro sb pa pb h hl hn
    refine Ev.step (f := fun k => (weirgatelaw16_sanity.f k).bind fun t => some t) (fun k => ?_) (Ev.bind sanity_ev (Ev.now true))
    simp only [weirgatelaw16_QuotaGrows.l0, List.append_nil]
    rw [if_neg (by omega)]
  | cons x sa IH =>
    intro sb pa pb h hl hn
    cases sb with
    | nil => exact h.elim
    | cons y sb =>
      obtain ⟨h1, h2⟩ := h
      have ih := IH sb (pa ++ [x]) (pb ++ [y]) h2 (by simp [hl]) (by simpa using hn)
      have hlen : (pa ++ x :: sa).length = pa.length + sa.length + 1 := by simp; omega
      have hlenb : (pb ++ y :: sb).length = pa.length + sb.length + 1 := by simp; omega
      simp only [List.append_assoc, List.singleton_append, List.length_append, List.length_cons, List.length_nil, Nat.zero_add] at ih
      refine Ev.step (f := fun k => weirgatelaw16_QuotaGrows.l0 k (pa ++ x :: sa) (pb ++ y :: sb) ((pa ++ x :: sa).length : Int) ((pa.length : Int) + 1)) (fun k => ?_) (by simpa using ih)
      simp only [weirgatelaw16_QuotaGrows.l0]
      have ry : rd (pb ++ y :: sb) (pa.length : Int) = y := by rw [hl]; exact rd_mid pb sb y
      rw [if_pos (by omega), if_pos (by omega), if_pos (by omega), if_pos (by omega), rd_mid, ry, if_neg (by omega), w64 (x := (pa.length : Int) + 1) (by omega) (by omega)]
theorem grows_ok {n m : Int} {l : List S32} (h : okL l) (hn0 : 0 ≤ n) (hn1 : n ≤ 1099511627776) (hm0 : 0 ≤ m) (hm1 : m ≤ 1099511627776) (hnm : n ≤ m) : Ev (fun k => weirgatelaw16_QuotaGrows.j0 k n m l false) true := by
  obtain ⟨x, Lx, q1, _, f1, _⟩ := fair_ev h hn0 hn1
  obtain ⟨y, Ly, q2, _, f2, _⟩ := fair_ev h hm0 hm1
  have hxy := level_le h Lx Ly hnm
  have le : AllLe (fairGo x (n - allL l x) l) (fairGo y (m - allL l y) l) := by
    by_cases c : x = y
    · subst c
      exact fairGo_left _ _ _ _ (by omega)
    · exact fairGo_level Lx.lo (by omega) Ly.hi l _ _ h.2 (by have := Ly.fits; omega)
  have g := Grows_go _ _ [] [] le rfl (by simp [fairGo_length]; exact h.1)
  refine Ev.step (fun k => by simp only [weirgatelaw16_QuotaGrows.j0]; rw [if_neg (by simp)]) (Ev.bind f1 (Ev.bind f2 ?_))
  simp only [fairGo_length, if_true]
  refine Ev.bind q1 (Ev.bind q2 ?_)
  refine Ev.step (fun k => by simp only [weirgatelaw16_QuotaGrows.j1]; rw [if_neg (by simp; omega)]) ?_
  simpa [fairGo_length] using g
theorem QuotaGrows_ev (a0 : Int) (w0 : (Lit.int .i64 a0).wf = true) (a1 : Int) (w1 : (Lit.int .i64 a1).wf = true) (l2 : List S32) (w2 : ∀ s ∈ l2, wf32 s) : Ev (fun k => weirgatelaw16_QuotaGrows.f k a0 a1 l2) true := by
  have J : Ev (fun k => weirgatelaw16_QuotaGrows.j0 k a0 a1 l2 true) true :=
    Ev.step (f := fun k => (weirgatelaw16_sanity.f k).bind fun t => some t) (fun k => by simp only [weirgatelaw16_QuotaGrows.j0]; rw [if_pos trivial]) (Ev.bind sanity_ev (Ev.now true))
  unfold weirgatelaw16_QuotaGrows.f
  by_cases hl : (l2.length : Int) > 60
  · simp only [if_pos hl]; exact J
  simp only [if_neg hl]
  refine Ev.bind (RefValid_ev (by omega)) ?_
  cases hv : l2.any badShare with
  | true => simpa using J
  | false =>
    have ok := ok_of_valid (by omega : l2.length ≤ 60) hv
    simp only [Bool.not_false, if_true, cap_eq, Option.bind_some]
    by_cases c0 : 0 ≤ a0 ∧ a0 ≤ 1099511627776
    · by_cases c1 : 0 ≤ a1 ∧ a1 ≤ 1099511627776
      · simp only [c0, c1, and_self, decide_true, if_true]
        by_cases c2 : a0 > a1
        · simp only [decide_eq_true c2]; exact J
        · simp only [decide_eq_false c2]
          exact grows_ok ok c0.1 c0.2 c1.1 c1.2 (by omega)
      · simp only [decide_eq_false c1, decide_eq_true c0, if_true]; simpa using J
    · simp only [decide_eq_false c0]; simpa using J

end Go.Proofs.Yteieknlkcodkcaa.Q
