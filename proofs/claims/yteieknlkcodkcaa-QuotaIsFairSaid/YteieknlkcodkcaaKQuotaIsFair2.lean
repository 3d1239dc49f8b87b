/- Texts of this claim, part 2: the walks of the functions that the law calls, and the plain mathematics of what they answer. -/
import Derived.Test.YteieknlkcodkcaaKQuotaIsFair1
namespace Go.Proofs.Yteieknlkcodkcaa.Q
open Go.RowKit Go.Proofs.YteieknlkcodkcaaW.PrintWords Go.Proofs.YteieknlkcodkcaaW.PrintLast Go.Proofs.YteieknlkcodkcaaW.PrintMore
attribute [local go_sem] max2_int min2_int max_two min_two max_three min_three max_four min_four   -- for this text's walks alone
set_option linter.unusedVariables false
set_option linter.unusedSimpArgs false

/-! ### weirgatelaw16_QuotaIsFair: function 4 -/
mutual
def weirgatelaw16_QuotaIsFair.j0 : Nat → Int → List (S32) → Bool → Option (Bool)
  | 0, _, _, _ => none
  | k + 1, x0, x1, x27 => if x27 = true then ((weirgatelaw16_sanity.f k).bind fun t228 => (some t228)) else ((quota_Fair.f k x0 x1).bind fun t229 => (if (t229.length : Int) = (x1.length : Int) then ((quota_Explains.f k x0 x1 t229).bind fun t232 => (weirgatelaw16_QuotaIsFair.j1 k x0 x1 t229 (!t232))) else (weirgatelaw16_QuotaIsFair.j1 k x0 x1 t229 true)))
def weirgatelaw16_QuotaIsFair.j1 : Nat → Int → List (S32) → List Int → Bool → Option (Bool)
  | 0, _, _, _, _ => none
  | k + 1, x0, x1, x5, x43 => if x43 = true then (some false) else (weirgatelaw16_QuotaIsFair.l0 k x0 x1 x5 0 0 0 x1 (x1.length : Int) 0)
def weirgatelaw16_QuotaIsFair.l0 : Nat → Int → List (S32) → List Int → Int → Int → Int → List (S32) → Int → Int → Option (Bool)
  | 0, _, _, _, _, _, _, _, _, _ => none
  | k + 1, x0, x1, x5, x6, x7, x8, x44, x45, x46 => if x46 < x45 then (if 0 ≤ x46 then (if x46 < (x44.length : Int) then (if x46 < (x5.length : Int) then (if (rd x5 x46) < 0 then (some false) else (if (rd x5 x46) > ((rd_T32 x44 x46).f1) then (some false) else (weirgatelaw16_QuotaIsFair.l0 k x0 x1 x5 (wrap64 (x6 + (rd x5 x46))) (wrap64 (x7 + ((rd_T32 x44 x46).f1))) (wrap64 (x8 + ((rd_T32 x44 x46).f0))) x44 x45 (wrap64 (x46 + 1))))) else (none)) else (none)) else (none)) else (weirgatelaw16_QuotaIsFair.l1 k x0 x1 x5 x6 x7 x8 x1 (x1.length : Int) 0)
def weirgatelaw16_QuotaIsFair.l1 : Nat → Int → List (S32) → List Int → Int → Int → Int → List (S32) → Int → Int → Option (Bool)
  | 0, _, _, _, _, _, _, _, _, _ => none
  | k + 1, x0, x1, x5, x6, x7, x8, x80, x81, x82 => if x82 < x81 then (if 0 ≤ x82 then (if x82 < (x80.length : Int) then (if x82 < (x5.length : Int) then (if (rd x5 x82) < ((rd_T32 x80 x82).f1) then (if x8 = 0 then (none) else (weirgatelaw16_QuotaIsFair.j4 k x0 x1 x5 x6 x7 x8 x82 x80 x81 x82 (decide ((rd x5 x82) < (wrap64 (((rd_T32 x80 x82).f0) * (wrap64 (Int.tdiv x0 x8)))))) ((rd_T32 x80 x82).f0) ((rd_T32 x80 x82).f1))) else (weirgatelaw16_QuotaIsFair.j4 k x0 x1 x5 x6 x7 x8 x82 x80 x81 x82 false ((rd_T32 x80 x82).f0) ((rd_T32 x80 x82).f1))) else (none)) else (none)) else (none)) else ((weirgatelaw16_sanity.f k).bind fun t238 => (if t238 = true then (some (x6 == (mn x0 x7))) else (some false)))
def weirgatelaw16_QuotaIsFair.j4 : Nat → Int → List (S32) → List Int → Int → Int → Int → Int → List (S32) → Int → Int → Bool → Int → Int → Option (Bool)
  | 0, _, _, _, _, _, _, _, _, _, _, _, _, _ => none
  | k + 1, x0, x1, x5, x6, x7, x8, x11, x80, x81, x82, x106, x241000, x241001 => if x106 = true then (some false) else (weirgatelaw16_QuotaIsFair.l2 k x0 x1 x5 x6 x7 x8 x11 x80 x81 x82 x1 (x1.length : Int) 0 x241000 x241001)
def weirgatelaw16_QuotaIsFair.l2 : Nat → Int → List (S32) → List Int → Int → Int → Int → Int → List (S32) → Int → Int → List (S32) → Int → Int → Int → Int → Option (Bool)
  | 0, _, _, _, _, _, _, _, _, _, _, _, _, _, _, _ => none
  | k + 1, x0, x1, x5, x6, x7, x8, x11, x80, x81, x82, x107, x108, x109, x241000, x241001 => if x109 < x108 then (if 0 ≤ x109 then (if x109 < (x107.length : Int) then (if 0 ≤ x11 then (if x11 < (x5.length : Int) then (if (rd x5 x11) < x241001 then (if x109 < (x5.length : Int) then (if (wrap64 ((rd x5 x109) * x241000)) > (wrap64 ((wrap64 ((rd x5 x11) + x241000)) * ((rd_T32 x107 x109).f0))) then (some false) else (weirgatelaw16_QuotaIsFair.l2 k x0 x1 x5 x6 x7 x8 x11 x80 x81 x82 x107 x108 (wrap64 (x109 + 1)) x241000 x241001)) else (none)) else (weirgatelaw16_QuotaIsFair.l2 k x0 x1 x5 x6 x7 x8 x11 x80 x81 x82 x107 x108 (wrap64 (x109 + 1)) x241000 x241001)) else (none)) else (none)) else (none)) else (none)) else (weirgatelaw16_QuotaIsFair.l1 k x0 x1 x5 x6 x7 x8 x80 x81 (wrap64 (x82 + 1)))
end
def weirgatelaw16_QuotaIsFair.f (k : Nat) (a0 : Int) (l1 : List (S32)) : Option (Bool) := if (l1.length : Int) > 60 then (weirgatelaw16_QuotaIsFair.j0 k a0 l1 true) else ((weirgateref16_Valid.f k l1).bind fun t226 => (if t226 = true then ((weirgatelaw16_capacity.f a0).bind fun t227 => (weirgatelaw16_QuotaIsFair.j0 k a0 l1 (!t227))) else (weirgatelaw16_QuotaIsFair.j0 k a0 l1 true)))
theorem weirgatelaw16_QuotaIsFair.mono_l : ∀ k, (∀ y0 y1 y2, LeO (weirgatelaw16_QuotaIsFair.j0 k y0 y1 y2) (weirgatelaw16_QuotaIsFair.j0 (k + 1) y0 y1 y2)) ∧ (∀ y0 y1 y2 y3, LeO (weirgatelaw16_QuotaIsFair.j1 k y0 y1 y2 y3) (weirgatelaw16_QuotaIsFair.j1 (k + 1) y0 y1 y2 y3)) ∧ (∀ y0 y1 y2 y3 y4 y5 y6 y7 y8, LeO (weirgatelaw16_QuotaIsFair.l0 k y0 y1 y2 y3 y4 y5 y6 y7 y8) (weirgatelaw16_QuotaIsFair.l0 (k + 1) y0 y1 y2 y3 y4 y5 y6 y7 y8)) ∧ (∀ y0 y1 y2 y3 y4 y5 y6 y7 y8, LeO (weirgatelaw16_QuotaIsFair.l1 k y0 y1 y2 y3 y4 y5 y6 y7 y8) (weirgatelaw16_QuotaIsFair.l1 (k + 1) y0 y1 y2 y3 y4 y5 y6 y7 y8)) ∧ (∀ y0 y1 y2 y3 y4 y5 y6 y7 y8 y9 y10 y11 y12, LeO (weirgatelaw16_QuotaIsFair.j4 k y0 y1 y2 y3 y4 y5 y6 y7 y8 y9 y10 y11 y12) (weirgatelaw16_QuotaIsFair.j4 (k + 1) y0 y1 y2 y3 y4 y5 y6 y7 y8 y9 y10 y11 y12)) ∧ (∀ y0 y1 y2 y3 y4 y5 y6 y7 y8 y9 y10 y11 y12 y13 y14, LeO (weirgatelaw16_QuotaIsFair.l2 k y0 y1 y2 y3 y4 y5 y6 y7 y8 y9 y10 y11 y12 y13 y14) (weirgatelaw16_QuotaIsFair.l2 (k + 1) y0 y1 y2 y3 y4 y5 y6 y7 y8 y9 y10 y11 y12 y13 y14))
  | 0 => ⟨fun _ _ _ r h => by simp [weirgatelaw16_QuotaIsFair.j0] at h, fun _ _ _ _ r h => by simp [weirgatelaw16_QuotaIsFair.j1] at h, fun _ _ _ _ _ _ _ _ _ r h => by simp [weirgatelaw16_QuotaIsFair.l0] at h, fun _ _ _ _ _ _ _ _ _ r h => by simp [weirgatelaw16_QuotaIsFair.l1] at h, fun _ _ _ _ _ _ _ _ _ _ _ _ _ r h => by simp [weirgatelaw16_QuotaIsFair.j4] at h, fun _ _ _ _ _ _ _ _ _ _ _ _ _ _ _ r h => by simp [weirgatelaw16_QuotaIsFair.l2] at h⟩
  | k + 1 => by
    obtain ⟨ih0, ih1, ih2, ih3, ih4, ih5⟩ := weirgatelaw16_QuotaIsFair.mono_l k
    refine ⟨?_, ?_, ?_, ?_, ?_, ?_⟩
    · intro y0 y1 y2
      unfold weirgatelaw16_QuotaIsFair.j0
      repeat' first
      | (with_reducible exact ih0 _ _ _)
      | (with_reducible exact ih1 _ _ _ _)
      | (with_reducible exact ih2 _ _ _ _ _ _ _ _ _)
      | (with_reducible exact ih3 _ _ _ _ _ _ _ _ _)
      | (with_reducible exact ih4 _ _ _ _ _ _ _ _ _ _ _ _ _)
      | (with_reducible exact ih5 _ _ _ _ _ _ _ _ _ _ _ _ _ _ _)
      | (with_reducible exact quota_Explains.mono _ _ _ _)
      | (with_reducible exact quota_Fair.mono _ _ _)
      | (with_reducible exact weirgatelaw16_sanity.mono _)
      | (with_reducible exact weirgateref16_Valid.mono _ _)
      | (with_reducible exact LeO.refl _)
      | (with_reducible exact LeO.none _)
      | (with_reducible refine LeO.ite ?_ ?_)
      | (with_reducible refine LeO.bind ?_ (fun _ => ?_))
      | exact ih0 _ _ _
      | exact ih1 _ _ _ _
      | exact ih2 _ _ _ _ _ _ _ _ _
      | exact ih3 _ _ _ _ _ _ _ _ _
      | exact ih4 _ _ _ _ _ _ _ _ _ _ _ _ _
      | exact ih5 _ _ _ _ _ _ _ _ _ _ _ _ _ _ _
      | exact quota_Explains.mono _ _ _ _
      | exact quota_Fair.mono _ _ _
      | exact weirgatelaw16_sanity.mono _
      | exact weirgateref16_Valid.mono _ _
      | exact LeO.none _
      | refine LeO.ite ?_ ?_
      | refine LeO.bind ?_ (fun _ => ?_)
    · intro y0 y1 y2 y3
      unfold weirgatelaw16_QuotaIsFair.j1
      repeat' first
      | (with_reducible exact ih0 _ _ _)
      | (with_reducible exact ih1 _ _ _ _)
      | (with_reducible exact ih2 _ _ _ _ _ _ _ _ _)
      | (with_reducible exact ih3 _ _ _ _ _ _ _ _ _)
      | (with_reducible exact ih4 _ _ _ _ _ _ _ _ _ _ _ _ _)
      | (with_reducible exact ih5 _ _ _ _ _ _ _ _ _ _ _ _ _ _ _)
      | (with_reducible exact quota_Explains.mono _ _ _ _)
      | (with_reducible exact quota_Fair.mono _ _ _)
      | (with_reducible exact weirgatelaw16_sanity.mono _)
      | (with_reducible exact weirgateref16_Valid.mono _ _)
      | (with_reducible exact LeO.refl _)
      | (with_reducible exact LeO.none _)
      | (with_reducible refine LeO.ite ?_ ?_)
      | (with_reducible refine LeO.bind ?_ (fun _ => ?_))
      | exact ih0 _ _ _
      | exact ih1 _ _ _ _
      | exact ih2 _ _ _ _ _ _ _ _ _
      | exact ih3 _ _ _ _ _ _ _ _ _
      | exact ih4 _ _ _ _ _ _ _ _ _ _ _ _ _
      | exact ih5 _ _ _ _ _ _ _ _ _ _ _ _ _ _ _
      | exact quota_Explains.mono _ _ _ _
      | exact quota_Fair.mono _ _ _
      | exact weirgatelaw16_sanity.mono _
      | exact weirgateref16_Valid.mono _ _
      | exact LeO.none _
      | refine LeO.ite ?_ ?_
      | refine LeO.bind ?_ (fun _ => ?_)
    · intro y0 y1 y2 y3 y4 y5 y6 y7 y8
      unfold weirgatelaw16_QuotaIsFair.l0
      repeat' first
      | (with_reducible exact ih0 _ _ _)
      | (with_reducible exact ih1 _ _ _ _)
      | (with_reducible exact ih2 _ _ _ _ _ _ _ _ _)
      | (with_reducible exact ih3 _ _ _ _ _ _ _ _ _)
      | (with_reducible exact ih4 _ _ _ _ _ _ _ _ _ _ _ _ _)
      | (with_reducible exact ih5 _ _ _ _ _ _ _ _ _ _ _ _ _ _ _)
      | (with_reducible exact quota_Explains.mono _ _ _ _)
      | (with_reducible exact quota_Fair.mono _ _ _)
      | (with_reducible exact weirgatelaw16_sanity.mono _)
      | (with_reducible exact weirgateref16_Valid.mono _ _)
      | (with_reducible exact LeO.refl _)
      | (with_reducible exact LeO.none _)
      | (with_reducible refine LeO.ite ?_ ?_)
      | (with_reducible refine LeO.bind ?_ (fun _ => ?_))
      | exact ih0 _ _ _
      | exact ih1 _ _ _ _
      | exact ih2 _ _ _ _ _ _ _ _ _
      | exact ih3 _ _ _ _ _ _ _ _ _
      | exact ih4 _ _ _ _ _ _ _ _ _ _ _ _ _
      | exact ih5 _ _ _ _ _ _ _ _ _ _ _ _ _ _ _
      | exact quota_Explains.mono _ _ _ _
      | exact quota_Fair.mono _ _ _
      | exact weirgatelaw16_sanity.mono _
      | exact weirgateref16_Valid.mono _ _
      | exact LeO.none _
      | refine LeO.ite ?_ ?_
      | refine LeO.bind ?_ (fun _ => ?_)
    · intro y0 y1 y2 y3 y4 y5 y6 y7 y8
      unfold weirgatelaw16_QuotaIsFair.l1
      repeat' first
      | (with_reducible exact ih0 _ _ _)
      | (with_reducible exact ih1 _ _ _ _)
      | (with_reducible exact ih2 _ _ _ _ _ _ _ _ _)
      | (with_reducible exact ih3 _ _ _ _ _ _ _ _ _)
      | (with_reducible exact ih4 _ _ _ _ _ _ _ _ _ _ _ _ _)
      | (with_reducible exact ih5 _ _ _ _ _ _ _ _ _ _ _ _ _ _ _)
      | (with_reducible exact quota_Explains.mono _ _ _ _)
      | (with_reducible exact quota_Fair.mono _ _ _)
      | (with_reducible exact weirgatelaw16_sanity.mono _)
      | (with_reducible exact weirgateref16_Valid.mono _ _)
      | (with_reducible exact LeO.refl _)
      | (with_reducible exact LeO.none _)
      | (with_reducible refine LeO.ite ?_ ?_)
      | (with_reducible refine LeO.bind ?_ (fun _ => ?_))
      | exact ih0 _ _ _
      | exact ih1 _ _ _ _
      | exact ih2 _ _ _ _ _ _ _ _ _
      | exact ih3 _ _ _ _ _ _ _ _ _
      | exact ih4 _ _ _ _ _ _ _ _ _ _ _ _ _
      | exact ih5 _ _ _ _ _ _ _ _ _ _ _ _ _ _ _
      | exact quota_Explains.mono _ _ _ _
      | exact quota_Fair.mono _ _ _
      | exact weirgatelaw16_sanity.mono _
      | exact weirgateref16_Valid.mono _ _
      | exact LeO.none _
      | refine LeO.ite ?_ ?_
      | refine LeO.bind ?_ (fun _ => ?_)
    · intro y0 y1 y2 y3 y4 y5 y6 y7 y8 y9 y10 y11 y12
      unfold weirgatelaw16_QuotaIsFair.j4
      repeat' first
      | (with_reducible exact ih0 _ _ _)
      | (with_reducible exact ih1 _ _ _ _)
      | (with_reducible exact ih2 _ _ _ _ _ _ _ _ _)
      | (with_reducible exact ih3 _ _ _ _ _ _ _ _ _)
      | (with_reducible exact ih4 _ _ _ _ _ _ _ _ _ _ _ _ _)
      | (with_reducible exact ih5 _ _ _ _ _ _ _ _ _ _ _ _ _ _ _)
      | (with_reducible exact quota_Explains.mono _ _ _ _)
      | (with_reducible exact quota_Fair.mono _ _ _)
      | (with_reducible exact weirgatelaw16_sanity.mono _)
      | (with_reducible exact weirgateref16_Valid.mono _ _)
      | (with_reducible exact LeO.refl _)
      | (with_reducible exact LeO.none _)
      | (with_reducible refine LeO.ite ?_ ?_)
      | (with_reducible refine LeO.bind ?_ (fun _ => ?_))
      | exact ih0 _ _ _
      | exact ih1 _ _ _ _
      | exact ih2 _ _ _ _ _ _ _ _ _
      | exact ih3 _ _ _ _ _ _ _ _ _
      | exact ih4 _ _ _ _ _ _ _ _ _ _ _ _ _
      | exact ih5 _ _ _ _ _ _ _ _ _ _ _ _ _ _ _
      | exact quota_Explains.mono _ _ _ _
      | exact quota_Fair.mono _ _ _
      | exact weirgatelaw16_sanity.mono _
      | exact weirgateref16_Valid.mono _ _
      | exact LeO.none _
      | refine LeO.ite ?_ ?_
      | refine LeO.bind ?_ (fun _ => ?_)
    · intro y0 y1 y2 y3 y4 y5 y6 y7 y8 y9 y10 y11 y12 y13 y14
      unfold weirgatelaw16_QuotaIsFair.l2
      repeat' first
      | (with_reducible exact ih0 _ _ _)
      | (with_reducible exact ih1 _ _ _ _)
      | (with_reducible exact ih2 _ _ _ _ _ _ _ _ _)
      | (with_reducible exact ih3 _ _ _ _ _ _ _ _ _)
      | (with_reducible exact ih4 _ _ _ _ _ _ _ _ _ _ _ _ _)
      | (with_reducible exact ih5 _ _ _ _ _ _ _ _ _ _ _ _ _ _ _)
      | (with_reducible exact quota_Explains.mono _ _ _ _)
      | (with_reducible exact quota_Fair.mono _ _ _)
      | (with_reducible exact weirgatelaw16_sanity.mono _)
      | (with_reducible exact weirgateref16_Valid.mono _ _)
      | (with_reducible exact LeO.refl _)
      | (with_reducible exact LeO.none _)
      | (with_reducible refine LeO.ite ?_ ?_)
      | (with_reducible refine LeO.bind ?_ (fun _ => ?_))
      | exact ih0 _ _ _
      | exact ih1 _ _ _ _
      | exact ih2 _ _ _ _ _ _ _ _ _
      | exact ih3 _ _ _ _ _ _ _ _ _
      | exact ih4 _ _ _ _ _ _ _ _ _ _ _ _ _
      | exact ih5 _ _ _ _ _ _ _ _ _ _ _ _ _ _ _
      | exact quota_Explains.mono _ _ _ _
      | exact quota_Fair.mono _ _ _
      | exact weirgatelaw16_sanity.mono _
      | exact weirgateref16_Valid.mono _ _
      | exact LeO.none _
      | refine LeO.ite ?_ ?_
      | refine LeO.bind ?_ (fun _ => ?_)
theorem weirgatelaw16_QuotaIsFair.mono : ∀ a0 a1 k, LeO (weirgatelaw16_QuotaIsFair.f k a0 a1) (weirgatelaw16_QuotaIsFair.f (k + 1) a0 a1) := by
  intro a0 a1 k
  obtain ⟨ih0, ih1, ih2, ih3, ih4, ih5⟩ := weirgatelaw16_QuotaIsFair.mono_l k
  unfold weirgatelaw16_QuotaIsFair.f
  repeat' first
      | (with_reducible exact ih0 _ _ _)
      | (with_reducible exact ih1 _ _ _ _)
      | (with_reducible exact ih2 _ _ _ _ _ _ _ _ _)
      | (with_reducible exact ih3 _ _ _ _ _ _ _ _ _)
      | (with_reducible exact ih4 _ _ _ _ _ _ _ _ _ _ _ _ _)
      | (with_reducible exact ih5 _ _ _ _ _ _ _ _ _ _ _ _ _ _ _)
      | (with_reducible exact quota_Explains.mono _ _ _ _)
      | (with_reducible exact quota_Fair.mono _ _ _)
      | (with_reducible exact weirgatelaw16_sanity.mono _)
      | (with_reducible exact weirgateref16_Valid.mono _ _)
      | (with_reducible exact LeO.refl _)
      | (with_reducible exact LeO.none _)
      | (with_reducible refine LeO.ite ?_ ?_)
      | (with_reducible refine LeO.bind ?_ (fun _ => ?_))
      | exact ih0 _ _ _
      | exact ih1 _ _ _ _
      | exact ih2 _ _ _ _ _ _ _ _ _
      | exact ih3 _ _ _ _ _ _ _ _ _
      | exact ih4 _ _ _ _ _ _ _ _ _ _ _ _ _
      | exact ih5 _ _ _ _ _ _ _ _ _ _ _ _ _ _ _
      | exact quota_Explains.mono _ _ _ _
      | exact quota_Fair.mono _ _ _
      | exact weirgatelaw16_sanity.mono _
      | exact weirgateref16_Valid.mono _ _
      | exact LeO.none _
      | refine LeO.ite ?_ ?_
      | refine LeO.bind ?_ (fun _ => ?_)
set_option maxHeartbeats 8000000 in
set_option maxRecDepth 100000 in
theorem weirgatelaw16_QuotaIsFair.calls (k : Nat) (a0 : Int) (A1 : Option Addr) (c1 : Nat) (l1 : List (S32)) (r : Bool) (w : World) (hr1 : Kd.C k32 w A1 l1.length l1) (hc1 : l1.length ≤ c1) (h : weirgatelaw16_QuotaIsFair.f k a0 l1 = some r) :
    Calls Try.prog 4 #[.int .i64 a0, .slice A1 l1.length c1] w fun e w' => e = .returned (.bool r) ∧ Below w.heap.size w w' := by
  have hu32 := Try.underlying32
  have HR1 := Aside0.mk hr1
  have HC1 := Aside0.mk hc1
  clear hr1 hc1
  have HB := Aside0.mk (Below.refl w.heap.size w)
  have H : (if (l1.length : Int) > 60 then (weirgatelaw16_QuotaIsFair.j0 k a0 l1 true) else ((weirgateref16_Valid.f k l1).bind fun t226 => (if t226 = true then ((weirgatelaw16_capacity.f a0).bind fun t227 => (weirgatelaw16_QuotaIsFair.j0 k a0 l1 (!t227))) else (weirgatelaw16_QuotaIsFair.j0 k a0 l1 true)))) = some r := h
  clear h
  have HC3 := Aside0.mk H
  clear H
  go_enter Try.func4, Try.ntmps4
  go_upto_region 1 with (fail)
  repeat (go_quiet (fail); go_upto_region 1 with (fail))
  go_cut [27] (fun v27 wc => ∃ (kq : Nat) (x27_2 : Bool), v27 = .bool x27_2 ∧ Aside0 (weirgatelaw16_QuotaIsFair.j0 kq a0 l1 x27_2 = some r) ∧ Aside0 (kq ≤ k) ∧ Aside0 (Below w.heap.size w wc))
  case first =>
    have H := HC3.out
    clear HC3
    by_cases c4 : (l1.length : Int) > 60
    · rw [if_pos c4] at H
      have c4b0 : decide (60 < (l1.length : Int)) = true := decide_eq_true c4
      have c4b1 : decide (60 < l1.length) = true := decide_eq_true (by omega)
      clear c4
      (first | rw [c4b0] | (simp only [i64_w, i32_w]; rw [c4b0]) | skip)
      have H' := Aside0.mk H
      clear H
      go_wp2
      repeat (go_quiet (fail); try go_wp2)
      go_meet
      case rel => exact ⟨_, (true), (by first | rfl | (simp; done) | (simp [*]; done)), H', ⟨by first | omega | exact Nat.le_refl _⟩, ⟨by repeat (first | (with_reducible first | exact HB.out | apply below_alloc | apply pw_below_drewN | apply below_drew1) | exact HB.out)⟩⟩
    · rw [if_neg c4] at H
      have c4b0 : decide (60 < (l1.length : Int)) = false := decide_eq_false c4
      have c4b1 : decide (60 < l1.length) = false := decide_eq_false (by omega)
      clear c4
      (first | rw [c4b0] | (simp only [i64_w, i32_w]; rw [c4b0]) | skip)
      replace H := Option.bind_eq_some_iff.mp H
      obtain ⟨t226, A50, H⟩ := H
      replace H : (if t226 = true then ((weirgatelaw16_capacity.f a0).bind fun t227 => (weirgatelaw16_QuotaIsFair.j0 k a0 l1 (!t227))) else (weirgatelaw16_QuotaIsFair.j0 k a0 l1 true)) = some r := H
      have A5 := Aside0.mk A50
      clear A50
      by_cases c6 : t226 = true
      · subst c6
        have H1 : ((weirgatelaw16_capacity.f a0).bind fun t227 => (weirgatelaw16_QuotaIsFair.j0 k a0 l1 (!t227))) = some r := by rw [if_pos rfl] at H; exact H
        clear H
        have H := H1
        clear H1
        replace H := Option.bind_eq_some_iff.mp H
        obtain ⟨t227, A70, H⟩ := H
        replace H : (weirgatelaw16_QuotaIsFair.j0 k a0 l1 (!t227)) = some r := H
        have A7 := Aside0.mk A70
        clear A70
        have H' := Aside0.mk H
        clear H
        go_wp2_with (first | (go_at_call 11; (with_reducible refine (weirgateref16_Valid.calls k _ _ l1 true _ ?side1 ?side2 A5.out).mono ?_); (case side1 => repeat (first | exact (Kd.C_below HR1.out HB.out) | (with_reducible refine Kd.C_alloc ?_ _) | (with_reducible refine Kd.C_drewN ?_ _) | (with_reducible refine Kd.C_drew ?_))); (case side2 => exact HC1.out); rintro e w' ⟨rfl, ⟨nd, rfl⟩⟩; (try first | exact ⟨rfl, _, World.drewN_drewN _ _ _⟩ | exact ⟨rfl, _, Eq.trans (World.drewN_drewN _ _ _) (congrArg (World.drewN _) (Nat.add_assoc _ _ _))⟩)) | (go_at_call 12; (with_reducible refine (weirgatelaw16_capacity.calls a0 t227 _ A7.out).mono ?_); rintro e w' ⟨rfl, ⟨nd, rfl⟩⟩; (try first | exact ⟨rfl, _, World.drewN_drewN _ _ _⟩ | exact ⟨rfl, _, Eq.trans (World.drewN_drewN _ _ _) (congrArg (World.drewN _) (Nat.add_assoc _ _ _))⟩)))
        repeat (go_quiet (first | (go_at_call 11; (with_reducible refine (weirgateref16_Valid.calls k _ _ l1 true _ ?side1 ?side2 A5.out).mono ?_); (case side1 => repeat (first | exact (Kd.C_below HR1.out HB.out) | (with_reducible refine Kd.C_alloc ?_ _) | (with_reducible refine Kd.C_drewN ?_ _) | (with_reducible refine Kd.C_drew ?_))); (case side2 => exact HC1.out); rintro e w' ⟨rfl, ⟨nd, rfl⟩⟩; (try first | exact ⟨rfl, _, World.drewN_drewN _ _ _⟩ | exact ⟨rfl, _, Eq.trans (World.drewN_drewN _ _ _) (congrArg (World.drewN _) (Nat.add_assoc _ _ _))⟩)) | (go_at_call 12; (with_reducible refine (weirgatelaw16_capacity.calls a0 t227 _ A7.out).mono ?_); rintro e w' ⟨rfl, ⟨nd, rfl⟩⟩; (try first | exact ⟨rfl, _, World.drewN_drewN _ _ _⟩ | exact ⟨rfl, _, Eq.trans (World.drewN_drewN _ _ _) (congrArg (World.drewN _) (Nat.add_assoc _ _ _))⟩))); try go_wp2_with (first | (go_at_call 11; (with_reducible refine (weirgateref16_Valid.calls k _ _ l1 true _ ?side1 ?side2 A5.out).mono ?_); (case side1 => repeat (first | exact (Kd.C_below HR1.out HB.out) | (with_reducible refine Kd.C_alloc ?_ _) | (with_reducible refine Kd.C_drewN ?_ _) | (with_reducible refine Kd.C_drew ?_))); (case side2 => exact HC1.out); rintro e w' ⟨rfl, ⟨nd, rfl⟩⟩; (try first | exact ⟨rfl, _, World.drewN_drewN _ _ _⟩ | exact ⟨rfl, _, Eq.trans (World.drewN_drewN _ _ _) (congrArg (World.drewN _) (Nat.add_assoc _ _ _))⟩)) | (go_at_call 12; (with_reducible refine (weirgatelaw16_capacity.calls a0 t227 _ A7.out).mono ?_); rintro e w' ⟨rfl, ⟨nd, rfl⟩⟩; (try first | exact ⟨rfl, _, World.drewN_drewN _ _ _⟩ | exact ⟨rfl, _, Eq.trans (World.drewN_drewN _ _ _) (congrArg (World.drewN _) (Nat.add_assoc _ _ _))⟩))))
        go_meet
        case rel => exact ⟨_, (!t227), (by first | rfl | (simp; done) | (simp [*]; done)), H', ⟨by first | omega | exact Nat.le_refl _⟩, ⟨by repeat (first | (with_reducible first | exact HB.out | apply below_alloc | apply pw_below_drewN | apply below_drew1) | exact HB.out)⟩⟩
      · replace c6 := Bool.eq_false_iff.mpr c6
        subst c6
        have H1 : (weirgatelaw16_QuotaIsFair.j0 k a0 l1 true) = some r := by rw [if_neg (show ¬ (false = true) by decide)] at H; exact H
        clear H
        have H := H1
        clear H1
        have H' := Aside0.mk H
        clear H
        go_wp2_with (first | (go_at_call 11; (with_reducible refine (weirgateref16_Valid.calls k _ _ l1 false _ ?side1 ?side2 A5.out).mono ?_); (case side1 => repeat (first | exact (Kd.C_below HR1.out HB.out) | (with_reducible refine Kd.C_alloc ?_ _) | (with_reducible refine Kd.C_drewN ?_ _) | (with_reducible refine Kd.C_drew ?_))); (case side2 => exact HC1.out); rintro e w' ⟨rfl, ⟨nd, rfl⟩⟩; (try first | exact ⟨rfl, _, World.drewN_drewN _ _ _⟩ | exact ⟨rfl, _, Eq.trans (World.drewN_drewN _ _ _) (congrArg (World.drewN _) (Nat.add_assoc _ _ _))⟩)))
        repeat (go_quiet (first | (go_at_call 11; (with_reducible refine (weirgateref16_Valid.calls k _ _ l1 false _ ?side1 ?side2 A5.out).mono ?_); (case side1 => repeat (first | exact (Kd.C_below HR1.out HB.out) | (with_reducible refine Kd.C_alloc ?_ _) | (with_reducible refine Kd.C_drewN ?_ _) | (with_reducible refine Kd.C_drew ?_))); (case side2 => exact HC1.out); rintro e w' ⟨rfl, ⟨nd, rfl⟩⟩; (try first | exact ⟨rfl, _, World.drewN_drewN _ _ _⟩ | exact ⟨rfl, _, Eq.trans (World.drewN_drewN _ _ _) (congrArg (World.drewN _) (Nat.add_assoc _ _ _))⟩))); try go_wp2_with (first | (go_at_call 11; (with_reducible refine (weirgateref16_Valid.calls k _ _ l1 false _ ?side1 ?side2 A5.out).mono ?_); (case side1 => repeat (first | exact (Kd.C_below HR1.out HB.out) | (with_reducible refine Kd.C_alloc ?_ _) | (with_reducible refine Kd.C_drewN ?_ _) | (with_reducible refine Kd.C_drew ?_))); (case side2 => exact HC1.out); rintro e w' ⟨rfl, ⟨nd, rfl⟩⟩; (try first | exact ⟨rfl, _, World.drewN_drewN _ _ _⟩ | exact ⟨rfl, _, Eq.trans (World.drewN_drewN _ _ _) (congrArg (World.drewN _) (Nat.add_assoc _ _ _))⟩))))
        go_meet
        case rel => exact ⟨_, (true), (by first | rfl | (simp; done) | (simp [*]; done)), H', ⟨by first | omega | exact Nat.le_refl _⟩, ⟨by repeat (first | (with_reducible first | exact HB.out | apply below_alloc | apply pw_below_drewN | apply below_drew1) | exact HB.out)⟩⟩
  case rest =>
    clear HC3
    try clear c1
    try clear p2
    try clear c4
    try clear c4b0
    try clear c4b1
    try clear c6
    obtain ⟨kq, x27_2, rfl, HA, HJ2, HB⟩ := hcut
    cases kq with
    | zero => exact absurd HA.out (by simp [weirgatelaw16_QuotaIsFair.j0])
    | succ kj2 =>
      have H := HA.out
      clear HA
      simp only [weirgatelaw16_QuotaIsFair.j0] at H
      by_cases c8 : x27_2 = true
      · subst c8
        have H1 : ((weirgatelaw16_sanity.f kj2).bind fun t228 => (some t228)) = some r := by rw [if_pos rfl] at H; exact H
        clear H
        have H := H1
        clear H1
        replace H := Option.bind_eq_some_iff.mp H
        obtain ⟨t228, A90, H⟩ := H
        replace H : (some t228) = some r := H
        have A9 := Aside0.mk A90
        clear A90
        obtain rfl := Option.some.inj H
        go_wp2_with (first | (go_at_call 9; (with_reducible refine (weirgatelaw16_sanity.calls kj2  t228 _ A9.out).mono ?_); rintro e w10 ⟨rfl, hb⟩; have n0_ := Aside0.mk (below_step (by repeat (first | (with_reducible first | exact HB.out | apply below_alloc | apply pw_below_drewN | apply below_drew1) | exact HB.out)) hb); clear HB; have HB := n0_; clear n0_; (try clear hb); (try clear hb2); (try clear hk); (try clear hi)))
        repeat (go_quiet (first | (go_at_call 9; (with_reducible refine (weirgatelaw16_sanity.calls kj2  t228 _ A9.out).mono ?_); rintro e w10 ⟨rfl, hb⟩; have n0_ := Aside0.mk (below_step (by repeat (first | (with_reducible first | exact HB.out | apply below_alloc | apply pw_below_drewN | apply below_drew1) | exact HB.out)) hb); clear HB; have HB := n0_; clear n0_; (try clear hb); (try clear hb2); (try clear hk); (try clear hi))); try go_wp2_with (first | (go_at_call 9; (with_reducible refine (weirgatelaw16_sanity.calls kj2  t228 _ A9.out).mono ?_); rintro e w10 ⟨rfl, hb⟩; have n0_ := Aside0.mk (below_step (by repeat (first | (with_reducible first | exact HB.out | apply below_alloc | apply pw_below_drewN | apply below_drew1) | exact HB.out)) hb); clear HB; have HB := n0_; clear n0_; (try clear hb); (try clear hb2); (try clear hk); (try clear hi))))
        go_ret
        exact ⟨by first | rfl | (simp [errW_none, errW_some] <;> rfl) | (simp [*, errW_none, errW_some] <;> rfl), by repeat (first | (with_reducible first | exact HB.out | apply below_alloc | apply pw_below_drewN | apply below_drew1) | exact HB.out)⟩
      · replace c8 := Bool.eq_false_iff.mpr c8
        subst c8
        have H1 : ((quota_Fair.f kj2 a0 l1).bind fun t229 => (if (t229.length : Int) = (l1.length : Int) then ((quota_Explains.f kj2 a0 l1 t229).bind fun t232 => (weirgatelaw16_QuotaIsFair.j1 kj2 a0 l1 t229 (!t232))) else (weirgatelaw16_QuotaIsFair.j1 kj2 a0 l1 t229 true))) = some r := by rw [if_neg (show ¬ (false = true) by decide)] at H; exact H
        clear H
        have H := H1
        clear H1
        replace H := Option.bind_eq_some_iff.mp H
        obtain ⟨t229, A110, H⟩ := H
        replace H : (if (t229.length : Int) = (l1.length : Int) then ((quota_Explains.f kj2 a0 l1 t229).bind fun t232 => (weirgatelaw16_QuotaIsFair.j1 kj2 a0 l1 t229 (!t232))) else (weirgatelaw16_QuotaIsFair.j1 kj2 a0 l1 t229 true)) = some r := H
        have A11 := Aside0.mk A110
        clear A110
        have HC12 := Aside0.mk H
        clear H
        go_upto_region 4 with (first | (go_at_call 16; (with_reducible refine (quota_Fair.calls kj2 a0 _ _ l1 t229 _ ?side1 ?side2 A11.out).mono ?_); (case side1 => repeat (first | exact (Kd.C_below HR1.out HB.out) | (with_reducible refine Kd.C_alloc ?_ _) | (with_reducible refine Kd.C_drewN ?_ _) | (with_reducible refine Kd.C_drew ?_))); (case side2 => exact HC1.out); rintro e w13 ⟨v230, rfl, ho0, hb⟩; have n0_ := Aside0.mk (Kd.R_lower ho0 (below_size (by repeat (first | (with_reducible first | exact HB.out | apply below_alloc | apply pw_below_drewN | apply below_drew1) | exact HB.out)))); have n1_ := Aside0.mk (below_step (by repeat (first | (with_reducible first | exact HB.out | apply below_alloc | apply pw_below_drewN | apply below_drew1) | exact HB.out)) hb); clear HB; have HO231 := n0_; have HB := n1_; clear n0_ n1_; (try clear hb); (try clear hb2); (try clear hk); (try clear hi); (try clear ho0)))
        repeat (go_quiet (first | (go_at_call 16; (with_reducible refine (quota_Fair.calls kj2 a0 _ _ l1 t229 _ ?side1 ?side2 A11.out).mono ?_); (case side1 => repeat (first | exact (Kd.C_below HR1.out HB.out) | (with_reducible refine Kd.C_alloc ?_ _) | (with_reducible refine Kd.C_drewN ?_ _) | (with_reducible refine Kd.C_drew ?_))); (case side2 => exact HC1.out); rintro e w13 ⟨v230, rfl, ho0, hb⟩; have n0_ := Aside0.mk (Kd.R_lower ho0 (below_size (by repeat (first | (with_reducible first | exact HB.out | apply below_alloc | apply pw_below_drewN | apply below_drew1) | exact HB.out)))); have n1_ := Aside0.mk (below_step (by repeat (first | (with_reducible first | exact HB.out | apply below_alloc | apply pw_below_drewN | apply below_drew1) | exact HB.out)) hb); clear HB; have HO231 := n0_; have HB := n1_; clear n0_ n1_; (try clear hb); (try clear hb2); (try clear hk); (try clear hi); (try clear ho0))); go_upto_region 4 with (first | (go_at_call 16; (with_reducible refine (quota_Fair.calls kj2 a0 _ _ l1 t229 _ ?side1 ?side2 A11.out).mono ?_); (case side1 => repeat (first | exact (Kd.C_below HR1.out HB.out) | (with_reducible refine Kd.C_alloc ?_ _) | (with_reducible refine Kd.C_drewN ?_ _) | (with_reducible refine Kd.C_drew ?_))); (case side2 => exact HC1.out); rintro e w13 ⟨v230, rfl, ho0, hb⟩; have n0_ := Aside0.mk (Kd.R_lower ho0 (below_size (by repeat (first | (with_reducible first | exact HB.out | apply below_alloc | apply pw_below_drewN | apply below_drew1) | exact HB.out)))); have n1_ := Aside0.mk (below_step (by repeat (first | (with_reducible first | exact HB.out | apply below_alloc | apply pw_below_drewN | apply below_drew1) | exact HB.out)) hb); clear HB; have HO231 := n0_; have HB := n1_; clear n0_ n1_; (try clear hb); (try clear hb2); (try clear hk); (try clear hi); (try clear ho0))))
        (try simp only [Act.put, List.setIfInBounds_toArray, List.set_cons_zero, List.set_cons_succ])
        go_cut [43] (fun v43 wc => ∃ (kq : Nat) (x43_11 : Bool), v43 = .bool x43_11 ∧ Aside0 (weirgatelaw16_QuotaIsFair.j1 kq a0 l1 t229 x43_11 = some r) ∧ Aside0 (kq ≤ kj2) ∧ Aside0 (Kd.R (Kd.int .i64) 3 wc w.heap.size (fun _ => True) v230 t229) ∧ Aside0 (Below w.heap.size w wc))
        case first =>
          have H := HC12.out
          clear HC12
          by_cases c14 : (t229.length : Int) = (l1.length : Int)
          · rw [if_pos c14] at H
            have c14b0 : ((t229.length : Int) == (l1.length : Int)) = true := beq_iff_eq.mpr c14
            have c14b1 : ((t229.length : Int) != (l1.length : Int)) = false := bne_eq_false_iff_eq.mpr c14
            have c14b2 : (t229.length == l1.length) = true := by first | simpa using c14 | (simp at c14 ⊢; omega)
            clear c14
            (first | rw [c14b0] | (simp only [i64_w, i32_w]; rw [c14b0]) | skip)
            replace H := Option.bind_eq_some_iff.mp H
            obtain ⟨t232, A150, H⟩ := H
            replace H : (weirgatelaw16_QuotaIsFair.j1 kj2 a0 l1 t229 (!t232)) = some r := H
            have A15 := Aside0.mk A150
            clear A150
            have H' := Aside0.mk H
            clear H
            obtain ⟨Ao16, co16, eo16⟩ := Kd.R_slice HO231.out
            subst eo16
            go_wp2_with (first | (go_at_call 18; (with_reducible refine (quota_Explains.calls kj2 a0 _ _ l1 _ _ t229 t232 _ ?side1 ?side2 ?side3 ?side4 A15.out).mono ?_); (case side1 => repeat (first | exact (Kd.C_below HR1.out HB.out) | (with_reducible refine Kd.C_alloc ?_ _) | (with_reducible refine Kd.C_drewN ?_ _) | (with_reducible refine Kd.C_drew ?_))); (case side2 => exact HC1.out); (case side3 => repeat (first | exact (Kd.R_reads' HO231.out).2.2 | (with_reducible refine Kd.C_alloc ?_ _) | (with_reducible refine Kd.C_drewN ?_ _) | (with_reducible refine Kd.C_drew ?_))); (case side4 => exact (Kd.R_reads' HO231.out).2.1); rintro e w17 ⟨rfl, hb⟩; have n0_ := Aside0.mk (Kd.R_below (by (with_reducible repeat (first | apply Kd.R_alloc | apply Kd.R_drewN | apply Kd.R_drew)); exact HO231.out) hb); have n1_ := Aside0.mk (below_step (by repeat (first | (with_reducible first | exact HB.out | apply below_alloc | apply pw_below_drewN | apply below_drew1) | exact HB.out)) hb); clear HO231; clear HB; have HO231 := n0_; have HB := n1_; clear n0_ n1_; (try clear hb); (try clear hb2); (try clear hk); (try clear hi)))
            repeat (go_quiet (first | (go_at_call 18; (with_reducible refine (quota_Explains.calls kj2 a0 _ _ l1 _ _ t229 t232 _ ?side1 ?side2 ?side3 ?side4 A15.out).mono ?_); (case side1 => repeat (first | exact (Kd.C_below HR1.out HB.out) | (with_reducible refine Kd.C_alloc ?_ _) | (with_reducible refine Kd.C_drewN ?_ _) | (with_reducible refine Kd.C_drew ?_))); (case side2 => exact HC1.out); (case side3 => repeat (first | exact (Kd.R_reads' HO231.out).2.2 | (with_reducible refine Kd.C_alloc ?_ _) | (with_reducible refine Kd.C_drewN ?_ _) | (with_reducible refine Kd.C_drew ?_))); (case side4 => exact (Kd.R_reads' HO231.out).2.1); rintro e w17 ⟨rfl, hb⟩; have n0_ := Aside0.mk (Kd.R_below (by (with_reducible repeat (first | apply Kd.R_alloc | apply Kd.R_drewN | apply Kd.R_drew)); exact HO231.out) hb); have n1_ := Aside0.mk (below_step (by repeat (first | (with_reducible first | exact HB.out | apply below_alloc | apply pw_below_drewN | apply below_drew1) | exact HB.out)) hb); clear HO231; clear HB; have HO231 := n0_; have HB := n1_; clear n0_ n1_; (try clear hb); (try clear hb2); (try clear hk); (try clear hi))); try go_wp2_with (first | (go_at_call 18; (with_reducible refine (quota_Explains.calls kj2 a0 _ _ l1 _ _ t229 t232 _ ?side1 ?side2 ?side3 ?side4 A15.out).mono ?_); (case side1 => repeat (first | exact (Kd.C_below HR1.out HB.out) | (with_reducible refine Kd.C_alloc ?_ _) | (with_reducible refine Kd.C_drewN ?_ _) | (with_reducible refine Kd.C_drew ?_))); (case side2 => exact HC1.out); (case side3 => repeat (first | exact (Kd.R_reads' HO231.out).2.2 | (with_reducible refine Kd.C_alloc ?_ _) | (with_reducible refine Kd.C_drewN ?_ _) | (with_reducible refine Kd.C_drew ?_))); (case side4 => exact (Kd.R_reads' HO231.out).2.1); rintro e w17 ⟨rfl, hb⟩; have n0_ := Aside0.mk (Kd.R_below (by (with_reducible repeat (first | apply Kd.R_alloc | apply Kd.R_drewN | apply Kd.R_drew)); exact HO231.out) hb); have n1_ := Aside0.mk (below_step (by repeat (first | (with_reducible first | exact HB.out | apply below_alloc | apply pw_below_drewN | apply below_drew1) | exact HB.out)) hb); clear HO231; clear HB; have HO231 := n0_; have HB := n1_; clear n0_ n1_; (try clear hb); (try clear hb2); (try clear hk); (try clear hi))))
            go_meet
            case rel => exact ⟨_, (!t232), (by first | rfl | (simp; done) | (simp [*]; done)), H', ⟨by have := HJ2.out; first | omega | exact Nat.le_refl _⟩, ⟨by (with_reducible repeat (first | apply Kd.R_alloc | apply Kd.R_drewN | apply Kd.R_drew)); exact HO231.out⟩, ⟨by repeat (first | (with_reducible first | exact HB.out | apply below_alloc | apply pw_below_drewN | apply below_drew1) | exact HB.out)⟩⟩
          · rw [if_neg c14] at H
            have c14b0 : ((t229.length : Int) == (l1.length : Int)) = false := beq_eq_false_iff_ne.mpr c14
            have c14b1 : ((t229.length : Int) != (l1.length : Int)) = true := bne_iff_ne.mpr c14
            have c14b2 : (t229.length == l1.length) = false := by first | simpa using c14 | (simp at c14 ⊢; omega)
            (first | rw [c14b0] | (simp only [i64_w, i32_w]; rw [c14b0]) | skip)
            have H' := Aside0.mk H
            clear H
            obtain ⟨Ao18, co18, eo18⟩ := Kd.R_slice HO231.out
            subst eo18
            go_wp2
            repeat (go_quiet (fail); try go_wp2)
            go_meet
            case rel => exact ⟨_, (true), (by first | rfl | (simp; done) | (simp [*]; done)), H', ⟨by have := HJ2.out; first | omega | exact Nat.le_refl _⟩, ⟨by (with_reducible repeat (first | apply Kd.R_alloc | apply Kd.R_drewN | apply Kd.R_drew)); exact HO231.out⟩, ⟨by repeat (first | (with_reducible first | exact HB.out | apply below_alloc | apply pw_below_drewN | apply below_drew1) | exact HB.out)⟩⟩
        case rest =>
          clear HC12
          try clear c1
          try clear p2
          try clear c4
          try clear c4b0
          try clear c4b1
          try clear c6
          try clear c8
          try clear c14
          try clear c14b0
          try clear c14b1
          try clear c14b2
          try clear p2
          obtain ⟨kq, x43_11, rfl, HA, HJ11, HO_5, HB⟩ := hcut
          cases kq with
          | zero => exact absurd HA.out (by simp [weirgatelaw16_QuotaIsFair.j1])
          | succ kj11 =>
            have H := HA.out
            clear HA
            simp only [weirgatelaw16_QuotaIsFair.j1] at H
            by_cases c19 : x43_11 = true
            · subst c19
              have H1 : (some false) = some r := by rw [if_pos rfl] at H; exact H
              clear H
              have H := H1
              clear H1
              obtain rfl := Option.some.inj H
              go_wp2
              repeat (go_quiet (fail); try go_wp2)
              go_ret
              exact ⟨by first | rfl | (simp [errW_none, errW_some] <;> rfl) | (simp [*, errW_none, errW_some] <;> rfl), by repeat (first | (with_reducible first | exact HB.out | apply below_alloc | apply pw_below_drewN | apply below_drew1) | exact HB.out)⟩
            · replace c19 := Bool.eq_false_iff.mpr c19
              subst c19
              have H1 : (weirgatelaw16_QuotaIsFair.l0 kj11 a0 l1 t229 0 0 0 l1 (l1.length : Int) 0) = some r := by rw [if_neg (show ¬ (false = true) by decide)] at H; exact H
              clear H
              have H := H1
              clear H1
              have H' := Aside0.mk H
              clear H
              go_wp2
              repeat (go_quiet (fail); try go_wp2)
              go_loopg [6, 7, 8, 46] kj11 (fun kq v6 v7 v8 v46 w' => ∃ (x6_3 : Int) (x7_3 : Int) (x8_3 : Int) (x46_3 : Int), v6 = .int .i64 x6_3 ∧ v7 = .int .i64 x7_3 ∧ v8 = .int .i64 x8_3 ∧ v46 = .int .i64 x46_3 ∧ Aside0 (weirgatelaw16_QuotaIsFair.l0 kq a0 l1 t229 x6_3 x7_3 x8_3 l1 (l1.length : Int) x46_3 = some r) ∧ Aside0 (kq ≤ kj11) ∧ Aside0 (Kd.R (Kd.int .i64) 3 w' w.heap.size (fun _ => True) v230 t229) ∧ Aside0 (Below w.heap.size w w'))
              case atStart => exact ⟨(0), (0), (0), (0), (by first | rfl | (simp; done) | (simp [*]; done)), (by first | rfl | (simp; done) | (simp [*]; done)), (by first | rfl | (simp; done) | (simp [*]; done)), (by first | rfl | (simp; done) | (simp [*]; done)), H', ⟨Nat.le_refl _⟩, ⟨by (with_reducible repeat (first | apply Kd.R_alloc | apply Kd.R_drewN | apply Kd.R_drew)); exact HO_5.out⟩, ⟨by repeat (first | (with_reducible first | exact HB.out | apply below_alloc | apply pw_below_drewN | apply below_drew1) | exact HB.out)⟩⟩
              case round =>
                clear H'
                try clear c1
                try clear p2
                try clear c4
                try clear c4b0
                try clear c4b1
                try clear c6
                try clear c8
                try clear c14
                try clear c14b0
                try clear c14b1
                try clear c14b2
                try clear c19
                try clear p2
                obtain ⟨x6_3, x7_3, x8_3, x46_3, rfl, rfl, rfl, rfl, HA, HK3, HO_5, HB⟩ := hrel
                cases gk with
                | zero => exact absurd HA.out (by simp [weirgatelaw16_QuotaIsFair.l0])
                | succ k3 =>
                  have H := HA.out
                  clear HA
                  simp only [weirgatelaw16_QuotaIsFair.l0] at H
                  by_cases c20 : x46_3 < (l1.length : Int)
                  · rw [if_pos c20] at H
                    have c20b0 : decide (x46_3 < (l1.length : Int)) = true := decide_eq_true c20
                    clear c20
                    by_cases c21 : 0 ≤ x46_3
                    · rw [if_pos c21] at H
                      have c21b0 : decide (0 ≤ x46_3) = true := decide_eq_true c21
                      clear c21
                      by_cases c22 : x46_3 < (l1.length : Int)
                      · rw [if_pos c22] at H
                        have c22b0 : decide (x46_3 < (l1.length : Int)) = true := decide_eq_true c22
                        clear c22
                        by_cases c23 : x46_3 < (t229.length : Int)
                        · rw [if_pos c23] at H
                          have c23b0 : decide (x46_3 < (t229.length : Int)) = true := decide_eq_true c23
                          clear c23
                          by_cases c24 : (rd t229 x46_3) < 0
                          · rw [if_pos c24] at H
                            have c24b0 : decide ((rd t229 x46_3) < 0) = true := decide_eq_true c24
                            clear c24
                            obtain rfl := Option.some.inj H
                            have p233 : 0 ≤ (x46_3 : Int) := of_decide_eq_true (by first | (with_reducible assumption) | assumption)
                            have q233 : x46_3 < (l1.length : Int) := of_decide_eq_true (by first | (with_reducible assumption) | assumption)
                            obtain ⟨ad233, e233, hx233_0, hx233_1⟩ := at_T32 HR1.out x46_3 p233 q233
                            cases e233
                            replace hx233_0 := (HB.out.cell (World.block_lt_of_cell? w _ hx233_0)).trans hx233_0
                            replace hx233_1 := (HB.out.cell (World.block_lt_of_cell? w _ hx233_1)).trans hx233_1
                            replace p233 := eq_true p233
                            replace q233 := eq_true q233
                            go_wp2_with (first | ((with_reducible refine gate_dst (N := 10) rfl ?_); (try (refine gate_guard (by rfl) ?_; dsimp only)); refine box_event ?hg (N := 10) ?hd (cs := #[.int .i64 0, .int .i64 0]) (t := 32) ?hr ?_; (case hd => rfl); (case hg => rfl); (case hr => first | (go_simp; done) | (go_simp; rfl)); intro gb234 hg w25 hbox hb; have n0_ := Aside0.mk (Kd.R_below (by (with_reducible repeat (first | apply Kd.R_alloc | apply Kd.R_drewN | apply Kd.R_drew)); exact HO_5.out) hb); have n1_ := Aside0.mk (below_step (by repeat (first | (with_reducible first | exact HB.out | apply below_alloc | apply pw_below_drewN | apply below_drew1) | exact HB.out)) hb); have n2_ := Aside0.mk (hbox); have n3_ := Aside0.mk ((by rw [hg]; exact (below_size (by repeat (first | (with_reducible first | exact HB.out | apply below_alloc | apply pw_below_drewN | apply below_drew1) | exact HB.out))) : w.heap.size ≤ gb234)); have n4_ := Aside0.mk ((by rw [hg]; exact (below_size (by repeat (first | (with_reducible first | exact HB.out | apply below_alloc | apply pw_below_drewN | apply below_drew1) | exact HB.out))) : w.heap.size ≤ gb234)); clear HO_5; clear HB; have HO_5 := n0_; have HB := n1_; have BK234 := n2_; have GW234 := n3_; have GE234 := n4_; clear n0_ n1_ n2_ n3_ n4_; clear hb hbox hg; have hcz26_0 : w25.cell? ⟨gb234, 0, none⟩ = some (.int .i64 0) := (blk_cell BK234.out 0).trans rfl; have hcz26_1 : w25.cell? ⟨gb234, 1, none⟩ = some (.int .i64 0) := (blk_cell BK234.out 1).trans rfl; have hfz26_0 := blk_frozen BK234.out 0; have hfz26_1 := blk_frozen BK234.out 1; obtain ⟨Ao27, co27, eo27⟩ := Kd.R_slice HO_5.out; subst eo27; have p235 : 0 ≤ (x46_3 : Int) := of_decide_eq_true (by first | (with_reducible assumption) | assumption); have q235 : x46_3 < (t229.length : Int) := of_decide_eq_true (by first | (with_reducible assumption) | assumption); obtain ⟨ad235, e235, hx235_0⟩ := Kd.at_int (Kd.R_reads' HO_5.out).2.2 x46_3 p235 q235; cases e235; have hn235_0 : ad235.block ≠ gb234 := Kd.own_blk (Kd.R_ne HO_5.out BK234.out (by decide)); have hn235_1 : ad235.block ≠ gb234 := Kd.own_blk (Kd.R_ne HO_5.out BK234.out (by decide)); replace hx235_0 := (cell_far (p := ⟨gb234, 0, none⟩) (by first | (rw [add_block]; exact hn235_0) | (show (Addr.add _ _).block ≠ _; rw [add_block]; exact hn235_0) | exact hn235_0) (.int .i64 ((rd_T32 l1 x46_3).f0))).trans hx235_0; replace hx235_0 := (cell_far (p := ⟨gb234, 1, none⟩) (by first | (rw [add_block]; exact hn235_1) | (show (Addr.add _ _).block ≠ _; rw [add_block]; exact hn235_1) | exact hn235_1) (.int .i64 ((rd_T32 l1 x46_3).f1))).trans hx235_0; (try have hy235_0 := fun (n_ : Nat) => (show ((((w25.drewN n_).setCell ⟨gb234, 0, none⟩ (.int .i64 ((rd_T32 l1 x46_3).f0))).setCell ⟨gb234, 1, none⟩ (.int .i64 ((rd_T32 l1 x46_3).f1)))).cell? _ = some _ from hx235_0)); clear hn235_0; clear hn235_1; replace p235 := eq_true p235; replace q235 := eq_true q235))
                            repeat (go_quiet (first | ((with_reducible refine gate_dst (N := 10) rfl ?_); (try (refine gate_guard (by rfl) ?_; dsimp only)); refine box_event ?hg (N := 10) ?hd (cs := #[.int .i64 0, .int .i64 0]) (t := 32) ?hr ?_; (case hd => rfl); (case hg => rfl); (case hr => first | (go_simp; done) | (go_simp; rfl)); intro gb234 hg w25 hbox hb; have n0_ := Aside0.mk (Kd.R_below (by (with_reducible repeat (first | apply Kd.R_alloc | apply Kd.R_drewN | apply Kd.R_drew)); exact HO_5.out) hb); have n1_ := Aside0.mk (below_step (by repeat (first | (with_reducible first | exact HB.out | apply below_alloc | apply pw_below_drewN | apply below_drew1) | exact HB.out)) hb); have n2_ := Aside0.mk (hbox); have n3_ := Aside0.mk ((by rw [hg]; exact (below_size (by repeat (first | (with_reducible first | exact HB.out | apply below_alloc | apply pw_below_drewN | apply below_drew1) | exact HB.out))) : w.heap.size ≤ gb234)); have n4_ := Aside0.mk ((by rw [hg]; exact (below_size (by repeat (first | (with_reducible first | exact HB.out | apply below_alloc | apply pw_below_drewN | apply below_drew1) | exact HB.out))) : w.heap.size ≤ gb234)); clear HO_5; clear HB; have HO_5 := n0_; have HB := n1_; have BK234 := n2_; have GW234 := n3_; have GE234 := n4_; clear n0_ n1_ n2_ n3_ n4_; clear hb hbox hg; have hcz26_0 : w25.cell? ⟨gb234, 0, none⟩ = some (.int .i64 0) := (blk_cell BK234.out 0).trans rfl; have hcz26_1 : w25.cell? ⟨gb234, 1, none⟩ = some (.int .i64 0) := (blk_cell BK234.out 1).trans rfl; have hfz26_0 := blk_frozen BK234.out 0; have hfz26_1 := blk_frozen BK234.out 1; obtain ⟨Ao27, co27, eo27⟩ := Kd.R_slice HO_5.out; subst eo27; have p235 : 0 ≤ (x46_3 : Int) := of_decide_eq_true (by first | (with_reducible assumption) | assumption); have q235 : x46_3 < (t229.length : Int) := of_decide_eq_true (by first | (with_reducible assumption) | assumption); obtain ⟨ad235, e235, hx235_0⟩ := Kd.at_int (Kd.R_reads' HO_5.out).2.2 x46_3 p235 q235; cases e235; have hn235_0 : ad235.block ≠ gb234 := Kd.own_blk (Kd.R_ne HO_5.out BK234.out (by decide)); have hn235_1 : ad235.block ≠ gb234 := Kd.own_blk (Kd.R_ne HO_5.out BK234.out (by decide)); replace hx235_0 := (cell_far (p := ⟨gb234, 0, none⟩) (by first | (rw [add_block]; exact hn235_0) | (show (Addr.add _ _).block ≠ _; rw [add_block]; exact hn235_0) | exact hn235_0) (.int .i64 ((rd_T32 l1 x46_3).f0))).trans hx235_0; replace hx235_0 := (cell_far (p := ⟨gb234, 1, none⟩) (by first | (rw [add_block]; exact hn235_1) | (show (Addr.add _ _).block ≠ _; rw [add_block]; exact hn235_1) | exact hn235_1) (.int .i64 ((rd_T32 l1 x46_3).f1))).trans hx235_0; (try have hy235_0 := fun (n_ : Nat) => (show ((((w25.drewN n_).setCell ⟨gb234, 0, none⟩ (.int .i64 ((rd_T32 l1 x46_3).f0))).setCell ⟨gb234, 1, none⟩ (.int .i64 ((rd_T32 l1 x46_3).f1)))).cell? _ = some _ from hx235_0)); clear hn235_0; clear hn235_1; replace p235 := eq_true p235; replace q235 := eq_true q235)); try go_wp2_with (first | ((with_reducible refine gate_dst (N := 10) rfl ?_); (try (refine gate_guard (by rfl) ?_; dsimp only)); refine box_event ?hg (N := 10) ?hd (cs := #[.int .i64 0, .int .i64 0]) (t := 32) ?hr ?_; (case hd => rfl); (case hg => rfl); (case hr => first | (go_simp; done) | (go_simp; rfl)); intro gb234 hg w25 hbox hb; have n0_ := Aside0.mk (Kd.R_below (by (with_reducible repeat (first | apply Kd.R_alloc | apply Kd.R_drewN | apply Kd.R_drew)); exact HO_5.out) hb); have n1_ := Aside0.mk (below_step (by repeat (first | (with_reducible first | exact HB.out | apply below_alloc | apply pw_below_drewN | apply below_drew1) | exact HB.out)) hb); have n2_ := Aside0.mk (hbox); have n3_ := Aside0.mk ((by rw [hg]; exact (below_size (by repeat (first | (with_reducible first | exact HB.out | apply below_alloc | apply pw_below_drewN | apply below_drew1) | exact HB.out))) : w.heap.size ≤ gb234)); have n4_ := Aside0.mk ((by rw [hg]; exact (below_size (by repeat (first | (with_reducible first | exact HB.out | apply below_alloc | apply pw_below_drewN | apply below_drew1) | exact HB.out))) : w.heap.size ≤ gb234)); clear HO_5; clear HB; have HO_5 := n0_; have HB := n1_; have BK234 := n2_; have GW234 := n3_; have GE234 := n4_; clear n0_ n1_ n2_ n3_ n4_; clear hb hbox hg; have hcz26_0 : w25.cell? ⟨gb234, 0, none⟩ = some (.int .i64 0) := (blk_cell BK234.out 0).trans rfl; have hcz26_1 : w25.cell? ⟨gb234, 1, none⟩ = some (.int .i64 0) := (blk_cell BK234.out 1).trans rfl; have hfz26_0 := blk_frozen BK234.out 0; have hfz26_1 := blk_frozen BK234.out 1; obtain ⟨Ao27, co27, eo27⟩ := Kd.R_slice HO_5.out; subst eo27; have p235 : 0 ≤ (x46_3 : Int) := of_decide_eq_true (by first | (with_reducible assumption) | assumption); have q235 : x46_3 < (t229.length : Int) := of_decide_eq_true (by first | (with_reducible assumption) | assumption); obtain ⟨ad235, e235, hx235_0⟩ := Kd.at_int (Kd.R_reads' HO_5.out).2.2 x46_3 p235 q235; cases e235; have hn235_0 : ad235.block ≠ gb234 := Kd.own_blk (Kd.R_ne HO_5.out BK234.out (by decide)); have hn235_1 : ad235.block ≠ gb234 := Kd.own_blk (Kd.R_ne HO_5.out BK234.out (by decide)); replace hx235_0 := (cell_far (p := ⟨gb234, 0, none⟩) (by first | (rw [add_block]; exact hn235_0) | (show (Addr.add _ _).block ≠ _; rw [add_block]; exact hn235_0) | exact hn235_0) (.int .i64 ((rd_T32 l1 x46_3).f0))).trans hx235_0; replace hx235_0 := (cell_far (p := ⟨gb234, 1, none⟩) (by first | (rw [add_block]; exact hn235_1) | (show (Addr.add _ _).block ≠ _; rw [add_block]; exact hn235_1) | exact hn235_1) (.int .i64 ((rd_T32 l1 x46_3).f1))).trans hx235_0; (try have hy235_0 := fun (n_ : Nat) => (show ((((w25.drewN n_).setCell ⟨gb234, 0, none⟩ (.int .i64 ((rd_T32 l1 x46_3).f0))).setCell ⟨gb234, 1, none⟩ (.int .i64 ((rd_T32 l1 x46_3).f1)))).cell? _ = some _ from hx235_0)); clear hn235_0; clear hn235_1; replace p235 := eq_true p235; replace q235 := eq_true q235)))
                            go_ret
                            exact ⟨by first | rfl | (simp [errW_none, errW_some] <;> rfl) | (simp [*, errW_none, errW_some] <;> rfl), by repeat (first | (with_reducible first | exact HB.out | apply below_alloc | apply pw_below_drewN | apply below_drew1 | refine below_set ?_ GE234.out) | exact HB.out)⟩
                          · rw [if_neg c24] at H
                            have c24b0 : decide ((rd t229 x46_3) < 0) = false := decide_eq_false c24
                            clear c24
                            by_cases c28 : (rd t229 x46_3) > ((rd_T32 l1 x46_3).f1)
                            · rw [if_pos c28] at H
                              have c28b0 : decide (((rd_T32 l1 x46_3).f1) < (rd t229 x46_3)) = true := decide_eq_true c28
                              clear c28
                              obtain rfl := Option.some.inj H
                              have p233 : 0 ≤ (x46_3 : Int) := of_decide_eq_true (by first | (with_reducible assumption) | assumption)
                              have q233 : x46_3 < (l1.length : Int) := of_decide_eq_true (by first | (with_reducible assumption) | assumption)
                              obtain ⟨ad233, e233, hx233_0, hx233_1⟩ := at_T32 HR1.out x46_3 p233 q233
                              cases e233
                              replace hx233_0 := (HB.out.cell (World.block_lt_of_cell? w _ hx233_0)).trans hx233_0
                              replace hx233_1 := (HB.out.cell (World.block_lt_of_cell? w _ hx233_1)).trans hx233_1
                              replace p233 := eq_true p233
                              replace q233 := eq_true q233
                              go_wp2_with (first | ((with_reducible refine gate_dst (N := 10) rfl ?_); (try (refine gate_guard (by rfl) ?_; dsimp only)); refine box_event ?hg (N := 10) ?hd (cs := #[.int .i64 0, .int .i64 0]) (t := 32) ?hr ?_; (case hd => rfl); (case hg => rfl); (case hr => first | (go_simp; done) | (go_simp; rfl)); intro gb234 hg w29 hbox hb; have n0_ := Aside0.mk (Kd.R_below (by (with_reducible repeat (first | apply Kd.R_alloc | apply Kd.R_drewN | apply Kd.R_drew)); exact HO_5.out) hb); have n1_ := Aside0.mk (below_step (by repeat (first | (with_reducible first | exact HB.out | apply below_alloc | apply pw_below_drewN | apply below_drew1) | exact HB.out)) hb); have n2_ := Aside0.mk (hbox); have n3_ := Aside0.mk ((by rw [hg]; exact (below_size (by repeat (first | (with_reducible first | exact HB.out | apply below_alloc | apply pw_below_drewN | apply below_drew1) | exact HB.out))) : w.heap.size ≤ gb234)); have n4_ := Aside0.mk ((by rw [hg]; exact (below_size (by repeat (first | (with_reducible first | exact HB.out | apply below_alloc | apply pw_below_drewN | apply below_drew1) | exact HB.out))) : w.heap.size ≤ gb234)); clear HO_5; clear HB; have HO_5 := n0_; have HB := n1_; have BK234 := n2_; have GW234 := n3_; have GE234 := n4_; clear n0_ n1_ n2_ n3_ n4_; clear hb hbox hg; have hcz30_0 : w29.cell? ⟨gb234, 0, none⟩ = some (.int .i64 0) := (blk_cell BK234.out 0).trans rfl; have hcz30_1 : w29.cell? ⟨gb234, 1, none⟩ = some (.int .i64 0) := (blk_cell BK234.out 1).trans rfl; have hfz30_0 := blk_frozen BK234.out 0; have hfz30_1 := blk_frozen BK234.out 1; obtain ⟨Ao31, co31, eo31⟩ := Kd.R_slice HO_5.out; subst eo31; have p235 : 0 ≤ (x46_3 : Int) := of_decide_eq_true (by first | (with_reducible assumption) | assumption); have q235 : x46_3 < (t229.length : Int) := of_decide_eq_true (by first | (with_reducible assumption) | assumption); obtain ⟨ad235, e235, hx235_0⟩ := Kd.at_int (Kd.R_reads' HO_5.out).2.2 x46_3 p235 q235; cases e235; have hn235_0 : ad235.block ≠ gb234 := Kd.own_blk (Kd.R_ne HO_5.out BK234.out (by decide)); have hn235_1 : ad235.block ≠ gb234 := Kd.own_blk (Kd.R_ne HO_5.out BK234.out (by decide)); replace hx235_0 := (cell_far (p := ⟨gb234, 0, none⟩) (by first | (rw [add_block]; exact hn235_0) | (show (Addr.add _ _).block ≠ _; rw [add_block]; exact hn235_0) | exact hn235_0) (.int .i64 ((rd_T32 l1 x46_3).f0))).trans hx235_0; replace hx235_0 := (cell_far (p := ⟨gb234, 1, none⟩) (by first | (rw [add_block]; exact hn235_1) | (show (Addr.add _ _).block ≠ _; rw [add_block]; exact hn235_1) | exact hn235_1) (.int .i64 ((rd_T32 l1 x46_3).f1))).trans hx235_0; (try have hy235_0 := fun (n_ : Nat) => (show ((((w29.drewN n_).setCell ⟨gb234, 0, none⟩ (.int .i64 ((rd_T32 l1 x46_3).f0))).setCell ⟨gb234, 1, none⟩ (.int .i64 ((rd_T32 l1 x46_3).f1)))).cell? _ = some _ from hx235_0)); clear hn235_0; clear hn235_1; replace p235 := eq_true p235; replace q235 := eq_true q235; have p236 : 0 ≤ (x46_3 : Int) := of_decide_eq_true (by first | (with_reducible assumption) | assumption); have q236 : x46_3 < (t229.length : Int) := of_decide_eq_true (by first | (with_reducible assumption) | assumption); obtain ⟨ad236, e236, hx236_0⟩ := Kd.at_int (Kd.R_reads' HO_5.out).2.2 x46_3 p236 q236; obtain rfl : ad235 = ad236 := (by injection e236); have hn236_0 : ad235.block ≠ gb234 := Kd.own_blk (Kd.R_ne HO_5.out BK234.out (by decide)); have hn236_1 : ad235.block ≠ gb234 := Kd.own_blk (Kd.R_ne HO_5.out BK234.out (by decide)); replace hx236_0 := (cell_far (p := ⟨gb234, 0, none⟩) (by first | (rw [add_block]; exact hn236_0) | (show (Addr.add _ _).block ≠ _; rw [add_block]; exact hn236_0) | exact hn236_0) (.int .i64 ((rd_T32 l1 x46_3).f0))).trans hx236_0; replace hx236_0 := (cell_far (p := ⟨gb234, 1, none⟩) (by first | (rw [add_block]; exact hn236_1) | (show (Addr.add _ _).block ≠ _; rw [add_block]; exact hn236_1) | exact hn236_1) (.int .i64 ((rd_T32 l1 x46_3).f1))).trans hx236_0; (try have hy236_0 := fun (n_ : Nat) => (show ((((w29.drewN n_).setCell ⟨gb234, 0, none⟩ (.int .i64 ((rd_T32 l1 x46_3).f0))).setCell ⟨gb234, 1, none⟩ (.int .i64 ((rd_T32 l1 x46_3).f1)))).cell? _ = some _ from hx236_0)); clear hn236_0; clear hn236_1; replace p236 := eq_true p236; replace q236 := eq_true q236))
                              repeat (go_quiet (first | ((with_reducible refine gate_dst (N := 10) rfl ?_); (try (refine gate_guard (by rfl) ?_; dsimp only)); refine box_event ?hg (N := 10) ?hd (cs := #[.int .i64 0, .int .i64 0]) (t := 32) ?hr ?_; (case hd => rfl); (case hg => rfl); (case hr => first | (go_simp; done) | (go_simp; rfl)); intro gb234 hg w29 hbox hb; have n0_ := Aside0.mk (Kd.R_below (by (with_reducible repeat (first | apply Kd.R_alloc | apply Kd.R_drewN | apply Kd.R_drew)); exact HO_5.out) hb); have n1_ := Aside0.mk (below_step (by repeat (first | (with_reducible first | exact HB.out | apply below_alloc | apply pw_below_drewN | apply below_drew1) | exact HB.out)) hb); have n2_ := Aside0.mk (hbox); have n3_ := Aside0.mk ((by rw [hg]; exact (below_size (by repeat (first | (with_reducible first | exact HB.out | apply below_alloc | apply pw_below_drewN | apply below_drew1) | exact HB.out))) : w.heap.size ≤ gb234)); have n4_ := Aside0.mk ((by rw [hg]; exact (below_size (by repeat (first | (with_reducible first | exact HB.out | apply below_alloc | apply pw_below_drewN | apply below_drew1) | exact HB.out))) : w.heap.size ≤ gb234)); clear HO_5; clear HB; have HO_5 := n0_; have HB := n1_; have BK234 := n2_; have GW234 := n3_; have GE234 := n4_; clear n0_ n1_ n2_ n3_ n4_; clear hb hbox hg; have hcz30_0 : w29.cell? ⟨gb234, 0, none⟩ = some (.int .i64 0) := (blk_cell BK234.out 0).trans rfl; have hcz30_1 : w29.cell? ⟨gb234, 1, none⟩ = some (.int .i64 0) := (blk_cell BK234.out 1).trans rfl; have hfz30_0 := blk_frozen BK234.out 0; have hfz30_1 := blk_frozen BK234.out 1; obtain ⟨Ao31, co31, eo31⟩ := Kd.R_slice HO_5.out; subst eo31; have p235 : 0 ≤ (x46_3 : Int) := of_decide_eq_true (by first | (with_reducible assumption) | assumption); have q235 : x46_3 < (t229.length : Int) := of_decide_eq_true (by first | (with_reducible assumption) | assumption); obtain ⟨ad235, e235, hx235_0⟩ := Kd.at_int (Kd.R_reads' HO_5.out).2.2 x46_3 p235 q235; cases e235; have hn235_0 : ad235.block ≠ gb234 := Kd.own_blk (Kd.R_ne HO_5.out BK234.out (by decide)); have hn235_1 : ad235.block ≠ gb234 := Kd.own_blk (Kd.R_ne HO_5.out BK234.out (by decide)); replace hx235_0 := (cell_far (p := ⟨gb234, 0, none⟩) (by first | (rw [add_block]; exact hn235_0) | (show (Addr.add _ _).block ≠ _; rw [add_block]; exact hn235_0) | exact hn235_0) (.int .i64 ((rd_T32 l1 x46_3).f0))).trans hx235_0; replace hx235_0 := (cell_far (p := ⟨gb234, 1, none⟩) (by first | (rw [add_block]; exact hn235_1) | (show (Addr.add _ _).block ≠ _; rw [add_block]; exact hn235_1) | exact hn235_1) (.int .i64 ((rd_T32 l1 x46_3).f1))).trans hx235_0; (try have hy235_0 := fun (n_ : Nat) => (show ((((w29.drewN n_).setCell ⟨gb234, 0, none⟩ (.int .i64 ((rd_T32 l1 x46_3).f0))).setCell ⟨gb234, 1, none⟩ (.int .i64 ((rd_T32 l1 x46_3).f1)))).cell? _ = some _ from hx235_0)); clear hn235_0; clear hn235_1; replace p235 := eq_true p235; replace q235 := eq_true q235; have p236 : 0 ≤ (x46_3 : Int) := of_decide_eq_true (by first | (with_reducible assumption) | assumption); have q236 : x46_3 < (t229.length : Int) := of_decide_eq_true (by first | (with_reducible assumption) | assumption); obtain ⟨ad236, e236, hx236_0⟩ := Kd.at_int (Kd.R_reads' HO_5.out).2.2 x46_3 p236 q236; obtain rfl : ad235 = ad236 := (by injection e236); have hn236_0 : ad235.block ≠ gb234 := Kd.own_blk (Kd.R_ne HO_5.out BK234.out (by decide)); have hn236_1 : ad235.block ≠ gb234 := Kd.own_blk (Kd.R_ne HO_5.out BK234.out (by decide)); replace hx236_0 := (cell_far (p := ⟨gb234, 0, none⟩) (by first | (rw [add_block]; exact hn236_0) | (show (Addr.add _ _).block ≠ _; rw [add_block]; exact hn236_0) | exact hn236_0) (.int .i64 ((rd_T32 l1 x46_3).f0))).trans hx236_0; replace hx236_0 := (cell_far (p := ⟨gb234, 1, none⟩) (by first | (rw [add_block]; exact hn236_1) | (show (Addr.add _ _).block ≠ _; rw [add_block]; exact hn236_1) | exact hn236_1) (.int .i64 ((rd_T32 l1 x46_3).f1))).trans hx236_0; (try have hy236_0 := fun (n_ : Nat) => (show ((((w29.drewN n_).setCell ⟨gb234, 0, none⟩ (.int .i64 ((rd_T32 l1 x46_3).f0))).setCell ⟨gb234, 1, none⟩ (.int .i64 ((rd_T32 l1 x46_3).f1)))).cell? _ = some _ from hx236_0)); clear hn236_0; clear hn236_1; replace p236 := eq_true p236; replace q236 := eq_true q236)); try go_wp2_with (first | ((with_reducible refine gate_dst (N := 10) rfl ?_); (try (refine gate_guard (by rfl) ?_; dsimp only)); refine box_event ?hg (N := 10) ?hd (cs := #[.int .i64 0, .int .i64 0]) (t := 32) ?hr ?_; (case hd => rfl); (case hg => rfl); (case hr => first | (go_simp; done) | (go_simp; rfl)); intro gb234 hg w29 hbox hb; have n0_ := Aside0.mk (Kd.R_below (by (with_reducible repeat (first | apply Kd.R_alloc | apply Kd.R_drewN | apply Kd.R_drew)); exact HO_5.out) hb); have n1_ := Aside0.mk (below_step (by repeat (first | (with_reducible first | exact HB.out | apply below_alloc | apply pw_below_drewN | apply below_drew1) | exact HB.out)) hb); have n2_ := Aside0.mk (hbox); have n3_ := Aside0.mk ((by rw [hg]; exact (below_size (by repeat (first | (with_reducible first | exact HB.out | apply below_alloc | apply pw_below_drewN | apply below_drew1) | exact HB.out))) : w.heap.size ≤ gb234)); have n4_ := Aside0.mk ((by rw [hg]; exact (below_size (by repeat (first | (with_reducible first | exact HB.out | apply below_alloc | apply pw_below_drewN | apply below_drew1) | exact HB.out))) : w.heap.size ≤ gb234)); clear HO_5; clear HB; have HO_5 := n0_; have HB := n1_; have BK234 := n2_; have GW234 := n3_; have GE234 := n4_; clear n0_ n1_ n2_ n3_ n4_; clear hb hbox hg; have hcz30_0 : w29.cell? ⟨gb234, 0, none⟩ = some (.int .i64 0) := (blk_cell BK234.out 0).trans rfl; have hcz30_1 : w29.cell? ⟨gb234, 1, none⟩ = some (.int .i64 0) := (blk_cell BK234.out 1).trans rfl; have hfz30_0 := blk_frozen BK234.out 0; have hfz30_1 := blk_frozen BK234.out 1; obtain ⟨Ao31, co31, eo31⟩ := Kd.R_slice HO_5.out; subst eo31; have p235 : 0 ≤ (x46_3 : Int) := of_decide_eq_true (by first | (with_reducible assumption) | assumption); have q235 : x46_3 < (t229.length : Int) := of_decide_eq_true (by first | (with_reducible assumption) | assumption); obtain ⟨ad235, e235, hx235_0⟩ := Kd.at_int (Kd.R_reads' HO_5.out).2.2 x46_3 p235 q235; cases e235; have hn235_0 : ad235.block ≠ gb234 := Kd.own_blk (Kd.R_ne HO_5.out BK234.out (by decide)); have hn235_1 : ad235.block ≠ gb234 := Kd.own_blk (Kd.R_ne HO_5.out BK234.out (by decide)); replace hx235_0 := (cell_far (p := ⟨gb234, 0, none⟩) (by first | (rw [add_block]; exact hn235_0) | (show (Addr.add _ _).block ≠ _; rw [add_block]; exact hn235_0) | exact hn235_0) (.int .i64 ((rd_T32 l1 x46_3).f0))).trans hx235_0; replace hx235_0 := (cell_far (p := ⟨gb234, 1, none⟩) (by first | (rw [add_block]; exact hn235_1) | (show (Addr.add _ _).block ≠ _; rw [add_block]; exact hn235_1) | exact hn235_1) (.int .i64 ((rd_T32 l1 x46_3).f1))).trans hx235_0; (try have hy235_0 := fun (n_ : Nat) => (show ((((w29.drewN n_).setCell ⟨gb234, 0, none⟩ (.int .i64 ((rd_T32 l1 x46_3).f0))).setCell ⟨gb234, 1, none⟩ (.int .i64 ((rd_T32 l1 x46_3).f1)))).cell? _ = some _ from hx235_0)); clear hn235_0; clear hn235_1; replace p235 := eq_true p235; replace q235 := eq_true q235; have p236 : 0 ≤ (x46_3 : Int) := of_decide_eq_true (by first | (with_reducible assumption) | assumption); have q236 : x46_3 < (t229.length : Int) := of_decide_eq_true (by first | (with_reducible assumption) | assumption); obtain ⟨ad236, e236, hx236_0⟩ := Kd.at_int (Kd.R_reads' HO_5.out).2.2 x46_3 p236 q236; obtain rfl : ad235 = ad236 := (by injection e236); have hn236_0 : ad235.block ≠ gb234 := Kd.own_blk (Kd.R_ne HO_5.out BK234.out (by decide)); have hn236_1 : ad235.block ≠ gb234 := Kd.own_blk (Kd.R_ne HO_5.out BK234.out (by decide)); replace hx236_0 := (cell_far (p := ⟨gb234, 0, none⟩) (by first | (rw [add_block]; exact hn236_0) | (show (Addr.add _ _).block ≠ _; rw [add_block]; exact hn236_0) | exact hn236_0) (.int .i64 ((rd_T32 l1 x46_3).f0))).trans hx236_0; replace hx236_0 := (cell_far (p := ⟨gb234, 1, none⟩) (by first | (rw [add_block]; exact hn236_1) | (show (Addr.add _ _).block ≠ _; rw [add_block]; exact hn236_1) | exact hn236_1) (.int .i64 ((rd_T32 l1 x46_3).f1))).trans hx236_0; (try have hy236_0 := fun (n_ : Nat) => (show ((((w29.drewN n_).setCell ⟨gb234, 0, none⟩ (.int .i64 ((rd_T32 l1 x46_3).f0))).setCell ⟨gb234, 1, none⟩ (.int .i64 ((rd_T32 l1 x46_3).f1)))).cell? _ = some _ from hx236_0)); clear hn236_0; clear hn236_1; replace p236 := eq_true p236; replace q236 := eq_true q236)))
                              go_ret
                              exact ⟨by first | rfl | (simp [errW_none, errW_some] <;> rfl) | (simp [*, errW_none, errW_some] <;> rfl), by repeat (first | (with_reducible first | exact HB.out | apply below_alloc | apply pw_below_drewN | apply below_drew1 | refine below_set ?_ GE234.out) | exact HB.out)⟩
                            · rw [if_neg c28] at H
                              have c28b0 : decide (((rd_T32 l1 x46_3).f1) < (rd t229 x46_3)) = false := decide_eq_false c28
                              clear c28
                              have H' := Aside0.mk H
                              clear H
                              have p233 : 0 ≤ (x46_3 : Int) := of_decide_eq_true (by first | (with_reducible assumption) | assumption)
                              have q233 : x46_3 < (l1.length : Int) := of_decide_eq_true (by first | (with_reducible assumption) | assumption)
                              obtain ⟨ad233, e233, hx233_0, hx233_1⟩ := at_T32 HR1.out x46_3 p233 q233
                              cases e233
                              replace hx233_0 := (HB.out.cell (World.block_lt_of_cell? w _ hx233_0)).trans hx233_0
                              replace hx233_1 := (HB.out.cell (World.block_lt_of_cell? w _ hx233_1)).trans hx233_1
                              replace p233 := eq_true p233
                              replace q233 := eq_true q233
                              go_wp2_with (first | ((with_reducible refine gate_dst (N := 10) rfl ?_); (try (refine gate_guard (by rfl) ?_; dsimp only)); refine box_event ?hg (N := 10) ?hd (cs := #[.int .i64 0, .int .i64 0]) (t := 32) ?hr ?_; (case hd => rfl); (case hg => rfl); (case hr => first | (go_simp; done) | (go_simp; rfl)); intro gb234 hg w32 hbox hb; have n0_ := Aside0.mk (Kd.R_below (by (with_reducible repeat (first | apply Kd.R_alloc | apply Kd.R_drewN | apply Kd.R_drew)); exact HO_5.out) hb); have n1_ := Aside0.mk (below_step (by repeat (first | (with_reducible first | exact HB.out | apply below_alloc | apply pw_below_drewN | apply below_drew1) | exact HB.out)) hb); have n2_ := Aside0.mk (hbox); have n3_ := Aside0.mk ((by rw [hg]; exact (below_size (by repeat (first | (with_reducible first | exact HB.out | apply below_alloc | apply pw_below_drewN | apply below_drew1) | exact HB.out))) : w.heap.size ≤ gb234)); have n4_ := Aside0.mk ((by rw [hg]; exact (below_size (by repeat (first | (with_reducible first | exact HB.out | apply below_alloc | apply pw_below_drewN | apply below_drew1) | exact HB.out))) : w.heap.size ≤ gb234)); clear HO_5; clear HB; have HO_5 := n0_; have HB := n1_; have BK234 := n2_; have GW234 := n3_; have GE234 := n4_; clear n0_ n1_ n2_ n3_ n4_; clear hb hbox hg; have hcz33_0 : w32.cell? ⟨gb234, 0, none⟩ = some (.int .i64 0) := (blk_cell BK234.out 0).trans rfl; have hcz33_1 : w32.cell? ⟨gb234, 1, none⟩ = some (.int .i64 0) := (blk_cell BK234.out 1).trans rfl; have hfz33_0 := blk_frozen BK234.out 0; have hfz33_1 := blk_frozen BK234.out 1; obtain ⟨Ao34, co34, eo34⟩ := Kd.R_slice HO_5.out; subst eo34; have p235 : 0 ≤ (x46_3 : Int) := of_decide_eq_true (by first | (with_reducible assumption) | assumption); have q235 : x46_3 < (t229.length : Int) := of_decide_eq_true (by first | (with_reducible assumption) | assumption); obtain ⟨ad235, e235, hx235_0⟩ := Kd.at_int (Kd.R_reads' HO_5.out).2.2 x46_3 p235 q235; cases e235; have hn235_0 : ad235.block ≠ gb234 := Kd.own_blk (Kd.R_ne HO_5.out BK234.out (by decide)); have hn235_1 : ad235.block ≠ gb234 := Kd.own_blk (Kd.R_ne HO_5.out BK234.out (by decide)); replace hx235_0 := (cell_far (p := ⟨gb234, 0, none⟩) (by first | (rw [add_block]; exact hn235_0) | (show (Addr.add _ _).block ≠ _; rw [add_block]; exact hn235_0) | exact hn235_0) (.int .i64 ((rd_T32 l1 x46_3).f0))).trans hx235_0; replace hx235_0 := (cell_far (p := ⟨gb234, 1, none⟩) (by first | (rw [add_block]; exact hn235_1) | (show (Addr.add _ _).block ≠ _; rw [add_block]; exact hn235_1) | exact hn235_1) (.int .i64 ((rd_T32 l1 x46_3).f1))).trans hx235_0; (try have hy235_0 := fun (n_ : Nat) => (show ((((w32.drewN n_).setCell ⟨gb234, 0, none⟩ (.int .i64 ((rd_T32 l1 x46_3).f0))).setCell ⟨gb234, 1, none⟩ (.int .i64 ((rd_T32 l1 x46_3).f1)))).cell? _ = some _ from hx235_0)); clear hn235_0; clear hn235_1; replace p235 := eq_true p235; replace q235 := eq_true q235; have p236 : 0 ≤ (x46_3 : Int) := of_decide_eq_true (by first | (with_reducible assumption) | assumption); have q236 : x46_3 < (t229.length : Int) := of_decide_eq_true (by first | (with_reducible assumption) | assumption); obtain ⟨ad236, e236, hx236_0⟩ := Kd.at_int (Kd.R_reads' HO_5.out).2.2 x46_3 p236 q236; obtain rfl : ad235 = ad236 := (by injection e236); have hn236_0 : ad235.block ≠ gb234 := Kd.own_blk (Kd.R_ne HO_5.out BK234.out (by decide)); have hn236_1 : ad235.block ≠ gb234 := Kd.own_blk (Kd.R_ne HO_5.out BK234.out (by decide)); replace hx236_0 := (cell_far (p := ⟨gb234, 0, none⟩) (by first | (rw [add_block]; exact hn236_0) | (show (Addr.add _ _).block ≠ _; rw [add_block]; exact hn236_0) | exact hn236_0) (.int .i64 ((rd_T32 l1 x46_3).f0))).trans hx236_0; replace hx236_0 := (cell_far (p := ⟨gb234, 1, none⟩) (by first | (rw [add_block]; exact hn236_1) | (show (Addr.add _ _).block ≠ _; rw [add_block]; exact hn236_1) | exact hn236_1) (.int .i64 ((rd_T32 l1 x46_3).f1))).trans hx236_0; (try have hy236_0 := fun (n_ : Nat) => (show ((((w32.drewN n_).setCell ⟨gb234, 0, none⟩ (.int .i64 ((rd_T32 l1 x46_3).f0))).setCell ⟨gb234, 1, none⟩ (.int .i64 ((rd_T32 l1 x46_3).f1)))).cell? _ = some _ from hx236_0)); clear hn236_0; clear hn236_1; replace p236 := eq_true p236; replace q236 := eq_true q236; have p237 : 0 ≤ (x46_3 : Int) := of_decide_eq_true (by first | (with_reducible assumption) | assumption); have q237 : x46_3 < (t229.length : Int) := of_decide_eq_true (by first | (with_reducible assumption) | assumption); obtain ⟨ad237, e237, hx237_0⟩ := Kd.at_int (Kd.R_reads' HO_5.out).2.2 x46_3 p237 q237; obtain rfl : ad235 = ad237 := (by injection e237); have hn237_0 : ad235.block ≠ gb234 := Kd.own_blk (Kd.R_ne HO_5.out BK234.out (by decide)); have hn237_1 : ad235.block ≠ gb234 := Kd.own_blk (Kd.R_ne HO_5.out BK234.out (by decide)); replace hx237_0 := (cell_far (p := ⟨gb234, 0, none⟩) (by first | (rw [add_block]; exact hn237_0) | (show (Addr.add _ _).block ≠ _; rw [add_block]; exact hn237_0) | exact hn237_0) (.int .i64 ((rd_T32 l1 x46_3).f0))).trans hx237_0; replace hx237_0 := (cell_far (p := ⟨gb234, 1, none⟩) (by first | (rw [add_block]; exact hn237_1) | (show (Addr.add _ _).block ≠ _; rw [add_block]; exact hn237_1) | exact hn237_1) (.int .i64 ((rd_T32 l1 x46_3).f1))).trans hx237_0; (try have hy237_0 := fun (n_ : Nat) => (show ((((w32.drewN n_).setCell ⟨gb234, 0, none⟩ (.int .i64 ((rd_T32 l1 x46_3).f0))).setCell ⟨gb234, 1, none⟩ (.int .i64 ((rd_T32 l1 x46_3).f1)))).cell? _ = some _ from hx237_0)); clear hn237_0; clear hn237_1; replace p237 := eq_true p237; replace q237 := eq_true q237))
                              repeat (go_quiet (first | ((with_reducible refine gate_dst (N := 10) rfl ?_); (try (refine gate_guard (by rfl) ?_; dsimp only)); refine box_event ?hg (N := 10) ?hd (cs := #[.int .i64 0, .int .i64 0]) (t := 32) ?hr ?_; (case hd => rfl); (case hg => rfl); (case hr => first | (go_simp; done) | (go_simp; rfl)); intro gb234 hg w32 hbox hb; have n0_ := Aside0.mk (Kd.R_below (by (with_reducible repeat (first | apply Kd.R_alloc | apply Kd.R_drewN | apply Kd.R_drew)); exact HO_5.out) hb); have n1_ := Aside0.mk (below_step (by repeat (first | (with_reducible first | exact HB.out | apply below_alloc | apply pw_below_drewN | apply below_drew1) | exact HB.out)) hb); have n2_ := Aside0.mk (hbox); have n3_ := Aside0.mk ((by rw [hg]; exact (below_size (by repeat (first | (with_reducible first | exact HB.out | apply below_alloc | apply pw_below_drewN | apply below_drew1) | exact HB.out))) : w.heap.size ≤ gb234)); have n4_ := Aside0.mk ((by rw [hg]; exact (below_size (by repeat (first | (with_reducible first | exact HB.out | apply below_alloc | apply pw_below_drewN | apply below_drew1) | exact HB.out))) : w.heap.size ≤ gb234)); clear HO_5; clear HB; have HO_5 := n0_; have HB := n1_; have BK234 := n2_; have GW234 := n3_; have GE234 := n4_; clear n0_ n1_ n2_ n3_ n4_; clear hb hbox hg; have hcz33_0 : w32.cell? ⟨gb234, 0, none⟩ = some (.int .i64 0) := (blk_cell BK234.out 0).trans rfl; have hcz33_1 : w32.cell? ⟨gb234, 1, none⟩ = some (.int .i64 0) := (blk_cell BK234.out 1).trans rfl; have hfz33_0 := blk_frozen BK234.out 0; have hfz33_1 := blk_frozen BK234.out 1; obtain ⟨Ao34, co34, eo34⟩ := Kd.R_slice HO_5.out; subst eo34; have p235 : 0 ≤ (x46_3 : Int) := of_decide_eq_true (by first | (with_reducible assumption) | assumption); have q235 : x46_3 < (t229.length : Int) := of_decide_eq_true (by first | (with_reducible assumption) | assumption); obtain ⟨ad235, e235, hx235_0⟩ := Kd.at_int (Kd.R_reads' HO_5.out).2.2 x46_3 p235 q235; cases e235; have hn235_0 : ad235.block ≠ gb234 := Kd.own_blk (Kd.R_ne HO_5.out BK234.out (by decide)); have hn235_1 : ad235.block ≠ gb234 := Kd.own_blk (Kd.R_ne HO_5.out BK234.out (by decide)); replace hx235_0 := (cell_far (p := ⟨gb234, 0, none⟩) (by first | (rw [add_block]; exact hn235_0) | (show (Addr.add _ _).block ≠ _; rw [add_block]; exact hn235_0) | exact hn235_0) (.int .i64 ((rd_T32 l1 x46_3).f0))).trans hx235_0; replace hx235_0 := (cell_far (p := ⟨gb234, 1, none⟩) (by first | (rw [add_block]; exact hn235_1) | (show (Addr.add _ _).block ≠ _; rw [add_block]; exact hn235_1) | exact hn235_1) (.int .i64 ((rd_T32 l1 x46_3).f1))).trans hx235_0; (try have hy235_0 := fun (n_ : Nat) => (show ((((w32.drewN n_).setCell ⟨gb234, 0, none⟩ (.int .i64 ((rd_T32 l1 x46_3).f0))).setCell ⟨gb234, 1, none⟩ (.int .i64 ((rd_T32 l1 x46_3).f1)))).cell? _ = some _ from hx235_0)); clear hn235_0; clear hn235_1; replace p235 := eq_true p235; replace q235 := eq_true q235; have p236 : 0 ≤ (x46_3 : Int) := of_decide_eq_true (by first | (with_reducible assumption) | assumption); have q236 : x46_3 < (t229.length : Int) := of_decide_eq_true (by first | (with_reducible assumption) | assumption); obtain ⟨ad236, e236, hx236_0⟩ := Kd.at_int (Kd.R_reads' HO_5.out).2.2 x46_3 p236 q236; obtain rfl : ad235 = ad236 := (by injection e236); have hn236_0 : ad235.block ≠ gb234 := Kd.own_blk (Kd.R_ne HO_5.out BK234.out (by decide)); have hn236_1 : ad235.block ≠ gb234 := Kd.own_blk (Kd.R_ne HO_5.out BK234.out (by decide)); replace hx236_0 := (cell_far (p := ⟨gb234, 0, none⟩) (by first | (rw [add_block]; exact hn236_0) | (show (Addr.add _ _).block ≠ _; rw [add_block]; exact hn236_0) | exact hn236_0) (.int .i64 ((rd_T32 l1 x46_3).f0))).trans hx236_0; replace hx236_0 := (cell_far (p := ⟨gb234, 1, none⟩) (by first | (rw [add_block]; exact hn236_1) | (show (Addr.add _ _).block ≠ _; rw [add_block]; exact hn236_1) | exact hn236_1) (.int .i64 ((rd_T32 l1 x46_3).f1))).trans hx236_0; (try have hy236_0 := fun (n_ : Nat) => (show ((((w32.drewN n_).setCell ⟨gb234, 0, none⟩ (.int .i64 ((rd_T32 l1 x46_3).f0))).setCell ⟨gb234, 1, none⟩ (.int .i64 ((rd_T32 l1 x46_3).f1)))).cell? _ = some _ from hx236_0)); clear hn236_0; clear hn236_1; replace p236 := eq_true p236; replace q236 := eq_true q236; have p237 : 0 ≤ (x46_3 : Int) := of_decide_eq_true (by first | (with_reducible assumption) | assumption); have q237 : x46_3 < (t229.length : Int) := of_decide_eq_true (by first | (with_reducible assumption) | assumption); obtain ⟨ad237, e237, hx237_0⟩ := Kd.at_int (Kd.R_reads' HO_5.out).2.2 x46_3 p237 q237; obtain rfl : ad235 = ad237 := (by injection e237); have hn237_0 : ad235.block ≠ gb234 := Kd.own_blk (Kd.R_ne HO_5.out BK234.out (by decide)); have hn237_1 : ad235.block ≠ gb234 := Kd.own_blk (Kd.R_ne HO_5.out BK234.out (by decide)); replace hx237_0 := (cell_far (p := ⟨gb234, 0, none⟩) (by first | (rw [add_block]; exact hn237_0) | (show (Addr.add _ _).block ≠ _; rw [add_block]; exact hn237_0) | exact hn237_0) (.int .i64 ((rd_T32 l1 x46_3).f0))).trans hx237_0; replace hx237_0 := (cell_far (p := ⟨gb234, 1, none⟩) (by first | (rw [add_block]; exact hn237_1) | (show (Addr.add _ _).block ≠ _; rw [add_block]; exact hn237_1) | exact hn237_1) (.int .i64 ((rd_T32 l1 x46_3).f1))).trans hx237_0; (try have hy237_0 := fun (n_ : Nat) => (show ((((w32.drewN n_).setCell ⟨gb234, 0, none⟩ (.int .i64 ((rd_T32 l1 x46_3).f0))).setCell ⟨gb234, 1, none⟩ (.int .i64 ((rd_T32 l1 x46_3).f1)))).cell? _ = some _ from hx237_0)); clear hn237_0; clear hn237_1; replace p237 := eq_true p237; replace q237 := eq_true q237)); try go_wp2_with (first | ((with_reducible refine gate_dst (N := 10) rfl ?_); (try (refine gate_guard (by rfl) ?_; dsimp only)); refine box_event ?hg (N := 10) ?hd (cs := #[.int .i64 0, .int .i64 0]) (t := 32) ?hr ?_; (case hd => rfl); (case hg => rfl); (case hr => first | (go_simp; done) | (go_simp; rfl)); intro gb234 hg w32 hbox hb; have n0_ := Aside0.mk (Kd.R_below (by (with_reducible repeat (first | apply Kd.R_alloc | apply Kd.R_drewN | apply Kd.R_drew)); exact HO_5.out) hb); have n1_ := Aside0.mk (below_step (by repeat (first | (with_reducible first | exact HB.out | apply below_alloc | apply pw_below_drewN | apply below_drew1) | exact HB.out)) hb); have n2_ := Aside0.mk (hbox); have n3_ := Aside0.mk ((by rw [hg]; exact (below_size (by repeat (first | (with_reducible first | exact HB.out | apply below_alloc | apply pw_below_drewN | apply below_drew1) | exact HB.out))) : w.heap.size ≤ gb234)); have n4_ := Aside0.mk ((by rw [hg]; exact (below_size (by repeat (first | (with_reducible first | exact HB.out | apply below_alloc | apply pw_below_drewN | apply below_drew1) | exact HB.out))) : w.heap.size ≤ gb234)); clear HO_5; clear HB; have HO_5 := n0_; have HB := n1_; have BK234 := n2_; have GW234 := n3_; have GE234 := n4_; clear n0_ n1_ n2_ n3_ n4_; clear hb hbox hg; have hcz33_0 : w32.cell? ⟨gb234, 0, none⟩ = some (.int .i64 0) := (blk_cell BK234.out 0).trans rfl; have hcz33_1 : w32.cell? ⟨gb234, 1, none⟩ = some (.int .i64 0) := (blk_cell BK234.out 1).trans rfl; have hfz33_0 := blk_frozen BK234.out 0; have hfz33_1 := blk_frozen BK234.out 1; obtain ⟨Ao34, co34, eo34⟩ := Kd.R_slice HO_5.out; subst eo34; have p235 : 0 ≤ (x46_3 : Int) := of_decide_eq_true (by first | (with_reducible assumption) | assumption); have q235 : x46_3 < (t229.length : Int) := of_decide_eq_true (by first | (with_reducible assumption) | assumption); obtain ⟨ad235, e235, hx235_0⟩ := Kd.at_int (Kd.R_reads' HO_5.out).2.2 x46_3 p235 q235; cases e235; have hn235_0 : ad235.block ≠ gb234 := Kd.own_blk (Kd.R_ne HO_5.out BK234.out (by decide)); have hn235_1 : ad235.block ≠ gb234 := Kd.own_blk (Kd.R_ne HO_5.out BK234.out (by decide)); replace hx235_0 := (cell_far (p := ⟨gb234, 0, none⟩) (by first | (rw [add_block]; exact hn235_0) | (show (Addr.add _ _).block ≠ _; rw [add_block]; exact hn235_0) | exact hn235_0) (.int .i64 ((rd_T32 l1 x46_3).f0))).trans hx235_0; replace hx235_0 := (cell_far (p := ⟨gb234, 1, none⟩) (by first | (rw [add_block]; exact hn235_1) | (show (Addr.add _ _).block ≠ _; rw [add_block]; exact hn235_1) | exact hn235_1) (.int .i64 ((rd_T32 l1 x46_3).f1))).trans hx235_0; (try have hy235_0 := fun (n_ : Nat) => (show ((((w32.drewN n_).setCell ⟨gb234, 0, none⟩ (.int .i64 ((rd_T32 l1 x46_3).f0))).setCell ⟨gb234, 1, none⟩ (.int .i64 ((rd_T32 l1 x46_3).f1)))).cell? _ = some _ from hx235_0)); clear hn235_0; clear hn235_1; replace p235 := eq_true p235; replace q235 := eq_true q235; have p236 : 0 ≤ (x46_3 : Int) := of_decide_eq_true (by first | (with_reducible assumption) | assumption); have q236 : x46_3 < (t229.length : Int) := of_decide_eq_true (by first | (with_reducible assumption) | assumption); obtain ⟨ad236, e236, hx236_0⟩ := Kd.at_int (Kd.R_reads' HO_5.out).2.2 x46_3 p236 q236; obtain rfl : ad235 = ad236 := (by injection e236); have hn236_0 : ad235.block ≠ gb234 := Kd.own_blk (Kd.R_ne HO_5.out BK234.out (by decide)); have hn236_1 : ad235.block ≠ gb234 := Kd.own_blk (Kd.R_ne HO_5.out BK234.out (by decide)); replace hx236_0 := (cell_far (p := ⟨gb234, 0, none⟩) (by first | (rw [add_block]; exact hn236_0) | (show (Addr.add _ _).block ≠ _; rw [add_block]; exact hn236_0) | exact hn236_0) (.int .i64 ((rd_T32 l1 x46_3).f0))).trans hx236_0; replace hx236_0 := (cell_far (p := ⟨gb234, 1, none⟩) (by first | (rw [add_block]; exact hn236_1) | (show (Addr.add _ _).block ≠ _; rw [add_block]; exact hn236_1) | exact hn236_1) (.int .i64 ((rd_T32 l1 x46_3).f1))).trans hx236_0; (try have hy236_0 := fun (n_ : Nat) => (show ((((w32.drewN n_).setCell ⟨gb234, 0, none⟩ (.int .i64 ((rd_T32 l1 x46_3).f0))).setCell ⟨gb234, 1, none⟩ (.int .i64 ((rd_T32 l1 x46_3).f1)))).cell? _ = some _ from hx236_0)); clear hn236_0; clear hn236_1; replace p236 := eq_true p236; replace q236 := eq_true q236; have p237 : 0 ≤ (x46_3 : Int) := of_decide_eq_true (by first | (with_reducible assumption) | assumption); have q237 : x46_3 < (t229.length : Int) := of_decide_eq_true (by first | (with_reducible assumption) | assumption); obtain ⟨ad237, e237, hx237_0⟩ := Kd.at_int (Kd.R_reads' HO_5.out).2.2 x46_3 p237 q237; obtain rfl : ad235 = ad237 := (by injection e237); have hn237_0 : ad235.block ≠ gb234 := Kd.own_blk (Kd.R_ne HO_5.out BK234.out (by decide)); have hn237_1 : ad235.block ≠ gb234 := Kd.own_blk (Kd.R_ne HO_5.out BK234.out (by decide)); replace hx237_0 := (cell_far (p := ⟨gb234, 0, none⟩) (by first | (rw [add_block]; exact hn237_0) | (show (Addr.add _ _).block ≠ _; rw [add_block]; exact hn237_0) | exact hn237_0) (.int .i64 ((rd_T32 l1 x46_3).f0))).trans hx237_0; replace hx237_0 := (cell_far (p := ⟨gb234, 1, none⟩) (by first | (rw [add_block]; exact hn237_1) | (show (Addr.add _ _).block ≠ _; rw [add_block]; exact hn237_1) | exact hn237_1) (.int .i64 ((rd_T32 l1 x46_3).f1))).trans hx237_0; (try have hy237_0 := fun (n_ : Nat) => (show ((((w32.drewN n_).setCell ⟨gb234, 0, none⟩ (.int .i64 ((rd_T32 l1 x46_3).f0))).setCell ⟨gb234, 1, none⟩ (.int .i64 ((rd_T32 l1 x46_3).f1)))).cell? _ = some _ from hx237_0)); clear hn237_0; clear hn237_1; replace p237 := eq_true p237; replace q237 := eq_true q237)))
                              go_roundg k3
                              case measure => have := HJ2.out; have := HJ11.out; have := HK3.out; omega
                              case rel => exact ⟨(wrap64 (x6_3 + (rd t229 x46_3))), (wrap64 (x7_3 + ((rd_T32 l1 x46_3).f1))), (wrap64 (x8_3 + ((rd_T32 l1 x46_3).f0))), (wrap64 (x46_3 + 1)), (by first | rfl | (simp; done) | (simp [*]; done)), (by first | rfl | (simp; done) | (simp [*]; done)), (by first | rfl | (simp; done) | (simp [*]; done)), (by first | rfl | (simp; done) | (simp [*]; done)), H', ⟨by have := HJ2.out; have := HJ11.out; have := HK3.out; omega⟩, ⟨by (with_reducible repeat (first | apply Kd.R_alloc | apply Kd.R_drewN | apply Kd.R_drew)); exact Kd.R_mono (Kd.R_far (p := ⟨gb234, 1, none⟩) (Kd.R_far (p := ⟨gb234, 0, none⟩) (Kd.R_types HO_5.out BK234.out (by decide)) (fun _ hk => hk.2) (.int .i64 ((rd_T32 l1 x46_3).f0))) (fun _ hk => hk.2) (.int .i64 ((rd_T32 l1 x46_3).f1))) (fun _ hk => trivial)⟩, ⟨by repeat (first | (with_reducible first | exact HB.out | apply below_alloc | apply pw_below_drewN | apply below_drew1 | refine below_set ?_ GE234.out) | exact HB.out)⟩⟩
                        · rw [if_neg c23] at H
                          exact absurd H (by simp)
                      · rw [if_neg c22] at H
                        exact absurd H (by simp)
                    · rw [if_neg c21] at H
                      exact absurd H (by simp)
                  · rw [if_neg c20] at H
                    have c20b0 : decide (x46_3 < (l1.length : Int)) = false := decide_eq_false c20
                    clear c20
                    have H' := Aside0.mk H
                    clear H
                    go_wp2
                    repeat (go_quiet (fail); try go_wp2)
                    go_loopg [82] k3 (fun kq v82 w' => ∃ (x82_4 : Int), v82 = .int .i64 x82_4 ∧ Aside0 (weirgatelaw16_QuotaIsFair.l1 kq a0 l1 t229 x6_3 x7_3 x8_3 l1 (l1.length : Int) x82_4 = some r) ∧ Aside0 (kq ≤ k3) ∧ Aside0 (Kd.R (Kd.int .i64) 3 w' w.heap.size (fun _ => True) v230 t229) ∧ Aside0 (Below w.heap.size w w'))
                    case atStart => exact ⟨(0), (by first | rfl | (simp; done) | (simp [*]; done)), H', ⟨Nat.le_refl _⟩, ⟨by (with_reducible repeat (first | apply Kd.R_alloc | apply Kd.R_drewN | apply Kd.R_drew)); exact HO_5.out⟩, ⟨by repeat (first | (with_reducible first | exact HB.out | apply below_alloc | apply pw_below_drewN | apply below_drew1) | exact HB.out)⟩⟩
                    case round =>
                      clear H'
                      try clear c1
                      try clear c2
                      try clear p2
                      try clear q2
                      try clear hx2
                      try clear c4
                      try clear c4b0
                      try clear c4b1
                      try clear c6
                      try clear p6
                      try clear c8
                      try clear c14
                      try clear c14b0
                      try clear c14b1
                      try clear c14b2
                      try clear c19
                      try clear c20
                      try clear c20b0
                      try clear c21
                      try clear c21b0
                      try clear c22
                      try clear c22b0
                      try clear c23
                      try clear c23b0
                      try clear p23
                      try clear q23
                      try clear hx23
                      try clear c24
                      try clear c24b0
                      try clear c28
                      try clear c28b0
                      try clear hcz26_0
                      try clear hcz26_1
                      try clear hcz30_0
                      try clear hcz30_1
                      try clear hcz33_0
                      try clear hcz33_1
                      try clear hfz26_0
                      try clear hfz26_1
                      try clear hfz30_0
                      try clear hfz30_1
                      try clear hfz33_0
                      try clear hfz33_1
                      try clear hx233_0
                      try clear hx233_1
                      try clear hx235_0
                      try clear hx236_0
                      try clear hx237_0
                      try clear p2
                      try clear p233
                      try clear p235
                      try clear p236
                      try clear p237
                      try clear q233
                      try clear q235
                      try clear q236
                      try clear q237
                      obtain ⟨x82_4, rfl, HA, HK4, HO_5, HB⟩ := hrel
                      cases gk with
                      | zero => exact absurd HA.out (by simp [weirgatelaw16_QuotaIsFair.l1])
                      | succ k4 =>
                        have H := HA.out
                        clear HA
                        simp only [weirgatelaw16_QuotaIsFair.l1] at H
                        by_cases c35 : x82_4 < (l1.length : Int)
                        · rw [if_pos c35] at H
                          have c35b0 : decide (x82_4 < (l1.length : Int)) = true := decide_eq_true c35
                          clear c35
                          by_cases c36 : 0 ≤ x82_4
                          · rw [if_pos c36] at H
                            have c36b0 : decide (0 ≤ x82_4) = true := decide_eq_true c36
                            clear c36
                            by_cases c37 : x82_4 < (l1.length : Int)
                            · rw [if_pos c37] at H
                              have c37b0 : decide (x82_4 < (l1.length : Int)) = true := decide_eq_true c37
                              clear c37
                              have HC38 := Aside0.mk H
                              clear H
                              have p239 : 0 ≤ (x82_4 : Int) := of_decide_eq_true (by first | (with_reducible assumption) | assumption)
                              have q239 : x82_4 < (l1.length : Int) := of_decide_eq_true (by first | (with_reducible assumption) | assumption)
                              obtain ⟨ad239, e239, hx239_0, hx239_1⟩ := at_T32 HR1.out x82_4 p239 q239
                              cases e239
                              replace hx239_0 := (HB.out.cell (World.block_lt_of_cell? w _ hx239_0)).trans hx239_0
                              replace hx239_1 := (HB.out.cell (World.block_lt_of_cell? w _ hx239_1)).trans hx239_1
                              replace p239 := eq_true p239
                              replace q239 := eq_true q239
                              go_upto_region 17 with (first | ((with_reducible refine gate_dst (N := 12) rfl ?_); (try (refine gate_guard (by rfl) ?_; dsimp only)); refine box_event ?hg (N := 12) ?hd (cs := #[.int .i64 0, .int .i64 0]) (t := 32) ?hr ?_; (case hd => rfl); (case hg => rfl); (case hr => first | (go_simp; done) | (go_simp; rfl)); intro gb240 hg w39 hbox hb; have n0_ := Aside0.mk (Kd.R_below (by (with_reducible repeat (first | apply Kd.R_alloc | apply Kd.R_drewN | apply Kd.R_drew)); exact HO_5.out) hb); have n1_ := Aside0.mk (below_step (by repeat (first | (with_reducible first | exact HB.out | apply below_alloc | apply pw_below_drewN | apply below_drew1) | exact HB.out)) hb); have n2_ := Aside0.mk (hbox); have n3_ := Aside0.mk ((by rw [hg]; exact (below_size (by repeat (first | (with_reducible first | exact HB.out | apply below_alloc | apply pw_below_drewN | apply below_drew1) | exact HB.out))) : w.heap.size ≤ gb240)); have n4_ := Aside0.mk ((by rw [hg]; exact (below_size (by repeat (first | (with_reducible first | exact HB.out | apply below_alloc | apply pw_below_drewN | apply below_drew1) | exact HB.out))) : w.heap.size ≤ gb240)); clear HO_5; clear HB; have HO_5 := n0_; have HB := n1_; have BK240 := n2_; have GW240 := n3_; have GE240 := n4_; clear n0_ n1_ n2_ n3_ n4_; clear hb hbox hg; have hcz40_0 : w39.cell? ⟨gb240, 0, none⟩ = some (.int .i64 0) := (blk_cell BK240.out 0).trans rfl; have hcz40_1 : w39.cell? ⟨gb240, 1, none⟩ = some (.int .i64 0) := (blk_cell BK240.out 1).trans rfl; have hfz40_0 := blk_frozen BK240.out 0; have hfz40_1 := blk_frozen BK240.out 1))
                              repeat (go_quiet (first | ((with_reducible refine gate_dst (N := 12) rfl ?_); (try (refine gate_guard (by rfl) ?_; dsimp only)); refine box_event ?hg (N := 12) ?hd (cs := #[.int .i64 0, .int .i64 0]) (t := 32) ?hr ?_; (case hd => rfl); (case hg => rfl); (case hr => first | (go_simp; done) | (go_simp; rfl)); intro gb240 hg w39 hbox hb; have n0_ := Aside0.mk (Kd.R_below (by (with_reducible repeat (first | apply Kd.R_alloc | apply Kd.R_drewN | apply Kd.R_drew)); exact HO_5.out) hb); have n1_ := Aside0.mk (below_step (by repeat (first | (with_reducible first | exact HB.out | apply below_alloc | apply pw_below_drewN | apply below_drew1) | exact HB.out)) hb); have n2_ := Aside0.mk (hbox); have n3_ := Aside0.mk ((by rw [hg]; exact (below_size (by repeat (first | (with_reducible first | exact HB.out | apply below_alloc | apply pw_below_drewN | apply below_drew1) | exact HB.out))) : w.heap.size ≤ gb240)); have n4_ := Aside0.mk ((by rw [hg]; exact (below_size (by repeat (first | (with_reducible first | exact HB.out | apply below_alloc | apply pw_below_drewN | apply below_drew1) | exact HB.out))) : w.heap.size ≤ gb240)); clear HO_5; clear HB; have HO_5 := n0_; have HB := n1_; have BK240 := n2_; have GW240 := n3_; have GE240 := n4_; clear n0_ n1_ n2_ n3_ n4_; clear hb hbox hg; have hcz40_0 : w39.cell? ⟨gb240, 0, none⟩ = some (.int .i64 0) := (blk_cell BK240.out 0).trans rfl; have hcz40_1 : w39.cell? ⟨gb240, 1, none⟩ = some (.int .i64 0) := (blk_cell BK240.out 1).trans rfl; have hfz40_0 := blk_frozen BK240.out 0; have hfz40_1 := blk_frozen BK240.out 1)); go_upto_region 17 with (first | ((with_reducible refine gate_dst (N := 12) rfl ?_); (try (refine gate_guard (by rfl) ?_; dsimp only)); refine box_event ?hg (N := 12) ?hd (cs := #[.int .i64 0, .int .i64 0]) (t := 32) ?hr ?_; (case hd => rfl); (case hg => rfl); (case hr => first | (go_simp; done) | (go_simp; rfl)); intro gb240 hg w39 hbox hb; have n0_ := Aside0.mk (Kd.R_below (by (with_reducible repeat (first | apply Kd.R_alloc | apply Kd.R_drewN | apply Kd.R_drew)); exact HO_5.out) hb); have n1_ := Aside0.mk (below_step (by repeat (first | (with_reducible first | exact HB.out | apply below_alloc | apply pw_below_drewN | apply below_drew1) | exact HB.out)) hb); have n2_ := Aside0.mk (hbox); have n3_ := Aside0.mk ((by rw [hg]; exact (below_size (by repeat (first | (with_reducible first | exact HB.out | apply below_alloc | apply pw_below_drewN | apply below_drew1) | exact HB.out))) : w.heap.size ≤ gb240)); have n4_ := Aside0.mk ((by rw [hg]; exact (below_size (by repeat (first | (with_reducible first | exact HB.out | apply below_alloc | apply pw_below_drewN | apply below_drew1) | exact HB.out))) : w.heap.size ≤ gb240)); clear HO_5; clear HB; have HO_5 := n0_; have HB := n1_; have BK240 := n2_; have GW240 := n3_; have GE240 := n4_; clear n0_ n1_ n2_ n3_ n4_; clear hb hbox hg; have hcz40_0 : w39.cell? ⟨gb240, 0, none⟩ = some (.int .i64 0) := (blk_cell BK240.out 0).trans rfl; have hcz40_1 : w39.cell? ⟨gb240, 1, none⟩ = some (.int .i64 0) := (blk_cell BK240.out 1).trans rfl; have hfz40_0 := blk_frozen BK240.out 0; have hfz40_1 := blk_frozen BK240.out 1)))
                              (try simp only [Act.put, List.setIfInBounds_toArray, List.set_cons_zero, List.set_cons_succ])
                              go_cut [106] (fun v106 wc => ∃ (kq : Nat) (x106_37 : Bool), v106 = .bool x106_37 ∧ Aside0 (weirgatelaw16_QuotaIsFair.j4 kq a0 l1 t229 x6_3 x7_3 x8_3 x82_4 l1 (l1.length : Int) x82_4 x106_37 ((rd_T32 l1 x82_4).f0) ((rd_T32 l1 x82_4).f1) = some r) ∧ Aside0 (kq ≤ k4) ∧ Aside0 (Kd.R (Kd.int .i64) 3 wc w.heap.size (fun _ => True) v230 t229) ∧ Aside0 (wc.heap[gb240]? = some (.cells #[.int .i64 ((rd_T32 l1 x82_4).f0), .int .i64 ((rd_T32 l1 x82_4).f1)] 32 (0, 0))) ∧ Aside0 (Below w.heap.size w wc))
                              case first =>
                                have H := HC38.out
                                clear HC38
                                by_cases c41 : x82_4 < (t229.length : Int)
                                · rw [if_pos c41] at H
                                  have c41b0 : decide (x82_4 < (t229.length : Int)) = true := decide_eq_true c41
                                  clear c41
                                  (first | rw [c41b0] | (simp only [i64_w, i32_w]; rw [c41b0]) | skip)
                                  by_cases c42 : (rd t229 x82_4) < ((rd_T32 l1 x82_4).f1)
                                  · rw [if_pos c42] at H
                                    have c42b0 : decide ((rd t229 x82_4) < ((rd_T32 l1 x82_4).f1)) = true := decide_eq_true c42
                                    clear c42
                                    by_cases c43 : x8_3 = 0
                                    · rw [if_pos c43] at H
                                      exact absurd H (by simp)
                                    · rw [if_neg c43] at H
                                      have c43b0 : (x8_3 == 0) = false := beq_eq_false_iff_ne.mpr c43
                                      have c43b1 : (x8_3 != 0) = true := bne_iff_ne.mpr c43
                                      have H' := Aside0.mk H
                                      clear H
                                      obtain ⟨Ao44, co44, eo44⟩ := Kd.R_slice HO_5.out
                                      subst eo44
                                      have p241 : 0 ≤ (x82_4 : Int) := of_decide_eq_true (by first | (with_reducible assumption) | assumption)
                                      have q241 : x82_4 < (t229.length : Int) := of_decide_eq_true (by first | (with_reducible assumption) | assumption)
                                      obtain ⟨ad241, e241, hx241_0⟩ := Kd.at_int (Kd.R_reads' HO_5.out).2.2 x82_4 p241 q241
                                      cases e241
                                      have hn241_0 : ad241.block ≠ gb240 := Kd.own_blk (Kd.R_ne HO_5.out BK240.out (by decide))
                                      have hn241_1 : ad241.block ≠ gb240 := Kd.own_blk (Kd.R_ne HO_5.out BK240.out (by decide))
                                      replace hx241_0 := (cell_far (p := ⟨gb240, 0, none⟩) (by first | (rw [add_block]; exact hn241_0) | (show (Addr.add _ _).block ≠ _; rw [add_block]; exact hn241_0) | exact hn241_0) (.int .i64 ((rd_T32 l1 x82_4).f0))).trans hx241_0
                                      replace hx241_0 := (cell_far (p := ⟨gb240, 1, none⟩) (by first | (rw [add_block]; exact hn241_1) | (show (Addr.add _ _).block ≠ _; rw [add_block]; exact hn241_1) | exact hn241_1) (.int .i64 ((rd_T32 l1 x82_4).f1))).trans hx241_0
                                      (try have hy241_0 := fun (n_ : Nat) => (show ((((w39.drewN n_).setCell ⟨gb240, 0, none⟩ (.int .i64 ((rd_T32 l1 x82_4).f0))).setCell ⟨gb240, 1, none⟩ (.int .i64 ((rd_T32 l1 x82_4).f1)))).cell? _ = some _ from hx241_0))
                                      clear hn241_0
                                      clear hn241_1
                                      replace p241 := eq_true p241
                                      replace q241 := eq_true q241
                                      have hcz45_0 : w39.cell? ⟨gb240, 0, none⟩ = some (.int .i64 0) := (blk_cell BK240.out 0).trans rfl
                                      have hcz45_1 : w39.cell? ⟨gb240, 1, none⟩ = some (.int .i64 0) := (blk_cell BK240.out 1).trans rfl
                                      have hfz45_0 := blk_frozen BK240.out 0
                                      have hfz45_1 := blk_frozen BK240.out 1
                                      have p242 : 0 ≤ (x82_4 : Int) := of_decide_eq_true (by first | (with_reducible assumption) | assumption)
                                      have q242 : x82_4 < (t229.length : Int) := of_decide_eq_true (by first | (with_reducible assumption) | assumption)
                                      obtain ⟨ad242, e242, hx242_0⟩ := Kd.at_int (Kd.R_reads' HO_5.out).2.2 x82_4 p242 q242
                                      obtain rfl : ad241 = ad242 := (by injection e242)
                                      have hn242_0 : ad241.block ≠ gb240 := Kd.own_blk (Kd.R_ne HO_5.out BK240.out (by decide))
                                      have hn242_1 : ad241.block ≠ gb240 := Kd.own_blk (Kd.R_ne HO_5.out BK240.out (by decide))
                                      replace hx242_0 := (cell_far (p := ⟨gb240, 0, none⟩) (by first | (rw [add_block]; exact hn242_0) | (show (Addr.add _ _).block ≠ _; rw [add_block]; exact hn242_0) | exact hn242_0) (.int .i64 ((rd_T32 l1 x82_4).f0))).trans hx242_0
                                      replace hx242_0 := (cell_far (p := ⟨gb240, 1, none⟩) (by first | (rw [add_block]; exact hn242_1) | (show (Addr.add _ _).block ≠ _; rw [add_block]; exact hn242_1) | exact hn242_1) (.int .i64 ((rd_T32 l1 x82_4).f1))).trans hx242_0
                                      (try have hy242_0 := fun (n_ : Nat) => (show ((((w39.drewN n_).setCell ⟨gb240, 0, none⟩ (.int .i64 ((rd_T32 l1 x82_4).f0))).setCell ⟨gb240, 1, none⟩ (.int .i64 ((rd_T32 l1 x82_4).f1)))).cell? _ = some _ from hx242_0))
                                      clear hn242_0
                                      clear hn242_1
                                      replace p242 := eq_true p242
                                      replace q242 := eq_true q242
                                      go_wp2
                                      repeat (go_quiet (fail); try go_wp2)
                                      go_meet
                                      case rel => exact ⟨_, (decide ((rd t229 x82_4) < (wrap64 (((rd_T32 l1 x82_4).f0) * (wrap64 (Int.tdiv a0 x8_3)))))), (by first | rfl | (simp; done) | (simp [*]; done)), H', ⟨by have := HJ2.out; have := HJ11.out; have := HK3.out; have := HK4.out; first | omega | exact Nat.le_refl _⟩, ⟨by (with_reducible repeat (first | apply Kd.R_alloc | apply Kd.R_drewN | apply Kd.R_drew)); exact Kd.R_mono (Kd.R_far (p := ⟨gb240, 1, none⟩) (Kd.R_far (p := ⟨gb240, 0, none⟩) (Kd.R_types HO_5.out BK240.out (by decide)) (fun _ hk => hk.2) (.int .i64 ((rd_T32 l1 x82_4).f0))) (fun _ hk => hk.2) (.int .i64 ((rd_T32 l1 x82_4).f1))) (fun _ hk => trivial)⟩, ⟨by (with_reducible repeat (first | refine blk_drewN ?_ _ | refine blk_drew ?_ | refine blk_alloc ?_ _)); refine blk_put (cs := #[.int .i64 ((rd_T32 l1 x82_4).f0), .int .i64 0]) ?_ 1 _ rfl; (with_reducible repeat (first | refine blk_drewN ?_ _ | refine blk_drew ?_ | refine blk_alloc ?_ _)); refine blk_put (cs := #[.int .i64 0, .int .i64 0]) ?_ 0 _ rfl; (with_reducible repeat (first | refine blk_drewN ?_ _ | refine blk_drew ?_ | refine blk_alloc ?_ _)); exact BK240.out⟩, ⟨by repeat (first | (with_reducible first | exact HB.out | apply below_alloc | apply pw_below_drewN | apply below_drew1 | refine below_set ?_ GE240.out) | exact HB.out)⟩⟩
                                  · rw [if_neg c42] at H
                                    have c42b0 : decide ((rd t229 x82_4) < ((rd_T32 l1 x82_4).f1)) = false := decide_eq_false c42
                                    clear c42
                                    have H' := Aside0.mk H
                                    clear H
                                    obtain ⟨Ao46, co46, eo46⟩ := Kd.R_slice HO_5.out
                                    subst eo46
                                    have p241 : 0 ≤ (x82_4 : Int) := of_decide_eq_true (by first | (with_reducible assumption) | assumption)
                                    have q241 : x82_4 < (t229.length : Int) := of_decide_eq_true (by first | (with_reducible assumption) | assumption)
                                    obtain ⟨ad241, e241, hx241_0⟩ := Kd.at_int (Kd.R_reads' HO_5.out).2.2 x82_4 p241 q241
                                    cases e241
                                    have hn241_0 : ad241.block ≠ gb240 := Kd.own_blk (Kd.R_ne HO_5.out BK240.out (by decide))
                                    have hn241_1 : ad241.block ≠ gb240 := Kd.own_blk (Kd.R_ne HO_5.out BK240.out (by decide))
                                    replace hx241_0 := (cell_far (p := ⟨gb240, 0, none⟩) (by first | (rw [add_block]; exact hn241_0) | (show (Addr.add _ _).block ≠ _; rw [add_block]; exact hn241_0) | exact hn241_0) (.int .i64 ((rd_T32 l1 x82_4).f0))).trans hx241_0
                                    replace hx241_0 := (cell_far (p := ⟨gb240, 1, none⟩) (by first | (rw [add_block]; exact hn241_1) | (show (Addr.add _ _).block ≠ _; rw [add_block]; exact hn241_1) | exact hn241_1) (.int .i64 ((rd_T32 l1 x82_4).f1))).trans hx241_0
                                    (try have hy241_0 := fun (n_ : Nat) => (show ((((w39.drewN n_).setCell ⟨gb240, 0, none⟩ (.int .i64 ((rd_T32 l1 x82_4).f0))).setCell ⟨gb240, 1, none⟩ (.int .i64 ((rd_T32 l1 x82_4).f1)))).cell? _ = some _ from hx241_0))
                                    clear hn241_0
                                    clear hn241_1
                                    replace p241 := eq_true p241
                                    replace q241 := eq_true q241
                                    have hcz47_0 : w39.cell? ⟨gb240, 0, none⟩ = some (.int .i64 0) := (blk_cell BK240.out 0).trans rfl
                                    have hcz47_1 : w39.cell? ⟨gb240, 1, none⟩ = some (.int .i64 0) := (blk_cell BK240.out 1).trans rfl
                                    have hfz47_0 := blk_frozen BK240.out 0
                                    have hfz47_1 := blk_frozen BK240.out 1
                                    go_wp2
                                    repeat (go_quiet (fail); try go_wp2)
                                    go_meet
                                    case rel => exact ⟨_, (false), (by first | rfl | (simp; done) | (simp [*]; done)), H', ⟨by have := HJ2.out; have := HJ11.out; have := HK3.out; have := HK4.out; first | omega | exact Nat.le_refl _⟩, ⟨by (with_reducible repeat (first | apply Kd.R_alloc | apply Kd.R_drewN | apply Kd.R_drew)); exact Kd.R_mono (Kd.R_far (p := ⟨gb240, 1, none⟩) (Kd.R_far (p := ⟨gb240, 0, none⟩) (Kd.R_types HO_5.out BK240.out (by decide)) (fun _ hk => hk.2) (.int .i64 ((rd_T32 l1 x82_4).f0))) (fun _ hk => hk.2) (.int .i64 ((rd_T32 l1 x82_4).f1))) (fun _ hk => trivial)⟩, ⟨by (with_reducible repeat (first | refine blk_drewN ?_ _ | refine blk_drew ?_ | refine blk_alloc ?_ _)); refine blk_put (cs := #[.int .i64 ((rd_T32 l1 x82_4).f0), .int .i64 0]) ?_ 1 _ rfl; (with_reducible repeat (first | refine blk_drewN ?_ _ | refine blk_drew ?_ | refine blk_alloc ?_ _)); refine blk_put (cs := #[.int .i64 0, .int .i64 0]) ?_ 0 _ rfl; (with_reducible repeat (first | refine blk_drewN ?_ _ | refine blk_drew ?_ | refine blk_alloc ?_ _)); exact BK240.out⟩, ⟨by repeat (first | (with_reducible first | exact HB.out | apply below_alloc | apply pw_below_drewN | apply below_drew1 | refine below_set ?_ GE240.out) | exact HB.out)⟩⟩
                                · rw [if_neg c41] at H
                                  exact absurd H (by simp)
                              case rest =>
                                clear HC38
                                try clear c1
                                try clear c2
                                try clear p2
                                try clear q2
                                try clear hx2
                                try clear c3
                                try clear c4
                                try clear c4b0
                                try clear c4b1
                                try clear c6
                                try clear p6
                                try clear c8
                                try clear c14
                                try clear c14b0
                                try clear c14b1
                                try clear c14b2
                                try clear c19
                                try clear c20
                                try clear c20b0
                                try clear c21
                                try clear c21b0
                                try clear c22
                                try clear c22b0
                                try clear c23
                                try clear c23b0
                                try clear p23
                                try clear q23
                                try clear hx23
                                try clear c24
                                try clear c24b0
                                try clear p24
                                try clear q24
                                try clear hx24
                                try clear c28
                                try clear c28b0
                                try clear c35
                                try clear c35b0
                                try clear c36
                                try clear c36b0
                                try clear c37
                                try clear c37b0
                                try clear c41
                                try clear c41b0
                                try clear c42
                                try clear c42b0
                                try clear c43
                                try clear c43b0
                                try clear c43b1
                                try clear hcz26_0
                                try clear hcz26_1
                                try clear hcz30_0
                                try clear hcz30_1
                                try clear hcz33_0
                                try clear hcz33_1
                                try clear hcz40_0
                                try clear hcz40_1
                                try clear hcz45_0
                                try clear hcz45_1
                                try clear hcz47_0
                                try clear hcz47_1
                                try clear hfz26_0
                                try clear hfz26_1
                                try clear hfz30_0
                                try clear hfz30_1
                                try clear hfz33_0
                                try clear hfz33_1
                                try clear hfz40_0
                                try clear hfz40_1
                                try clear hfz45_0
                                try clear hfz45_1
                                try clear hfz47_0
                                try clear hfz47_1
                                try clear hx233_0
                                try clear hx233_1
                                try clear hx235_0
                                try clear hx236_0
                                try clear hx237_0
                                try clear hx239_0
                                try clear hx239_1
                                try clear hx241_0
                                try clear hx242_0
                                try clear p2
                                try clear p23
                                try clear p233
                                try clear p235
                                try clear p236
                                try clear p237
                                try clear p239
                                try clear p241
                                try clear p242
                                try clear p6
                                try clear q2
                                try clear q23
                                try clear q233
                                try clear q235
                                try clear q236
                                try clear q237
                                try clear q239
                                try clear q241
                                try clear q242
                                obtain ⟨kq, x106_37, rfl, HA, HJ37, HO_5, BK240, HB⟩ := hcut
                                cases kq with
                                | zero => exact absurd HA.out (by simp [weirgatelaw16_QuotaIsFair.j4])
                                | succ kj37 =>
                                  have H := HA.out
                                  clear HA
                                  simp only [weirgatelaw16_QuotaIsFair.j4] at H
                                  by_cases c48 : x106_37 = true
                                  · subst c48
                                    have H1 : (some false) = some r := by rw [if_pos rfl] at H; exact H
                                    clear H
                                    have H := H1
                                    clear H1
                                    obtain rfl := Option.some.inj H
                                    go_wp2
                                    repeat (go_quiet (fail); try go_wp2)
                                    go_ret
                                    exact ⟨by first | rfl | (simp [errW_none, errW_some] <;> rfl) | (simp [*, errW_none, errW_some] <;> rfl), by repeat (first | (with_reducible first | exact HB.out | apply below_alloc | apply pw_below_drewN | apply below_drew1 | refine below_set ?_ GE240.out) | exact HB.out)⟩
                                  · replace c48 := Bool.eq_false_iff.mpr c48
                                    subst c48
                                    have H1 : (weirgatelaw16_QuotaIsFair.l2 kj37 a0 l1 t229 x6_3 x7_3 x8_3 x82_4 l1 (l1.length : Int) x82_4 l1 (l1.length : Int) 0 ((rd_T32 l1 x82_4).f0) ((rd_T32 l1 x82_4).f1)) = some r := by rw [if_neg (show ¬ (false = true) by decide)] at H; exact H
                                    clear H
                                    have H := H1
                                    clear H1
                                    have H' := Aside0.mk H
                                    clear H
                                    go_wp2
                                    repeat (go_quiet (fail); try go_wp2)
                                    go_loopg [109] kj37 (fun kq v109 w' => ∃ (x109_6 : Int), v109 = .int .i64 x109_6 ∧ Aside0 (weirgatelaw16_QuotaIsFair.l2 kq a0 l1 t229 x6_3 x7_3 x8_3 x82_4 l1 (l1.length : Int) x82_4 l1 (l1.length : Int) x109_6 ((rd_T32 l1 x82_4).f0) ((rd_T32 l1 x82_4).f1) = some r) ∧ Aside0 (kq ≤ kj37) ∧ Aside0 (Kd.R (Kd.int .i64) 3 w' w.heap.size (fun _ => True) v230 t229) ∧ Aside0 (w'.heap[gb240]? = some (.cells #[.int .i64 ((rd_T32 l1 x82_4).f0), .int .i64 ((rd_T32 l1 x82_4).f1)] 32 (0, 0))) ∧ Aside0 (Below w.heap.size w w'))
                                    case atStart => exact ⟨(0), (by first | rfl | (simp; done) | (simp [*]; done)), H', ⟨Nat.le_refl _⟩, ⟨by (with_reducible repeat (first | apply Kd.R_alloc | apply Kd.R_drewN | apply Kd.R_drew)); exact HO_5.out⟩, ⟨by (with_reducible repeat (first | refine blk_drewN ?_ _ | refine blk_drew ?_ | refine blk_alloc ?_ _)); exact BK240.out⟩, ⟨by repeat (first | (with_reducible first | exact HB.out | apply below_alloc | apply pw_below_drewN | apply below_drew1 | refine below_set ?_ GE240.out) | exact HB.out)⟩⟩
                                    case round =>
                                      clear H'
                                      try clear c1
                                      try clear c2
                                      try clear p2
                                      try clear q2
                                      try clear hx2
                                      try clear c3
                                      try clear c4
                                      try clear c4b0
                                      try clear c4b1
                                      try clear c6
                                      try clear p6
                                      try clear c8
                                      try clear c14
                                      try clear c14b0
                                      try clear c14b1
                                      try clear c14b2
                                      try clear c19
                                      try clear c20
                                      try clear c20b0
                                      try clear c21
                                      try clear c21b0
                                      try clear c22
                                      try clear c22b0
                                      try clear c23
                                      try clear c23b0
                                      try clear p23
                                      try clear q23
                                      try clear hx23
                                      try clear c24
                                      try clear c24b0
                                      try clear p24
                                      try clear q24
                                      try clear hx24
                                      try clear c28
                                      try clear c28b0
                                      try clear c35
                                      try clear c35b0
                                      try clear c36
                                      try clear c36b0
                                      try clear c37
                                      try clear c37b0
                                      try clear c41
                                      try clear c41b0
                                      try clear c42
                                      try clear c42b0
                                      try clear c43
                                      try clear c43b0
                                      try clear c43b1
                                      try clear c48
                                      try clear hcz26_0
                                      try clear hcz26_1
                                      try clear hcz30_0
                                      try clear hcz30_1
                                      try clear hcz33_0
                                      try clear hcz33_1
                                      try clear hcz40_0
                                      try clear hcz40_1
                                      try clear hcz45_0
                                      try clear hcz45_1
                                      try clear hcz47_0
                                      try clear hcz47_1
                                      try clear hfz26_0
                                      try clear hfz26_1
                                      try clear hfz30_0
                                      try clear hfz30_1
                                      try clear hfz33_0
                                      try clear hfz33_1
                                      try clear hfz40_0
                                      try clear hfz40_1
                                      try clear hfz45_0
                                      try clear hfz45_1
                                      try clear hfz47_0
                                      try clear hfz47_1
                                      try clear hx233_0
                                      try clear hx233_1
                                      try clear hx235_0
                                      try clear hx236_0
                                      try clear hx237_0
                                      try clear hx239_0
                                      try clear hx239_1
                                      try clear hx241_0
                                      try clear hx242_0
                                      try clear p2
                                      try clear p23
                                      try clear p233
                                      try clear p235
                                      try clear p236
                                      try clear p237
                                      try clear p239
                                      try clear p24
                                      try clear p241
                                      try clear p242
                                      try clear p6
                                      try clear q2
                                      try clear q23
                                      try clear q233
                                      try clear q235
                                      try clear q236
                                      try clear q237
                                      try clear q239
                                      try clear q24
                                      try clear q241
                                      try clear q242
                                      obtain ⟨x109_6, rfl, HA, HK6, HO_5, BK240, HB⟩ := hrel
                                      cases gk with
                                      | zero => exact absurd HA.out (by simp [weirgatelaw16_QuotaIsFair.l2])
                                      | succ k6 =>
                                        have H := HA.out
                                        clear HA
                                        simp only [weirgatelaw16_QuotaIsFair.l2] at H
                                        by_cases c49 : x109_6 < (l1.length : Int)
                                        · rw [if_pos c49] at H
                                          have c49b0 : decide (x109_6 < (l1.length : Int)) = true := decide_eq_true c49
                                          clear c49
                                          by_cases c50 : 0 ≤ x109_6
                                          · rw [if_pos c50] at H
                                            have c50b0 : decide (0 ≤ x109_6) = true := decide_eq_true c50
                                            clear c50
                                            by_cases c51 : x109_6 < (l1.length : Int)
                                            · rw [if_pos c51] at H
                                              have c51b0 : decide (x109_6 < (l1.length : Int)) = true := decide_eq_true c51
                                              clear c51
                                              by_cases c52 : 0 ≤ x82_4
                                              · rw [if_pos c52] at H
                                                have c52b0 : decide (0 ≤ x82_4) = true := decide_eq_true c52
                                                clear c52
                                                by_cases c53 : x82_4 < (t229.length : Int)
                                                · rw [if_pos c53] at H
                                                  have c53b0 : decide (x82_4 < (t229.length : Int)) = true := decide_eq_true c53
                                                  clear c53
                                                  by_cases c54 : (rd t229 x82_4) < ((rd_T32 l1 x82_4).f1)
                                                  · rw [if_pos c54] at H
                                                    have c54b0 : decide ((rd t229 x82_4) < ((rd_T32 l1 x82_4).f1)) = true := decide_eq_true c54
                                                    clear c54
                                                    by_cases c55 : x109_6 < (t229.length : Int)
                                                    · rw [if_pos c55] at H
                                                      have c55b0 : decide (x109_6 < (t229.length : Int)) = true := decide_eq_true c55
                                                      clear c55
                                                      by_cases c56 : (wrap64 ((rd t229 x109_6) * ((rd_T32 l1 x82_4).f0))) > (wrap64 ((wrap64 ((rd t229 x82_4) + ((rd_T32 l1 x82_4).f0))) * ((rd_T32 l1 x109_6).f0)))
                                                      · rw [if_pos c56] at H
                                                        have c56b0 : decide ((wrap64 ((wrap64 ((rd t229 x82_4) + ((rd_T32 l1 x82_4).f0))) * ((rd_T32 l1 x109_6).f0))) < (wrap64 ((rd t229 x109_6) * ((rd_T32 l1 x82_4).f0)))) = true := decide_eq_true c56
                                                        clear c56
                                                        obtain rfl := Option.some.inj H
                                                        have p243 : 0 ≤ (x109_6 : Int) := of_decide_eq_true (by first | (with_reducible assumption) | assumption)
                                                        have q243 : x109_6 < (l1.length : Int) := of_decide_eq_true (by first | (with_reducible assumption) | assumption)
                                                        obtain ⟨ad243, e243, hx243_0, hx243_1⟩ := at_T32 HR1.out x109_6 p243 q243
                                                        obtain rfl : ad239 = ad243 := (by injection e243)
                                                        replace hx243_0 := (HB.out.cell (World.block_lt_of_cell? w _ hx243_0)).trans hx243_0
                                                        replace hx243_1 := (HB.out.cell (World.block_lt_of_cell? w _ hx243_1)).trans hx243_1
                                                        replace p243 := eq_true p243
                                                        replace q243 := eq_true q243
                                                        go_wp2_with (first | ((with_reducible refine gate_dst (N := 14) rfl ?_); (try (refine gate_guard (by rfl) ?_; dsimp only)); refine box_event ?hg (N := 14) ?hd (cs := #[.int .i64 0, .int .i64 0]) (t := 32) ?hr ?_; (case hd => rfl); (case hg => rfl); (case hr => first | (go_simp; done) | (go_simp; rfl)); intro gb244 hg w57 hbox hb; have n0_ := Aside0.mk (Kd.R_below (by (with_reducible repeat (first | apply Kd.R_alloc | apply Kd.R_drewN | apply Kd.R_drew)); exact HO_5.out) hb); have n1_ := Aside0.mk (blk_below (g := gb240) (o := .cells #[.int .i64 ((rd_T32 l1 x82_4).f0), .int .i64 ((rd_T32 l1 x82_4).f1)] 32 (0, 0)) (by (with_reducible repeat (first | refine blk_drewN ?_ _ | refine blk_drew ?_ | refine blk_alloc ?_ _)); exact BK240.out) hb); have n2_ := Aside0.mk (below_step (by repeat (first | (with_reducible first | exact HB.out | apply below_alloc | apply pw_below_drewN | apply below_drew1 | refine below_set ?_ GE240.out) | exact HB.out)) hb); have n3_ := Aside0.mk (hbox); have n4_ := Aside0.mk ((by rw [hg]; exact (below_size (by repeat (first | (with_reducible first | exact HB.out | apply below_alloc | apply pw_below_drewN | apply below_drew1 | refine below_set ?_ GE240.out) | exact HB.out))) : w.heap.size ≤ gb244)); have n5_ := Aside0.mk ((by rw [hg]; exact (below_size (by repeat (first | (with_reducible first | exact HB.out | apply below_alloc | apply pw_below_drewN | apply below_drew1 | refine below_set ?_ GE240.out) | exact HB.out))) : w.heap.size ≤ gb244)); have n6_ := Aside0.mk ((by rw [hg]; exact Nat.ne_of_lt (blk_lt (g := gb240) (o := .cells #[.int .i64 ((rd_T32 l1 x82_4).f0), .int .i64 ((rd_T32 l1 x82_4).f1)] 32 (0, 0)) (by (with_reducible repeat (first | refine blk_drewN ?_ _ | refine blk_drew ?_ | refine blk_alloc ?_ _)); exact BK240.out)) : gb240 ≠ gb244)); have n7_ := Aside0.mk ((by rw [hg]; exact Nat.ne_of_gt (blk_lt (g := gb240) (o := .cells #[.int .i64 ((rd_T32 l1 x82_4).f0), .int .i64 ((rd_T32 l1 x82_4).f1)] 32 (0, 0)) (by (with_reducible repeat (first | refine blk_drewN ?_ _ | refine blk_drew ?_ | refine blk_alloc ?_ _)); exact BK240.out)) : gb244 ≠ gb240)); clear HO_5; clear BK240; clear HB; have HO_5 := n0_; have BK240 := n1_; have HB := n2_; have BK244 := n3_; have GW244 := n4_; have GE244 := n5_; have NB240_244 := n6_; have NB244_240 := n7_; clear n0_ n1_ n2_ n3_ n4_ n5_ n6_ n7_; clear hb hbox hg; have hnb58 := NB244_240.out; have hnc58 := NB240_244.out; have hcz59_0 : w57.cell? ⟨gb244, 0, none⟩ = some (.int .i64 0) := (blk_cell BK244.out 0).trans rfl; have hcz59_1 : w57.cell? ⟨gb244, 1, none⟩ = some (.int .i64 0) := (blk_cell BK244.out 1).trans rfl; have hfz59_0 := blk_frozen BK244.out 0; have hfz59_1 := blk_frozen BK244.out 1; obtain ⟨Ao60, co60, eo60⟩ := Kd.R_slice HO_5.out; subst eo60; have p245 : 0 ≤ (x82_4 : Int) := of_decide_eq_true (by first | (with_reducible assumption) | assumption); have q245 : x82_4 < (t229.length : Int) := of_decide_eq_true (by first | (with_reducible assumption) | assumption); obtain ⟨ad245, e245, hx245_0⟩ := Kd.at_int (Kd.R_reads' HO_5.out).2.2 x82_4 p245 q245; cases e245; have hn245_0 : ad245.block ≠ gb244 := Kd.own_blk (Kd.R_ne HO_5.out BK244.out (by decide)); have hn245_1 : ad245.block ≠ gb244 := Kd.own_blk (Kd.R_ne HO_5.out BK244.out (by decide)); replace hx245_0 := (cell_far (p := ⟨gb244, 0, none⟩) (by first | (rw [add_block]; exact hn245_0) | (show (Addr.add _ _).block ≠ _; rw [add_block]; exact hn245_0) | exact hn245_0) (.int .i64 ((rd_T32 l1 x109_6).f0))).trans hx245_0; replace hx245_0 := (cell_far (p := ⟨gb244, 1, none⟩) (by first | (rw [add_block]; exact hn245_1) | (show (Addr.add _ _).block ≠ _; rw [add_block]; exact hn245_1) | exact hn245_1) (.int .i64 ((rd_T32 l1 x109_6).f1))).trans hx245_0; (try have hy245_0 := fun (n_ : Nat) => (show ((((w57.drewN n_).setCell ⟨gb244, 0, none⟩ (.int .i64 ((rd_T32 l1 x109_6).f0))).setCell ⟨gb244, 1, none⟩ (.int .i64 ((rd_T32 l1 x109_6).f1)))).cell? _ = some _ from hx245_0)); clear hn245_0; clear hn245_1; replace p245 := eq_true p245; replace q245 := eq_true q245; have hcz61_0 : w57.cell? ⟨gb240, 0, none⟩ = some (.int .i64 ((rd_T32 l1 x82_4).f0)) := (blk_cell BK240.out 0).trans rfl; have hcz61_1 : w57.cell? ⟨gb240, 1, none⟩ = some (.int .i64 ((rd_T32 l1 x82_4).f1)) := (blk_cell BK240.out 1).trans rfl; have hfz61_0 := blk_frozen BK240.out 0; have hfz61_1 := blk_frozen BK240.out 1; have p246 : 0 ≤ (x109_6 : Int) := of_decide_eq_true (by first | (with_reducible assumption) | assumption); have q246 : x109_6 < (t229.length : Int) := of_decide_eq_true (by first | (with_reducible assumption) | assumption); obtain ⟨ad246, e246, hx246_0⟩ := Kd.at_int (Kd.R_reads' HO_5.out).2.2 x109_6 p246 q246; obtain rfl : ad245 = ad246 := (by injection e246); have hn246_0 : ad245.block ≠ gb244 := Kd.own_blk (Kd.R_ne HO_5.out BK244.out (by decide)); have hn246_1 : ad245.block ≠ gb244 := Kd.own_blk (Kd.R_ne HO_5.out BK244.out (by decide)); replace hx246_0 := (cell_far (p := ⟨gb244, 0, none⟩) (by first | (rw [add_block]; exact hn246_0) | (show (Addr.add _ _).block ≠ _; rw [add_block]; exact hn246_0) | exact hn246_0) (.int .i64 ((rd_T32 l1 x109_6).f0))).trans hx246_0; replace hx246_0 := (cell_far (p := ⟨gb244, 1, none⟩) (by first | (rw [add_block]; exact hn246_1) | (show (Addr.add _ _).block ≠ _; rw [add_block]; exact hn246_1) | exact hn246_1) (.int .i64 ((rd_T32 l1 x109_6).f1))).trans hx246_0; (try have hy246_0 := fun (n_ : Nat) => (show ((((w57.drewN n_).setCell ⟨gb244, 0, none⟩ (.int .i64 ((rd_T32 l1 x109_6).f0))).setCell ⟨gb244, 1, none⟩ (.int .i64 ((rd_T32 l1 x109_6).f1)))).cell? _ = some _ from hx246_0)); clear hn246_0; clear hn246_1; replace p246 := eq_true p246; replace q246 := eq_true q246; have p247 : 0 ≤ (x82_4 : Int) := of_decide_eq_true (by first | (with_reducible assumption) | assumption); have q247 : x82_4 < (t229.length : Int) := of_decide_eq_true (by first | (with_reducible assumption) | assumption); obtain ⟨ad247, e247, hx247_0⟩ := Kd.at_int (Kd.R_reads' HO_5.out).2.2 x82_4 p247 q247; obtain rfl : ad245 = ad247 := (by injection e247); have hn247_0 : ad245.block ≠ gb244 := Kd.own_blk (Kd.R_ne HO_5.out BK244.out (by decide)); have hn247_1 : ad245.block ≠ gb244 := Kd.own_blk (Kd.R_ne HO_5.out BK244.out (by decide)); replace hx247_0 := (cell_far (p := ⟨gb244, 0, none⟩) (by first | (rw [add_block]; exact hn247_0) | (show (Addr.add _ _).block ≠ _; rw [add_block]; exact hn247_0) | exact hn247_0) (.int .i64 ((rd_T32 l1 x109_6).f0))).trans hx247_0; replace hx247_0 := (cell_far (p := ⟨gb244, 1, none⟩) (by first | (rw [add_block]; exact hn247_1) | (show (Addr.add _ _).block ≠ _; rw [add_block]; exact hn247_1) | exact hn247_1) (.int .i64 ((rd_T32 l1 x109_6).f1))).trans hx247_0; (try have hy247_0 := fun (n_ : Nat) => (show ((((w57.drewN n_).setCell ⟨gb244, 0, none⟩ (.int .i64 ((rd_T32 l1 x109_6).f0))).setCell ⟨gb244, 1, none⟩ (.int .i64 ((rd_T32 l1 x109_6).f1)))).cell? _ = some _ from hx247_0)); clear hn247_0; clear hn247_1; replace p247 := eq_true p247; replace q247 := eq_true q247))
                                                        repeat (go_quiet (first | ((with_reducible refine gate_dst (N := 14) rfl ?_); (try (refine gate_guard (by rfl) ?_; dsimp only)); refine box_event ?hg (N := 14) ?hd (cs := #[.int .i64 0, .int .i64 0]) (t := 32) ?hr ?_; (case hd => rfl); (case hg => rfl); (case hr => first | (go_simp; done) | (go_simp; rfl)); intro gb244 hg w57 hbox hb; have n0_ := Aside0.mk (Kd.R_below (by (with_reducible repeat (first | apply Kd.R_alloc | apply Kd.R_drewN | apply Kd.R_drew)); exact HO_5.out) hb); have n1_ := Aside0.mk (blk_below (g := gb240) (o := .cells #[.int .i64 ((rd_T32 l1 x82_4).f0), .int .i64 ((rd_T32 l1 x82_4).f1)] 32 (0, 0)) (by (with_reducible repeat (first | refine blk_drewN ?_ _ | refine blk_drew ?_ | refine blk_alloc ?_ _)); exact BK240.out) hb); have n2_ := Aside0.mk (below_step (by repeat (first | (with_reducible first | exact HB.out | apply below_alloc | apply pw_below_drewN | apply below_drew1 | refine below_set ?_ GE240.out) | exact HB.out)) hb); have n3_ := Aside0.mk (hbox); have n4_ := Aside0.mk ((by rw [hg]; exact (below_size (by repeat (first | (with_reducible first | exact HB.out | apply below_alloc | apply pw_below_drewN | apply below_drew1 | refine below_set ?_ GE240.out) | exact HB.out))) : w.heap.size ≤ gb244)); have n5_ := Aside0.mk ((by rw [hg]; exact (below_size (by repeat (first | (with_reducible first | exact HB.out | apply below_alloc | apply pw_below_drewN | apply below_drew1 | refine below_set ?_ GE240.out) | exact HB.out))) : w.heap.size ≤ gb244)); have n6_ := Aside0.mk ((by rw [hg]; exact Nat.ne_of_lt (blk_lt (g := gb240) (o := .cells #[.int .i64 ((rd_T32 l1 x82_4).f0), .int .i64 ((rd_T32 l1 x82_4).f1)] 32 (0, 0)) (by (with_reducible repeat (first | refine blk_drewN ?_ _ | refine blk_drew ?_ | refine blk_alloc ?_ _)); exact BK240.out)) : gb240 ≠ gb244)); have n7_ := Aside0.mk ((by rw [hg]; exact Nat.ne_of_gt (blk_lt (g := gb240) (o := .cells #[.int .i64 ((rd_T32 l1 x82_4).f0), .int .i64 ((rd_T32 l1 x82_4).f1)] 32 (0, 0)) (by (with_reducible repeat (first | refine blk_drewN ?_ _ | refine blk_drew ?_ | refine blk_alloc ?_ _)); exact BK240.out)) : gb244 ≠ gb240)); clear HO_5; clear BK240; clear HB; have HO_5 := n0_; have BK240 := n1_; have HB := n2_; have BK244 := n3_; have GW244 := n4_; have GE244 := n5_; have NB240_244 := n6_; have NB244_240 := n7_; clear n0_ n1_ n2_ n3_ n4_ n5_ n6_ n7_; clear hb hbox hg; have hnb58 := NB244_240.out; have hnc58 := NB240_244.out; have hcz59_0 : w57.cell? ⟨gb244, 0, none⟩ = some (.int .i64 0) := (blk_cell BK244.out 0).trans rfl; have hcz59_1 : w57.cell? ⟨gb244, 1, none⟩ = some (.int .i64 0) := (blk_cell BK244.out 1).trans rfl; have hfz59_0 := blk_frozen BK244.out 0; have hfz59_1 := blk_frozen BK244.out 1; obtain ⟨Ao60, co60, eo60⟩ := Kd.R_slice HO_5.out; subst eo60; have p245 : 0 ≤ (x82_4 : Int) := of_decide_eq_true (by first | (with_reducible assumption) | assumption); have q245 : x82_4 < (t229.length : Int) := of_decide_eq_true (by first | (with_reducible assumption) | assumption); obtain ⟨ad245, e245, hx245_0⟩ := Kd.at_int (Kd.R_reads' HO_5.out).2.2 x82_4 p245 q245; cases e245; have hn245_0 : ad245.block ≠ gb244 := Kd.own_blk (Kd.R_ne HO_5.out BK244.out (by decide)); have hn245_1 : ad245.block ≠ gb244 := Kd.own_blk (Kd.R_ne HO_5.out BK244.out (by decide)); replace hx245_0 := (cell_far (p := ⟨gb244, 0, none⟩) (by first | (rw [add_block]; exact hn245_0) | (show (Addr.add _ _).block ≠ _; rw [add_block]; exact hn245_0) | exact hn245_0) (.int .i64 ((rd_T32 l1 x109_6).f0))).trans hx245_0; replace hx245_0 := (cell_far (p := ⟨gb244, 1, none⟩) (by first | (rw [add_block]; exact hn245_1) | (show (Addr.add _ _).block ≠ _; rw [add_block]; exact hn245_1) | exact hn245_1) (.int .i64 ((rd_T32 l1 x109_6).f1))).trans hx245_0; (try have hy245_0 := fun (n_ : Nat) => (show ((((w57.drewN n_).setCell ⟨gb244, 0, none⟩ (.int .i64 ((rd_T32 l1 x109_6).f0))).setCell ⟨gb244, 1, none⟩ (.int .i64 ((rd_T32 l1 x109_6).f1)))).cell? _ = some _ from hx245_0)); clear hn245_0; clear hn245_1; replace p245 := eq_true p245; replace q245 := eq_true q245; have hcz61_0 : w57.cell? ⟨gb240, 0, none⟩ = some (.int .i64 ((rd_T32 l1 x82_4).f0)) := (blk_cell BK240.out 0).trans rfl; have hcz61_1 : w57.cell? ⟨gb240, 1, none⟩ = some (.int .i64 ((rd_T32 l1 x82_4).f1)) := (blk_cell BK240.out 1).trans rfl; have hfz61_0 := blk_frozen BK240.out 0; have hfz61_1 := blk_frozen BK240.out 1; have p246 : 0 ≤ (x109_6 : Int) := of_decide_eq_true (by first | (with_reducible assumption) | assumption); have q246 : x109_6 < (t229.length : Int) := of_decide_eq_true (by first | (with_reducible assumption) | assumption); obtain ⟨ad246, e246, hx246_0⟩ := Kd.at_int (Kd.R_reads' HO_5.out).2.2 x109_6 p246 q246; obtain rfl : ad245 = ad246 := (by injection e246); have hn246_0 : ad245.block ≠ gb244 := Kd.own_blk (Kd.R_ne HO_5.out BK244.out (by decide)); have hn246_1 : ad245.block ≠ gb244 := Kd.own_blk (Kd.R_ne HO_5.out BK244.out (by decide)); replace hx246_0 := (cell_far (p := ⟨gb244, 0, none⟩) (by first | (rw [add_block]; exact hn246_0) | (show (Addr.add _ _).block ≠ _; rw [add_block]; exact hn246_0) | exact hn246_0) (.int .i64 ((rd_T32 l1 x109_6).f0))).trans hx246_0; replace hx246_0 := (cell_far (p := ⟨gb244, 1, none⟩) (by first | (rw [add_block]; exact hn246_1) | (show (Addr.add _ _).block ≠ _; rw [add_block]; exact hn246_1) | exact hn246_1) (.int .i64 ((rd_T32 l1 x109_6).f1))).trans hx246_0; (try have hy246_0 := fun (n_ : Nat) => (show ((((w57.drewN n_).setCell ⟨gb244, 0, none⟩ (.int .i64 ((rd_T32 l1 x109_6).f0))).setCell ⟨gb244, 1, none⟩ (.int .i64 ((rd_T32 l1 x109_6).f1)))).cell? _ = some _ from hx246_0)); clear hn246_0; clear hn246_1; replace p246 := eq_true p246; replace q246 := eq_true q246; have p247 : 0 ≤ (x82_4 : Int) := of_decide_eq_true (by first | (with_reducible assumption) | assumption); have q247 : x82_4 < (t229.length : Int) := of_decide_eq_true (by first | (with_reducible assumption) | assumption); obtain ⟨ad247, e247, hx247_0⟩ := Kd.at_int (Kd.R_reads' HO_5.out).2.2 x82_4 p247 q247; obtain rfl : ad245 = ad247 := (by injection e247); have hn247_0 : ad245.block ≠ gb244 := Kd.own_blk (Kd.R_ne HO_5.out BK244.out (by decide)); have hn247_1 : ad245.block ≠ gb244 := Kd.own_blk (Kd.R_ne HO_5.out BK244.out (by decide)); replace hx247_0 := (cell_far (p := ⟨gb244, 0, none⟩) (by first | (rw [add_block]; exact hn247_0) | (show (Addr.add _ _).block ≠ _; rw [add_block]; exact hn247_0) | exact hn247_0) (.int .i64 ((rd_T32 l1 x109_6).f0))).trans hx247_0; replace hx247_0 := (cell_far (p := ⟨gb244, 1, none⟩) (by first | (rw [add_block]; exact hn247_1) | (show (Addr.add _ _).block ≠ _; rw [add_block]; exact hn247_1) | exact hn247_1) (.int .i64 ((rd_T32 l1 x109_6).f1))).trans hx247_0; (try have hy247_0 := fun (n_ : Nat) => (show ((((w57.drewN n_).setCell ⟨gb244, 0, none⟩ (.int .i64 ((rd_T32 l1 x109_6).f0))).setCell ⟨gb244, 1, none⟩ (.int .i64 ((rd_T32 l1 x109_6).f1)))).cell? _ = some _ from hx247_0)); clear hn247_0; clear hn247_1; replace p247 := eq_true p247; replace q247 := eq_true q247)); try go_wp2_with (first | ((with_reducible refine gate_dst (N := 14) rfl ?_); (try (refine gate_guard (by rfl) ?_; dsimp only)); refine box_event ?hg (N := 14) ?hd (cs := #[.int .i64 0, .int .i64 0]) (t := 32) ?hr ?_; (case hd => rfl); (case hg => rfl); (case hr => first | (go_simp; done) | (go_simp; rfl)); intro gb244 hg w57 hbox hb; have n0_ := Aside0.mk (Kd.R_below (by (with_reducible repeat (first | apply Kd.R_alloc | apply Kd.R_drewN | apply Kd.R_drew)); exact HO_5.out) hb); have n1_ := Aside0.mk (blk_below (g := gb240) (o := .cells #[.int .i64 ((rd_T32 l1 x82_4).f0), .int .i64 ((rd_T32 l1 x82_4).f1)] 32 (0, 0)) (by (with_reducible repeat (first | refine blk_drewN ?_ _ | refine blk_drew ?_ | refine blk_alloc ?_ _)); exact BK240.out) hb); have n2_ := Aside0.mk (below_step (by repeat (first | (with_reducible first | exact HB.out | apply below_alloc | apply pw_below_drewN | apply below_drew1 | refine below_set ?_ GE240.out) | exact HB.out)) hb); have n3_ := Aside0.mk (hbox); have n4_ := Aside0.mk ((by rw [hg]; exact (below_size (by repeat (first | (with_reducible first | exact HB.out | apply below_alloc | apply pw_below_drewN | apply below_drew1 | refine below_set ?_ GE240.out) | exact HB.out))) : w.heap.size ≤ gb244)); have n5_ := Aside0.mk ((by rw [hg]; exact (below_size (by repeat (first | (with_reducible first | exact HB.out | apply below_alloc | apply pw_below_drewN | apply below_drew1 | refine below_set ?_ GE240.out) | exact HB.out))) : w.heap.size ≤ gb244)); have n6_ := Aside0.mk ((by rw [hg]; exact Nat.ne_of_lt (blk_lt (g := gb240) (o := .cells #[.int .i64 ((rd_T32 l1 x82_4).f0), .int .i64 ((rd_T32 l1 x82_4).f1)] 32 (0, 0)) (by (with_reducible repeat (first | refine blk_drewN ?_ _ | refine blk_drew ?_ | refine blk_alloc ?_ _)); exact BK240.out)) : gb240 ≠ gb244)); have n7_ := Aside0.mk ((by rw [hg]; exact Nat.ne_of_gt (blk_lt (g := gb240) (o := .cells #[.int .i64 ((rd_T32 l1 x82_4).f0), .int .i64 ((rd_T32 l1 x82_4).f1)] 32 (0, 0)) (by (with_reducible repeat (first | refine blk_drewN ?_ _ | refine blk_drew ?_ | refine blk_alloc ?_ _)); exact BK240.out)) : gb244 ≠ gb240)); clear HO_5; clear BK240; clear HB; have HO_5 := n0_; have BK240 := n1_; have HB := n2_; have BK244 := n3_; have GW244 := n4_; have GE244 := n5_; have NB240_244 := n6_; have NB244_240 := n7_; clear n0_ n1_ n2_ n3_ n4_ n5_ n6_ n7_; clear hb hbox hg; have hnb58 := NB244_240.out; have hnc58 := NB240_244.out; have hcz59_0 : w57.cell? ⟨gb244, 0, none⟩ = some (.int .i64 0) := (blk_cell BK244.out 0).trans rfl; have hcz59_1 : w57.cell? ⟨gb244, 1, none⟩ = some (.int .i64 0) := (blk_cell BK244.out 1).trans rfl; have hfz59_0 := blk_frozen BK244.out 0; have hfz59_1 := blk_frozen BK244.out 1; obtain ⟨Ao60, co60, eo60⟩ := Kd.R_slice HO_5.out; subst eo60; have p245 : 0 ≤ (x82_4 : Int) := of_decide_eq_true (by first | (with_reducible assumption) | assumption); have q245 : x82_4 < (t229.length : Int) := of_decide_eq_true (by first | (with_reducible assumption) | assumption); obtain ⟨ad245, e245, hx245_0⟩ := Kd.at_int (Kd.R_reads' HO_5.out).2.2 x82_4 p245 q245; cases e245; have hn245_0 : ad245.block ≠ gb244 := Kd.own_blk (Kd.R_ne HO_5.out BK244.out (by decide)); have hn245_1 : ad245.block ≠ gb244 := Kd.own_blk (Kd.R_ne HO_5.out BK244.out (by decide)); replace hx245_0 := (cell_far (p := ⟨gb244, 0, none⟩) (by first | (rw [add_block]; exact hn245_0) | (show (Addr.add _ _).block ≠ _; rw [add_block]; exact hn245_0) | exact hn245_0) (.int .i64 ((rd_T32 l1 x109_6).f0))).trans hx245_0; replace hx245_0 := (cell_far (p := ⟨gb244, 1, none⟩) (by first | (rw [add_block]; exact hn245_1) | (show (Addr.add _ _).block ≠ _; rw [add_block]; exact hn245_1) | exact hn245_1) (.int .i64 ((rd_T32 l1 x109_6).f1))).trans hx245_0; (try have hy245_0 := fun (n_ : Nat) => (show ((((w57.drewN n_).setCell ⟨gb244, 0, none⟩ (.int .i64 ((rd_T32 l1 x109_6).f0))).setCell ⟨gb244, 1, none⟩ (.int .i64 ((rd_T32 l1 x109_6).f1)))).cell? _ = some _ from hx245_0)); clear hn245_0; clear hn245_1; replace p245 := eq_true p245; replace q245 := eq_true q245; have hcz61_0 : w57.cell? ⟨gb240, 0, none⟩ = some (.int .i64 ((rd_T32 l1 x82_4).f0)) := (blk_cell BK240.out 0).trans rfl; have hcz61_1 : w57.cell? ⟨gb240, 1, none⟩ = some (.int .i64 ((rd_T32 l1 x82_4).f1)) := (blk_cell BK240.out 1).trans rfl; have hfz61_0 := blk_frozen BK240.out 0; have hfz61_1 := blk_frozen BK240.out 1; have p246 : 0 ≤ (x109_6 : Int) := of_decide_eq_true (by first | (with_reducible assumption) | assumption); have q246 : x109_6 < (t229.length : Int) := of_decide_eq_true (by first | (with_reducible assumption) | assumption); obtain ⟨ad246, e246, hx246_0⟩ := Kd.at_int (Kd.R_reads' HO_5.out).2.2 x109_6 p246 q246; obtain rfl : ad245 = ad246 := (by injection e246); have hn246_0 : ad245.block ≠ gb244 := Kd.own_blk (Kd.R_ne HO_5.out BK244.out (by decide)); have hn246_1 : ad245.block ≠ gb244 := Kd.own_blk (Kd.R_ne HO_5.out BK244.out (by decide)); replace hx246_0 := (cell_far (p := ⟨gb244, 0, none⟩) (by first | (rw [add_block]; exact hn246_0) | (show (Addr.add _ _).block ≠ _; rw [add_block]; exact hn246_0) | exact hn246_0) (.int .i64 ((rd_T32 l1 x109_6).f0))).trans hx246_0; replace hx246_0 := (cell_far (p := ⟨gb244, 1, none⟩) (by first | (rw [add_block]; exact hn246_1) | (show (Addr.add _ _).block ≠ _; rw [add_block]; exact hn246_1) | exact hn246_1) (.int .i64 ((rd_T32 l1 x109_6).f1))).trans hx246_0; (try have hy246_0 := fun (n_ : Nat) => (show ((((w57.drewN n_).setCell ⟨gb244, 0, none⟩ (.int .i64 ((rd_T32 l1 x109_6).f0))).setCell ⟨gb244, 1, none⟩ (.int .i64 ((rd_T32 l1 x109_6).f1)))).cell? _ = some _ from hx246_0)); clear hn246_0; clear hn246_1; replace p246 := eq_true p246; replace q246 := eq_true q246; have p247 : 0 ≤ (x82_4 : Int) := of_decide_eq_true (by first | (with_reducible assumption) | assumption); have q247 : x82_4 < (t229.length : Int) := of_decide_eq_true (by first | (with_reducible assumption) | assumption); obtain ⟨ad247, e247, hx247_0⟩ := Kd.at_int (Kd.R_reads' HO_5.out).2.2 x82_4 p247 q247; obtain rfl : ad245 = ad247 := (by injection e247); have hn247_0 : ad245.block ≠ gb244 := Kd.own_blk (Kd.R_ne HO_5.out BK244.out (by decide)); have hn247_1 : ad245.block ≠ gb244 := Kd.own_blk (Kd.R_ne HO_5.out BK244.out (by decide)); replace hx247_0 := (cell_far (p := ⟨gb244, 0, none⟩) (by first | (rw [add_block]; exact hn247_0) | (show (Addr.add _ _).block ≠ _; rw [add_block]; exact hn247_0) | exact hn247_0) (.int .i64 ((rd_T32 l1 x109_6).f0))).trans hx247_0; replace hx247_0 := (cell_far (p := ⟨gb244, 1, none⟩) (by first | (rw [add_block]; exact hn247_1) | (show (Addr.add _ _).block ≠ _; rw [add_block]; exact hn247_1) | exact hn247_1) (.int .i64 ((rd_T32 l1 x109_6).f1))).trans hx247_0; (try have hy247_0 := fun (n_ : Nat) => (show ((((w57.drewN n_).setCell ⟨gb244, 0, none⟩ (.int .i64 ((rd_T32 l1 x109_6).f0))).setCell ⟨gb244, 1, none⟩ (.int .i64 ((rd_T32 l1 x109_6).f1)))).cell? _ = some _ from hx247_0)); clear hn247_0; clear hn247_1; replace p247 := eq_true p247; replace q247 := eq_true q247)))
                                                        go_ret
                                                        exact ⟨by first | rfl | (simp [errW_none, errW_some] <;> rfl) | (simp [*, errW_none, errW_some] <;> rfl), by repeat (first | (with_reducible first | exact HB.out | apply below_alloc | apply pw_below_drewN | apply below_drew1 | refine below_set ?_ GE240.out | refine below_set ?_ GE244.out) | exact HB.out)⟩
                                                      · rw [if_neg c56] at H
                                                        have c56b0 : decide ((wrap64 ((wrap64 ((rd t229 x82_4) + ((rd_T32 l1 x82_4).f0))) * ((rd_T32 l1 x109_6).f0))) < (wrap64 ((rd t229 x109_6) * ((rd_T32 l1 x82_4).f0)))) = false := decide_eq_false c56
                                                        clear c56
                                                        have H' := Aside0.mk H
                                                        clear H
                                                        have p243 : 0 ≤ (x109_6 : Int) := of_decide_eq_true (by first | (with_reducible assumption) | assumption)
                                                        have q243 : x109_6 < (l1.length : Int) := of_decide_eq_true (by first | (with_reducible assumption) | assumption)
                                                        obtain ⟨ad243, e243, hx243_0, hx243_1⟩ := at_T32 HR1.out x109_6 p243 q243
                                                        obtain rfl : ad239 = ad243 := (by injection e243)
                                                        replace hx243_0 := (HB.out.cell (World.block_lt_of_cell? w _ hx243_0)).trans hx243_0
                                                        replace hx243_1 := (HB.out.cell (World.block_lt_of_cell? w _ hx243_1)).trans hx243_1
                                                        replace p243 := eq_true p243
                                                        replace q243 := eq_true q243
                                                        go_wp2_with (first | ((with_reducible refine gate_dst (N := 14) rfl ?_); (try (refine gate_guard (by rfl) ?_; dsimp only)); refine box_event ?hg (N := 14) ?hd (cs := #[.int .i64 0, .int .i64 0]) (t := 32) ?hr ?_; (case hd => rfl); (case hg => rfl); (case hr => first | (go_simp; done) | (go_simp; rfl)); intro gb244 hg w62 hbox hb; have n0_ := Aside0.mk (Kd.R_below (by (with_reducible repeat (first | apply Kd.R_alloc | apply Kd.R_drewN | apply Kd.R_drew)); exact HO_5.out) hb); have n1_ := Aside0.mk (blk_below (g := gb240) (o := .cells #[.int .i64 ((rd_T32 l1 x82_4).f0), .int .i64 ((rd_T32 l1 x82_4).f1)] 32 (0, 0)) (by (with_reducible repeat (first | refine blk_drewN ?_ _ | refine blk_drew ?_ | refine blk_alloc ?_ _)); exact BK240.out) hb); have n2_ := Aside0.mk (below_step (by repeat (first | (with_reducible first | exact HB.out | apply below_alloc | apply pw_below_drewN | apply below_drew1 | refine below_set ?_ GE240.out) | exact HB.out)) hb); have n3_ := Aside0.mk (hbox); have n4_ := Aside0.mk ((by rw [hg]; exact (below_size (by repeat (first | (with_reducible first | exact HB.out | apply below_alloc | apply pw_below_drewN | apply below_drew1 | refine below_set ?_ GE240.out) | exact HB.out))) : w.heap.size ≤ gb244)); have n5_ := Aside0.mk ((by rw [hg]; exact (below_size (by repeat (first | (with_reducible first | exact HB.out | apply below_alloc | apply pw_below_drewN | apply below_drew1 | refine below_set ?_ GE240.out) | exact HB.out))) : w.heap.size ≤ gb244)); have n6_ := Aside0.mk ((by rw [hg]; exact Nat.ne_of_lt (blk_lt (g := gb240) (o := .cells #[.int .i64 ((rd_T32 l1 x82_4).f0), .int .i64 ((rd_T32 l1 x82_4).f1)] 32 (0, 0)) (by (with_reducible repeat (first | refine blk_drewN ?_ _ | refine blk_drew ?_ | refine blk_alloc ?_ _)); exact BK240.out)) : gb240 ≠ gb244)); have n7_ := Aside0.mk ((by rw [hg]; exact Nat.ne_of_gt (blk_lt (g := gb240) (o := .cells #[.int .i64 ((rd_T32 l1 x82_4).f0), .int .i64 ((rd_T32 l1 x82_4).f1)] 32 (0, 0)) (by (with_reducible repeat (first | refine blk_drewN ?_ _ | refine blk_drew ?_ | refine blk_alloc ?_ _)); exact BK240.out)) : gb244 ≠ gb240)); clear HO_5; clear BK240; clear HB; have HO_5 := n0_; have BK240 := n1_; have HB := n2_; have BK244 := n3_; have GW244 := n4_; have GE244 := n5_; have NB240_244 := n6_; have NB244_240 := n7_; clear n0_ n1_ n2_ n3_ n4_ n5_ n6_ n7_; clear hb hbox hg; have hnb63 := NB244_240.out; have hnc63 := NB240_244.out; have hcz64_0 : w62.cell? ⟨gb244, 0, none⟩ = some (.int .i64 0) := (blk_cell BK244.out 0).trans rfl; have hcz64_1 : w62.cell? ⟨gb244, 1, none⟩ = some (.int .i64 0) := (blk_cell BK244.out 1).trans rfl; have hfz64_0 := blk_frozen BK244.out 0; have hfz64_1 := blk_frozen BK244.out 1; obtain ⟨Ao65, co65, eo65⟩ := Kd.R_slice HO_5.out; subst eo65; have p245 : 0 ≤ (x82_4 : Int) := of_decide_eq_true (by first | (with_reducible assumption) | assumption); have q245 : x82_4 < (t229.length : Int) := of_decide_eq_true (by first | (with_reducible assumption) | assumption); obtain ⟨ad245, e245, hx245_0⟩ := Kd.at_int (Kd.R_reads' HO_5.out).2.2 x82_4 p245 q245; cases e245; have hn245_0 : ad245.block ≠ gb244 := Kd.own_blk (Kd.R_ne HO_5.out BK244.out (by decide)); have hn245_1 : ad245.block ≠ gb244 := Kd.own_blk (Kd.R_ne HO_5.out BK244.out (by decide)); replace hx245_0 := (cell_far (p := ⟨gb244, 0, none⟩) (by first | (rw [add_block]; exact hn245_0) | (show (Addr.add _ _).block ≠ _; rw [add_block]; exact hn245_0) | exact hn245_0) (.int .i64 ((rd_T32 l1 x109_6).f0))).trans hx245_0; replace hx245_0 := (cell_far (p := ⟨gb244, 1, none⟩) (by first | (rw [add_block]; exact hn245_1) | (show (Addr.add _ _).block ≠ _; rw [add_block]; exact hn245_1) | exact hn245_1) (.int .i64 ((rd_T32 l1 x109_6).f1))).trans hx245_0; (try have hy245_0 := fun (n_ : Nat) => (show ((((w62.drewN n_).setCell ⟨gb244, 0, none⟩ (.int .i64 ((rd_T32 l1 x109_6).f0))).setCell ⟨gb244, 1, none⟩ (.int .i64 ((rd_T32 l1 x109_6).f1)))).cell? _ = some _ from hx245_0)); clear hn245_0; clear hn245_1; replace p245 := eq_true p245; replace q245 := eq_true q245; have hcz66_0 : w62.cell? ⟨gb240, 0, none⟩ = some (.int .i64 ((rd_T32 l1 x82_4).f0)) := (blk_cell BK240.out 0).trans rfl; have hcz66_1 : w62.cell? ⟨gb240, 1, none⟩ = some (.int .i64 ((rd_T32 l1 x82_4).f1)) := (blk_cell BK240.out 1).trans rfl; have hfz66_0 := blk_frozen BK240.out 0; have hfz66_1 := blk_frozen BK240.out 1; have p246 : 0 ≤ (x109_6 : Int) := of_decide_eq_true (by first | (with_reducible assumption) | assumption); have q246 : x109_6 < (t229.length : Int) := of_decide_eq_true (by first | (with_reducible assumption) | assumption); obtain ⟨ad246, e246, hx246_0⟩ := Kd.at_int (Kd.R_reads' HO_5.out).2.2 x109_6 p246 q246; obtain rfl : ad245 = ad246 := (by injection e246); have hn246_0 : ad245.block ≠ gb244 := Kd.own_blk (Kd.R_ne HO_5.out BK244.out (by decide)); have hn246_1 : ad245.block ≠ gb244 := Kd.own_blk (Kd.R_ne HO_5.out BK244.out (by decide)); replace hx246_0 := (cell_far (p := ⟨gb244, 0, none⟩) (by first | (rw [add_block]; exact hn246_0) | (show (Addr.add _ _).block ≠ _; rw [add_block]; exact hn246_0) | exact hn246_0) (.int .i64 ((rd_T32 l1 x109_6).f0))).trans hx246_0; replace hx246_0 := (cell_far (p := ⟨gb244, 1, none⟩) (by first | (rw [add_block]; exact hn246_1) | (show (Addr.add _ _).block ≠ _; rw [add_block]; exact hn246_1) | exact hn246_1) (.int .i64 ((rd_T32 l1 x109_6).f1))).trans hx246_0; (try have hy246_0 := fun (n_ : Nat) => (show ((((w62.drewN n_).setCell ⟨gb244, 0, none⟩ (.int .i64 ((rd_T32 l1 x109_6).f0))).setCell ⟨gb244, 1, none⟩ (.int .i64 ((rd_T32 l1 x109_6).f1)))).cell? _ = some _ from hx246_0)); clear hn246_0; clear hn246_1; replace p246 := eq_true p246; replace q246 := eq_true q246; have p247 : 0 ≤ (x82_4 : Int) := of_decide_eq_true (by first | (with_reducible assumption) | assumption); have q247 : x82_4 < (t229.length : Int) := of_decide_eq_true (by first | (with_reducible assumption) | assumption); obtain ⟨ad247, e247, hx247_0⟩ := Kd.at_int (Kd.R_reads' HO_5.out).2.2 x82_4 p247 q247; obtain rfl : ad245 = ad247 := (by injection e247); have hn247_0 : ad245.block ≠ gb244 := Kd.own_blk (Kd.R_ne HO_5.out BK244.out (by decide)); have hn247_1 : ad245.block ≠ gb244 := Kd.own_blk (Kd.R_ne HO_5.out BK244.out (by decide)); replace hx247_0 := (cell_far (p := ⟨gb244, 0, none⟩) (by first | (rw [add_block]; exact hn247_0) | (show (Addr.add _ _).block ≠ _; rw [add_block]; exact hn247_0) | exact hn247_0) (.int .i64 ((rd_T32 l1 x109_6).f0))).trans hx247_0; replace hx247_0 := (cell_far (p := ⟨gb244, 1, none⟩) (by first | (rw [add_block]; exact hn247_1) | (show (Addr.add _ _).block ≠ _; rw [add_block]; exact hn247_1) | exact hn247_1) (.int .i64 ((rd_T32 l1 x109_6).f1))).trans hx247_0; (try have hy247_0 := fun (n_ : Nat) => (show ((((w62.drewN n_).setCell ⟨gb244, 0, none⟩ (.int .i64 ((rd_T32 l1 x109_6).f0))).setCell ⟨gb244, 1, none⟩ (.int .i64 ((rd_T32 l1 x109_6).f1)))).cell? _ = some _ from hx247_0)); clear hn247_0; clear hn247_1; replace p247 := eq_true p247; replace q247 := eq_true q247))
                                                        repeat (go_quiet (first | ((with_reducible refine gate_dst (N := 14) rfl ?_); (try (refine gate_guard (by rfl) ?_; dsimp only)); refine box_event ?hg (N := 14) ?hd (cs := #[.int .i64 0, .int .i64 0]) (t := 32) ?hr ?_; (case hd => rfl); (case hg => rfl); (case hr => first | (go_simp; done) | (go_simp; rfl)); intro gb244 hg w62 hbox hb; have n0_ := Aside0.mk (Kd.R_below (by (with_reducible repeat (first | apply Kd.R_alloc | apply Kd.R_drewN | apply Kd.R_drew)); exact HO_5.out) hb); have n1_ := Aside0.mk (blk_below (g := gb240) (o := .cells #[.int .i64 ((rd_T32 l1 x82_4).f0), .int .i64 ((rd_T32 l1 x82_4).f1)] 32 (0, 0)) (by (with_reducible repeat (first | refine blk_drewN ?_ _ | refine blk_drew ?_ | refine blk_alloc ?_ _)); exact BK240.out) hb); have n2_ := Aside0.mk (below_step (by repeat (first | (with_reducible first | exact HB.out | apply below_alloc | apply pw_below_drewN | apply below_drew1 | refine below_set ?_ GE240.out) | exact HB.out)) hb); have n3_ := Aside0.mk (hbox); have n4_ := Aside0.mk ((by rw [hg]; exact (below_size (by repeat (first | (with_reducible first | exact HB.out | apply below_alloc | apply pw_below_drewN | apply below_drew1 | refine below_set ?_ GE240.out) | exact HB.out))) : w.heap.size ≤ gb244)); have n5_ := Aside0.mk ((by rw [hg]; exact (below_size (by repeat (first | (with_reducible first | exact HB.out | apply below_alloc | apply pw_below_drewN | apply below_drew1 | refine below_set ?_ GE240.out) | exact HB.out))) : w.heap.size ≤ gb244)); have n6_ := Aside0.mk ((by rw [hg]; exact Nat.ne_of_lt (blk_lt (g := gb240) (o := .cells #[.int .i64 ((rd_T32 l1 x82_4).f0), .int .i64 ((rd_T32 l1 x82_4).f1)] 32 (0, 0)) (by (with_reducible repeat (first | refine blk_drewN ?_ _ | refine blk_drew ?_ | refine blk_alloc ?_ _)); exact BK240.out)) : gb240 ≠ gb244)); have n7_ := Aside0.mk ((by rw [hg]; exact Nat.ne_of_gt (blk_lt (g := gb240) (o := .cells #[.int .i64 ((rd_T32 l1 x82_4).f0), .int .i64 ((rd_T32 l1 x82_4).f1)] 32 (0, 0)) (by (with_reducible repeat (first | refine blk_drewN ?_ _ | refine blk_drew ?_ | refine blk_alloc ?_ _)); exact BK240.out)) : gb244 ≠ gb240)); clear HO_5; clear BK240; clear HB; have HO_5 := n0_; have BK240 := n1_; have HB := n2_; have BK244 := n3_; have GW244 := n4_; have GE244 := n5_; have NB240_244 := n6_; have NB244_240 := n7_; clear n0_ n1_ n2_ n3_ n4_ n5_ n6_ n7_; clear hb hbox hg; have hnb63 := NB244_240.out; have hnc63 := NB240_244.out; have hcz64_0 : w62.cell? ⟨gb244, 0, none⟩ = some (.int .i64 0) := (blk_cell BK244.out 0).trans rfl; have hcz64_1 : w62.cell? ⟨gb244, 1, none⟩ = some (.int .i64 0) := (blk_cell BK244.out 1).trans rfl; have hfz64_0 := blk_frozen BK244.out 0; have hfz64_1 := blk_frozen BK244.out 1; obtain ⟨Ao65, co65, eo65⟩ := Kd.R_slice HO_5.out; subst eo65; have p245 : 0 ≤ (x82_4 : Int) := of_decide_eq_true (by first | (with_reducible assumption) | assumption); have q245 : x82_4 < (t229.length : Int) := of_decide_eq_true (by first | (with_reducible assumption) | assumption); obtain ⟨ad245, e245, hx245_0⟩ := Kd.at_int (Kd.R_reads' HO_5.out).2.2 x82_4 p245 q245; cases e245; have hn245_0 : ad245.block ≠ gb244 := Kd.own_blk (Kd.R_ne HO_5.out BK244.out (by decide)); have hn245_1 : ad245.block ≠ gb244 := Kd.own_blk (Kd.R_ne HO_5.out BK244.out (by decide)); replace hx245_0 := (cell_far (p := ⟨gb244, 0, none⟩) (by first | (rw [add_block]; exact hn245_0) | (show (Addr.add _ _).block ≠ _; rw [add_block]; exact hn245_0) | exact hn245_0) (.int .i64 ((rd_T32 l1 x109_6).f0))).trans hx245_0; replace hx245_0 := (cell_far (p := ⟨gb244, 1, none⟩) (by first | (rw [add_block]; exact hn245_1) | (show (Addr.add _ _).block ≠ _; rw [add_block]; exact hn245_1) | exact hn245_1) (.int .i64 ((rd_T32 l1 x109_6).f1))).trans hx245_0; (try have hy245_0 := fun (n_ : Nat) => (show ((((w62.drewN n_).setCell ⟨gb244, 0, none⟩ (.int .i64 ((rd_T32 l1 x109_6).f0))).setCell ⟨gb244, 1, none⟩ (.int .i64 ((rd_T32 l1 x109_6).f1)))).cell? _ = some _ from hx245_0)); clear hn245_0; clear hn245_1; replace p245 := eq_true p245; replace q245 := eq_true q245; have hcz66_0 : w62.cell? ⟨gb240, 0, none⟩ = some (.int .i64 ((rd_T32 l1 x82_4).f0)) := (blk_cell BK240.out 0).trans rfl; have hcz66_1 : w62.cell? ⟨gb240, 1, none⟩ = some (.int .i64 ((rd_T32 l1 x82_4).f1)) := (blk_cell BK240.out 1).trans rfl; have hfz66_0 := blk_frozen BK240.out 0; have hfz66_1 := blk_frozen BK240.out 1; have p246 : 0 ≤ (x109_6 : Int) := of_decide_eq_true (by first | (with_reducible assumption) | assumption); have q246 : x109_6 < (t229.length : Int) := of_decide_eq_true (by first | (with_reducible assumption) | assumption); obtain ⟨ad246, e246, hx246_0⟩ := Kd.at_int (Kd.R_reads' HO_5.out).2.2 x109_6 p246 q246; obtain rfl : ad245 = ad246 := (by injection e246); have hn246_0 : ad245.block ≠ gb244 := Kd.own_blk (Kd.R_ne HO_5.out BK244.out (by decide)); have hn246_1 : ad245.block ≠ gb244 := Kd.own_blk (Kd.R_ne HO_5.out BK244.out (by decide)); replace hx246_0 := (cell_far (p := ⟨gb244, 0, none⟩) (by first | (rw [add_block]; exact hn246_0) | (show (Addr.add _ _).block ≠ _; rw [add_block]; exact hn246_0) | exact hn246_0) (.int .i64 ((rd_T32 l1 x109_6).f0))).trans hx246_0; replace hx246_0 := (cell_far (p := ⟨gb244, 1, none⟩) (by first | (rw [add_block]; exact hn246_1) | (show (Addr.add _ _).block ≠ _; rw [add_block]; exact hn246_1) | exact hn246_1) (.int .i64 ((rd_T32 l1 x109_6).f1))).trans hx246_0; (try have hy246_0 := fun (n_ : Nat) => (show ((((w62.drewN n_).setCell ⟨gb244, 0, none⟩ (.int .i64 ((rd_T32 l1 x109_6).f0))).setCell ⟨gb244, 1, none⟩ (.int .i64 ((rd_T32 l1 x109_6).f1)))).cell? _ = some _ from hx246_0)); clear hn246_0; clear hn246_1; replace p246 := eq_true p246; replace q246 := eq_true q246; have p247 : 0 ≤ (x82_4 : Int) := of_decide_eq_true (by first | (with_reducible assumption) | assumption); have q247 : x82_4 < (t229.length : Int) := of_decide_eq_true (by first | (with_reducible assumption) | assumption); obtain ⟨ad247, e247, hx247_0⟩ := Kd.at_int (Kd.R_reads' HO_5.out).2.2 x82_4 p247 q247; obtain rfl : ad245 = ad247 := (by injection e247); have hn247_0 : ad245.block ≠ gb244 := Kd.own_blk (Kd.R_ne HO_5.out BK244.out (by decide)); have hn247_1 : ad245.block ≠ gb244 := Kd.own_blk (Kd.R_ne HO_5.out BK244.out (by decide)); replace hx247_0 := (cell_far (p := ⟨gb244, 0, none⟩) (by first | (rw [add_block]; exact hn247_0) | (show (Addr.add _ _).block ≠ _; rw [add_block]; exact hn247_0) | exact hn247_0) (.int .i64 ((rd_T32 l1 x109_6).f0))).trans hx247_0; replace hx247_0 := (cell_far (p := ⟨gb244, 1, none⟩) (by first | (rw [add_block]; exact hn247_1) | (show (Addr.add _ _).block ≠ _; rw [add_block]; exact hn247_1) | exact hn247_1) (.int .i64 ((rd_T32 l1 x109_6).f1))).trans hx247_0; (try have hy247_0 := fun (n_ : Nat) => (show ((((w62.drewN n_).setCell ⟨gb244, 0, none⟩ (.int .i64 ((rd_T32 l1 x109_6).f0))).setCell ⟨gb244, 1, none⟩ (.int .i64 ((rd_T32 l1 x109_6).f1)))).cell? _ = some _ from hx247_0)); clear hn247_0; clear hn247_1; replace p247 := eq_true p247; replace q247 := eq_true q247)); try go_wp2_with (first | ((with_reducible refine gate_dst (N := 14) rfl ?_); (try (refine gate_guard (by rfl) ?_; dsimp only)); refine box_event ?hg (N := 14) ?hd (cs := #[.int .i64 0, .int .i64 0]) (t := 32) ?hr ?_; (case hd => rfl); (case hg => rfl); (case hr => first | (go_simp; done) | (go_simp; rfl)); intro gb244 hg w62 hbox hb; have n0_ := Aside0.mk (Kd.R_below (by (with_reducible repeat (first | apply Kd.R_alloc | apply Kd.R_drewN | apply Kd.R_drew)); exact HO_5.out) hb); have n1_ := Aside0.mk (blk_below (g := gb240) (o := .cells #[.int .i64 ((rd_T32 l1 x82_4).f0), .int .i64 ((rd_T32 l1 x82_4).f1)] 32 (0, 0)) (by (with_reducible repeat (first | refine blk_drewN ?_ _ | refine blk_drew ?_ | refine blk_alloc ?_ _)); exact BK240.out) hb); have n2_ := Aside0.mk (below_step (by repeat (first | (with_reducible first | exact HB.out | apply below_alloc | apply pw_below_drewN | apply below_drew1 | refine below_set ?_ GE240.out) | exact HB.out)) hb); have n3_ := Aside0.mk (hbox); have n4_ := Aside0.mk ((by rw [hg]; exact (below_size (by repeat (first | (with_reducible first | exact HB.out | apply below_alloc | apply pw_below_drewN | apply below_drew1 | refine below_set ?_ GE240.out) | exact HB.out))) : w.heap.size ≤ gb244)); have n5_ := Aside0.mk ((by rw [hg]; exact (below_size (by repeat (first | (with_reducible first | exact HB.out | apply below_alloc | apply pw_below_drewN | apply below_drew1 | refine below_set ?_ GE240.out) | exact HB.out))) : w.heap.size ≤ gb244)); have n6_ := Aside0.mk ((by rw [hg]; exact Nat.ne_of_lt (blk_lt (g := gb240) (o := .cells #[.int .i64 ((rd_T32 l1 x82_4).f0), .int .i64 ((rd_T32 l1 x82_4).f1)] 32 (0, 0)) (by (with_reducible repeat (first | refine blk_drewN ?_ _ | refine blk_drew ?_ | refine blk_alloc ?_ _)); exact BK240.out)) : gb240 ≠ gb244)); have n7_ := Aside0.mk ((by rw [hg]; exact Nat.ne_of_gt (blk_lt (g := gb240) (o := .cells #[.int .i64 ((rd_T32 l1 x82_4).f0), .int .i64 ((rd_T32 l1 x82_4).f1)] 32 (0, 0)) (by (with_reducible repeat (first | refine blk_drewN ?_ _ | refine blk_drew ?_ | refine blk_alloc ?_ _)); exact BK240.out)) : gb244 ≠ gb240)); clear HO_5; clear BK240; clear HB; have HO_5 := n0_; have BK240 := n1_; have HB := n2_; have BK244 := n3_; have GW244 := n4_; have GE244 := n5_; have NB240_244 := n6_; have NB244_240 := n7_; clear n0_ n1_ n2_ n3_ n4_ n5_ n6_ n7_; clear hb hbox hg; have hnb63 := NB244_240.out; have hnc63 := NB240_244.out; have hcz64_0 : w62.cell? ⟨gb244, 0, none⟩ = some (.int .i64 0) := (blk_cell BK244.out 0).trans rfl; have hcz64_1 : w62.cell? ⟨gb244, 1, none⟩ = some (.int .i64 0) := (blk_cell BK244.out 1).trans rfl; have hfz64_0 := blk_frozen BK244.out 0; have hfz64_1 := blk_frozen BK244.out 1; obtain ⟨Ao65, co65, eo65⟩ := Kd.R_slice HO_5.out; subst eo65; have p245 : 0 ≤ (x82_4 : Int) := of_decide_eq_true (by first | (with_reducible assumption) | assumption); have q245 : x82_4 < (t229.length : Int) := of_decide_eq_true (by first | (with_reducible assumption) | assumption); obtain ⟨ad245, e245, hx245_0⟩ := Kd.at_int (Kd.R_reads' HO_5.out).2.2 x82_4 p245 q245; cases e245; have hn245_0 : ad245.block ≠ gb244 := Kd.own_blk (Kd.R_ne HO_5.out BK244.out (by decide)); have hn245_1 : ad245.block ≠ gb244 := Kd.own_blk (Kd.R_ne HO_5.out BK244.out (by decide)); replace hx245_0 := (cell_far (p := ⟨gb244, 0, none⟩) (by first | (rw [add_block]; exact hn245_0) | (show (Addr.add _ _).block ≠ _; rw [add_block]; exact hn245_0) | exact hn245_0) (.int .i64 ((rd_T32 l1 x109_6).f0))).trans hx245_0; replace hx245_0 := (cell_far (p := ⟨gb244, 1, none⟩) (by first | (rw [add_block]; exact hn245_1) | (show (Addr.add _ _).block ≠ _; rw [add_block]; exact hn245_1) | exact hn245_1) (.int .i64 ((rd_T32 l1 x109_6).f1))).trans hx245_0; (try have hy245_0 := fun (n_ : Nat) => (show ((((w62.drewN n_).setCell ⟨gb244, 0, none⟩ (.int .i64 ((rd_T32 l1 x109_6).f0))).setCell ⟨gb244, 1, none⟩ (.int .i64 ((rd_T32 l1 x109_6).f1)))).cell? _ = some _ from hx245_0)); clear hn245_0; clear hn245_1; replace p245 := eq_true p245; replace q245 := eq_true q245; have hcz66_0 : w62.cell? ⟨gb240, 0, none⟩ = some (.int .i64 ((rd_T32 l1 x82_4).f0)) := (blk_cell BK240.out 0).trans rfl; have hcz66_1 : w62.cell? ⟨gb240, 1, none⟩ = some (.int .i64 ((rd_T32 l1 x82_4).f1)) := (blk_cell BK240.out 1).trans rfl; have hfz66_0 := blk_frozen BK240.out 0; have hfz66_1 := blk_frozen BK240.out 1; have p246 : 0 ≤ (x109_6 : Int) := of_decide_eq_true (by first | (with_reducible assumption) | assumption); have q246 : x109_6 < (t229.length : Int) := of_decide_eq_true (by first | (with_reducible assumption) | assumption); obtain ⟨ad246, e246, hx246_0⟩ := Kd.at_int (Kd.R_reads' HO_5.out).2.2 x109_6 p246 q246; obtain rfl : ad245 = ad246 := (by injection e246); have hn246_0 : ad245.block ≠ gb244 := Kd.own_blk (Kd.R_ne HO_5.out BK244.out (by decide)); have hn246_1 : ad245.block ≠ gb244 := Kd.own_blk (Kd.R_ne HO_5.out BK244.out (by decide)); replace hx246_0 := (cell_far (p := ⟨gb244, 0, none⟩) (by first | (rw [add_block]; exact hn246_0) | (show (Addr.add _ _).block ≠ _; rw [add_block]; exact hn246_0) | exact hn246_0) (.int .i64 ((rd_T32 l1 x109_6).f0))).trans hx246_0; replace hx246_0 := (cell_far (p := ⟨gb244, 1, none⟩) (by first | (rw [add_block]; exact hn246_1) | (show (Addr.add _ _).block ≠ _; rw [add_block]; exact hn246_1) | exact hn246_1) (.int .i64 ((rd_T32 l1 x109_6).f1))).trans hx246_0; (try have hy246_0 := fun (n_ : Nat) => (show ((((w62.drewN n_).setCell ⟨gb244, 0, none⟩ (.int .i64 ((rd_T32 l1 x109_6).f0))).setCell ⟨gb244, 1, none⟩ (.int .i64 ((rd_T32 l1 x109_6).f1)))).cell? _ = some _ from hx246_0)); clear hn246_0; clear hn246_1; replace p246 := eq_true p246; replace q246 := eq_true q246; have p247 : 0 ≤ (x82_4 : Int) := of_decide_eq_true (by first | (with_reducible assumption) | assumption); have q247 : x82_4 < (t229.length : Int) := of_decide_eq_true (by first | (with_reducible assumption) | assumption); obtain ⟨ad247, e247, hx247_0⟩ := Kd.at_int (Kd.R_reads' HO_5.out).2.2 x82_4 p247 q247; obtain rfl : ad245 = ad247 := (by injection e247); have hn247_0 : ad245.block ≠ gb244 := Kd.own_blk (Kd.R_ne HO_5.out BK244.out (by decide)); have hn247_1 : ad245.block ≠ gb244 := Kd.own_blk (Kd.R_ne HO_5.out BK244.out (by decide)); replace hx247_0 := (cell_far (p := ⟨gb244, 0, none⟩) (by first | (rw [add_block]; exact hn247_0) | (show (Addr.add _ _).block ≠ _; rw [add_block]; exact hn247_0) | exact hn247_0) (.int .i64 ((rd_T32 l1 x109_6).f0))).trans hx247_0; replace hx247_0 := (cell_far (p := ⟨gb244, 1, none⟩) (by first | (rw [add_block]; exact hn247_1) | (show (Addr.add _ _).block ≠ _; rw [add_block]; exact hn247_1) | exact hn247_1) (.int .i64 ((rd_T32 l1 x109_6).f1))).trans hx247_0; (try have hy247_0 := fun (n_ : Nat) => (show ((((w62.drewN n_).setCell ⟨gb244, 0, none⟩ (.int .i64 ((rd_T32 l1 x109_6).f0))).setCell ⟨gb244, 1, none⟩ (.int .i64 ((rd_T32 l1 x109_6).f1)))).cell? _ = some _ from hx247_0)); clear hn247_0; clear hn247_1; replace p247 := eq_true p247; replace q247 := eq_true q247)))
                                                        go_roundg k6
                                                        case measure => have := HJ2.out; have := HJ11.out; have := HK3.out; have := HK4.out; have := HJ37.out; have := HK6.out; omega
                                                        case rel => exact ⟨(wrap64 (x109_6 + 1)), (by first | rfl | (simp; done) | (simp [*]; done)), H', ⟨by have := HJ2.out; have := HJ11.out; have := HK3.out; have := HK4.out; have := HJ37.out; have := HK6.out; omega⟩, ⟨by (with_reducible repeat (first | apply Kd.R_alloc | apply Kd.R_drewN | apply Kd.R_drew)); exact Kd.R_mono (Kd.R_far (p := ⟨gb244, 1, none⟩) (Kd.R_far (p := ⟨gb244, 0, none⟩) (Kd.R_types HO_5.out BK244.out (by decide)) (fun _ hk => hk.2) (.int .i64 ((rd_T32 l1 x109_6).f0))) (fun _ hk => hk.2) (.int .i64 ((rd_T32 l1 x109_6).f1))) (fun _ hk => trivial)⟩, ⟨by (with_reducible repeat (first | refine blk_drewN ?_ _ | refine blk_drew ?_ | refine blk_alloc ?_ _)); refine blk_far ?_ NB240_244.out _; (with_reducible repeat (first | refine blk_drewN ?_ _ | refine blk_drew ?_ | refine blk_alloc ?_ _)); refine blk_far ?_ NB240_244.out _; (with_reducible repeat (first | refine blk_drewN ?_ _ | refine blk_drew ?_ | refine blk_alloc ?_ _)); exact BK240.out⟩, ⟨by repeat (first | (with_reducible first | exact HB.out | apply below_alloc | apply pw_below_drewN | apply below_drew1 | refine below_set ?_ GE240.out | refine below_set ?_ GE244.out) | exact HB.out)⟩⟩
                                                    · rw [if_neg c55] at H
                                                      exact absurd H (by simp)
                                                  · rw [if_neg c54] at H
                                                    have c54b0 : decide ((rd t229 x82_4) < ((rd_T32 l1 x82_4).f1)) = false := decide_eq_false c54
                                                    clear c54
                                                    have H' := Aside0.mk H
                                                    clear H
                                                    have p243 : 0 ≤ (x109_6 : Int) := of_decide_eq_true (by first | (with_reducible assumption) | assumption)
                                                    have q243 : x109_6 < (l1.length : Int) := of_decide_eq_true (by first | (with_reducible assumption) | assumption)
                                                    obtain ⟨ad243, e243, hx243_0, hx243_1⟩ := at_T32 HR1.out x109_6 p243 q243
                                                    obtain rfl : ad239 = ad243 := (by injection e243)
                                                    replace hx243_0 := (HB.out.cell (World.block_lt_of_cell? w _ hx243_0)).trans hx243_0
                                                    replace hx243_1 := (HB.out.cell (World.block_lt_of_cell? w _ hx243_1)).trans hx243_1
                                                    replace p243 := eq_true p243
                                                    replace q243 := eq_true q243
                                                    go_wp2_with (first | ((with_reducible refine gate_dst (N := 14) rfl ?_); (try (refine gate_guard (by rfl) ?_; dsimp only)); refine box_event ?hg (N := 14) ?hd (cs := #[.int .i64 0, .int .i64 0]) (t := 32) ?hr ?_; (case hd => rfl); (case hg => rfl); (case hr => first | (go_simp; done) | (go_simp; rfl)); intro gb244 hg w67 hbox hb; have n0_ := Aside0.mk (Kd.R_below (by (with_reducible repeat (first | apply Kd.R_alloc | apply Kd.R_drewN | apply Kd.R_drew)); exact HO_5.out) hb); have n1_ := Aside0.mk (blk_below (g := gb240) (o := .cells #[.int .i64 ((rd_T32 l1 x82_4).f0), .int .i64 ((rd_T32 l1 x82_4).f1)] 32 (0, 0)) (by (with_reducible repeat (first | refine blk_drewN ?_ _ | refine blk_drew ?_ | refine blk_alloc ?_ _)); exact BK240.out) hb); have n2_ := Aside0.mk (below_step (by repeat (first | (with_reducible first | exact HB.out | apply below_alloc | apply pw_below_drewN | apply below_drew1 | refine below_set ?_ GE240.out) | exact HB.out)) hb); have n3_ := Aside0.mk (hbox); have n4_ := Aside0.mk ((by rw [hg]; exact (below_size (by repeat (first | (with_reducible first | exact HB.out | apply below_alloc | apply pw_below_drewN | apply below_drew1 | refine below_set ?_ GE240.out) | exact HB.out))) : w.heap.size ≤ gb244)); have n5_ := Aside0.mk ((by rw [hg]; exact (below_size (by repeat (first | (with_reducible first | exact HB.out | apply below_alloc | apply pw_below_drewN | apply below_drew1 | refine below_set ?_ GE240.out) | exact HB.out))) : w.heap.size ≤ gb244)); have n6_ := Aside0.mk ((by rw [hg]; exact Nat.ne_of_lt (blk_lt (g := gb240) (o := .cells #[.int .i64 ((rd_T32 l1 x82_4).f0), .int .i64 ((rd_T32 l1 x82_4).f1)] 32 (0, 0)) (by (with_reducible repeat (first | refine blk_drewN ?_ _ | refine blk_drew ?_ | refine blk_alloc ?_ _)); exact BK240.out)) : gb240 ≠ gb244)); have n7_ := Aside0.mk ((by rw [hg]; exact Nat.ne_of_gt (blk_lt (g := gb240) (o := .cells #[.int .i64 ((rd_T32 l1 x82_4).f0), .int .i64 ((rd_T32 l1 x82_4).f1)] 32 (0, 0)) (by (with_reducible repeat (first | refine blk_drewN ?_ _ | refine blk_drew ?_ | refine blk_alloc ?_ _)); exact BK240.out)) : gb244 ≠ gb240)); clear HO_5; clear BK240; clear HB; have HO_5 := n0_; have BK240 := n1_; have HB := n2_; have BK244 := n3_; have GW244 := n4_; have GE244 := n5_; have NB240_244 := n6_; have NB244_240 := n7_; clear n0_ n1_ n2_ n3_ n4_ n5_ n6_ n7_; clear hb hbox hg; have hnb68 := NB244_240.out; have hnc68 := NB240_244.out; have hcz69_0 : w67.cell? ⟨gb244, 0, none⟩ = some (.int .i64 0) := (blk_cell BK244.out 0).trans rfl; have hcz69_1 : w67.cell? ⟨gb244, 1, none⟩ = some (.int .i64 0) := (blk_cell BK244.out 1).trans rfl; have hfz69_0 := blk_frozen BK244.out 0; have hfz69_1 := blk_frozen BK244.out 1; obtain ⟨Ao70, co70, eo70⟩ := Kd.R_slice HO_5.out; subst eo70; have p245 : 0 ≤ (x82_4 : Int) := of_decide_eq_true (by first | (with_reducible assumption) | assumption); have q245 : x82_4 < (t229.length : Int) := of_decide_eq_true (by first | (with_reducible assumption) | assumption); obtain ⟨ad245, e245, hx245_0⟩ := Kd.at_int (Kd.R_reads' HO_5.out).2.2 x82_4 p245 q245; cases e245; have hn245_0 : ad245.block ≠ gb244 := Kd.own_blk (Kd.R_ne HO_5.out BK244.out (by decide)); have hn245_1 : ad245.block ≠ gb244 := Kd.own_blk (Kd.R_ne HO_5.out BK244.out (by decide)); replace hx245_0 := (cell_far (p := ⟨gb244, 0, none⟩) (by first | (rw [add_block]; exact hn245_0) | (show (Addr.add _ _).block ≠ _; rw [add_block]; exact hn245_0) | exact hn245_0) (.int .i64 ((rd_T32 l1 x109_6).f0))).trans hx245_0; replace hx245_0 := (cell_far (p := ⟨gb244, 1, none⟩) (by first | (rw [add_block]; exact hn245_1) | (show (Addr.add _ _).block ≠ _; rw [add_block]; exact hn245_1) | exact hn245_1) (.int .i64 ((rd_T32 l1 x109_6).f1))).trans hx245_0; (try have hy245_0 := fun (n_ : Nat) => (show ((((w67.drewN n_).setCell ⟨gb244, 0, none⟩ (.int .i64 ((rd_T32 l1 x109_6).f0))).setCell ⟨gb244, 1, none⟩ (.int .i64 ((rd_T32 l1 x109_6).f1)))).cell? _ = some _ from hx245_0)); clear hn245_0; clear hn245_1; replace p245 := eq_true p245; replace q245 := eq_true q245; have hcz71_0 : w67.cell? ⟨gb240, 0, none⟩ = some (.int .i64 ((rd_T32 l1 x82_4).f0)) := (blk_cell BK240.out 0).trans rfl; have hcz71_1 : w67.cell? ⟨gb240, 1, none⟩ = some (.int .i64 ((rd_T32 l1 x82_4).f1)) := (blk_cell BK240.out 1).trans rfl; have hfz71_0 := blk_frozen BK240.out 0; have hfz71_1 := blk_frozen BK240.out 1))
                                                    repeat (go_quiet (first | ((with_reducible refine gate_dst (N := 14) rfl ?_); (try (refine gate_guard (by rfl) ?_; dsimp only)); refine box_event ?hg (N := 14) ?hd (cs := #[.int .i64 0, .int .i64 0]) (t := 32) ?hr ?_; (case hd => rfl); (case hg => rfl); (case hr => first | (go_simp; done) | (go_simp; rfl)); intro gb244 hg w67 hbox hb; have n0_ := Aside0.mk (Kd.R_below (by (with_reducible repeat (first | apply Kd.R_alloc | apply Kd.R_drewN | apply Kd.R_drew)); exact HO_5.out) hb); have n1_ := Aside0.mk (blk_below (g := gb240) (o := .cells #[.int .i64 ((rd_T32 l1 x82_4).f0), .int .i64 ((rd_T32 l1 x82_4).f1)] 32 (0, 0)) (by (with_reducible repeat (first | refine blk_drewN ?_ _ | refine blk_drew ?_ | refine blk_alloc ?_ _)); exact BK240.out) hb); have n2_ := Aside0.mk (below_step (by repeat (first | (with_reducible first | exact HB.out | apply below_alloc | apply pw_below_drewN | apply below_drew1 | refine below_set ?_ GE240.out) | exact HB.out)) hb); have n3_ := Aside0.mk (hbox); have n4_ := Aside0.mk ((by rw [hg]; exact (below_size (by repeat (first | (with_reducible first | exact HB.out | apply below_alloc | apply pw_below_drewN | apply below_drew1 | refine below_set ?_ GE240.out) | exact HB.out))) : w.heap.size ≤ gb244)); have n5_ := Aside0.mk ((by rw [hg]; exact (below_size (by repeat (first | (with_reducible first | exact HB.out | apply below_alloc | apply pw_below_drewN | apply below_drew1 | refine below_set ?_ GE240.out) | exact HB.out))) : w.heap.size ≤ gb244)); have n6_ := Aside0.mk ((by rw [hg]; exact Nat.ne_of_lt (blk_lt (g := gb240) (o := .cells #[.int .i64 ((rd_T32 l1 x82_4).f0), .int .i64 ((rd_T32 l1 x82_4).f1)] 32 (0, 0)) (by (with_reducible repeat (first | refine blk_drewN ?_ _ | refine blk_drew ?_ | refine blk_alloc ?_ _)); exact BK240.out)) : gb240 ≠ gb244)); have n7_ := Aside0.mk ((by rw [hg]; exact Nat.ne_of_gt (blk_lt (g := gb240) (o := .cells #[.int .i64 ((rd_T32 l1 x82_4).f0), .int .i64 ((rd_T32 l1 x82_4).f1)] 32 (0, 0)) (by (with_reducible repeat (first | refine blk_drewN ?_ _ | refine blk_drew ?_ | refine blk_alloc ?_ _)); exact BK240.out)) : gb244 ≠ gb240)); clear HO_5; clear BK240; clear HB; have HO_5 := n0_; have BK240 := n1_; have HB := n2_; have BK244 := n3_; have GW244 := n4_; have GE244 := n5_; have NB240_244 := n6_; have NB244_240 := n7_; clear n0_ n1_ n2_ n3_ n4_ n5_ n6_ n7_; clear hb hbox hg; have hnb68 := NB244_240.out; have hnc68 := NB240_244.out; have hcz69_0 : w67.cell? ⟨gb244, 0, none⟩ = some (.int .i64 0) := (blk_cell BK244.out 0).trans rfl; have hcz69_1 : w67.cell? ⟨gb244, 1, none⟩ = some (.int .i64 0) := (blk_cell BK244.out 1).trans rfl; have hfz69_0 := blk_frozen BK244.out 0; have hfz69_1 := blk_frozen BK244.out 1; obtain ⟨Ao70, co70, eo70⟩ := Kd.R_slice HO_5.out; subst eo70; have p245 : 0 ≤ (x82_4 : Int) := of_decide_eq_true (by first | (with_reducible assumption) | assumption); have q245 : x82_4 < (t229.length : Int) := of_decide_eq_true (by first | (with_reducible assumption) | assumption); obtain ⟨ad245, e245, hx245_0⟩ := Kd.at_int (Kd.R_reads' HO_5.out).2.2 x82_4 p245 q245; cases e245; have hn245_0 : ad245.block ≠ gb244 := Kd.own_blk (Kd.R_ne HO_5.out BK244.out (by decide)); have hn245_1 : ad245.block ≠ gb244 := Kd.own_blk (Kd.R_ne HO_5.out BK244.out (by decide)); replace hx245_0 := (cell_far (p := ⟨gb244, 0, none⟩) (by first | (rw [add_block]; exact hn245_0) | (show (Addr.add _ _).block ≠ _; rw [add_block]; exact hn245_0) | exact hn245_0) (.int .i64 ((rd_T32 l1 x109_6).f0))).trans hx245_0; replace hx245_0 := (cell_far (p := ⟨gb244, 1, none⟩) (by first | (rw [add_block]; exact hn245_1) | (show (Addr.add _ _).block ≠ _; rw [add_block]; exact hn245_1) | exact hn245_1) (.int .i64 ((rd_T32 l1 x109_6).f1))).trans hx245_0; (try have hy245_0 := fun (n_ : Nat) => (show ((((w67.drewN n_).setCell ⟨gb244, 0, none⟩ (.int .i64 ((rd_T32 l1 x109_6).f0))).setCell ⟨gb244, 1, none⟩ (.int .i64 ((rd_T32 l1 x109_6).f1)))).cell? _ = some _ from hx245_0)); clear hn245_0; clear hn245_1; replace p245 := eq_true p245; replace q245 := eq_true q245; have hcz71_0 : w67.cell? ⟨gb240, 0, none⟩ = some (.int .i64 ((rd_T32 l1 x82_4).f0)) := (blk_cell BK240.out 0).trans rfl; have hcz71_1 : w67.cell? ⟨gb240, 1, none⟩ = some (.int .i64 ((rd_T32 l1 x82_4).f1)) := (blk_cell BK240.out 1).trans rfl; have hfz71_0 := blk_frozen BK240.out 0; have hfz71_1 := blk_frozen BK240.out 1)); try go_wp2_with (first | ((with_reducible refine gate_dst (N := 14) rfl ?_); (try (refine gate_guard (by rfl) ?_; dsimp only)); refine box_event ?hg (N := 14) ?hd (cs := #[.int .i64 0, .int .i64 0]) (t := 32) ?hr ?_; (case hd => rfl); (case hg => rfl); (case hr => first | (go_simp; done) | (go_simp; rfl)); intro gb244 hg w67 hbox hb; have n0_ := Aside0.mk (Kd.R_below (by (with_reducible repeat (first | apply Kd.R_alloc | apply Kd.R_drewN | apply Kd.R_drew)); exact HO_5.out) hb); have n1_ := Aside0.mk (blk_below (g := gb240) (o := .cells #[.int .i64 ((rd_T32 l1 x82_4).f0), .int .i64 ((rd_T32 l1 x82_4).f1)] 32 (0, 0)) (by (with_reducible repeat (first | refine blk_drewN ?_ _ | refine blk_drew ?_ | refine blk_alloc ?_ _)); exact BK240.out) hb); have n2_ := Aside0.mk (below_step (by repeat (first | (with_reducible first | exact HB.out | apply below_alloc | apply pw_below_drewN | apply below_drew1 | refine below_set ?_ GE240.out) | exact HB.out)) hb); have n3_ := Aside0.mk (hbox); have n4_ := Aside0.mk ((by rw [hg]; exact (below_size (by repeat (first | (with_reducible first | exact HB.out | apply below_alloc | apply pw_below_drewN | apply below_drew1 | refine below_set ?_ GE240.out) | exact HB.out))) : w.heap.size ≤ gb244)); have n5_ := Aside0.mk ((by rw [hg]; exact (below_size (by repeat (first | (with_reducible first | exact HB.out | apply below_alloc | apply pw_below_drewN | apply below_drew1 | refine below_set ?_ GE240.out) | exact HB.out))) : w.heap.size ≤ gb244)); have n6_ := Aside0.mk ((by rw [hg]; exact Nat.ne_of_lt (blk_lt (g := gb240) (o := .cells #[.int .i64 ((rd_T32 l1 x82_4).f0), .int .i64 ((rd_T32 l1 x82_4).f1)] 32 (0, 0)) (by (with_reducible repeat (first | refine blk_drewN ?_ _ | refine blk_drew ?_ | refine blk_alloc ?_ _)); exact BK240.out)) : gb240 ≠ gb244)); have n7_ := Aside0.mk ((by rw [hg]; exact Nat.ne_of_gt (blk_lt (g := gb240) (o := .cells #[.int .i64 ((rd_T32 l1 x82_4).f0), .int .i64 ((rd_T32 l1 x82_4).f1)] 32 (0, 0)) (by (with_reducible repeat (first | refine blk_drewN ?_ _ | refine blk_drew ?_ | refine blk_alloc ?_ _)); exact BK240.out)) : gb244 ≠ gb240)); clear HO_5; clear BK240; clear HB; have HO_5 := n0_; have BK240 := n1_; have HB := n2_; have BK244 := n3_; have GW244 := n4_; have GE244 := n5_; have NB240_244 := n6_; have NB244_240 := n7_; clear n0_ n1_ n2_ n3_ n4_ n5_ n6_ n7_; clear hb hbox hg; have hnb68 := NB244_240.out; have hnc68 := NB240_244.out; have hcz69_0 : w67.cell? ⟨gb244, 0, none⟩ = some (.int .i64 0) := (blk_cell BK244.out 0).trans rfl; have hcz69_1 : w67.cell? ⟨gb244, 1, none⟩ = some (.int .i64 0) := (blk_cell BK244.out 1).trans rfl; have hfz69_0 := blk_frozen BK244.out 0; have hfz69_1 := blk_frozen BK244.out 1; obtain ⟨Ao70, co70, eo70⟩ := Kd.R_slice HO_5.out; subst eo70; have p245 : 0 ≤ (x82_4 : Int) := of_decide_eq_true (by first | (with_reducible assumption) | assumption); have q245 : x82_4 < (t229.length : Int) := of_decide_eq_true (by first | (with_reducible assumption) | assumption); obtain ⟨ad245, e245, hx245_0⟩ := Kd.at_int (Kd.R_reads' HO_5.out).2.2 x82_4 p245 q245; cases e245; have hn245_0 : ad245.block ≠ gb244 := Kd.own_blk (Kd.R_ne HO_5.out BK244.out (by decide)); have hn245_1 : ad245.block ≠ gb244 := Kd.own_blk (Kd.R_ne HO_5.out BK244.out (by decide)); replace hx245_0 := (cell_far (p := ⟨gb244, 0, none⟩) (by first | (rw [add_block]; exact hn245_0) | (show (Addr.add _ _).block ≠ _; rw [add_block]; exact hn245_0) | exact hn245_0) (.int .i64 ((rd_T32 l1 x109_6).f0))).trans hx245_0; replace hx245_0 := (cell_far (p := ⟨gb244, 1, none⟩) (by first | (rw [add_block]; exact hn245_1) | (show (Addr.add _ _).block ≠ _; rw [add_block]; exact hn245_1) | exact hn245_1) (.int .i64 ((rd_T32 l1 x109_6).f1))).trans hx245_0; (try have hy245_0 := fun (n_ : Nat) => (show ((((w67.drewN n_).setCell ⟨gb244, 0, none⟩ (.int .i64 ((rd_T32 l1 x109_6).f0))).setCell ⟨gb244, 1, none⟩ (.int .i64 ((rd_T32 l1 x109_6).f1)))).cell? _ = some _ from hx245_0)); clear hn245_0; clear hn245_1; replace p245 := eq_true p245; replace q245 := eq_true q245; have hcz71_0 : w67.cell? ⟨gb240, 0, none⟩ = some (.int .i64 ((rd_T32 l1 x82_4).f0)) := (blk_cell BK240.out 0).trans rfl; have hcz71_1 : w67.cell? ⟨gb240, 1, none⟩ = some (.int .i64 ((rd_T32 l1 x82_4).f1)) := (blk_cell BK240.out 1).trans rfl; have hfz71_0 := blk_frozen BK240.out 0; have hfz71_1 := blk_frozen BK240.out 1)))
                                                    go_roundg k6
                                                    case measure => have := HJ2.out; have := HJ11.out; have := HK3.out; have := HK4.out; have := HJ37.out; have := HK6.out; omega
                                                    case rel => exact ⟨(wrap64 (x109_6 + 1)), (by first | rfl | (simp; done) | (simp [*]; done)), H', ⟨by have := HJ2.out; have := HJ11.out; have := HK3.out; have := HK4.out; have := HJ37.out; have := HK6.out; omega⟩, ⟨by (with_reducible repeat (first | apply Kd.R_alloc | apply Kd.R_drewN | apply Kd.R_drew)); exact Kd.R_mono (Kd.R_far (p := ⟨gb244, 1, none⟩) (Kd.R_far (p := ⟨gb244, 0, none⟩) (Kd.R_types HO_5.out BK244.out (by decide)) (fun _ hk => hk.2) (.int .i64 ((rd_T32 l1 x109_6).f0))) (fun _ hk => hk.2) (.int .i64 ((rd_T32 l1 x109_6).f1))) (fun _ hk => trivial)⟩, ⟨by (with_reducible repeat (first | refine blk_drewN ?_ _ | refine blk_drew ?_ | refine blk_alloc ?_ _)); refine blk_far ?_ NB240_244.out _; (with_reducible repeat (first | refine blk_drewN ?_ _ | refine blk_drew ?_ | refine blk_alloc ?_ _)); refine blk_far ?_ NB240_244.out _; (with_reducible repeat (first | refine blk_drewN ?_ _ | refine blk_drew ?_ | refine blk_alloc ?_ _)); exact BK240.out⟩, ⟨by repeat (first | (with_reducible first | exact HB.out | apply below_alloc | apply pw_below_drewN | apply below_drew1 | refine below_set ?_ GE240.out | refine below_set ?_ GE244.out) | exact HB.out)⟩⟩
                                                · rw [if_neg c53] at H
                                                  exact absurd H (by simp)
                                              · rw [if_neg c52] at H
                                                exact absurd H (by simp)
                                            · rw [if_neg c51] at H
                                              exact absurd H (by simp)
                                          · rw [if_neg c50] at H
                                            exact absurd H (by simp)
                                        · rw [if_neg c49] at H
                                          have c49b0 : decide (x109_6 < (l1.length : Int)) = false := decide_eq_false c49
                                          clear c49
                                          have H' := Aside0.mk H
                                          clear H
                                          go_wp2
                                          repeat (go_quiet (fail); try go_wp2)
                                          go_roundg k6
                                          case measure => have := HJ2.out; have := HJ11.out; have := HK3.out; have := HK4.out; have := HJ37.out; have := HK6.out; omega
                                          case rel => exact ⟨(wrap64 (x82_4 + 1)), (by first | rfl | (simp; done) | (simp [*]; done)), H', ⟨by have := HJ2.out; have := HJ11.out; have := HK3.out; have := HK4.out; have := HJ37.out; have := HK6.out; omega⟩, ⟨by (with_reducible repeat (first | apply Kd.R_alloc | apply Kd.R_drewN | apply Kd.R_drew)); exact HO_5.out⟩, ⟨by repeat (first | (with_reducible first | exact HB.out | apply below_alloc | apply pw_below_drewN | apply below_drew1 | refine below_set ?_ GE240.out) | exact HB.out)⟩⟩
                            · rw [if_neg c37] at H
                              exact absurd H (by simp)
                          · rw [if_neg c36] at H
                            exact absurd H (by simp)
                        · rw [if_neg c35] at H
                          have c35b0 : decide (x82_4 < (l1.length : Int)) = false := decide_eq_false c35
                          clear c35
                          replace H := Option.bind_eq_some_iff.mp H
                          obtain ⟨t238, A720, H⟩ := H
                          replace H : (if t238 = true then (some (x6_3 == (mn a0 x7_3))) else (some false)) = some r := H
                          have A72 := Aside0.mk A720
                          clear A720
                          by_cases c73 : t238 = true
                          · subst c73
                            have H1 : (some (x6_3 == (mn a0 x7_3))) = some r := by rw [if_pos rfl] at H; exact H
                            clear H
                            have H := H1
                            clear H1
                            obtain ⟨ji74, hji74⟩ : ∃ j_ : Int, (mn a0 x7_3) = j_ := ⟨_, rfl⟩
                            replace H : (some (x6_3 == (ji74))) = some r := by first | (rw [hji74] at H; exact H) | (simp only [hji74] at H ⊢; exact H)
                            (try rw [hji74] at A72)
                            have hji74_ : (if x7_3 < a0 then x7_3 else a0) = ji74 := hji74
                            obtain rfl := Option.some.inj H
                            go_wp2_with (first | (go_at_call 9; (with_reducible refine (weirgatelaw16_sanity.calls k4  true _ A72.out).mono ?_); rintro e w75 ⟨rfl, hb⟩; have n0_ := Aside0.mk (Kd.R_below (by (with_reducible repeat (first | apply Kd.R_alloc | apply Kd.R_drewN | apply Kd.R_drew)); exact HO_5.out) hb); have n1_ := Aside0.mk (below_step (by repeat (first | (with_reducible first | exact HB.out | apply below_alloc | apply pw_below_drewN | apply below_drew1) | exact HB.out)) hb); clear HO_5; clear HB; have HO_5 := n0_; have HB := n1_; clear n0_ n1_; (try clear hb); (try clear hb2); (try clear hk); (try clear hi)))
                            repeat (go_quiet (first | (go_at_call 9; (with_reducible refine (weirgatelaw16_sanity.calls k4  true _ A72.out).mono ?_); rintro e w75 ⟨rfl, hb⟩; have n0_ := Aside0.mk (Kd.R_below (by (with_reducible repeat (first | apply Kd.R_alloc | apply Kd.R_drewN | apply Kd.R_drew)); exact HO_5.out) hb); have n1_ := Aside0.mk (below_step (by repeat (first | (with_reducible first | exact HB.out | apply below_alloc | apply pw_below_drewN | apply below_drew1) | exact HB.out)) hb); clear HO_5; clear HB; have HO_5 := n0_; have HB := n1_; clear n0_ n1_; (try clear hb); (try clear hb2); (try clear hk); (try clear hi))); try go_wp2_with (first | (go_at_call 9; (with_reducible refine (weirgatelaw16_sanity.calls k4  true _ A72.out).mono ?_); rintro e w75 ⟨rfl, hb⟩; have n0_ := Aside0.mk (Kd.R_below (by (with_reducible repeat (first | apply Kd.R_alloc | apply Kd.R_drewN | apply Kd.R_drew)); exact HO_5.out) hb); have n1_ := Aside0.mk (below_step (by repeat (first | (with_reducible first | exact HB.out | apply below_alloc | apply pw_below_drewN | apply below_drew1) | exact HB.out)) hb); clear HO_5; clear HB; have HO_5 := n0_; have HB := n1_; clear n0_ n1_; (try clear hb); (try clear hb2); (try clear hk); (try clear hi))))
                            go_ret
                            exact ⟨by first | rfl | (simp [errW_none, errW_some] <;> rfl) | (simp only [← hji74]; first | rfl | (simp [errW_none, errW_some] <;> rfl)) | (simp [*, errW_none, errW_some] <;> rfl), by repeat (first | (with_reducible first | exact HB.out | apply below_alloc | apply pw_below_drewN | apply below_drew1) | exact HB.out)⟩
                          · replace c73 := Bool.eq_false_iff.mpr c73
                            subst c73
                            have H1 : (some false) = some r := by rw [if_neg (show ¬ (false = true) by decide)] at H; exact H
                            clear H
                            have H := H1
                            clear H1
                            obtain rfl := Option.some.inj H
                            go_wp2_with (first | (go_at_call 9; (with_reducible refine (weirgatelaw16_sanity.calls k4  false _ A72.out).mono ?_); rintro e w76 ⟨rfl, hb⟩; have n0_ := Aside0.mk (Kd.R_below (by (with_reducible repeat (first | apply Kd.R_alloc | apply Kd.R_drewN | apply Kd.R_drew)); exact HO_5.out) hb); have n1_ := Aside0.mk (below_step (by repeat (first | (with_reducible first | exact HB.out | apply below_alloc | apply pw_below_drewN | apply below_drew1) | exact HB.out)) hb); clear HO_5; clear HB; have HO_5 := n0_; have HB := n1_; clear n0_ n1_; (try clear hb); (try clear hb2); (try clear hk); (try clear hi)))
                            repeat (go_quiet (first | (go_at_call 9; (with_reducible refine (weirgatelaw16_sanity.calls k4  false _ A72.out).mono ?_); rintro e w76 ⟨rfl, hb⟩; have n0_ := Aside0.mk (Kd.R_below (by (with_reducible repeat (first | apply Kd.R_alloc | apply Kd.R_drewN | apply Kd.R_drew)); exact HO_5.out) hb); have n1_ := Aside0.mk (below_step (by repeat (first | (with_reducible first | exact HB.out | apply below_alloc | apply pw_below_drewN | apply below_drew1) | exact HB.out)) hb); clear HO_5; clear HB; have HO_5 := n0_; have HB := n1_; clear n0_ n1_; (try clear hb); (try clear hb2); (try clear hk); (try clear hi))); try go_wp2_with (first | (go_at_call 9; (with_reducible refine (weirgatelaw16_sanity.calls k4  false _ A72.out).mono ?_); rintro e w76 ⟨rfl, hb⟩; have n0_ := Aside0.mk (Kd.R_below (by (with_reducible repeat (first | apply Kd.R_alloc | apply Kd.R_drewN | apply Kd.R_drew)); exact HO_5.out) hb); have n1_ := Aside0.mk (below_step (by repeat (first | (with_reducible first | exact HB.out | apply below_alloc | apply pw_below_drewN | apply below_drew1) | exact HB.out)) hb); clear HO_5; clear HB; have HO_5 := n0_; have HB := n1_; clear n0_ n1_; (try clear hb); (try clear hb2); (try clear hk); (try clear hi))))
                            go_ret
                            exact ⟨by first | rfl | (simp [errW_none, errW_some] <;> rfl) | (simp [*, errW_none, errW_some] <;> rfl), by repeat (first | (with_reducible first | exact HB.out | apply below_alloc | apply pw_below_drewN | apply below_drew1) | exact HB.out)⟩

end Go.Proofs.Yteieknlkcodkcaa.Q
namespace Go.Proofs.Yteieknlkcodkcaa.Q
open Go.RowKit Go.Proofs.YteieknlkcodkcaaW.PrintWords Go.Proofs.YteieknlkcodkcaaW.PrintLast Go.Proofs.YteieknlkcodkcaaW.PrintMore
attribute [local go_sem] max2_int min2_int max_two min_two max_three min_three max_four min_four   -- for this text's walks alone
set_option linter.unusedVariables false
set_option linter.unusedSimpArgs false

/-! ### weirgateref16_At: function 38 -/
def weirgateref16_At.f (a0_0 : Int) (a0_1 : Int) (a1 : Int) : Option (Int) := some (mn (wrap64 (a0_0 * a1)) a0_1)
set_option maxHeartbeats 8000000 in
set_option maxRecDepth 100000 in
theorem weirgateref16_At.calls (a0_0 : Int) (a0_1 : Int) (a1 : Int) (r : Int) (w : World) (h : weirgateref16_At.f a0_0 a0_1 a1 = some r) :
    Calls Try.prog 38 #[.agg #[.int .i64 a0_0, .int .i64 a0_1], .int .i64 a1] w fun e w' => e = .returned (.int .i64 r) ∧ Below w.heap.size w w' := by
  have hu32 := Try.underlying32
  have HB := Aside0.mk (Below.refl w.heap.size w)
  have H : (some (mn (wrap64 (a0_0 * a1)) a0_1)) = some r := h
  clear h
  obtain ⟨ji3, hji3⟩ : ∃ j_ : Int, (mn (wrap64 (a0_0 * a1)) a0_1) = j_ := ⟨_, rfl⟩
  replace H : (some ji3) = some r := by first | (rw [hji3] at H; exact H) | (simp only [hji3] at H ⊢; exact H)
  have hji3_ : (if a0_1 < (wrap64 (a0_0 * a1)) then a0_1 else (wrap64 (a0_0 * a1))) = ji3 := hji3
  obtain rfl := Option.some.inj H
  go_enter Try.func38, Try.ntmps38
  go_wp2_with (first | ((with_reducible refine gate_dst (N := 2) rfl ?_); refine box_event ?hg (N := 2) ?hd (cs := #[.int .i64 a0_0, .int .i64 a0_1]) (t := 32) ?hr ?_; (case hd => rfl); (case hg => rfl); (case hr => first | (go_simp; done) | (go_simp; rfl)); intro gb178 hg w4 hbox hb; have n0_ := Aside0.mk (below_step (by repeat (first | (with_reducible first | exact HB.out | apply below_alloc | apply pw_below_drewN | apply below_drew1) | exact HB.out)) hb); have n1_ := Aside0.mk (hbox); have n2_ := Aside0.mk ((by rw [hg]; exact (below_size (by repeat (first | (with_reducible first | exact HB.out | apply below_alloc | apply pw_below_drewN | apply below_drew1) | exact HB.out))) : w.heap.size ≤ gb178)); have n3_ := Aside0.mk ((by rw [hg]; exact (below_size (by repeat (first | (with_reducible first | exact HB.out | apply below_alloc | apply pw_below_drewN | apply below_drew1) | exact HB.out))) : w.heap.size ≤ gb178)); clear HB; have HB := n0_; have BK178 := n1_; have GW178 := n2_; have GE178 := n3_; clear n0_ n1_ n2_ n3_; clear hb hbox hg; have hcz5_0 : w4.cell? ⟨gb178, 0, none⟩ = some (.int .i64 a0_0) := (blk_cell BK178.out 0).trans rfl; have hcz5_1 : w4.cell? ⟨gb178, 1, none⟩ = some (.int .i64 a0_1) := (blk_cell BK178.out 1).trans rfl; have hfz5_0 := blk_frozen BK178.out 0; have hfz5_1 := blk_frozen BK178.out 1))
  go_ret
  exact ⟨by first | rfl | (simp [errW_none, errW_some] <;> rfl) | (simp only [← hji3]; first | rfl | (simp [errW_none, errW_some] <;> rfl)) | (simp [*, errW_none, errW_some] <;> rfl), by repeat (first | (with_reducible first | exact HB.out | apply below_alloc | apply pw_below_drewN | apply below_drew1 | refine below_set ?_ GE178.out) | exact HB.out)⟩

end Go.Proofs.Yteieknlkcodkcaa.Q
namespace Go.Proofs.Yteieknlkcodkcaa.Q
open Go.RowKit Go.Proofs.YteieknlkcodkcaaW.PrintWords Go.Proofs.YteieknlkcodkcaaW.PrintLast Go.Proofs.YteieknlkcodkcaaW.PrintMore
attribute [local go_sem] max2_int min2_int max_two min_two max_three min_three max_four min_four   -- for this text's walks alone
set_option linter.unusedVariables false
set_option linter.unusedSimpArgs false

/-! ### weirgateref16_All: function 37 -/
def weirgateref16_All.l0 : Nat → List (S32) → Int → Int → Int → Option (Int)
  | 0, _, _, _, _ => none
  | k + 1, x0, x1, x5, x6 => if x6 < (x0.length : Int) then (if 0 ≤ x6 then ((weirgateref16_At.f ((rd_T32 x0 x6).f0) ((rd_T32 x0 x6).f1) x1).bind fun t180 => (weirgateref16_All.l0 k x0 x1 (wrap64 (x5 + t180)) (wrap64 (x6 + 1)))) else (none)) else (some x5)
def weirgateref16_All.f (k : Nat) (l0 : List (S32)) (a1 : Int) : Option (Int) := weirgateref16_All.l0 k l0 a1 0 0
theorem weirgateref16_All.mono_l : ∀ k, (∀ y0 y1 y2 y3, LeO (weirgateref16_All.l0 k y0 y1 y2 y3) (weirgateref16_All.l0 (k + 1) y0 y1 y2 y3))
  | 0 => fun _ _ _ _ r h => by simp [weirgateref16_All.l0] at h
  | k + 1 => by
    have ih0 := weirgateref16_All.mono_l k
    · intro y0 y1 y2 y3
      unfold weirgateref16_All.l0
      repeat' first
      | (with_reducible exact ih0 _ _ _ _)
      | (with_reducible exact LeO.refl _)
      | (with_reducible exact LeO.none _)
      | (with_reducible refine LeO.ite ?_ ?_)
      | (with_reducible refine LeO.bind ?_ (fun _ => ?_))
      | exact ih0 _ _ _ _
      | exact LeO.none _
      | refine LeO.ite ?_ ?_
      | refine LeO.bind ?_ (fun _ => ?_)
theorem weirgateref16_All.mono : ∀ a0 a1 k, LeO (weirgateref16_All.f k a0 a1) (weirgateref16_All.f (k + 1) a0 a1) := by
  intro a0 a1 k
  have ih0 := weirgateref16_All.mono_l k
  unfold weirgateref16_All.f
  repeat' first
      | (with_reducible exact ih0 _ _ _ _)
      | (with_reducible exact LeO.refl _)
      | (with_reducible exact LeO.none _)
      | (with_reducible refine LeO.ite ?_ ?_)
      | (with_reducible refine LeO.bind ?_ (fun _ => ?_))
      | exact ih0 _ _ _ _
      | exact LeO.none _
      | refine LeO.ite ?_ ?_
      | refine LeO.bind ?_ (fun _ => ?_)
set_option maxHeartbeats 8000000 in
set_option maxRecDepth 100000 in
theorem weirgateref16_All.calls (k : Nat) (A0 : Option Addr) (c0 : Nat) (l0 : List (S32)) (a1 : Int) (r : Int) (w : World) (hr0 : Kd.C k32 w A0 l0.length l0) (hc0 : l0.length ≤ c0) (h : weirgateref16_All.f k l0 a1 = some r) :
    Calls Try.prog 37 #[.slice A0 l0.length c0, .int .i64 a1] w fun e w' => e = .returned (.int .i64 r) ∧ Below w.heap.size w w' := by
  have hu32 := Try.underlying32
  have HR0 := Aside0.mk hr0
  have HC0 := Aside0.mk hc0
  clear hr0 hc0
  have HB := Aside0.mk (Below.refl w.heap.size w)
  have H : (weirgateref16_All.l0 k l0 a1 0 0) = some r := h
  clear h
  have H' := Aside0.mk H
  clear H
  go_enter Try.func37, Try.ntmps37
  go_wp2
  go_loopg [5, 6] k (fun kq v5 v6 w' => ∃ (x5_1 : Int) (x6_1 : Int), v5 = .int .i64 x5_1 ∧ v6 = .int .i64 x6_1 ∧ Aside0 (weirgateref16_All.l0 kq l0 a1 x5_1 x6_1 = some r) ∧ Aside0 (kq ≤ k) ∧ Aside0 (Below w.heap.size w w'))
  case atStart => exact ⟨(0), (0), (by first | rfl | (simp; done) | (simp [*]; done)), (by first | rfl | (simp; done) | (simp [*]; done)), H', ⟨Nat.le_refl _⟩, ⟨by repeat (first | (with_reducible first | exact HB.out | apply below_alloc | apply pw_below_drewN | apply below_drew1) | exact HB.out)⟩⟩
  case round =>
    clear H'
    try clear p2
    obtain ⟨x5_1, x6_1, rfl, rfl, HA, HK1, HB⟩ := hrel
    cases gk with
    | zero => exact absurd HA.out (by simp [weirgateref16_All.l0])
    | succ k1 =>
      have H := HA.out
      clear HA
      simp only [weirgateref16_All.l0] at H
      by_cases c3 : x6_1 < (l0.length : Int)
      · rw [if_pos c3] at H
        have c3b0 : decide (x6_1 < (l0.length : Int)) = true := decide_eq_true c3
        clear c3
        by_cases c4 : 0 ≤ x6_1
        · rw [if_pos c4] at H
          have c4b0 : decide (0 ≤ x6_1) = true := decide_eq_true c4
          clear c4
          replace H := Option.bind_eq_some_iff.mp H
          obtain ⟨t180, A50, H⟩ := H
          replace H : (weirgateref16_All.l0 k1 l0 a1 (wrap64 (x5_1 + t180)) (wrap64 (x6_1 + 1))) = some r := H
          have A5 := Aside0.mk A50
          clear A50
          have H' := Aside0.mk H
          clear H
          have p179 : 0 ≤ (x6_1 : Int) := of_decide_eq_true (by first | (with_reducible assumption) | assumption)
          have q179 : x6_1 < (l0.length : Int) := of_decide_eq_true (by first | (with_reducible assumption) | assumption)
          obtain ⟨ad179, e179, hx179_0, hx179_1⟩ := at_T32 HR0.out x6_1 p179 q179
          cases e179
          replace hx179_0 := (HB.out.cell (World.block_lt_of_cell? w _ hx179_0)).trans hx179_0
          replace hx179_1 := (HB.out.cell (World.block_lt_of_cell? w _ hx179_1)).trans hx179_1
          replace p179 := eq_true p179
          replace q179 := eq_true q179
          go_wp2_with (first | ((with_reducible refine gate_callee (f := 38) rfl ?_); refine goesL_ (some 19) rfl rfl Try.func38 (by kernel_rfl) rfl #[.agg #[.int .i64 ((rd_T32 l0 x6_1).f0), .int .i64 ((rd_T32 l0 x6_1).f1)], .int .i64 a1] rfl (by (try simp only [List.map_toArray, List.map_cons, List.map_nil]); first | done | rfl | (simp only [List.length_drop, List.length_take]; rfl)) ?_; (with_reducible refine (weirgateref16_At.calls ((rd_T32 l0 x6_1).f0) ((rd_T32 l0 x6_1).f1) a1 t180 _ A5.out).mono ?_); rintro e w6 ⟨rfl, hb⟩; refine ⟨_, rfl, ?_⟩; have n0_ := Aside0.mk (below_step (by repeat (first | (with_reducible first | exact HB.out | apply below_alloc | apply pw_below_drewN | apply below_drew1) | exact HB.out)) hb); clear HB; have HB := n0_; clear n0_; (try clear hb); (try clear hb2); (try clear hk); (try clear hi)))
          go_roundg k1
          case measure => have := HK1.out; omega
          case rel => exact ⟨(wrap64 (x5_1 + t180)), (wrap64 (x6_1 + 1)), (by first | rfl | (simp; done) | (simp [*]; done)), (by first | rfl | (simp; done) | (simp [*]; done)), H', ⟨by have := HK1.out; omega⟩, ⟨by repeat (first | (with_reducible first | exact HB.out | apply below_alloc | apply pw_below_drewN | apply below_drew1) | exact HB.out)⟩⟩
        · rw [if_neg c4] at H
          exact absurd H (by simp)
      · rw [if_neg c3] at H
        have c3b0 : decide (x6_1 < (l0.length : Int)) = false := decide_eq_false c3
        clear c3
        obtain rfl := Option.some.inj H
        go_wp2
        go_ret
        exact ⟨by first | rfl | (simp [errW_none, errW_some] <;> rfl) | (simp [*, errW_none, errW_some] <;> rfl), by repeat (first | (with_reducible first | exact HB.out | apply below_alloc | apply pw_below_drewN | apply below_drew1) | exact HB.out)⟩

end Go.Proofs.Yteieknlkcodkcaa.Q
namespace Go.Proofs.Yteieknlkcodkcaa.Q
open Go.RowKit Go.Proofs.YteieknlkcodkcaaW.PrintWords Go.Proofs.YteieknlkcodkcaaW.PrintLast Go.Proofs.YteieknlkcodkcaaW.PrintMore
attribute [local go_sem] max2_int min2_int max_two min_two max_three min_three max_four min_four   -- for this text's walks alone
set_option linter.unusedVariables false
set_option linter.unusedSimpArgs false

/-! ### weirgateref16_Level: function 14 -/
def weirgateref16_Level.l0 : Nat → Int → List (S32) → Int → Int → Option (Int)
  | 0, _, _, _, _ => none
  | k + 1, x0, x1, x5, x6 => if (wrap64 (x6 - x5)) > 1 then ((weirgateref16_All.f k x1 (wrap64 (Int.tdiv (wrap64 (x5 + x6)) 2))).bind fun t181 => (if t181 ≤ x0 then (weirgateref16_Level.l0 k x0 x1 (wrap64 (Int.tdiv (wrap64 (x5 + x6)) 2)) x6) else (weirgateref16_Level.l0 k x0 x1 x5 (wrap64 (Int.tdiv (wrap64 (x5 + x6)) 2))))) else (some x5)
def weirgateref16_Level.f (k : Nat) (a0 : Int) (l1 : List (S32)) : Option (Int) := weirgateref16_Level.l0 k a0 l1 0 1099511627777
theorem weirgateref16_Level.mono_l : ∀ k, (∀ y0 y1 y2 y3, LeO (weirgateref16_Level.l0 k y0 y1 y2 y3) (weirgateref16_Level.l0 (k + 1) y0 y1 y2 y3))
  | 0 => fun _ _ _ _ r h => by simp [weirgateref16_Level.l0] at h
  | k + 1 => by
    have ih0 := weirgateref16_Level.mono_l k
    · intro y0 y1 y2 y3
      unfold weirgateref16_Level.l0
      repeat' first
      | (with_reducible exact ih0 _ _ _ _)
      | (with_reducible exact weirgateref16_All.mono _ _ _)
      | (with_reducible exact LeO.refl _)
      | (with_reducible exact LeO.none _)
      | (with_reducible refine LeO.ite ?_ ?_)
      | (with_reducible refine LeO.bind ?_ (fun _ => ?_))
      | exact ih0 _ _ _ _
      | exact weirgateref16_All.mono _ _ _
      | exact LeO.none _
      | refine LeO.ite ?_ ?_
      | refine LeO.bind ?_ (fun _ => ?_)
theorem weirgateref16_Level.mono : ∀ a0 a1 k, LeO (weirgateref16_Level.f k a0 a1) (weirgateref16_Level.f (k + 1) a0 a1) := by
  intro a0 a1 k
  have ih0 := weirgateref16_Level.mono_l k
  unfold weirgateref16_Level.f
  repeat' first
      | (with_reducible exact ih0 _ _ _ _)
      | (with_reducible exact weirgateref16_All.mono _ _ _)
      | (with_reducible exact LeO.refl _)
      | (with_reducible exact LeO.none _)
      | (with_reducible refine LeO.ite ?_ ?_)
      | (with_reducible refine LeO.bind ?_ (fun _ => ?_))
      | exact ih0 _ _ _ _
      | exact weirgateref16_All.mono _ _ _
      | exact LeO.none _
      | refine LeO.ite ?_ ?_
      | refine LeO.bind ?_ (fun _ => ?_)
set_option maxHeartbeats 8000000 in
set_option maxRecDepth 100000 in
theorem weirgateref16_Level.calls (k : Nat) (a0 : Int) (A1 : Option Addr) (c1 : Nat) (l1 : List (S32)) (r : Int) (w : World) (hr1 : Kd.C k32 w A1 l1.length l1) (hc1 : l1.length ≤ c1) (h : weirgateref16_Level.f k a0 l1 = some r) :
    Calls Try.prog 14 #[.int .i64 a0, .slice A1 l1.length c1] w fun e w' => e = .returned (.int .i64 r) ∧ Below w.heap.size w w' := by
  have HR1 := Aside0.mk hr1
  have HC1 := Aside0.mk hc1
  clear hr1 hc1
  have HB := Aside0.mk (Below.refl w.heap.size w)
  have H : (weirgateref16_Level.l0 k a0 l1 0 1099511627777) = some r := h
  clear h
  have H' := Aside0.mk H
  clear H
  go_enter Try.func14, Try.ntmps14
  go_wp2
  go_loopg [5, 6] k (fun kq v5 v6 w' => ∃ (x5_1 : Int) (x6_1 : Int), v5 = .int .i64 x5_1 ∧ v6 = .int .i64 x6_1 ∧ Aside0 (weirgateref16_Level.l0 kq a0 l1 x5_1 x6_1 = some r) ∧ Aside0 (kq ≤ k) ∧ Aside0 (Below w.heap.size w w'))
  case atStart => exact ⟨(0), (1099511627777), (by first | rfl | (simp; done) | (simp [*]; done)), (by first | rfl | (simp; done) | (simp [*]; done)), H', ⟨Nat.le_refl _⟩, ⟨by repeat (first | (with_reducible first | exact HB.out | apply below_alloc | apply pw_below_drewN | apply below_drew1) | exact HB.out)⟩⟩
  case round =>
    clear H'
    try clear c1
    try clear p2
    obtain ⟨x5_1, x6_1, rfl, rfl, HA, HK1, HB⟩ := hrel
    cases gk with
    | zero => exact absurd HA.out (by simp [weirgateref16_Level.l0])
    | succ k1 =>
      have H := HA.out
      clear HA
      simp only [weirgateref16_Level.l0] at H
      by_cases c3 : (wrap64 (x6_1 - x5_1)) > 1
      · rw [if_pos c3] at H
        have c3b0 : decide (1 < (wrap64 (x6_1 - x5_1))) = true := decide_eq_true c3
        clear c3
        replace H := Option.bind_eq_some_iff.mp H
        obtain ⟨t181, A40, H⟩ := H
        replace H : (if t181 ≤ a0 then (weirgateref16_Level.l0 k1 a0 l1 (wrap64 (Int.tdiv (wrap64 (x5_1 + x6_1)) 2)) x6_1) else (weirgateref16_Level.l0 k1 a0 l1 x5_1 (wrap64 (Int.tdiv (wrap64 (x5_1 + x6_1)) 2)))) = some r := H
        have A4 := Aside0.mk A40
        clear A40
        by_cases c5 : t181 ≤ a0
        · rw [if_pos c5] at H
          have c5b0 : decide (t181 ≤ a0) = true := decide_eq_true c5
          clear c5
          have H' := Aside0.mk H
          clear H
          go_wp2_with (first | ((with_reducible refine gate_callee (f := 37) rfl ?_); refine goesL_ (some 18) rfl rfl Try.func37 (by kernel_rfl) rfl #[.slice A1 l1.length c1, .int .i64 (wrap64 (Int.tdiv (wrap64 (x5_1 + x6_1)) 2))] rfl (by (try simp only [List.map_toArray, List.map_cons, List.map_nil]); first | done | rfl | (simp only [List.length_drop, List.length_take]; rfl)) ?_; (with_reducible refine (weirgateref16_All.calls k1 _ _ l1 (wrap64 (Int.tdiv (wrap64 (x5_1 + x6_1)) 2)) t181 _ ?side1 ?side2 A4.out).mono ?_); (case side1 => repeat (first | exact (Kd.C_below HR1.out HB.out) | (with_reducible refine Kd.C_alloc ?_ _) | (with_reducible refine Kd.C_drewN ?_ _) | (with_reducible refine Kd.C_drew ?_))); (case side2 => exact HC1.out); rintro e w6 ⟨rfl, hb⟩; refine ⟨_, rfl, ?_⟩; have n0_ := Aside0.mk (below_step (by repeat (first | (with_reducible first | exact HB.out | apply below_alloc | apply pw_below_drewN | apply below_drew1) | exact HB.out)) hb); clear HB; have HB := n0_; clear n0_; (try clear hb); (try clear hb2); (try clear hk); (try clear hi)))
          go_roundg k1
          case measure => have := HK1.out; omega
          case rel => exact ⟨(wrap64 (Int.tdiv (wrap64 (x5_1 + x6_1)) 2)), (x6_1), (by first | rfl | (simp; done) | (simp [*]; done)), (by first | rfl | (simp; done) | (simp [*]; done)), H', ⟨by have := HK1.out; omega⟩, ⟨by repeat (first | (with_reducible first | exact HB.out | apply below_alloc | apply pw_below_drewN | apply below_drew1) | exact HB.out)⟩⟩
        · rw [if_neg c5] at H
          have c5b0 : decide (t181 ≤ a0) = false := decide_eq_false c5
          clear c5
          have H' := Aside0.mk H
          clear H
          go_wp2_with (first | ((with_reducible refine gate_callee (f := 37) rfl ?_); refine goesL_ (some 18) rfl rfl Try.func37 (by kernel_rfl) rfl #[.slice A1 l1.length c1, .int .i64 (wrap64 (Int.tdiv (wrap64 (x5_1 + x6_1)) 2))] rfl (by (try simp only [List.map_toArray, List.map_cons, List.map_nil]); first | done | rfl | (simp only [List.length_drop, List.length_take]; rfl)) ?_; (with_reducible refine (weirgateref16_All.calls k1 _ _ l1 (wrap64 (Int.tdiv (wrap64 (x5_1 + x6_1)) 2)) t181 _ ?side1 ?side2 A4.out).mono ?_); (case side1 => repeat (first | exact (Kd.C_below HR1.out HB.out) | (with_reducible refine Kd.C_alloc ?_ _) | (with_reducible refine Kd.C_drewN ?_ _) | (with_reducible refine Kd.C_drew ?_))); (case side2 => exact HC1.out); rintro e w7 ⟨rfl, hb⟩; refine ⟨_, rfl, ?_⟩; have n0_ := Aside0.mk (below_step (by repeat (first | (with_reducible first | exact HB.out | apply below_alloc | apply pw_below_drewN | apply below_drew1) | exact HB.out)) hb); clear HB; have HB := n0_; clear n0_; (try clear hb); (try clear hb2); (try clear hk); (try clear hi)))
          go_roundg k1
          case measure => have := HK1.out; omega
          case rel => exact ⟨(x5_1), (wrap64 (Int.tdiv (wrap64 (x5_1 + x6_1)) 2)), (by first | rfl | (simp; done) | (simp [*]; done)), (by first | rfl | (simp; done) | (simp [*]; done)), H', ⟨by have := HK1.out; omega⟩, ⟨by repeat (first | (with_reducible first | exact HB.out | apply below_alloc | apply pw_below_drewN | apply below_drew1) | exact HB.out)⟩⟩
      · rw [if_neg c3] at H
        have c3b0 : decide (1 < (wrap64 (x6_1 - x5_1))) = false := decide_eq_false c3
        clear c3
        obtain rfl := Option.some.inj H
        go_wp2
        go_ret
        exact ⟨by first | rfl | (simp [errW_none, errW_some] <;> rfl) | (simp [*, errW_none, errW_some] <;> rfl), by repeat (first | (with_reducible first | exact HB.out | apply below_alloc | apply pw_below_drewN | apply below_drew1) | exact HB.out)⟩

end Go.Proofs.Yteieknlkcodkcaa.Q
namespace Go.Proofs.Yteieknlkcodkcaa.Q
open Go.RowKit Go.Proofs.YteieknlkcodkcaaW.PrintWords Go.Proofs.YteieknlkcodkcaaW.PrintLast Go.Proofs.YteieknlkcodkcaaW.PrintMore
attribute [local go_sem] max2_int min2_int max_two min_two max_three min_three max_four min_four   -- for this text's walks alone
set_option linter.unusedVariables false
set_option linter.unusedSimpArgs false

/-! Plain mathematics of shares: sums, levels, what each gets. -/
theorem w64 {x : Int} (h1 : -9223372036854775808 ≤ x) (h2 : x ≤ 9223372036854775807) : wrap64 x = x := by unfold wrap64; omega
theorem mn_min (a b : Int) : mn a b = min a b := by unfold mn; omega
theorem mx_max (a b : Int) : mx a b = max a b := by unfold mx; omega
def okS (s : S32) : Prop := 1 ≤ s.f0 ∧ s.f0 ≤ 1048576 ∧ 0 ≤ s.f1 ∧ s.f1 ≤ 1099511627776
def okL (l : List S32) : Prop := l.length ≤ 60 ∧ ∀ s ∈ l, okS s
theorem rd32_mid (pre suf : List S32) (s : S32) : rd_T32 (pre ++ s :: suf) (pre.length : Int) = s := by
  simp [rd_T32, List.getD_eq_getElem?_getD]
theorem rd_mid (pre suf : List Int) (x : Int) : rd (pre ++ x :: suf) (pre.length : Int) = x := by
  simp [rd, List.getD_eq_getElem?_getD]
/-- W n lies within bounds. -/
theorem mul_bd {W n : Int} (h1 : 0 ≤ W) (h2 : W ≤ 1048576) (h3 : 0 ≤ n) (h4 : n ≤ 1099511627777) : 0 ≤ W * n ∧ W * n ≤ 1152921504607895552 := by
  refine ⟨Int.mul_nonneg h1 h3, ?_⟩
  calc W * n ≤ 1048576 * n := Int.mul_le_mul_of_nonneg_right h2 h3
    _ ≤ 1048576 * 1099511627777 := Int.mul_le_mul_of_nonneg_left h4 (by omega)
    _ = 1152921504607895552 := by decide
/-- What a share has at a level; what all have. -/
def atL (s : S32) (n : Int) : Int := min (s.f0 * n) s.f1
def allL : List S32 → Int → Int
  | [], _ => 0
  | s :: l, n => atL s n + allL l n
theorem allL_cons (s : S32) (l : List S32) (n : Int) : allL (s :: l) n = atL s n + allL l n := rfl
theorem atL_bd {s : S32} (h : okS s) {n : Int} (h0 : 0 ≤ n) (h1 : n ≤ 1099511627777) : 0 ≤ atL s n ∧ atL s n ≤ s.f1 ∧ atL s n ≤ 1099511627776 := by
  have := mul_bd (W := s.f0) (n := n) (by have := h.1; omega) h.2.1 h0 h1
  have h3 := h.2.2
  unfold atL
  omega
theorem allL_bd : ∀ {l : List S32}, (∀ s ∈ l, okS s) → ∀ {n : Int}, 0 ≤ n → n ≤ 1099511627777 → 0 ≤ allL l n ∧ allL l n ≤ (l.length : Int) * 1099511627776
  | [], _, n, _, _ => by simp [allL]
  | s :: l, h, n, h0, h1 => by
    have a := atL_bd (h s (by simp)) h0 h1
    have b := allL_bd (l := l) (fun t ht => h t (by simp [ht])) h0 h1
    have e : ((s :: l).length : Int) = (l.length : Int) + 1 := by simp
    rw [e]
    rw [allL_cons]
    omega
theorem all_go (n : Int) (h0 : 0 ≤ n) (h1 : n ≤ 1099511627776) : ∀ (suf pre : List S32) (acc : Int), (∀ s ∈ suf, okS s) → (pre ++ suf).length ≤ 60 → 0 ≤ acc → acc ≤ (pre.length : Int) * 1099511627776 →
    Ev (fun k => quota_all.l0 k n acc (pre ++ suf) ((pre ++ suf).length : Int) (pre.length : Int)) (acc + allL suf n) := by
  intro suf
  induction suf with
  | nil =>
    intro pre acc _ hl ha hb
    refine Ev.step (f := fun _ => some acc) (fun k => ?_) ?_
    · simp only [quota_all.l0, List.append_nil]
      rw [if_neg (by omega)]
    · simp only [allL, Int.add_zero]
      exact Ev.now _
  | cons s suf IH =>
    intro pre acc hs hl ha hb
    have ok := hs s (by simp)
    have a := atL_bd ok h0 (by omega : n ≤ 1099511627777)
    have m := mul_bd (W := s.f0) (n := n) (by have := ok.1; omega) ok.2.1 h0 (by omega)
    have hlen : (pre ++ s :: suf).length = pre.length + suf.length + 1 := by simp; omega
    have am : atL s n = min (s.f0 * n) s.f1 := rfl
    have ih := IH (pre ++ [s]) (acc + atL s n) (fun t ht => hs t (by simp [ht])) (by simpa using hl) (by omega) (by
      have e : ((pre ++ [s]).length : Int) = (pre.length : Int) + 1 := by simp
      rw [e]
      omega)
    simp only [List.append_assoc, List.singleton_append, List.length_append, List.length_cons, List.length_nil, Nat.zero_add] at ih
    refine Ev.step (f := fun k => quota_all.l0 k n (acc + atL s n) (pre ++ s :: suf) ((pre ++ s :: suf).length : Int) ((pre.length : Int) + 1)) (fun k => ?_) ?_
    · simp only [quota_all.l0]
      rw [if_pos (by omega), if_pos (by omega), if_pos (by omega), rd32_mid, w64 (x := s.f0 * n) (by omega) (by omega), mn_min, ← am]
      rw [w64 (x := acc + atL s n) (by omega) (by omega), w64 (x := (pre.length : Int) + 1) (by omega) (by omega)]
    · have e : acc + allL (s :: suf) n = acc + atL s n + allL suf n := by rw [allL_cons]; omega
      rw [e]
      simpa using ih
theorem all_ev {l : List S32} (h : okL l) {n : Int} (h0 : 0 ≤ n) (h1 : n ≤ 1099511627776) : Ev (fun k => quota_all.f k l n) (allL l n) := by
  have := all_go n h0 h1 l [] 0 h.2 (by simpa using h.1) (by omega) (by simp)
  simpa [quota_all.f] using this
theorem At_eq {s : S32} (h : okS s) {n : Int} (h0 : 0 ≤ n) (h1 : n ≤ 1099511627777) : weirgateref16_At.f s.f0 s.f1 n = some (atL s n) := by
  have m := mul_bd (W := s.f0) (n := n) (by have := h.1; omega) h.2.1 h0 h1
  unfold weirgateref16_At.f atL
  rw [w64 (by omega) (by omega), mn_min]
theorem All_go (n : Int) (h0 : 0 ≤ n) (h1 : n ≤ 1099511627776) : ∀ (suf pre : List S32) (acc : Int), (∀ s ∈ suf, okS s) → (pre ++ suf).length ≤ 60 → 0 ≤ acc → acc ≤ (pre.length : Int) * 1099511627776 →
    Ev (fun k => weirgateref16_All.l0 k (pre ++ suf) n acc (pre.length : Int)) (acc + allL suf n) := by
  intro suf
  induction suf with
  | nil =>
    intro pre acc _ hl ha hb
    refine Ev.step (f := fun _ => some acc) (fun k => ?_) ?_
    · simp only [weirgateref16_All.l0, List.append_nil]
      rw [if_neg (by omega)]
    · simp only [allL, Int.add_zero]
      exact Ev.now _
  | cons s suf IH =>
    intro pre acc hs hl ha hb
    have ok := hs s (by simp)
    have a := atL_bd ok h0 (by omega : n ≤ 1099511627777)
    have hlen : (pre ++ s :: suf).length = pre.length + suf.length + 1 := by simp; omega
    have ih := IH (pre ++ [s]) (acc + atL s n) (fun t ht => hs t (by simp [ht])) (by simpa using hl) (by omega) (by
      have e : ((pre ++ [s]).length : Int) = (pre.length : Int) + 1 := by simp
      rw [e]
      omega)
    simp only [List.append_assoc, List.singleton_append, List.length_append, List.length_cons, List.length_nil, Nat.zero_add] at ih
    refine Ev.step (f := fun k => weirgateref16_All.l0 k (pre ++ s :: suf) n (acc + atL s n) ((pre.length : Int) + 1)) (fun k => ?_) ?_
    · simp only [weirgateref16_All.l0]
      rw [if_pos (by omega), if_pos (by omega), rd32_mid, At_eq ok h0 (by omega)]
      simp only [Option.bind_some]
      rw [w64 (x := acc + atL s n) (by omega) (by omega), w64 (x := (pre.length : Int) + 1) (by omega) (by omega)]
    · have e : acc + allL (s :: suf) n = acc + atL s n + allL suf n := by rw [allL_cons]; omega
      rw [e]
      simpa using ih
theorem All_ev {l : List S32} (h : okL l) {n : Int} (h0 : 0 ≤ n) (h1 : n ≤ 1099511627776) : Ev (fun k => weirgateref16_All.f k l n) (allL l n) := by
  have := All_go n h0 h1 l [] 0 h.2 (by simpa using h.1) (by omega) (by simp)
  simpa [weirgateref16_All.f] using this
/-- The level that both searches come to. -/
structure LevelIs (cap : Int) (l : List S32) (r : Int) : Prop where
  lo : 0 ≤ r
  hi : r ≤ 1099511627776
  fits : allL l r ≤ cap
  most : r = 1099511627776 ∨ cap < allL l (r + 1)
theorem level_go {l : List S32} (h : okL l) (cap : Int) : ∀ (d : Nat) (x y : Int), (y - x).toNat ≤ d → 0 ≤ x → x < y → y ≤ 1099511627777 → allL l x ≤ cap → (y = 1099511627777 ∨ cap < allL l y) →
    ∃ r, Ev (fun k => quota_Level.l0 k cap l x y) r ∧ Ev (fun k => weirgateref16_Level.l0 k cap l x y) r ∧ LevelIs cap l r
  | 0, x, y, hd, h0, hxy, hy, _, _ => by omega
  | d + 1, x, y, hd, h0, hxy, hy, hx, hm => by
    by_cases c : y - x > 1
    · have e1 : (x + y) / 2 = x + (y - x) / 2 := by omega
      have q : Ev (fun k => quota_all.f k l (x + (y - x) / 2)) (allL l (x + (y - x) / 2)) := all_ev h (by omega) (by omega)
      have p : Ev (fun k => weirgateref16_All.f k l (x + (y - x) / 2)) (allL l (x + (y - x) / 2)) := All_ev h (by omega) (by omega)
      have s1 : ∀ k, quota_Level.l0 (k + 1) cap l x y = (quota_all.f k l (x + (y - x) / 2)).bind fun t => (if t ≤ cap then (quota_Level.l0 k cap l (x + (y - x) / 2) y) else (quota_Level.l0 k cap l x (x + (y - x) / 2))) := fun k => by
        simp only [quota_Level.l0]; rw [if_pos c]
      have s2 : ∀ k, weirgateref16_Level.l0 (k + 1) cap l x y = (weirgateref16_All.f k l (x + (y - x) / 2)).bind fun t => (if t ≤ cap then (weirgateref16_Level.l0 k cap l (x + (y - x) / 2) y) else (weirgateref16_Level.l0 k cap l x (x + (y - x) / 2))) := fun k => by
        simp only [weirgateref16_Level.l0]
        rw [w64 (x := y - x) (by omega) (by omega), if_pos c, w64 (x := x + y) (by omega) (by omega), Int.tdiv_eq_ediv_of_nonneg (by omega), w64 (x := (x + y) / 2) (by omega) (by omega), e1]
      by_cases hc : allL l (x + (y - x) / 2) ≤ cap
      · obtain ⟨r, a1, a2, a3⟩ := level_go h cap d (x + (y - x) / 2) y (by omega) (by omega) (by omega) hy hc hm
        refine ⟨r, Ev.step s1 (Ev.bind q ?_), Ev.step s2 (Ev.bind p ?_), a3⟩
        · simp only [if_pos hc]; exact a1
        · simp only [if_pos hc]; exact a2
      · obtain ⟨r, a1, a2, a3⟩ := level_go h cap d x (x + (y - x) / 2) (by omega) h0 (by omega) (by omega) hx (.inr (by omega))
        refine ⟨r, Ev.step s1 (Ev.bind q ?_), Ev.step s2 (Ev.bind p ?_), a3⟩
        · simp only [if_neg hc]; exact a1
        · simp only [if_neg hc]; exact a2
    · refine ⟨x, Ev.step (f := fun _ => some x) (fun k => ?_) (Ev.now _), Ev.step (f := fun _ => some x) (fun k => ?_) (Ev.now _), ⟨h0, by omega, hx, ?_⟩⟩
      · simp only [quota_Level.l0]; rw [if_neg c]
      · simp only [weirgateref16_Level.l0]; rw [w64 (x := y - x) (by omega) (by omega), if_neg c]
      · have : y = x + 1 := by omega
        subst this
        rcases hm with hm | hm
        · left; omega
        · exact .inr hm
theorem allL_zero : ∀ {l : List S32}, (∀ s ∈ l, okS s) → allL l 0 = 0
  | [], _ => rfl
  | s :: l, h => by
    have := h s (by simp)
    rw [allL_cons]
    unfold atL
    rw [allL_zero (l := l) (fun t ht => h t (by simp [ht]))]
    have h2 := this.2.2
    simp only [Int.mul_zero]
    omega
theorem level_ev {l : List S32} (h : okL l) {cap : Int} (hc : 0 ≤ cap) : ∃ r, Ev (fun k => quota_Level.f k cap l) r ∧ Ev (fun k => weirgateref16_Level.f k cap l) r ∧ LevelIs cap l r :=
  level_go h cap 1099511627777 0 1099511627777 (by omega) (by omega) (by omega) (by omega) (by rw [allL_zero h.2]; exact hc) (.inl rfl)

end Go.Proofs.Yteieknlkcodkcaa.Q
