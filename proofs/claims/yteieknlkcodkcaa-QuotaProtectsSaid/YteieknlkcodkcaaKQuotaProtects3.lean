/- Texts of this claim, part 3: the walks of the functions that the law calls, and the plain mathematics of what they answer. -/
import Derived.OpenShut
import Derived.Test.YteieknlkcodkcaaKQuotaProtects2
namespace Go.Proofs.Yteieknlkcodkcaa.Q
open Go.RowKit Go.Proofs.YteieknlkcodkcaaW.PrintWords Go.Proofs.YteieknlkcodkcaaW.PrintLast Go.Proofs.YteieknlkcodkcaaW.PrintMore
attribute [local go_sem] max2_int min2_int max_two min_two max_three min_three max_four min_four   -- for this text's walks alone
set_option linter.unusedVariables false
set_option linter.unusedSimpArgs false

/-! ### weirgateref16_Valid: function 11 -/
def weirgateref16_Valid.l0 : Nat → List (S32) → Int → Option (Bool)
  | 0, _, _ => none
  | k + 1, x0, x3 => if x3 < (x0.length : Int) then (if 0 ≤ x3 then (if ((rd_T32 x0 x3).f0) < 1 then (some false) else (if ((rd_T32 x0 x3).f0) > 1048576 then (some false) else (if ((rd_T32 x0 x3).f1) < 0 then (some false) else (if ((rd_T32 x0 x3).f1) > 1099511627776 then (some false) else (weirgateref16_Valid.l0 k x0 (wrap64 (x3 + 1))))))) else (none)) else (some (decide ((x0.length : Int) ≤ 1000)))
def weirgateref16_Valid.f (k : Nat) (l0 : List (S32)) : Option (Bool) := weirgateref16_Valid.l0 k l0 0
theorem weirgateref16_Valid.mono_l : ∀ k, (∀ y0 y1, LeO (weirgateref16_Valid.l0 k y0 y1) (weirgateref16_Valid.l0 (k + 1) y0 y1))
  | 0 => fun _ _ r h => by simp [weirgateref16_Valid.l0] at h
  | k + 1 => by
    have ih0 := weirgateref16_Valid.mono_l k
    · intro y0 y1
      unfold weirgateref16_Valid.l0
      repeat' first
      | (with_reducible exact ih0 _ _)
      | (with_reducible exact LeO.refl _)
      | (with_reducible exact LeO.none _)
      | (with_reducible refine LeO.ite ?_ ?_)
      | (with_reducible refine LeO.bind ?_ (fun _ => ?_))
      | exact ih0 _ _
      | exact LeO.none _
      | refine LeO.ite ?_ ?_
      | refine LeO.bind ?_ (fun _ => ?_)
theorem weirgateref16_Valid.mono : ∀ a0 k, LeO (weirgateref16_Valid.f k a0) (weirgateref16_Valid.f (k + 1) a0) := by
  intro a0 k
  have ih0 := weirgateref16_Valid.mono_l k
  unfold weirgateref16_Valid.f
  repeat' first
      | (with_reducible exact ih0 _ _)
      | (with_reducible exact LeO.refl _)
      | (with_reducible exact LeO.none _)
      | (with_reducible refine LeO.ite ?_ ?_)
      | (with_reducible refine LeO.bind ?_ (fun _ => ?_))
      | exact ih0 _ _
      | exact LeO.none _
      | refine LeO.ite ?_ ?_
      | refine LeO.bind ?_ (fun _ => ?_)
set_option maxHeartbeats 8000000 in
set_option maxRecDepth 100000 in
theorem weirgateref16_Valid.calls (k : Nat) (A0 : Option Addr) (c0 : Nat) (l0 : List (S32)) (r : Bool) (w : World) (hr0 : Kd.C k32 w A0 l0.length l0) (hc0 : l0.length ≤ c0) (h : weirgateref16_Valid.f k l0 = some r) :
    Calls Try.prog 11 #[.slice A0 l0.length c0] w fun e w' => e = .returned (.bool r) ∧ Drawn0 w w' := by
  have HR0 := Aside0.mk hr0
  have HC0 := Aside0.mk hc0
  clear hr0 hc0
  have H : (weirgateref16_Valid.l0 k l0 0) = some r := h
  clear h
  have H' := Aside0.mk H
  clear H
  go_enter Try.func11, Try.ntmps11
  go_wp2
  go_loopg [3] k (fun kq v3 w' => ∃ (x3_1 : Int), v3 = .int .i64 x3_1 ∧ Aside0 (weirgateref16_Valid.l0 kq l0 x3_1 = some r) ∧ Aside0 (kq ≤ k) ∧ Drawn0 w w')
  case atStart => exact ⟨(0), (by first | rfl | (simp; done) | (simp [*]; done)), H', ⟨Nat.le_refl _⟩, by repeat (first | exact Drawn0.refl _ | apply Drawn0.step)⟩
  case round =>
    clear H'
    try clear c1
    obtain ⟨x3_1, rfl, HA, HK1, ⟨m1, rfl⟩⟩ := hrel
    cases gk with
    | zero => exact absurd HA.out (by simp [weirgateref16_Valid.l0])
    | succ k1 =>
      have H := HA.out
      clear HA
      simp only [weirgateref16_Valid.l0] at H
      by_cases c2 : x3_1 < (l0.length : Int)
      · rw [if_pos c2] at H
        have c2b0 : decide (x3_1 < (l0.length : Int)) = true := decide_eq_true c2
        clear c2
        by_cases c3 : 0 ≤ x3_1
        · rw [if_pos c3] at H
          have c3b0 : decide (0 ≤ x3_1) = true := decide_eq_true c3
          clear c3
          by_cases c4 : ((rd_T32 l0 x3_1).f0) < 1
          · rw [if_pos c4] at H
            have c4b0 : decide (((rd_T32 l0 x3_1).f0) < 1) = true := decide_eq_true c4
            clear c4
            obtain rfl := Option.some.inj H
            have p174 : 0 ≤ (x3_1 : Int) := of_decide_eq_true (by first | (with_reducible assumption) | assumption)
            have q174 : x3_1 < (l0.length : Int) := of_decide_eq_true (by first | (with_reducible assumption) | assumption)
            obtain ⟨ad174, e174, hx174_0, hx174_1⟩ := at_T32 HR0.out x3_1 p174 q174
            cases e174
            replace p174 := eq_true p174
            replace q174 := eq_true q174
            go_wp2
            go_ret
            exact ⟨by first | rfl | (simp; done) | (simp [*]; done), by repeat (first | exact Drawn0.refl _ | apply Drawn0.step)⟩
          · rw [if_neg c4] at H
            have c4b0 : decide (((rd_T32 l0 x3_1).f0) < 1) = false := decide_eq_false c4
            clear c4
            by_cases c5 : ((rd_T32 l0 x3_1).f0) > 1048576
            · rw [if_pos c5] at H
              have c5b0 : decide (1048576 < ((rd_T32 l0 x3_1).f0)) = true := decide_eq_true c5
              clear c5
              obtain rfl := Option.some.inj H
              have p174 : 0 ≤ (x3_1 : Int) := of_decide_eq_true (by first | (with_reducible assumption) | assumption)
              have q174 : x3_1 < (l0.length : Int) := of_decide_eq_true (by first | (with_reducible assumption) | assumption)
              obtain ⟨ad174, e174, hx174_0, hx174_1⟩ := at_T32 HR0.out x3_1 p174 q174
              cases e174
              replace p174 := eq_true p174
              replace q174 := eq_true q174
              have p175 : 0 ≤ (x3_1 : Int) := of_decide_eq_true (by first | (with_reducible assumption) | assumption)
              have q175 : x3_1 < (l0.length : Int) := of_decide_eq_true (by first | (with_reducible assumption) | assumption)
              obtain ⟨ad175, e175, hx175_0, hx175_1⟩ := at_T32 HR0.out x3_1 p175 q175
              obtain rfl : ad174 = ad175 := (by injection e175)
              replace p175 := eq_true p175
              replace q175 := eq_true q175
              go_wp2
              go_ret
              exact ⟨by first | rfl | (simp; done) | (simp [*]; done), by repeat (first | exact Drawn0.refl _ | apply Drawn0.step)⟩
            · rw [if_neg c5] at H
              have c5b0 : decide (1048576 < ((rd_T32 l0 x3_1).f0)) = false := decide_eq_false c5
              clear c5
              by_cases c6 : ((rd_T32 l0 x3_1).f1) < 0
              · rw [if_pos c6] at H
                have c6b0 : decide (((rd_T32 l0 x3_1).f1) < 0) = true := decide_eq_true c6
                clear c6
                obtain rfl := Option.some.inj H
                have p174 : 0 ≤ (x3_1 : Int) := of_decide_eq_true (by first | (with_reducible assumption) | assumption)
                have q174 : x3_1 < (l0.length : Int) := of_decide_eq_true (by first | (with_reducible assumption) | assumption)
                obtain ⟨ad174, e174, hx174_0, hx174_1⟩ := at_T32 HR0.out x3_1 p174 q174
                cases e174
                replace p174 := eq_true p174
                replace q174 := eq_true q174
                have p175 : 0 ≤ (x3_1 : Int) := of_decide_eq_true (by first | (with_reducible assumption) | assumption)
                have q175 : x3_1 < (l0.length : Int) := of_decide_eq_true (by first | (with_reducible assumption) | assumption)
                obtain ⟨ad175, e175, hx175_0, hx175_1⟩ := at_T32 HR0.out x3_1 p175 q175
                obtain rfl : ad174 = ad175 := (by injection e175)
                replace p175 := eq_true p175
                replace q175 := eq_true q175
                have p176 : 0 ≤ (x3_1 : Int) := of_decide_eq_true (by first | (with_reducible assumption) | assumption)
                have q176 : x3_1 < (l0.length : Int) := of_decide_eq_true (by first | (with_reducible assumption) | assumption)
                obtain ⟨ad176, e176, hx176_0, hx176_1⟩ := at_T32 HR0.out x3_1 p176 q176
                obtain rfl : ad174 = ad176 := (by injection e176)
                replace p176 := eq_true p176
                replace q176 := eq_true q176
                go_wp2
                go_ret
                exact ⟨by first | rfl | (simp; done) | (simp [*]; done), by repeat (first | exact Drawn0.refl _ | apply Drawn0.step)⟩
              · rw [if_neg c6] at H
                have c6b0 : decide (((rd_T32 l0 x3_1).f1) < 0) = false := decide_eq_false c6
                clear c6
                by_cases c7 : ((rd_T32 l0 x3_1).f1) > 1099511627776
                · rw [if_pos c7] at H
                  have c7b0 : decide (1099511627776 < ((rd_T32 l0 x3_1).f1)) = true := decide_eq_true c7
                  clear c7
                  obtain rfl := Option.some.inj H
                  have p174 : 0 ≤ (x3_1 : Int) := of_decide_eq_true (by first | (with_reducible assumption) | assumption)
                  have q174 : x3_1 < (l0.length : Int) := of_decide_eq_true (by first | (with_reducible assumption) | assumption)
                  obtain ⟨ad174, e174, hx174_0, hx174_1⟩ := at_T32 HR0.out x3_1 p174 q174
                  cases e174
                  replace p174 := eq_true p174
                  replace q174 := eq_true q174
                  have p175 : 0 ≤ (x3_1 : Int) := of_decide_eq_true (by first | (with_reducible assumption) | assumption)
                  have q175 : x3_1 < (l0.length : Int) := of_decide_eq_true (by first | (with_reducible assumption) | assumption)
                  obtain ⟨ad175, e175, hx175_0, hx175_1⟩ := at_T32 HR0.out x3_1 p175 q175
                  obtain rfl : ad174 = ad175 := (by injection e175)
                  replace p175 := eq_true p175
                  replace q175 := eq_true q175
                  have p176 : 0 ≤ (x3_1 : Int) := of_decide_eq_true (by first | (with_reducible assumption) | assumption)
                  have q176 : x3_1 < (l0.length : Int) := of_decide_eq_true (by first | (with_reducible assumption) | assumption)
                  obtain ⟨ad176, e176, hx176_0, hx176_1⟩ := at_T32 HR0.out x3_1 p176 q176
                  obtain rfl : ad174 = ad176 := (by injection e176)
                  replace p176 := eq_true p176
                  replace q176 := eq_true q176
                  have p177 : 0 ≤ (x3_1 : Int) := of_decide_eq_true (by first | (with_reducible assumption) | assumption)
                  have q177 : x3_1 < (l0.length : Int) := of_decide_eq_true (by first | (with_reducible assumption) | assumption)
                  obtain ⟨ad177, e177, hx177_0, hx177_1⟩ := at_T32 HR0.out x3_1 p177 q177
                  obtain rfl : ad174 = ad177 := (by injection e177)
                  replace p177 := eq_true p177
                  replace q177 := eq_true q177
                  go_wp2
                  go_ret
                  exact ⟨by first | rfl | (simp; done) | (simp [*]; done), by repeat (first | exact Drawn0.refl _ | apply Drawn0.step)⟩
                · rw [if_neg c7] at H
                  have c7b0 : decide (1099511627776 < ((rd_T32 l0 x3_1).f1)) = false := decide_eq_false c7
                  clear c7
                  have H' := Aside0.mk H
                  clear H
                  have p174 : 0 ≤ (x3_1 : Int) := of_decide_eq_true (by first | (with_reducible assumption) | assumption)
                  have q174 : x3_1 < (l0.length : Int) := of_decide_eq_true (by first | (with_reducible assumption) | assumption)
                  obtain ⟨ad174, e174, hx174_0, hx174_1⟩ := at_T32 HR0.out x3_1 p174 q174
                  cases e174
                  replace p174 := eq_true p174
                  replace q174 := eq_true q174
                  have p175 : 0 ≤ (x3_1 : Int) := of_decide_eq_true (by first | (with_reducible assumption) | assumption)
                  have q175 : x3_1 < (l0.length : Int) := of_decide_eq_true (by first | (with_reducible assumption) | assumption)
                  obtain ⟨ad175, e175, hx175_0, hx175_1⟩ := at_T32 HR0.out x3_1 p175 q175
                  obtain rfl : ad174 = ad175 := (by injection e175)
                  replace p175 := eq_true p175
                  replace q175 := eq_true q175
                  have p176 : 0 ≤ (x3_1 : Int) := of_decide_eq_true (by first | (with_reducible assumption) | assumption)
                  have q176 : x3_1 < (l0.length : Int) := of_decide_eq_true (by first | (with_reducible assumption) | assumption)
                  obtain ⟨ad176, e176, hx176_0, hx176_1⟩ := at_T32 HR0.out x3_1 p176 q176
                  obtain rfl : ad174 = ad176 := (by injection e176)
                  replace p176 := eq_true p176
                  replace q176 := eq_true q176
                  have p177 : 0 ≤ (x3_1 : Int) := of_decide_eq_true (by first | (with_reducible assumption) | assumption)
                  have q177 : x3_1 < (l0.length : Int) := of_decide_eq_true (by first | (with_reducible assumption) | assumption)
                  obtain ⟨ad177, e177, hx177_0, hx177_1⟩ := at_T32 HR0.out x3_1 p177 q177
                  obtain rfl : ad174 = ad177 := (by injection e177)
                  replace p177 := eq_true p177
                  replace q177 := eq_true q177
                  go_wp2
                  go_roundg k1
                  case measure => have := HK1.out; omega
                  case rel => exact ⟨(wrap64 (x3_1 + 1)), (by first | rfl | (simp; done) | (simp [*]; done)), H', ⟨by have := HK1.out; omega⟩, by repeat (first | exact Drawn0.refl _ | apply Drawn0.step)⟩
        · rw [if_neg c3] at H
          exact absurd H (by simp)
      · rw [if_neg c2] at H
        have c2b0 : decide (x3_1 < (l0.length : Int)) = false := decide_eq_false c2
        clear c2
        obtain rfl := Option.some.inj H
        go_wp2
        go_ret
        exact ⟨by first | rfl | (simp; done) | (simp [*]; done), by repeat (first | exact Drawn0.refl _ | apply Drawn0.step)⟩

end Go.Proofs.Yteieknlkcodkcaa.Q
namespace Go.Proofs.Yteieknlkcodkcaa.Q
open Go.RowKit Go.Proofs.YteieknlkcodkcaaW.PrintWords Go.Proofs.YteieknlkcodkcaaW.PrintLast Go.Proofs.YteieknlkcodkcaaW.PrintMore
attribute [local go_sem] max2_int min2_int max_two min_two max_three min_three max_four min_four   -- for this text's walks alone
set_option linter.unusedVariables false
set_option linter.unusedSimpArgs false

/-! ### weirgateref16_Fair: function 17 -/
def weirgateref16_Fair.l0 : Nat → List (S32) → Int → Int → List Int → Int → Option (List Int)
  | 0, _, _, _, _, _ => none
  | k + 1, x1, x5, x6, x7, x8 => if x8 < (x1.length : Int) then (if 0 ≤ x8 then ((weirgateref16_At.f ((rd_T32 x1 x8).f0) ((rd_T32 x1 x8).f1) x5).bind fun t185 => (if x7.length < 17592186044416 then (weirgateref16_Fair.l0 k x1 x5 (wrap64 (x6 - (mn x6 (mn ((rd_T32 x1 x8).f0) (wrap64 (((rd_T32 x1 x8).f1) - t185)))))) (x7 ++ [wrap64 (t185 + (mn x6 (mn ((rd_T32 x1 x8).f0) (wrap64 (((rd_T32 x1 x8).f1) - t185)))))]) (wrap64 (x8 + 1))) else (none))) else (none)) else (some x7)
def weirgateref16_Fair.f (k : Nat) (a0 : Int) (l1 : List (S32)) : Option (List Int) := (weirgateref16_Level.f k a0 l1).bind fun t182 => ((weirgateref16_All.f k l1 t182).bind fun t183 => (weirgateref16_Fair.l0 k l1 t182 (wrap64 (a0 - t183)) ([] : List Int) 0))
theorem weirgateref16_Fair.mono_l : ∀ k, (∀ y0 y1 y2 y3 y4, LeO (weirgateref16_Fair.l0 k y0 y1 y2 y3 y4) (weirgateref16_Fair.l0 (k + 1) y0 y1 y2 y3 y4))
  | 0 => fun _ _ _ _ _ r h => by simp [weirgateref16_Fair.l0] at h
  | k + 1 => by
    have ih0 := weirgateref16_Fair.mono_l k
    · intro y0 y1 y2 y3 y4
      unfold weirgateref16_Fair.l0
      repeat' first
      | (with_reducible exact ih0 _ _ _ _ _)
      | (with_reducible exact weirgateref16_All.mono _ _ _)
      | (with_reducible exact weirgateref16_Level.mono _ _ _)
      | (with_reducible exact LeO.refl _)
      | (with_reducible exact LeO.none _)
      | (with_reducible refine LeO.ite ?_ ?_)
      | (with_reducible refine LeO.bind ?_ (fun _ => ?_))
      | exact ih0 _ _ _ _ _
      | exact weirgateref16_All.mono _ _ _
      | exact weirgateref16_Level.mono _ _ _
      | exact LeO.none _
      | refine LeO.ite ?_ ?_
      | refine LeO.bind ?_ (fun _ => ?_)
theorem weirgateref16_Fair.mono : ∀ a0 a1 k, LeO (weirgateref16_Fair.f k a0 a1) (weirgateref16_Fair.f (k + 1) a0 a1) := by
  intro a0 a1 k
  have ih0 := weirgateref16_Fair.mono_l k
  unfold weirgateref16_Fair.f
  repeat' first
      | (with_reducible exact ih0 _ _ _ _ _)
      | (with_reducible exact weirgateref16_All.mono _ _ _)
      | (with_reducible exact weirgateref16_Level.mono _ _ _)
      | (with_reducible exact LeO.refl _)
      | (with_reducible exact LeO.none _)
      | (with_reducible refine LeO.ite ?_ ?_)
      | (with_reducible refine LeO.bind ?_ (fun _ => ?_))
      | exact ih0 _ _ _ _ _
      | exact weirgateref16_All.mono _ _ _
      | exact weirgateref16_Level.mono _ _ _
      | exact LeO.none _
      | refine LeO.ite ?_ ?_
      | refine LeO.bind ?_ (fun _ => ?_)
set_option maxHeartbeats 8000000 in
set_option maxRecDepth 100000 in
theorem weirgateref16_Fair.calls (k : Nat) (a0 : Int) (A1 : Option Addr) (c1 : Nat) (l1 : List (S32)) (r : List Int) (w : World) (hr1 : Kd.C k32 w A1 l1.length l1) (hc1 : l1.length ≤ c1) (h : weirgateref16_Fair.f k a0 l1 = some r) :
    Calls Try.prog 17 #[.int .i64 a0, .slice A1 l1.length c1] w fun e w' => ∃ v0_ : Value, e = .returned (v0_) ∧ Kd.R (Kd.int .i64) 3 w' w.heap.size (fun _ => True) v0_ r ∧ Below w.heap.size w w' := by
  have hu32 := Try.underlying32
  have HR1 := Aside0.mk hr1
  have HC1 := Aside0.mk hc1
  clear hr1 hc1
  have HB := Aside0.mk (Below.refl w.heap.size w)
  have H : ((weirgateref16_Level.f k a0 l1).bind fun t182 => ((weirgateref16_All.f k l1 t182).bind fun t183 => (weirgateref16_Fair.l0 k l1 t182 (wrap64 (a0 - t183)) ([] : List Int) 0))) = some r := h
  clear h
  replace H := Option.bind_eq_some_iff.mp H
  obtain ⟨t182, A30, H⟩ := H
  replace H : ((weirgateref16_All.f k l1 t182).bind fun t183 => (weirgateref16_Fair.l0 k l1 t182 (wrap64 (a0 - t183)) ([] : List Int) 0)) = some r := H
  have A3 := Aside0.mk A30
  clear A30
  replace H := Option.bind_eq_some_iff.mp H
  obtain ⟨t183, A40, H⟩ := H
  replace H : (weirgateref16_Fair.l0 k l1 t182 (wrap64 (a0 - t183)) ([] : List Int) 0) = some r := H
  have A4 := Aside0.mk A40
  clear A40
  have H' := Aside0.mk H
  clear H
  go_enter Try.func17, Try.ntmps17
  go_wp2_with (first | (go_at_call 14; (with_reducible refine (weirgateref16_Level.calls k a0 _ _ l1 t182 _ ?side1 ?side2 A3.out).mono ?_); (case side1 => repeat (first | exact HR1.out | (with_reducible refine Kd.C_alloc ?_ _) | (with_reducible refine Kd.C_drewN ?_ _) | (with_reducible refine Kd.C_drew ?_))); (case side2 => exact HC1.out); rintro e w5 ⟨rfl, hb⟩; have n0_ := Aside0.mk (below_step (by repeat (first | (with_reducible first | exact HB.out | apply below_alloc | apply pw_below_drewN | apply below_drew1) | exact HB.out)) hb); clear HB; have HB := n0_; clear n0_; (try clear hb); (try clear hb2); (try clear hk); (try clear hi)) | (go_at_call 37; (with_reducible refine (weirgateref16_All.calls k _ _ l1 t182 t183 _ ?side1 ?side2 A4.out).mono ?_); (case side1 => repeat (first | exact (Kd.C_below HR1.out HB.out) | (with_reducible refine Kd.C_alloc ?_ _) | (with_reducible refine Kd.C_drewN ?_ _) | (with_reducible refine Kd.C_drew ?_))); (case side2 => exact HC1.out); rintro e w6 ⟨rfl, hb⟩; have n0_ := Aside0.mk (below_step (by repeat (first | (with_reducible first | exact HB.out | apply below_alloc | apply pw_below_drewN | apply below_drew1) | exact HB.out)) hb); clear HB; have HB := n0_; clear n0_; (try clear hb); (try clear hb2); (try clear hk); (try clear hi)))
  repeat (go_quiet (first | (go_at_call 14; (with_reducible refine (weirgateref16_Level.calls k a0 _ _ l1 t182 _ ?side1 ?side2 A3.out).mono ?_); (case side1 => repeat (first | exact HR1.out | (with_reducible refine Kd.C_alloc ?_ _) | (with_reducible refine Kd.C_drewN ?_ _) | (with_reducible refine Kd.C_drew ?_))); (case side2 => exact HC1.out); rintro e w5 ⟨rfl, hb⟩; have n0_ := Aside0.mk (below_step (by repeat (first | (with_reducible first | exact HB.out | apply below_alloc | apply pw_below_drewN | apply below_drew1) | exact HB.out)) hb); clear HB; have HB := n0_; clear n0_; (try clear hb); (try clear hb2); (try clear hk); (try clear hi)) | (go_at_call 37; (with_reducible refine (weirgateref16_All.calls k _ _ l1 t182 t183 _ ?side1 ?side2 A4.out).mono ?_); (case side1 => repeat (first | exact (Kd.C_below HR1.out HB.out) | (with_reducible refine Kd.C_alloc ?_ _) | (with_reducible refine Kd.C_drewN ?_ _) | (with_reducible refine Kd.C_drew ?_))); (case side2 => exact HC1.out); rintro e w6 ⟨rfl, hb⟩; have n0_ := Aside0.mk (below_step (by repeat (first | (with_reducible first | exact HB.out | apply below_alloc | apply pw_below_drewN | apply below_drew1) | exact HB.out)) hb); clear HB; have HB := n0_; clear n0_; (try clear hb); (try clear hb2); (try clear hk); (try clear hi))); try go_wp2_with (first | (go_at_call 14; (with_reducible refine (weirgateref16_Level.calls k a0 _ _ l1 t182 _ ?side1 ?side2 A3.out).mono ?_); (case side1 => repeat (first | exact HR1.out | (with_reducible refine Kd.C_alloc ?_ _) | (with_reducible refine Kd.C_drewN ?_ _) | (with_reducible refine Kd.C_drew ?_))); (case side2 => exact HC1.out); rintro e w5 ⟨rfl, hb⟩; have n0_ := Aside0.mk (below_step (by repeat (first | (with_reducible first | exact HB.out | apply below_alloc | apply pw_below_drewN | apply below_drew1) | exact HB.out)) hb); clear HB; have HB := n0_; clear n0_; (try clear hb); (try clear hb2); (try clear hk); (try clear hi)) | (go_at_call 37; (with_reducible refine (weirgateref16_All.calls k _ _ l1 t182 t183 _ ?side1 ?side2 A4.out).mono ?_); (case side1 => repeat (first | exact (Kd.C_below HR1.out HB.out) | (with_reducible refine Kd.C_alloc ?_ _) | (with_reducible refine Kd.C_drewN ?_ _) | (with_reducible refine Kd.C_drew ?_))); (case side2 => exact HC1.out); rintro e w6 ⟨rfl, hb⟩; have n0_ := Aside0.mk (below_step (by repeat (first | (with_reducible first | exact HB.out | apply below_alloc | apply pw_below_drewN | apply below_drew1) | exact HB.out)) hb); clear HB; have HB := n0_; clear n0_; (try clear hb); (try clear hb2); (try clear hk); (try clear hi))))
  go_loopg [6, 7, 8] k (fun kq v6 v7 v8 w' => ∃ (x6_1 : Int) (x7_1 : List Int) (x8_1 : Int), v6 = .int .i64 x6_1 ∧ v8 = .int .i64 x8_1 ∧ Aside0 (weirgateref16_Fair.l0 kq l1 t182 x6_1 x7_1 x8_1 = some r) ∧ Aside0 (kq ≤ k) ∧ Aside0 (Kd.R (Kd.int .i64) 3 w' w.heap.size (fun _ => True) v7 x7_1) ∧ Aside0 (Below w.heap.size w w'))
  case atStart => exact ⟨(wrap64 (a0 - t183)), (([] : List Int)), (0), (by first | rfl | (simp; done) | (simp [*]; done)), (by first | rfl | (simp; done) | (simp [*]; done)), H', ⟨Nat.le_refl _⟩, ⟨by first | exact Kd.R_nil _ _ _ _ _ | exact Kd.N_nil _ _ _ _ _ | exact Kd.V_nil _ _ _ _ _ | exact Kd.Q_nil _ _ _ _ _ | exact Kd.S_nil _ _ _ _ _⟩, ⟨by repeat (first | (with_reducible first | exact HB.out | apply below_alloc | apply pw_below_drewN | apply below_drew1) | exact HB.out)⟩⟩
  case round =>
    clear H'
    try clear c1
    try clear p2
    try clear p6
    obtain ⟨x6_1, x7_1, x8_1, rfl, rfl, HA, HK1, HO_7, HB⟩ := hrel
    cases gk with
    | zero => exact absurd HA.out (by simp [weirgateref16_Fair.l0])
    | succ k1 =>
      have H := HA.out
      clear HA
      simp only [weirgateref16_Fair.l0] at H
      by_cases c7 : x8_1 < (l1.length : Int)
      · rw [if_pos c7] at H
        have c7b0 : decide (x8_1 < (l1.length : Int)) = true := decide_eq_true c7
        clear c7
        by_cases c8 : 0 ≤ x8_1
        · rw [if_pos c8] at H
          have c8b0 : decide (0 ≤ x8_1) = true := decide_eq_true c8
          clear c8
          replace H := Option.bind_eq_some_iff.mp H
          obtain ⟨t185, A90, H⟩ := H
          replace H : (if x7_1.length < 17592186044416 then (weirgateref16_Fair.l0 k1 l1 t182 (wrap64 (x6_1 - (mn x6_1 (mn ((rd_T32 l1 x8_1).f0) (wrap64 (((rd_T32 l1 x8_1).f1) - t185)))))) (x7_1 ++ [wrap64 (t185 + (mn x6_1 (mn ((rd_T32 l1 x8_1).f0) (wrap64 (((rd_T32 l1 x8_1).f1) - t185)))))]) (wrap64 (x8_1 + 1))) else (none)) = some r := H
          have A9 := Aside0.mk A90
          clear A90
          obtain ⟨ji10, hji10⟩ : ∃ j_ : Int, (mn ((rd_T32 l1 x8_1).f0) (wrap64 (((rd_T32 l1 x8_1).f1) - t185))) = j_ := ⟨_, rfl⟩
          replace H : (if x7_1.length < 17592186044416 then (weirgateref16_Fair.l0 k1 l1 t182 (wrap64 (x6_1 - (mn x6_1 (ji10)))) (x7_1 ++ [wrap64 (t185 + (mn x6_1 (ji10)))]) (wrap64 (x8_1 + 1))) else (none)) = some r := by first | (rw [hji10] at H; exact H) | (simp only [hji10] at H ⊢; exact H)
          (try rw [hji10] at A9)
          have hji10_ : (if (wrap64 (((rd_T32 l1 x8_1).f1) - t185)) < ((rd_T32 l1 x8_1).f0) then (wrap64 (((rd_T32 l1 x8_1).f1) - t185)) else ((rd_T32 l1 x8_1).f0)) = ji10 := hji10
          obtain ⟨ji11, hji11⟩ : ∃ j_ : Int, (mn x6_1 (ji10)) = j_ := ⟨_, rfl⟩
          replace H : (if x7_1.length < 17592186044416 then (weirgateref16_Fair.l0 k1 l1 t182 (wrap64 (x6_1 - (ji11))) (x7_1 ++ [wrap64 (t185 + (ji11))]) (wrap64 (x8_1 + 1))) else (none)) = some r := by first | (rw [hji11] at H; exact H) | (simp only [hji11] at H ⊢; exact H)
          (try rw [hji11] at A9)
          have hji11_ : (if (ji10) < x6_1 then (ji10) else x6_1) = ji11 := hji11
          by_cases c12 : x7_1.length < 17592186044416
          · rw [if_pos c12] at H
            have LMc12 := Aside0.mk c12
            clear c12
            obtain ⟨y188, hy188⟩ : ∃ y_ : List Int, y_ = (x7_1 ++ [wrap64 (t185 + (ji11))]) := ⟨_, rfl⟩
            replace H : (weirgateref16_Fair.l0 k1 l1 t182 (wrap64 (x6_1 - (ji11))) y188 (wrap64 (x8_1 + 1))) = some r := by first | (rw [hy188]; with_reducible exact H) | (have H2_ := (Option.bind_some _ _).symm.trans H; rw [hy188]; with_reducible exact H2_) | (have H2_ := (Option.bind_some _ _).symm.trans H; with_reducible exact H2_) | with_reducible exact H | (rw [hy188]; exact H) | exact H
            have Ny188 := Aside0.mk hy188
            clear hy188
            have H' := Aside0.mk H
            clear H
            have p184 : 0 ≤ (x8_1 : Int) := of_decide_eq_true (by first | (with_reducible assumption) | assumption)
            have q184 : x8_1 < (l1.length : Int) := of_decide_eq_true (by first | (with_reducible assumption) | assumption)
            obtain ⟨ad184, e184, hx184_0, hx184_1⟩ := at_T32 HR1.out x8_1 p184 q184
            cases e184
            replace hx184_0 := (HB.out.cell (World.block_lt_of_cell? w _ hx184_0)).trans hx184_0
            replace hx184_1 := (HB.out.cell (World.block_lt_of_cell? w _ hx184_1)).trans hx184_1
            replace p184 := eq_true p184
            replace q184 := eq_true q184
            go_wp2_with (first | (go_at_call 38; (with_reducible refine (weirgateref16_At.calls ((rd_T32 l1 x8_1).f0) ((rd_T32 l1 x8_1).f1) t182 t185 _ A9.out).mono ?_); rintro e w13 ⟨rfl, hb⟩; have n0_ := Aside0.mk (Kd.R_below (by (with_reducible repeat (first | apply Kd.R_alloc | apply Kd.R_drewN | apply Kd.R_drew)); exact HO_7.out) hb); have n1_ := Aside0.mk (below_step (by repeat (first | (with_reducible first | exact HB.out | apply below_alloc | apply pw_below_drewN | apply below_drew1) | exact HB.out)) hb); clear HO_7; clear HB; have HO_7 := n0_; have HB := n1_; clear n0_ n1_; (try clear hb); (try clear hb2); (try clear hk); (try clear hi); have p186 : 0 ≤ (x8_1 : Int) := of_decide_eq_true (by first | (with_reducible assumption) | assumption); have q186 : x8_1 < (l1.length : Int) := of_decide_eq_true (by first | (with_reducible assumption) | assumption); obtain ⟨ad186, e186, hx186_0, hx186_1⟩ := at_T32 HR1.out x8_1 p186 q186; obtain rfl : ad184 = ad186 := (by injection e186); replace hx186_0 := (HB.out.cell (World.block_lt_of_cell? w _ hx186_0)).trans hx186_0; replace hx186_1 := (HB.out.cell (World.block_lt_of_cell? w _ hx186_1)).trans hx186_1; replace p186 := eq_true p186; replace q186 := eq_true q186; have p187 : 0 ≤ (x8_1 : Int) := of_decide_eq_true (by first | (with_reducible assumption) | assumption); have q187 : x8_1 < (l1.length : Int) := of_decide_eq_true (by first | (with_reducible assumption) | assumption); obtain ⟨ad187, e187, hx187_0, hx187_1⟩ := at_T32 HR1.out x8_1 p187 q187; obtain rfl : ad184 = ad187 := (by injection e187); replace hx187_0 := (HB.out.cell (World.block_lt_of_cell? w _ hx187_0)).trans hx187_0; replace hx187_1 := (HB.out.cell (World.block_lt_of_cell? w _ hx187_1)).trans hx187_1; replace p187 := eq_true p187; replace q187 := eq_true q187) | ((with_reducible refine gate_builtin (b := .append) (xs := #[.tmp 49, .tmp 53]) rfl ?_); at_builtin; refine Kd.R_append (Kd.int .i64) (w0 := w) w.heap.size rfl (.tmp 49) (.tmp 53) 23 3 (.int .i64 0) 8 rfl Try.underlying23 info3 rfl (by decide) (by omega) u7 x7_1 (wrap64 (t185 + (ji11))) [.int .i64 (wrap64 (t185 + (ji11)))] (fun _ => True) (fun _ => False) rfl rfl ?aP (fun _ hk => hk.elim) ?aF ?aO ?aB ?aS ?aL ?_; (case aP => exact rfl); (case aB => exact (by repeat (first | (with_reducible first | exact HB.out | apply below_alloc | apply pw_below_drewN | apply below_drew1) | exact HB.out))); (case aF => exact (fun _ _ => trivial)); (case aO => exact (by (with_reducible repeat (first | apply Kd.R_alloc | apply Kd.R_drewN | apply Kd.R_drew)); exact HO_7.out)); (case aS => exact (below_size (by repeat (first | (with_reducible first | exact HB.out | apply below_alloc | apply pw_below_drewN | apply below_drew1) | exact HB.out)))); (case aL => have := LMc12.out; omega); intro v189 w14 ho hb hg hat; rw [← Ny188.out] at ho; have n0_ := Aside0.mk (hb); have n1_ := Aside0.mk (ho); clear HB; clear HO_7; have HB := n0_; have HO190 := n1_; clear n0_ n1_; clear ho hb hg hat))
            repeat (go_quiet (first | (go_at_call 38; (with_reducible refine (weirgateref16_At.calls ((rd_T32 l1 x8_1).f0) ((rd_T32 l1 x8_1).f1) t182 t185 _ A9.out).mono ?_); rintro e w13 ⟨rfl, hb⟩; have n0_ := Aside0.mk (Kd.R_below (by (with_reducible repeat (first | apply Kd.R_alloc | apply Kd.R_drewN | apply Kd.R_drew)); exact HO_7.out) hb); have n1_ := Aside0.mk (below_step (by repeat (first | (with_reducible first | exact HB.out | apply below_alloc | apply pw_below_drewN | apply below_drew1) | exact HB.out)) hb); clear HO_7; clear HB; have HO_7 := n0_; have HB := n1_; clear n0_ n1_; (try clear hb); (try clear hb2); (try clear hk); (try clear hi); have p186 : 0 ≤ (x8_1 : Int) := of_decide_eq_true (by first | (with_reducible assumption) | assumption); have q186 : x8_1 < (l1.length : Int) := of_decide_eq_true (by first | (with_reducible assumption) | assumption); obtain ⟨ad186, e186, hx186_0, hx186_1⟩ := at_T32 HR1.out x8_1 p186 q186; obtain rfl : ad184 = ad186 := (by injection e186); replace hx186_0 := (HB.out.cell (World.block_lt_of_cell? w _ hx186_0)).trans hx186_0; replace hx186_1 := (HB.out.cell (World.block_lt_of_cell? w _ hx186_1)).trans hx186_1; replace p186 := eq_true p186; replace q186 := eq_true q186; have p187 : 0 ≤ (x8_1 : Int) := of_decide_eq_true (by first | (with_reducible assumption) | assumption); have q187 : x8_1 < (l1.length : Int) := of_decide_eq_true (by first | (with_reducible assumption) | assumption); obtain ⟨ad187, e187, hx187_0, hx187_1⟩ := at_T32 HR1.out x8_1 p187 q187; obtain rfl : ad184 = ad187 := (by injection e187); replace hx187_0 := (HB.out.cell (World.block_lt_of_cell? w _ hx187_0)).trans hx187_0; replace hx187_1 := (HB.out.cell (World.block_lt_of_cell? w _ hx187_1)).trans hx187_1; replace p187 := eq_true p187; replace q187 := eq_true q187) | ((with_reducible refine gate_builtin (b := .append) (xs := #[.tmp 49, .tmp 53]) rfl ?_); at_builtin; refine Kd.R_append (Kd.int .i64) (w0 := w) w.heap.size rfl (.tmp 49) (.tmp 53) 23 3 (.int .i64 0) 8 rfl Try.underlying23 info3 rfl (by decide) (by omega) u7 x7_1 (wrap64 (t185 + (ji11))) [.int .i64 (wrap64 (t185 + (ji11)))] (fun _ => True) (fun _ => False) rfl rfl ?aP (fun _ hk => hk.elim) ?aF ?aO ?aB ?aS ?aL ?_; (case aP => exact rfl); (case aB => exact (by repeat (first | (with_reducible first | exact HB.out | apply below_alloc | apply pw_below_drewN | apply below_drew1) | exact HB.out))); (case aF => exact (fun _ _ => trivial)); (case aO => exact (by (with_reducible repeat (first | apply Kd.R_alloc | apply Kd.R_drewN | apply Kd.R_drew)); exact HO_7.out)); (case aS => exact (below_size (by repeat (first | (with_reducible first | exact HB.out | apply below_alloc | apply pw_below_drewN | apply below_drew1) | exact HB.out)))); (case aL => have := LMc12.out; omega); intro v189 w14 ho hb hg hat; rw [← Ny188.out] at ho; have n0_ := Aside0.mk (hb); have n1_ := Aside0.mk (ho); clear HB; clear HO_7; have HB := n0_; have HO190 := n1_; clear n0_ n1_; clear ho hb hg hat)); try go_wp2_with (first | (go_at_call 38; (with_reducible refine (weirgateref16_At.calls ((rd_T32 l1 x8_1).f0) ((rd_T32 l1 x8_1).f1) t182 t185 _ A9.out).mono ?_); rintro e w13 ⟨rfl, hb⟩; have n0_ := Aside0.mk (Kd.R_below (by (with_reducible repeat (first | apply Kd.R_alloc | apply Kd.R_drewN | apply Kd.R_drew)); exact HO_7.out) hb); have n1_ := Aside0.mk (below_step (by repeat (first | (with_reducible first | exact HB.out | apply below_alloc | apply pw_below_drewN | apply below_drew1) | exact HB.out)) hb); clear HO_7; clear HB; have HO_7 := n0_; have HB := n1_; clear n0_ n1_; (try clear hb); (try clear hb2); (try clear hk); (try clear hi); have p186 : 0 ≤ (x8_1 : Int) := of_decide_eq_true (by first | (with_reducible assumption) | assumption); have q186 : x8_1 < (l1.length : Int) := of_decide_eq_true (by first | (with_reducible assumption) | assumption); obtain ⟨ad186, e186, hx186_0, hx186_1⟩ := at_T32 HR1.out x8_1 p186 q186; obtain rfl : ad184 = ad186 := (by injection e186); replace hx186_0 := (HB.out.cell (World.block_lt_of_cell? w _ hx186_0)).trans hx186_0; replace hx186_1 := (HB.out.cell (World.block_lt_of_cell? w _ hx186_1)).trans hx186_1; replace p186 := eq_true p186; replace q186 := eq_true q186; have p187 : 0 ≤ (x8_1 : Int) := of_decide_eq_true (by first | (with_reducible assumption) | assumption); have q187 : x8_1 < (l1.length : Int) := of_decide_eq_true (by first | (with_reducible assumption) | assumption); obtain ⟨ad187, e187, hx187_0, hx187_1⟩ := at_T32 HR1.out x8_1 p187 q187; obtain rfl : ad184 = ad187 := (by injection e187); replace hx187_0 := (HB.out.cell (World.block_lt_of_cell? w _ hx187_0)).trans hx187_0; replace hx187_1 := (HB.out.cell (World.block_lt_of_cell? w _ hx187_1)).trans hx187_1; replace p187 := eq_true p187; replace q187 := eq_true q187) | ((with_reducible refine gate_builtin (b := .append) (xs := #[.tmp 49, .tmp 53]) rfl ?_); at_builtin; refine Kd.R_append (Kd.int .i64) (w0 := w) w.heap.size rfl (.tmp 49) (.tmp 53) 23 3 (.int .i64 0) 8 rfl Try.underlying23 info3 rfl (by decide) (by omega) u7 x7_1 (wrap64 (t185 + (ji11))) [.int .i64 (wrap64 (t185 + (ji11)))] (fun _ => True) (fun _ => False) rfl rfl ?aP (fun _ hk => hk.elim) ?aF ?aO ?aB ?aS ?aL ?_; (case aP => exact rfl); (case aB => exact (by repeat (first | (with_reducible first | exact HB.out | apply below_alloc | apply pw_below_drewN | apply below_drew1) | exact HB.out))); (case aF => exact (fun _ _ => trivial)); (case aO => exact (by (with_reducible repeat (first | apply Kd.R_alloc | apply Kd.R_drewN | apply Kd.R_drew)); exact HO_7.out)); (case aS => exact (below_size (by repeat (first | (with_reducible first | exact HB.out | apply below_alloc | apply pw_below_drewN | apply below_drew1) | exact HB.out)))); (case aL => have := LMc12.out; omega); intro v189 w14 ho hb hg hat; rw [← Ny188.out] at ho; have n0_ := Aside0.mk (hb); have n1_ := Aside0.mk (ho); clear HB; clear HO_7; have HB := n0_; have HO190 := n1_; clear n0_ n1_; clear ho hb hg hat)))
            go_roundg k1
            case measure => have := HK1.out; omega
            case rel => exact ⟨(wrap64 (x6_1 - (ji11))), (y188), (wrap64 (x8_1 + 1)), (by first | rfl | (simp; done) | (simp only [← hji11] <;> (first | rfl | simp)) | (simp [*]; done)), (by first | rfl | (simp; done) | (simp [*]; done)), H', ⟨by have := HK1.out; omega⟩, ⟨by (with_reducible repeat (first | apply Kd.R_alloc | apply Kd.R_drewN | apply Kd.R_drew)); exact HO190.out⟩, ⟨by repeat (first | (with_reducible first | exact HB.out | apply below_alloc | apply pw_below_drewN | apply below_drew1) | exact HB.out)⟩⟩
          · rw [if_neg c12] at H
            exact absurd H (by simp)
        · rw [if_neg c8] at H
          exact absurd H (by simp)
      · rw [if_neg c7] at H
        have c7b0 : decide (x8_1 < (l1.length : Int)) = false := decide_eq_false c7
        clear c7
        obtain rfl := Option.some.inj H
        go_wp2
        repeat (go_quiet (fail); try go_wp2)
        go_ret
        exact ⟨_, by first | rfl | (simp [errW_none, errW_some] <;> rfl) | (simp [*, errW_none, errW_some] <;> rfl), by (with_reducible repeat (first | apply Kd.R_alloc | apply Kd.R_drewN | apply Kd.R_drew)); exact HO_7.out, by repeat (first | (with_reducible first | exact HB.out | apply below_alloc | apply pw_below_drewN | apply below_drew1) | exact HB.out)⟩

end Go.Proofs.Yteieknlkcodkcaa.Q
namespace Go.Proofs.Yteieknlkcodkcaa.Q
open Go.RowKit Go.Proofs.YteieknlkcodkcaaW.PrintWords Go.Proofs.YteieknlkcodkcaaW.PrintLast Go.Proofs.YteieknlkcodkcaaW.PrintMore
attribute [local go_sem] max2_int min2_int max_two min_two max_three min_three max_four min_four   -- for this text's walks alone
set_option linter.unusedVariables false
set_option linter.unusedSimpArgs false

/-! What each gets, and whether a division is fair: the program's and the reference's. -/
def moreOf (n left : Int) (s : S32) : Int := min left (min s.f0 (s.f1 - atL s n))
def fairGo (n : Int) : Int → List S32 → List Int
  | _, [] => []
  | left, s :: l => (atL s n + moreOf n left s) :: fairGo n (left - moreOf n left s) l
theorem fairGo_length (n : Int) (l : List S32) : ∀ left, (fairGo n left l).length = l.length := by
  induction l with
  | nil => intro left; rfl
  | cons s l ih => intro left; simp [fairGo, ih]
theorem moreOf_bd {n left : Int} {s : S32} (h : okS s) (h0 : 0 ≤ n) (h1 : n ≤ 1099511627777) (hl : 0 ≤ left) : 0 ≤ moreOf n left s ∧ moreOf n left s ≤ left ∧ moreOf n left s ≤ s.f0 ∧ moreOf n left s ≤ s.f1 - atL s n := by
  have := atL_bd h h0 h1
  have := h.1
  unfold moreOf
  omega
theorem set_mid (pre : List Int) (x v : Int) (suf : List Int) : (pre ++ x :: suf).set (pre.length : Int).toNat v = pre ++ v :: suf := by
  rw [Int.toNat_natCast, List.set_append_right _ _ (Nat.le_refl _), Nat.sub_self]; rfl
theorem fair_go (n : Int) (h0 : 0 ≤ n) (h1 : n ≤ 1099511627777) : ∀ (suf pre : List S32) (done : List Int) (left : Int), (∀ s ∈ suf, okS s) → (pre ++ suf).length ≤ 60 → done.length = pre.length → 0 ≤ left → left ≤ 1099511627776 →
    Ev (fun k => quota_Fair.l0 k n left (done ++ List.replicate suf.length 0) (pre ++ suf) ((pre ++ suf).length : Int) (pre.length : Int)) (done ++ fairGo n left suf) := by
  intro suf
  induction suf with
  | nil =>
    intro pre done left _ _ _ _ _
    refine Ev.step (f := fun _ => some done) (fun k => ?_) ?_
    · simp only [quota_Fair.l0, List.append_nil]
      rw [if_neg (by omega)]
      simp
    · simp only [fairGo, List.append_nil]
      exact Ev.now _
  | cons s suf IH =>
    intro pre done left hs hl hd hl0 hl1
    have ok := hs s (by simp)
    have a := atL_bd ok h0 h1
    have m := mul_bd (W := s.f0) (n := n) (by have := ok.1; omega) ok.2.1 h0 h1
    have b := moreOf_bd ok h0 h1 hl0
    have am : atL s n = min (s.f0 * n) s.f1 := rfl
    have bm : min (min left s.f0) (s.f1 - atL s n) = moreOf n left s := by unfold moreOf; omega
    have ih := IH (pre ++ [s]) (done ++ [atL s n + moreOf n left s]) (left - moreOf n left s) (fun t ht => hs t (by simp [ht])) (by simpa using hl) (by simp [hd]) (by omega) (by omega)
    simp only [List.append_assoc, List.singleton_append, List.length_append, List.length_cons, List.length_nil, Nat.zero_add] at ih
    have hlen : (pre ++ s :: suf).length = pre.length + suf.length + 1 := by simp; omega
    have hok := ok.2.2
    refine Ev.step (f := fun k => quota_Fair.l0 k n (left - moreOf n left s) (done ++ (atL s n + moreOf n left s) :: List.replicate suf.length 0) (pre ++ s :: suf) ((pre ++ s :: suf).length : Int) ((pre.length : Int) + 1)) (fun k => ?_) ?_
    · simp only [quota_Fair.l0]
      rw [if_pos (by omega), if_pos (by omega), if_pos (by omega), if_pos (by simp; omega), rd32_mid, w64 (x := s.f0 * n) (by omega) (by omega)]
      simp only [mn_min]
      rw [← am, w64 (x := s.f1 - atL s n) (by omega) (by omega), bm, w64 (x := left - moreOf n left s) (by omega) (by omega), w64 (x := atL s n + moreOf n left s) (by omega) (by omega), w64 (x := (pre.length : Int) + 1) (by omega) (by omega)]
      rw [List.length_cons, List.replicate_succ, ← hd, set_mid]
    · simp only [fairGo]
      simpa using ih
theorem Fair_go (n : Int) (h0 : 0 ≤ n) (h1 : n ≤ 1099511627777) : ∀ (suf pre : List S32) (done : List Int) (left : Int), (∀ s ∈ suf, okS s) → (pre ++ suf).length ≤ 60 → done.length = pre.length → 0 ≤ left → left ≤ 1099511627776 →
    Ev (fun k => weirgateref16_Fair.l0 k (pre ++ suf) n left done (pre.length : Int)) (done ++ fairGo n left suf) := by
  intro suf
  induction suf with
  | nil =>
    intro pre done left _ _ _ _ _
    refine Ev.step (f := fun _ => some done) (fun k => ?_) ?_
    · simp only [weirgateref16_Fair.l0, List.append_nil]
      rw [if_neg (by omega)]
    · simp only [fairGo, List.append_nil]
      exact Ev.now _
  | cons s suf IH =>
    intro pre done left hs hl hd hl0 hl1
    have ok := hs s (by simp)
    have a := atL_bd ok h0 h1
    have b := moreOf_bd ok h0 h1 hl0
    have bm : min left (min s.f0 (s.f1 - atL s n)) = moreOf n left s := rfl
    have ih := IH (pre ++ [s]) (done ++ [atL s n + moreOf n left s]) (left - moreOf n left s) (fun t ht => hs t (by simp [ht])) (by simpa using hl) (by simp [hd]) (by omega) (by omega)
    simp only [List.append_assoc, List.singleton_append, List.length_append, List.length_cons, List.length_nil, Nat.zero_add] at ih
    have hlen : (pre ++ s :: suf).length = pre.length + suf.length + 1 := by simp; omega
    have hok := ok.2.2
    refine Ev.step (f := fun k => weirgateref16_Fair.l0 k (pre ++ s :: suf) n (left - moreOf n left s) (done ++ [atL s n + moreOf n left s]) ((pre.length : Int) + 1)) (fun k => ?_) ?_
    · simp only [weirgateref16_Fair.l0]
      rw [if_pos (by omega), if_pos (by omega), rd32_mid, At_eq ok h0 h1]
      simp only [Option.bind_some, mn_min]
      rw [if_pos (by omega), w64 (x := s.f1 - atL s n) (by omega) (by omega), bm, w64 (x := left - moreOf n left s) (by omega) (by omega), w64 (x := atL s n + moreOf n left s) (by omega) (by omega), w64 (x := (pre.length : Int) + 1) (by omega) (by omega)]
    · simp only [fairGo]
      simpa using ih
/-- What all get, at a capacity. -/
theorem fair_ev {l : List S32} (h : okL l) {cap : Int} (hc : 0 ≤ cap) (hc1 : cap ≤ 1099511627776) : ∃ r, LevelIs cap l r ∧ Ev (fun k => quota_Level.f k cap l) r ∧ Ev (fun k => weirgateref16_Level.f k cap l) r ∧
    Ev (fun k => quota_Fair.f k cap l) (fairGo r (cap - allL l r) l) ∧ Ev (fun k => weirgateref16_Fair.f k cap l) (fairGo r (cap - allL l r) l) := by
  obtain ⟨r, hq, hr, hL⟩ := level_ev h hc
  have hb := allL_bd h.2 hL.lo (by have := hL.hi; omega)
  have hf := hL.fits
  have hlo := hL.lo
  have hhi := hL.hi
  have hlen := h.1
  refine ⟨r, hL, hq, hr, ?_, ?_⟩
  · refine Ev.bind hq (Ev.bind (all_ev h hlo hhi) ?_)
    have := fair_go r hlo (by omega) l [] [] (cap - allL l r) h.2 (by simpa using hlen) rfl (by omega) (by omega)
    refine Ev.congr (fun k => ?_) (by simpa using this)
    rw [if_pos (by omega), if_pos (by omega), w64 (x := cap - allL l r) (by omega) (by omega), Int.toNat_natCast]
  · refine Ev.bind hr (Ev.bind (All_ev h hlo hhi) ?_)
    have := Fair_go r hlo (by omega) l [] [] (cap - allL l r) h.2 (by simpa using hlen) rfl (by omega) (by omega)
    refine Ev.congr (fun k => ?_) (by simpa using this)
    rw [w64 (x := cap - allL l r) (by omega) (by omega)]
/-- What 'Valid' says. -/
theorem bad_iff (s : S32) : badShare s = false ↔ okS s := by
  unfold badShare okS
  simp only [Bool.or_eq_false_iff, decide_eq_false_iff_not]
  omega
theorem RefValid_go : ∀ (suf pre : List S32), (pre ++ suf).length ≤ 60 → Ev (fun k => weirgateref16_Valid.l0 k (pre ++ suf) (pre.length : Int)) (!(suf.any badShare)) := by
  intro suf
  induction suf with
  | nil =>
    intro pre hl
    refine Ev.step (f := fun _ => some true) (fun k => ?_) (by simpa using Ev.now true)
    simp only [weirgateref16_Valid.l0, List.append_nil]
    rw [if_neg (by omega)]
    simp only [List.append_nil] at hl
    rw [decide_eq_true (by omega)]
  | cons s suf IH =>
    intro pre hl
    have ih := IH (pre ++ [s]) (by simpa using hl)
    have hlen : (pre ++ s :: suf).length = pre.length + suf.length + 1 := by simp; omega
    simp only [List.append_assoc, List.singleton_append, List.length_append, List.length_cons, List.length_nil, Nat.zero_add] at ih
    have e : ∀ k, weirgateref16_Valid.l0 (k + 1) (pre ++ s :: suf) (pre.length : Int) = if badShare s = true then some false else weirgateref16_Valid.l0 k (pre ++ s :: suf) ((pre.length : Int) + 1) := fun k => by
      simp only [weirgateref16_Valid.l0]
      rw [if_pos (by omega), if_pos (by omega), rd32_mid, w64 (x := (pre.length : Int) + 1) (by omega) (by omega)]
      unfold badShare
      by_cases c1 : s.f0 < 1
      · simp [c1]
      · by_cases c2 : s.f0 > 1048576
        · simp [c1, c2]
        · by_cases c3 : s.f1 < 0
          · simp [c1, c2, c3]
          · by_cases c4 : s.f1 > 1099511627776 <;> simp [c1, c2, c3, c4]
    cases hb : badShare s with
    | true => exact Ev.step (f := fun _ => some false) (fun k => by rw [e, if_pos hb]) (by simpa [hb] using Ev.now false)
    | false => exact Ev.step (f := fun k => weirgateref16_Valid.l0 k (pre ++ s :: suf) ((pre.length : Int) + 1)) (fun k => by rw [e, if_neg (by simp [hb])]) (by simpa [hb] using ih)
theorem RefValid_ev {l : List S32} (hl : l.length ≤ 60) : Ev (fun k => weirgateref16_Valid.f k l) (!(l.any badShare)) := by
  simpa [weirgateref16_Valid.f] using RefValid_go l [] (by simpa using hl)
theorem Valid_eq {l : List S32} (hl : l.length ≤ 60) : quota_Valid.f l = some (!(l.any badShare)) := by
  unfold quota_Valid.f
  rw [decide_eq_true (by omega), Bool.true_and]
theorem ok_of_valid {l : List S32} (hl : l.length ≤ 60) (h : l.any badShare = false) : okL l :=
  ⟨hl, fun s hs => (bad_iff s).1 (by
    cases hb : badShare s with
    | false => rfl
    | true => exact absurd (List.any_eq_true.2 ⟨s, hs, hb⟩) (by simp [h]))⟩
/-- Lists of numbers compared. -/
theorem Same_go : ∀ (suf pre : List Int) (a : List Int), a = pre ++ suf → a.length ≤ 1000 → Ev (fun k => weirgateref16_Same.l0 k a a (pre.length : Int)) true := by
  intro suf
  induction suf with
  | nil =>
    intro pre a ha hl
    refine Ev.step (f := fun _ => some true) (fun k => ?_) (Ev.now true)
    subst ha
    simp only [weirgateref16_Same.l0, List.append_nil]
    rw [if_neg (by omega)]
  | cons s suf IH =>
    intro pre a ha hl
    have ih := IH (pre ++ [s]) a (by simpa using ha) hl
    have hlen : a.length = pre.length + suf.length + 1 := by rw [ha]; simp; omega
    refine Ev.step (f := fun k => weirgateref16_Same.l0 k a a ((pre.length : Int) + 1)) (fun k => ?_) (by simpa using ih)
    simp only [weirgateref16_Same.l0]
    rw [if_pos (by omega), if_pos (by omega), if_pos (by omega), if_pos trivial, w64 (x := (pre.length : Int) + 1) (by omega) (by omega)]
theorem Same_ev {a : List Int} (hl : a.length ≤ 1000) : Ev (fun k => weirgateref16_Same.f k a a) true := by
  refine Ev.congr (fun k => ?_) (Same_go a [] a rfl hl)
  unfold weirgateref16_Same.f
  rw [if_pos rfl]
  rfl

end Go.Proofs.Yteieknlkcodkcaa.Q
namespace Go.Proofs.Yteieknlkcodkcaa.Q
open Go.RowKit Go.Proofs.YteieknlkcodkcaaW.PrintWords Go.Proofs.YteieknlkcodkcaaW.PrintLast Go.Proofs.YteieknlkcodkcaaW.PrintMore
attribute [local go_sem] max2_int min2_int max_two min_two max_three min_three max_four min_four   -- for this text's walks alone
set_option linter.unusedVariables false
set_option linter.unusedSimpArgs false

/-! ### weirgateref16_place: function 43 -/
def weirgateref16_place.l0 : Nat → List (S53) → Int → Int → Option (Int)
  | 0, _, _, _ => none
  | k + 1, x0, x1, x5 => if x5 < (x0.length : Int) then (if 0 ≤ x5 then (if ((rd_T53 x0 x5).f0) = x1 then (some x5) else (weirgateref16_place.l0 k x0 x1 (wrap64 (x5 + 1)))) else (none)) else (some (-1))
def weirgateref16_place.f (k : Nat) (l0 : List (S53)) (a1 : Int) : Option (Int) := weirgateref16_place.l0 k l0 a1 0
theorem weirgateref16_place.mono_l : ∀ k, (∀ y0 y1 y2, LeO (weirgateref16_place.l0 k y0 y1 y2) (weirgateref16_place.l0 (k + 1) y0 y1 y2))
  | 0 => fun _ _ _ r h => by simp [weirgateref16_place.l0] at h
  | k + 1 => by
    have ih0 := weirgateref16_place.mono_l k
    · intro y0 y1 y2
      unfold weirgateref16_place.l0
      repeat' first
      | (with_reducible exact ih0 _ _ _)
      | (with_reducible exact LeO.refl _)
      | (with_reducible exact LeO.none _)
      | (with_reducible refine LeO.ite ?_ ?_)
      | (with_reducible refine LeO.bind ?_ (fun _ => ?_))
      | exact ih0 _ _ _
      | exact LeO.none _
      | refine LeO.ite ?_ ?_
      | refine LeO.bind ?_ (fun _ => ?_)
theorem weirgateref16_place.mono : ∀ a0 a1 k, LeO (weirgateref16_place.f k a0 a1) (weirgateref16_place.f (k + 1) a0 a1) := by
  intro a0 a1 k
  have ih0 := weirgateref16_place.mono_l k
  unfold weirgateref16_place.f
  repeat' first
      | (with_reducible exact ih0 _ _ _)
      | (with_reducible exact LeO.refl _)
      | (with_reducible exact LeO.none _)
      | (with_reducible refine LeO.ite ?_ ?_)
      | (with_reducible refine LeO.bind ?_ (fun _ => ?_))
      | exact ih0 _ _ _
      | exact LeO.none _
      | refine LeO.ite ?_ ?_
      | refine LeO.bind ?_ (fun _ => ?_)
set_option maxHeartbeats 8000000 in
set_option maxRecDepth 100000 in
theorem weirgateref16_place.calls (k : Nat) (A0 : Option Addr) (c0 : Nat) (l0 : List (S53)) (a1 : Int) (r : Int) (w : World) (hr0 : Kd.C k53 w A0 l0.length l0) (hc0 : l0.length ≤ c0) (h : weirgateref16_place.f k l0 a1 = some r) :
    Calls Try.prog 43 #[.slice A0 l0.length c0, .int .i64 a1] w fun e w' => e = .returned (.int .i64 r) ∧ Drawn0 w w' := by
  have HR0 := Aside0.mk hr0
  have HC0 := Aside0.mk hc0
  clear hr0 hc0
  have H : (weirgateref16_place.l0 k l0 a1 0) = some r := h
  clear h
  have H' := Aside0.mk H
  clear H
  go_enter Try.func43, Try.ntmps43
  go_wp2
  go_loopg [5] k (fun kq v5 w' => ∃ (x5_1 : Int), v5 = .int .i64 x5_1 ∧ Aside0 (weirgateref16_place.l0 kq l0 a1 x5_1 = some r) ∧ Aside0 (kq ≤ k) ∧ Drawn0 w w')
  case atStart => exact ⟨(0), (by first | rfl | (simp; done) | (simp [*]; done)), H', ⟨Nat.le_refl _⟩, by repeat (first | exact Drawn0.refl _ | apply Drawn0.step)⟩
  case round =>
    clear H'
    try clear p2
    obtain ⟨x5_1, rfl, HA, HK1, ⟨m1, rfl⟩⟩ := hrel
    cases gk with
    | zero => exact absurd HA.out (by simp [weirgateref16_place.l0])
    | succ k1 =>
      have H := HA.out
      clear HA
      simp only [weirgateref16_place.l0] at H
      by_cases c3 : x5_1 < (l0.length : Int)
      · rw [if_pos c3] at H
        have c3b0 : decide (x5_1 < (l0.length : Int)) = true := decide_eq_true c3
        clear c3
        by_cases c4 : 0 ≤ x5_1
        · rw [if_pos c4] at H
          have c4b0 : decide (0 ≤ x5_1) = true := decide_eq_true c4
          clear c4
          by_cases c5 : ((rd_T53 l0 x5_1).f0) = a1
          · rw [if_pos c5] at H
            have c5b0 : (((rd_T53 l0 x5_1).f0) == a1) = true := beq_iff_eq.mpr c5
            have c5b1 : (((rd_T53 l0 x5_1).f0) != a1) = false := bne_eq_false_iff_eq.mpr c5
            clear c5
            obtain rfl := Option.some.inj H
            have p269 : 0 ≤ (x5_1 : Int) := of_decide_eq_true (by first | (with_reducible assumption) | assumption)
            have q269 : x5_1 < (l0.length : Int) := of_decide_eq_true (by first | (with_reducible assumption) | assumption)
            obtain ⟨ad269, e269, hx269_0, hx269_1, hx269_2⟩ := at_T53 HR0.out x5_1 p269 q269
            cases e269
            replace p269 := eq_true p269
            replace q269 := eq_true q269
            go_wp2
            go_ret
            exact ⟨by first | rfl | (simp; done) | (simp [*]; done), by repeat (first | exact Drawn0.refl _ | apply Drawn0.step)⟩
          · rw [if_neg c5] at H
            have c5b0 : (((rd_T53 l0 x5_1).f0) == a1) = false := beq_eq_false_iff_ne.mpr c5
            have c5b1 : (((rd_T53 l0 x5_1).f0) != a1) = true := bne_iff_ne.mpr c5
            have H' := Aside0.mk H
            clear H
            have p269 : 0 ≤ (x5_1 : Int) := of_decide_eq_true (by first | (with_reducible assumption) | assumption)
            have q269 : x5_1 < (l0.length : Int) := of_decide_eq_true (by first | (with_reducible assumption) | assumption)
            obtain ⟨ad269, e269, hx269_0, hx269_1, hx269_2⟩ := at_T53 HR0.out x5_1 p269 q269
            cases e269
            replace p269 := eq_true p269
            replace q269 := eq_true q269
            go_wp2
            go_roundg k1
            case measure => have := HK1.out; omega
            case rel => exact ⟨(wrap64 (x5_1 + 1)), (by first | rfl | (simp; done) | (simp [*]; done)), H', ⟨by have := HK1.out; omega⟩, by repeat (first | exact Drawn0.refl _ | apply Drawn0.step)⟩
        · rw [if_neg c4] at H
          exact absurd H (by simp)
      · rw [if_neg c3] at H
        have c3b0 : decide (x5_1 < (l0.length : Int)) = false := decide_eq_false c3
        clear c3
        obtain rfl := Option.some.inj H
        go_wp2
        go_ret
        exact ⟨by first | rfl | (simp; done) | (simp [*]; done), by repeat (first | exact Drawn0.refl _ | apply Drawn0.step)⟩

end Go.Proofs.Yteieknlkcodkcaa.Q
namespace Go.Proofs.Yteieknlkcodkcaa.Q
open Go.RowKit Go.Proofs.YteieknlkcodkcaaW.PrintWords Go.Proofs.YteieknlkcodkcaaW.PrintLast Go.Proofs.YteieknlkcodkcaaW.PrintMore
attribute [local go_sem] max2_int min2_int max_two min_two max_three min_three max_four min_four   -- for this text's walks alone
set_option linter.unusedVariables false
set_option linter.unusedSimpArgs false

/-! ### weirgateref16_Total: function 28 -/
def weirgateref16_Total.l0 : Nat → List (S53) → Int → Int → Option (Int)
  | 0, _, _, _ => none
  | k + 1, x0, x3, x4 => if x4 < (x0.length : Int) then (if 0 ≤ x4 then (weirgateref16_Total.l0 k x0 (wrap64 (x3 + ((rd_T53 x0 x4).f2))) (wrap64 (x4 + 1))) else (none)) else (some x3)
def weirgateref16_Total.f (k : Nat) (l0 : List (S53)) : Option (Int) := weirgateref16_Total.l0 k l0 0 0
theorem weirgateref16_Total.mono_l : ∀ k, (∀ y0 y1 y2, LeO (weirgateref16_Total.l0 k y0 y1 y2) (weirgateref16_Total.l0 (k + 1) y0 y1 y2))
  | 0 => fun _ _ _ r h => by simp [weirgateref16_Total.l0] at h
  | k + 1 => by
    have ih0 := weirgateref16_Total.mono_l k
    · intro y0 y1 y2
      unfold weirgateref16_Total.l0
      repeat' first
      | (with_reducible exact ih0 _ _ _)
      | (with_reducible exact LeO.refl _)
      | (with_reducible exact LeO.none _)
      | (with_reducible refine LeO.ite ?_ ?_)
      | (with_reducible refine LeO.bind ?_ (fun _ => ?_))
      | exact ih0 _ _ _
      | exact LeO.none _
      | refine LeO.ite ?_ ?_
      | refine LeO.bind ?_ (fun _ => ?_)
theorem weirgateref16_Total.mono : ∀ a0 k, LeO (weirgateref16_Total.f k a0) (weirgateref16_Total.f (k + 1) a0) := by
  intro a0 k
  have ih0 := weirgateref16_Total.mono_l k
  unfold weirgateref16_Total.f
  repeat' first
      | (with_reducible exact ih0 _ _ _)
      | (with_reducible exact LeO.refl _)
      | (with_reducible exact LeO.none _)
      | (with_reducible refine LeO.ite ?_ ?_)
      | (with_reducible refine LeO.bind ?_ (fun _ => ?_))
      | exact ih0 _ _ _
      | exact LeO.none _
      | refine LeO.ite ?_ ?_
      | refine LeO.bind ?_ (fun _ => ?_)
set_option maxHeartbeats 8000000 in
set_option maxRecDepth 100000 in
theorem weirgateref16_Total.calls (k : Nat) (A0 : Option Addr) (c0 : Nat) (l0 : List (S53)) (r : Int) (w : World) (hr0 : Kd.C k53 w A0 l0.length l0) (hc0 : l0.length ≤ c0) (h : weirgateref16_Total.f k l0 = some r) :
    Calls Try.prog 28 #[.slice A0 l0.length c0] w fun e w' => e = .returned (.int .i64 r) ∧ Drawn0 w w' := by
  have HR0 := Aside0.mk hr0
  have HC0 := Aside0.mk hc0
  clear hr0 hc0
  have H : (weirgateref16_Total.l0 k l0 0 0) = some r := h
  clear h
  have H' := Aside0.mk H
  clear H
  go_enter Try.func28, Try.ntmps28
  go_wp2
  go_loopg [3, 4] k (fun kq v3 v4 w' => ∃ (x3_1 : Int) (x4_1 : Int), v3 = .int .i64 x3_1 ∧ v4 = .int .i64 x4_1 ∧ Aside0 (weirgateref16_Total.l0 kq l0 x3_1 x4_1 = some r) ∧ Aside0 (kq ≤ k) ∧ Drawn0 w w')
  case atStart => exact ⟨(0), (0), (by first | rfl | (simp; done) | (simp [*]; done)), (by first | rfl | (simp; done) | (simp [*]; done)), H', ⟨Nat.le_refl _⟩, by repeat (first | exact Drawn0.refl _ | apply Drawn0.step)⟩
  case round =>
    clear H'
    obtain ⟨x3_1, x4_1, rfl, rfl, HA, HK1, ⟨m1, rfl⟩⟩ := hrel
    cases gk with
    | zero => exact absurd HA.out (by simp [weirgateref16_Total.l0])
    | succ k1 =>
      have H := HA.out
      clear HA
      simp only [weirgateref16_Total.l0] at H
      by_cases c2 : x4_1 < (l0.length : Int)
      · rw [if_pos c2] at H
        have c2b0 : decide (x4_1 < (l0.length : Int)) = true := decide_eq_true c2
        clear c2
        by_cases c3 : 0 ≤ x4_1
        · rw [if_pos c3] at H
          have c3b0 : decide (0 ≤ x4_1) = true := decide_eq_true c3
          clear c3
          have H' := Aside0.mk H
          clear H
          have p305 : 0 ≤ (x4_1 : Int) := of_decide_eq_true (by first | (with_reducible assumption) | assumption)
          have q305 : x4_1 < (l0.length : Int) := of_decide_eq_true (by first | (with_reducible assumption) | assumption)
          obtain ⟨ad305, e305, hx305_0, hx305_1, hx305_2⟩ := at_T53 HR0.out x4_1 p305 q305
          cases e305
          replace p305 := eq_true p305
          replace q305 := eq_true q305
          go_wp2
          go_roundg k1
          case measure => have := HK1.out; omega
          case rel => exact ⟨(wrap64 (x3_1 + ((rd_T53 l0 x4_1).f2))), (wrap64 (x4_1 + 1)), (by first | rfl | (simp; done) | (simp [*]; done)), (by first | rfl | (simp; done) | (simp [*]; done)), H', ⟨by have := HK1.out; omega⟩, by repeat (first | exact Drawn0.refl _ | apply Drawn0.step)⟩
        · rw [if_neg c3] at H
          exact absurd H (by simp)
      · rw [if_neg c2] at H
        have c2b0 : decide (x4_1 < (l0.length : Int)) = false := decide_eq_false c2
        clear c2
        obtain rfl := Option.some.inj H
        go_wp2
        go_ret
        exact ⟨by first | rfl | (simp; done) | (simp [*]; done), by repeat (first | exact Drawn0.refl _ | apply Drawn0.step)⟩

end Go.Proofs.Yteieknlkcodkcaa.Q
namespace Go.Proofs.Yteieknlkcodkcaa.Q
open Go.RowKit Go.Proofs.YteieknlkcodkcaaW.PrintWords Go.Proofs.YteieknlkcodkcaaW.PrintLast Go.Proofs.YteieknlkcodkcaaW.PrintMore
attribute [local go_sem] max2_int min2_int max_two min_two max_three min_three max_four min_four   -- for this text's walks alone
set_option linter.unusedVariables false
set_option linter.unusedSimpArgs false

/-! Plain mathematics of accounts: what is valid, places, totals. -/
theorem rd53_mid (pre suf : List S53) (a : S53) : rd_T53 (pre ++ a :: suf) (pre.length : Int) = a := by
  simp [rd_T53, List.getD_eq_getElem?_getD]
def okA (a : S53) : Prop := 1 ≤ a.f1 ∧ a.f1 ≤ 1048576 ∧ 0 ≤ a.f2 ∧ a.f2 ≤ 1099511627776
instance (a : S53) : Decidable (okA a) := by unfold okA; infer_instance
def accB : Int → List S53 → Bool
  | _, [] => true
  | last, a :: l => decide (last < a.f0 ∧ okA a) && accB a.f0 l
theorem acc_step (a : S53) (last : Int) (t : Option Bool) : (if a.f0 ≤ last then some false else (if a.f1 < 1 then some false else (if a.f1 > 1048576 then some false else (if a.f2 < 0 then some false else (if a.f2 > 1099511627776 then some false else t))))) = if last < a.f0 ∧ okA a then t else some false := by
  unfold okA
  by_cases c1 : a.f0 ≤ last
  · rw [if_pos c1, if_neg (by omega)]
  · by_cases c2 : a.f1 < 1
    · rw [if_neg c1, if_pos c2, if_neg (by omega)]
    · by_cases c3 : a.f1 > 1048576
      · rw [if_neg c1, if_neg c2, if_pos c3, if_neg (by omega)]
      · by_cases c4 : a.f2 < 0
        · rw [if_neg c1, if_neg c2, if_neg c3, if_pos c4, if_neg (by omega)]
        · by_cases c5 : a.f2 > 1099511627776
          · rw [if_neg c1, if_neg c2, if_neg c3, if_neg c4, if_pos c5, if_neg (by omega)]
          · rw [if_neg c1, if_neg c2, if_neg c3, if_neg c4, if_neg c5, if_pos (by omega)]
theorem accounts_go : ∀ (suf pre : List S53) (last : Int), (pre ++ suf).length ≤ 1000 →
    Ev (fun k => quota_Accounts.l0 k (pre ++ suf) last (pre ++ suf) ((pre ++ suf).length : Int) (pre.length : Int)) (accB last suf) ∧ Ev (fun k => weirgateref16_Accounts.l0 k (pre ++ suf) last (pre.length : Int)) (accB last suf) := by
  intro suf
  induction suf with
  | nil =>
    intro pre last hl
    simp only [List.append_nil] at hl ⊢
    refine ⟨Ev.step (f := fun _ => some true) (fun k => ?_) (Ev.now true), Ev.step (f := fun _ => some true) (fun k => ?_) (Ev.now true)⟩
    · simp only [quota_Accounts.l0]; rw [if_neg (by omega), decide_eq_true (by omega)]
    · simp only [weirgateref16_Accounts.l0]; rw [if_neg (by omega), decide_eq_true (by omega)]
  | cons a suf IH =>
    intro pre last hl
    obtain ⟨i1, i2⟩ := IH (pre ++ [a]) a.f0 (by simpa using hl)
    have hlen : (pre ++ a :: suf).length = pre.length + suf.length + 1 := by simp; omega
    have hpl : ((pre ++ [a]).length : Int) = (pre.length : Int) + 1 := by simp
    simp only [List.append_assoc, List.singleton_append, hpl] at i1 i2
    have e1 : ∀ k, quota_Accounts.l0 (k + 1) (pre ++ a :: suf) last (pre ++ a :: suf) ((pre ++ a :: suf).length : Int) (pre.length : Int) = if last < a.f0 ∧ okA a then quota_Accounts.l0 k (pre ++ a :: suf) a.f0 (pre ++ a :: suf) ((pre ++ a :: suf).length : Int) ((pre.length : Int) + 1) else some false := fun k => by
      simp only [quota_Accounts.l0]
      rw [if_pos (by omega), if_pos (by omega), if_pos (by omega), rd53_mid, w64 (x := (pre.length : Int) + 1) (by omega) (by omega), acc_step]
    have e2 : ∀ k, weirgateref16_Accounts.l0 (k + 1) (pre ++ a :: suf) last (pre.length : Int) = if last < a.f0 ∧ okA a then weirgateref16_Accounts.l0 k (pre ++ a :: suf) a.f0 ((pre.length : Int) + 1) else some false := fun k => by
      simp only [weirgateref16_Accounts.l0]
      rw [if_pos (by omega), if_pos (by omega), rd53_mid, w64 (x := (pre.length : Int) + 1) (by omega) (by omega), acc_step]
    by_cases c : last < a.f0 ∧ okA a
    · have e : accB last (a :: suf) = accB a.f0 suf := by simp only [accB, decide_eq_true c, Bool.true_and]
      rw [e]
      exact ⟨Ev.step (fun k => by rw [e1, if_pos c]) i1, Ev.step (fun k => by rw [e2, if_pos c]) i2⟩
    · have e : accB last (a :: suf) = false := by simp only [accB, decide_eq_false c, Bool.false_and]
      rw [e]
      exact ⟨Ev.step (f := fun _ => some false) (fun k => by rw [e1, if_neg c]) (Ev.now _), Ev.step (f := fun _ => some false) (fun k => by rw [e2, if_neg c]) (Ev.now _)⟩
theorem accounts_ev {l : List S53} (hl : l.length ≤ 1000) : Ev (fun k => quota_Accounts.f k l) (accB 0 l) ∧ Ev (fun k => weirgateref16_Accounts.f k l) (accB 0 l) := by
  have := accounts_go l [] 0 (by simpa using hl)
  simpa [quota_Accounts.f, weirgateref16_Accounts.f] using this
/-- Sorted and sound, beyond a number. -/
def accP : Int → List S53 → Prop
  | _, [] => True
  | last, a :: l => last < a.f0 ∧ okA a ∧ accP a.f0 l
theorem accB_iff : ∀ (l : List S53) (last : Int), accB last l = true ↔ accP last l
  | [], _ => by simp [accB, accP]
  | a :: l, last => by
    simp only [accB, accP, Bool.and_eq_true, decide_eq_true_eq, accB_iff l, and_assoc]
theorem accP_mem : ∀ (l : List S53) (last : Int), accP last l → ∀ a ∈ l, last < a.f0 ∧ okA a
  | [], _, _, a, h => by simp at h
  | b :: l, last, h, a, ha => by
    rcases List.mem_cons.1 ha with e | e
    · subst e; exact ⟨h.1, h.2.1⟩
    · have := accP_mem l b.f0 h.2.2 a e
      exact ⟨by have := h.1; omega, this.2⟩
/-- Where a tenant lies, or would lie. -/
theorem split_at : ∀ (l : List S53) (last n : Int), accP last l → ∃ pre suf, l = pre ++ suf ∧ (∀ x ∈ pre, x.f0 < n) ∧ ∀ x ∈ suf, n ≤ x.f0
  | [], _, _, _ => ⟨[], [], rfl, fun x h => by simp at h, fun x h => by simp at h⟩
  | a :: l, last, n, h => by
    by_cases c : a.f0 < n
    · obtain ⟨pre, suf, e, h1, h2⟩ := split_at l a.f0 n h.2.2
      refine ⟨a :: pre, suf, by rw [e]; rfl, fun x hx => ?_, h2⟩
      rcases List.mem_cons.1 hx with e | e
      · subst e; exact c
      · exact h1 x e
    · refine ⟨[], a :: l, rfl, fun x h => by simp at h, fun x hx => ?_⟩
      rcases List.mem_cons.1 hx with e | e
      · subst e; omega
      · have := (accP_mem l a.f0 h.2.2 x e).1
        omega
theorem accP_right : ∀ (pre suf : List S53) (last : Int), accP last (pre ++ suf) → ∃ last', accP last' suf ∧ last ≤ last' ∧ (pre = [] → last' = last)
  | [], suf, last, h => ⟨last, h, Int.le_refl _, fun _ => rfl⟩
  | a :: pre, suf, last, h => by
    obtain ⟨x, h1, h2, _⟩ := accP_right pre suf a.f0 h.2.2
    exact ⟨x, h1, by have := h.1; omega, fun e => by simp at e⟩
theorem cmpAt_neg (s : S53) (n : Int) (h0 : 1 ≤ s.f0) (h1 : s.f0 ≤ 9223372036854775807) (hn : 1 ≤ n) (hn1 : n ≤ 9223372036854775807) : (cmpAt s n < 0 ↔ s.f0 < n) ∧ (cmpAt s n = 0 ↔ s.f0 = n) := by
  unfold cmpAt mn
  split
  · omega
  · rw [w64 (by omega) (by omega)]; omega
theorem cmpAt_ne (s : S53) (n : Int) (h0 : 1 ≤ s.f0) (h1 : s.f0 ≤ 9223372036854775807) (hn : n < 1) (hn1 : -9223372036854775808 ≤ n) : cmpAt s n ≠ 0 := by
  unfold cmpAt mn
  rw [if_neg (by omega)]
  unfold wrap64
  omega
theorem search_go (l : List S53) (n : Int) : ∀ (d : Nat) (x y : Int), (y - x).toNat ≤ d → 0 ≤ x → x ≤ y → y ≤ (l.length : Int) →
    ∃ r, Ev (fun k => quota_place.l0 k l n x y) r ∧ x ≤ r ∧ r ≤ y ∧ ∀ m, x ≤ m → m ≤ y → (∀ j, x ≤ j → j < y → (cmpAt (rd_T53 l j) n < 0 ↔ j < m)) → r = m
  | d, x, y, hd, h0, hxy, hy => by
    by_cases c : x < y
    · match d, hd with
      | 0, hd => omega
      | d + 1, hd =>
        by_cases cc : cmpAt (rd_T53 l ((x + y) / 2)) n < 0
        · obtain ⟨r, e, a, b, f⟩ := search_go l n d ((x + y) / 2 + 1) y (by omega) (by omega) (by omega) hy
          refine ⟨r, Ev.step (fun k => by simp only [quota_place.l0]; rw [if_pos c, if_pos cc]) e, by omega, b, fun m m1 m2 hm => f m ?_ m2 (fun j j1 j2 => hm j (by omega) j2)⟩
          have := (hm ((x + y) / 2) (by omega) (by omega)).1 cc
          omega
        · obtain ⟨r, e, a, b, f⟩ := search_go l n d x ((x + y) / 2) (by omega) h0 (by omega) (by omega)
          refine ⟨r, Ev.step (fun k => by simp only [quota_place.l0]; rw [if_pos c, if_neg cc]) e, a, by omega, fun m m1 m2 hm => f m m1 ?_ (fun j j1 j2 => hm j j1 (by omega))⟩
          have : ¬ ((x + y) / 2 < m) := fun z => cc ((hm ((x + y) / 2) (by omega) (by omega)).2 z)
          omega
    · exact ⟨x, Ev.step (f := fun _ => some x) (fun k => by simp only [quota_place.l0]; rw [if_neg c]) (Ev.now _), Int.le_refl _, hxy, fun m m1 m2 _ => by omega⟩
theorem refplace_go (t : Int) : ∀ (mid pre suf : List S53), (∀ x ∈ mid, x.f0 ≠ t) → (pre ++ (mid ++ suf)).length ≤ 1000 → ∀ r, Ev (fun k => weirgateref16_place.l0 k (pre ++ (mid ++ suf)) t ((pre.length : Int) + (mid.length : Int))) r →
    Ev (fun k => weirgateref16_place.l0 k (pre ++ (mid ++ suf)) t (pre.length : Int)) r := by
  intro mid
  induction mid with
  | nil => intro pre suf _ _ r h; simpa using h
  | cons a mid IH =>
    intro pre suf hm hl r h
    have ih := IH (pre ++ [a]) suf (fun x hx => hm x (by simp [hx])) (by simpa using hl) r (by
      have e : ((pre ++ [a]).length : Int) + (mid.length : Int) = (pre.length : Int) + ((a :: mid).length : Int) := by simp; omega
      rw [e]
      simpa using h)
    have hlen : (pre ++ (a :: mid ++ suf)).length = pre.length + mid.length + suf.length + 1 := by simp; omega
    have hpl : ((pre ++ [a]).length : Int) = (pre.length : Int) + 1 := by simp
    simp only [List.append_assoc, List.singleton_append, hpl] at ih
    refine Ev.step (fun k => ?_) ih
    simp only [weirgateref16_place.l0]
    rw [if_pos (by omega), if_pos (by omega), List.cons_append, rd53_mid, if_neg (hm a (by simp)), w64 (x := (pre.length : Int) + 1) (by omega) (by omega)]
/-- Both searches. -/
theorem place_ev {l : List S53} (hl : l.length ≤ 1000) (h : accP 0 l) (hw : ∀ x ∈ l, x.f0 ≤ 9223372036854775807) {t : Int} (ht0 : -9223372036854775808 ≤ t) (ht1 : t ≤ 9223372036854775807) :
    (∃ pre a suf, l = pre ++ a :: suf ∧ a.f0 = t ∧ (∀ x ∈ pre, x.f0 < t) ∧ (∀ x ∈ suf, t < x.f0) ∧ Ev (fun k => quota_place.f k l t) ((pre.length : Int), true) ∧ Ev (fun k => weirgateref16_place.f k l t) (pre.length : Int)) ∨
    ∃ i, Ev (fun k => quota_place.f k l t) (i, false) ∧ Ev (fun k => weirgateref16_place.f k l t) (-1) ∧ (∀ x ∈ l, x.f0 ≠ t) ∧ (1 ≤ t → ∃ pre suf, l = pre ++ suf ∧ i = (pre.length : Int) ∧ (∀ x ∈ pre, x.f0 < t) ∧ ∀ x ∈ suf, t < x.f0) := by
  have hmem := accP_mem l 0 h
  obtain ⟨r, hr, r0, r1, ru⟩ := search_go l t l.length 0 (l.length : Int) (by omega) (by omega) (by omega) (by omega)
  have hf : Ev (fun k => quota_place.f k l t) (r, decide (r < (l.length : Int)) && decide (cmpAt (rd_T53 l r) t = 0)) := by
    unfold quota_place.f
    simp only [if_pos (show l.length ≤ 1000000 by omega)]
    exact Ev.bind hr (Ev.now _)
  have none : (∀ x ∈ l, x.f0 ≠ t) → Ev (fun k => weirgateref16_place.f k l t) (-1) := fun hx => by
    have := refplace_go t l [] [] hx (by simpa using hl) (-1) (Ev.step (f := fun _ => some (-1)) (fun k => by
      simp only [weirgateref16_place.l0]
      rw [if_neg (by simp)]) (Ev.now _))
    simpa [weirgateref16_place.f] using this
  have rdm : ∀ j : Int, 0 ≤ j → j < (l.length : Int) → rd_T53 l j ∈ l := fun j j0 j1 => by
    have : j.toNat < l.length := by omega
    simp only [rd_T53, List.getD_eq_getElem?_getD, List.getElem?_eq_getElem this, Option.getD_some]
    exact List.getElem_mem this
  by_cases c : t < 1
  · right
    have hx : ∀ x ∈ l, x.f0 ≠ t := fun x hx => by have := (hmem x hx).1; omega
    refine ⟨r, ?_, none hx, hx, fun z => by omega⟩
    have e : (decide (r < (l.length : Int)) && decide (cmpAt (rd_T53 l r) t = 0)) = false := by
      by_cases d : r < (l.length : Int)
      · have m := rdm r r0 d
        have := cmpAt_ne (rd_T53 l r) t (by have := (hmem _ m).1; omega) (hw _ m) c ht0
        rw [decide_eq_false this, Bool.and_false]
      · rw [decide_eq_false d, Bool.false_and]
    rw [e] at hf
    exact hf
  · obtain ⟨pre, suf, e, h1, h2⟩ := split_at l 0 t h
    have hlen : (l.length : Int) = (pre.length : Int) + (suf.length : Int) := by rw [e]; simp
    have hrp : r = (pre.length : Int) := ru (pre.length : Int) (by omega) (by omega) (fun j j0 j1 => by
      have m := rdm j j0 j1
      rw [(cmpAt_neg (rd_T53 l j) t (by have := (hmem _ m).1; omega) (hw _ m) (by omega) ht1).1]
      have hj : j.toNat < l.length := by omega
      have ej : rd_T53 l j = l[j.toNat] := by simp [rd_T53, List.getD_eq_getElem?_getD, List.getElem?_eq_getElem hj]
      by_cases d : j < (pre.length : Int)
      · have : rd_T53 l j ∈ pre := by
          rw [ej]; simp only [e]; rw [List.getElem_append_left (by omega)]; exact List.getElem_mem _
        exact ⟨fun _ => d, fun _ => h1 _ this⟩
      · have : rd_T53 l j ∈ suf := by
          rw [ej]; simp only [e]; rw [List.getElem_append_right (by omega)]; exact List.getElem_mem _
        have := h2 _ this
        exact ⟨fun z => by omega, fun z => absurd z d⟩)
    cases suf with
    | nil =>
      right
      have hx : ∀ x ∈ l, x.f0 ≠ t := fun x hx => by
        rw [e, List.append_nil] at hx
        have := h1 x hx
        omega
      refine ⟨r, ?_, none hx, hx, fun _ => ⟨pre, [], e, hrp, h1, fun x hx => by simp at hx⟩⟩
      rw [decide_eq_false (by rw [hrp, hlen]; simp), Bool.false_and] at hf
      exact hf
    | cons a suf =>
      have rda : rd_T53 l r = a := by rw [hrp, e]; exact rd53_mid pre suf a
      have ma : a ∈ l := by rw [e]; simp
      have ca := cmpAt_neg a t (by have := (hmem a ma).1; omega) (hw a ma) (by omega) ht1
      have hsuf : ∀ x ∈ suf, a.f0 < x.f0 := fun x hx => by
        obtain ⟨last, q, _, _⟩ := accP_right pre (a :: suf) 0 (e ▸ h)
        exact (accP_mem suf a.f0 q.2.2 x hx).1
      have hrl : r < (l.length : Int) := by rw [hrp, hlen, List.length_cons]; omega
      rw [rda, decide_eq_true hrl, Bool.true_and] at hf
      by_cases d : a.f0 = t
      · left
        refine ⟨pre, a, suf, e, d, h1, fun x hx => by have := hsuf x hx; omega, ?_, ?_⟩
        · rw [decide_eq_true (ca.2.2 d), hrp] at hf
          exact hf
        · have := refplace_go t pre [] (a :: suf) (fun x hx => by have := h1 x hx; omega) (by rw [List.nil_append, ← e]; exact hl) (pre.length : Int) (Ev.step (f := fun _ => some (pre.length : Int)) (fun k => by
            simp only [weirgateref16_place.l0, List.nil_append, List.length_nil]
            have z : ((0 : Nat) : Int) + (pre.length : Int) = (pre.length : Int) := by omega
            rw [z, rd53_mid, if_pos (by simp; omega), if_pos (by omega), if_pos d]) (Ev.now _))
          rw [e]
          simpa [weirgateref16_place.f] using this
      · right
        have hx : ∀ x ∈ l, x.f0 ≠ t := fun x hx => by
          rw [e] at hx
          rcases List.mem_append.1 hx with q | q
          · have := h1 x q; omega
          · rcases List.mem_cons.1 q with q | q
            · subst q; exact d
            · have := hsuf x q; have := h2 a (by simp); omega
        refine ⟨r, ?_, none hx, hx, fun _ => ⟨pre, a :: suf, e, hrp, h1, fun x hx => ?_⟩⟩
        · rw [decide_eq_false (fun z => d (ca.2.1 z))] at hf
          exact hf
        · have := h2 a (by simp)
          rcases List.mem_cons.1 hx with q | q
          · subst q; omega
          · have := hsuf x q; omega
/-- What all use. -/
def totL : List S53 → Int
  | [] => 0
  | a :: l => a.f2 + totL l
theorem totL_bd : ∀ {l : List S53}, (∀ a ∈ l, okA a) → 0 ≤ totL l ∧ totL l ≤ (l.length : Int) * 1099511627776
  | [], _ => by simp [totL]
  | a :: l, h => by
    have b := totL_bd (l := l) (fun t ht => h t (by simp [ht]))
    have c := (h a (by simp)).2.2
    have e : ((a :: l).length : Int) = (l.length : Int) + 1 := by simp
    rw [e]
    simp only [totL]
    omega
theorem total_go : ∀ (suf pre : List S53) (acc : Int), (∀ a ∈ suf, okA a) → (pre ++ suf).length ≤ 1000 → 0 ≤ acc → acc ≤ (pre.length : Int) * 1099511627776 →
    Ev (fun k => quota_Total.l0 k acc (pre ++ suf) ((pre ++ suf).length : Int) (pre.length : Int)) (acc + totL suf) ∧ Ev (fun k => weirgateref16_Total.l0 k (pre ++ suf) acc (pre.length : Int)) (acc + totL suf) := by
  intro suf
  induction suf with
  | nil =>
    intro pre acc _ hl _ _
    simp only [totL, Int.add_zero, List.append_nil]
    refine ⟨Ev.step (f := fun _ => some acc) (fun k => ?_) (Ev.now _), Ev.step (f := fun _ => some acc) (fun k => ?_) (Ev.now _)⟩
    · simp only [quota_Total.l0]; rw [if_neg (by omega)]
    · simp only [weirgateref16_Total.l0]; rw [if_neg (by omega)]
  | cons a suf IH =>
    intro pre acc hs hl h0 h1
    have c := (hs a (by simp)).2.2
    have hlen : (pre ++ a :: suf).length = pre.length + suf.length + 1 := by simp; omega
    have hpl : ((pre ++ [a]).length : Int) = (pre.length : Int) + 1 := by simp
    obtain ⟨i1, i2⟩ := IH (pre ++ [a]) (acc + a.f2) (fun t ht => hs t (by simp [ht])) (by simpa using hl) (by omega) (by rw [hpl]; omega)
    simp only [List.append_assoc, List.singleton_append, hpl] at i1 i2
    have e : acc + totL (a :: suf) = acc + a.f2 + totL suf := by simp only [totL]; omega
    rw [e]
    refine ⟨Ev.step (fun k => ?_) i1, Ev.step (fun k => ?_) i2⟩
    · simp only [quota_Total.l0]
      rw [if_pos (by omega), if_pos (by omega), if_pos (by omega), rd53_mid, w64 (x := acc + a.f2) (by omega) (by omega), w64 (x := (pre.length : Int) + 1) (by omega) (by omega)]
    · simp only [weirgateref16_Total.l0]
      rw [if_pos (by omega), if_pos (by omega), rd53_mid, w64 (x := acc + a.f2) (by omega) (by omega), w64 (x := (pre.length : Int) + 1) (by omega) (by omega)]
theorem total_ev {l : List S53} (h : ∀ a ∈ l, okA a) (hl : l.length ≤ 1000) : Ev (fun k => quota_Total.f k l) (totL l) ∧ Ev (fun k => weirgateref16_Total.f k l) (totL l) := by
  have := total_go l [] 0 h (by simpa using hl) (by omega) (by simp)
  simpa [quota_Total.f, weirgateref16_Total.f] using this
/-- Sound accounts. -/
structure okAs (l : List S53) : Prop where
  len : l.length ≤ 60
  acc : accP 0 l
  top : ∀ x ∈ l, x.f0 ≤ 9223372036854775807
theorem okAs.okA {l : List S53} (h : okAs l) : ∀ a ∈ l, okA a := fun a ha => (accP_mem l 0 h.acc a ha).2
theorem okAs_of {l : List S53} (hl : l.length ≤ 60) (hb : accB 0 l = true) (hw : ∀ s ∈ l, wf53 s) : okAs l := ⟨hl, (accB_iff l 0).1 hb, fun x hx => (Go.bounds_i64 (hw x hx).1).2⟩

end Go.Proofs.Yteieknlkcodkcaa.Q
namespace Go.Proofs.Yteieknlkcodkcaa.Q
open Go.RowKit Go.Proofs.YteieknlkcodkcaaW.PrintWords Go.Proofs.YteieknlkcodkcaaW.PrintLast Go.Proofs.YteieknlkcodkcaaW.PrintMore
attribute [local go_sem] max2_int min2_int max_two min_two max_three min_three max_four min_four   -- for this text's walks alone
set_option linter.unusedVariables false
set_option linter.unusedSimpArgs false

/-! ### weirgateref16_Victim: function 30 -/
mutual
def weirgateref16_Victim.j0 : Nat → Int → List (S53) → Int → Int → Int → Bool → Option (Int × Int)
  | 0, _, _, _, _, _, _ => none
  | k + 1, x0, x1, x2, x3, x9, x25 => if x25 = true then (some (0, 1)) else ((weirgateref16_Total.f k x1).bind fun t338 => (if (wrap64 (t338 + x3)) ≤ x0 then (some (0, 0)) else ((weirgateref16_Wants.f x1 x2 x3).bind fun t339 => ((weirgateref16_Fair.f k x0 t339).bind fun t342 => (if 0 ≤ x9 then (if x9 < (t342.length : Int) then (if x9 < (x1.length : Int) then (if (rd t342 x9) < (wrap64 (((rd_T53 x1 x9).f2) + x3)) then (some (0, 160)) else (weirgateref16_Victim.l0 k x1 x9 t342 0 0 0 0)) else (none)) else (none)) else (none))))))
def weirgateref16_Victim.l0 : Nat → List (S53) → Int → List Int → Int → Int → Int → Int → Option (Int × Int)
  | 0, _, _, _, _, _, _, _ => none
  | k + 1, x1, x9, x10, x12, x13, x348000, x348001 => if x13 < (x1.length : Int) then (if x13 = x9 then (weirgateref16_Victim.l0 k x1 x9 x10 x12 (wrap64 (x13 + 1)) x348000 x348001) else (if 0 ≤ x13 then (if x13 < (x10.length : Int) then (if (wrap64 (((rd_T53 x1 x13).f2) - (rd x10 x13))) > x12 then (weirgateref16_Victim.l0 k x1 x9 x10 (wrap64 (((rd_T53 x1 x13).f2) - (rd x10 x13))) (wrap64 (x13 + 1)) ((rd_T53 x1 x13).f0) x348001) else (weirgateref16_Victim.l0 k x1 x9 x10 x12 (wrap64 (x13 + 1)) x348000 x348001)) else (none)) else (none))) else (some (x348000, x348001))
end
def weirgateref16_Victim.f (k : Nat) (a0 : Int) (l1 : List (S53)) (a2 : Int) (a3 : Int) : Option (Int × Int) := (weirgateref16_place.f k l1 a2).bind fun t337 => (if t337 < 0 then (some (0, 5)) else (if a3 < 0 then (weirgateref16_Victim.j0 k a0 l1 a2 a3 t337 true) else (weirgateref16_Victim.j0 k a0 l1 a2 a3 t337 (decide (a3 > 1099511627776)))))
theorem weirgateref16_Victim.mono_l : ∀ k, (∀ y0 y1 y2 y3 y4 y5, LeO (weirgateref16_Victim.j0 k y0 y1 y2 y3 y4 y5) (weirgateref16_Victim.j0 (k + 1) y0 y1 y2 y3 y4 y5)) ∧ (∀ y0 y1 y2 y3 y4 y5 y6, LeO (weirgateref16_Victim.l0 k y0 y1 y2 y3 y4 y5 y6) (weirgateref16_Victim.l0 (k + 1) y0 y1 y2 y3 y4 y5 y6))
  | 0 => ⟨fun _ _ _ _ _ _ r h => by simp [weirgateref16_Victim.j0] at h, fun _ _ _ _ _ _ _ r h => by simp [weirgateref16_Victim.l0] at h⟩
  | k + 1 => by
    obtain ⟨ih0, ih1⟩ := weirgateref16_Victim.mono_l k
    refine ⟨?_, ?_⟩
    · intro y0 y1 y2 y3 y4 y5
      unfold weirgateref16_Victim.j0
      repeat' first
      | (with_reducible exact ih0 _ _ _ _ _ _)
      | (with_reducible exact ih1 _ _ _ _ _ _ _)
      | (with_reducible exact weirgateref16_Fair.mono _ _ _)
      | (with_reducible exact weirgateref16_Total.mono _ _)
      | (with_reducible exact weirgateref16_place.mono _ _ _)
      | (with_reducible exact LeO.refl _)
      | (with_reducible exact LeO.none _)
      | (with_reducible refine LeO.ite ?_ ?_)
      | (with_reducible refine LeO.bind ?_ (fun _ => ?_))
      | exact ih0 _ _ _ _ _ _
      | exact ih1 _ _ _ _ _ _ _
      | exact weirgateref16_Fair.mono _ _ _
      | exact weirgateref16_Total.mono _ _
      | exact weirgateref16_place.mono _ _ _
      | exact LeO.none _
      | refine LeO.ite ?_ ?_
      | refine LeO.bind ?_ (fun _ => ?_)
    · intro y0 y1 y2 y3 y4 y5 y6
      unfold weirgateref16_Victim.l0
      repeat' first
      | (with_reducible exact ih0 _ _ _ _ _ _)
      | (with_reducible exact ih1 _ _ _ _ _ _ _)
      | (with_reducible exact weirgateref16_Fair.mono _ _ _)
      | (with_reducible exact weirgateref16_Total.mono _ _)
      | (with_reducible exact weirgateref16_place.mono _ _ _)
      | (with_reducible exact LeO.refl _)
      | (with_reducible exact LeO.none _)
      | (with_reducible refine LeO.ite ?_ ?_)
      | (with_reducible refine LeO.bind ?_ (fun _ => ?_))
      | exact ih0 _ _ _ _ _ _
      | exact ih1 _ _ _ _ _ _ _
      | exact weirgateref16_Fair.mono _ _ _
      | exact weirgateref16_Total.mono _ _
      | exact weirgateref16_place.mono _ _ _
      | exact LeO.none _
      | refine LeO.ite ?_ ?_
      | refine LeO.bind ?_ (fun _ => ?_)
theorem weirgateref16_Victim.mono : ∀ a0 a1 a2 a3 k, LeO (weirgateref16_Victim.f k a0 a1 a2 a3) (weirgateref16_Victim.f (k + 1) a0 a1 a2 a3) := by
  intro a0 a1 a2 a3 k
  obtain ⟨ih0, ih1⟩ := weirgateref16_Victim.mono_l k
  unfold weirgateref16_Victim.f
  repeat' first
      | (with_reducible exact ih0 _ _ _ _ _ _)
      | (with_reducible exact ih1 _ _ _ _ _ _ _)
      | (with_reducible exact weirgateref16_Fair.mono _ _ _)
      | (with_reducible exact weirgateref16_Total.mono _ _)
      | (with_reducible exact weirgateref16_place.mono _ _ _)
      | (with_reducible exact LeO.refl _)
      | (with_reducible exact LeO.none _)
      | (with_reducible refine LeO.ite ?_ ?_)
      | (with_reducible refine LeO.bind ?_ (fun _ => ?_))
      | exact ih0 _ _ _ _ _ _
      | exact ih1 _ _ _ _ _ _ _
      | exact weirgateref16_Fair.mono _ _ _
      | exact weirgateref16_Total.mono _ _
      | exact weirgateref16_place.mono _ _ _
      | exact LeO.none _
      | refine LeO.ite ?_ ?_
      | refine LeO.bind ?_ (fun _ => ?_)
set_option maxHeartbeats 8000000 in
set_option maxRecDepth 100000 in
theorem weirgateref16_Victim.calls (k : Nat) (a0 : Int) (A1 : Option Addr) (c1 : Nat) (l1 : List (S53)) (a2 : Int) (a3 : Int) (r1 : Int) (r2 : Int) (w : World) (hr1 : Kd.C k53 w A1 l1.length l1) (hc1 : l1.length ≤ c1) (h : weirgateref16_Victim.f k a0 l1 a2 a3 = some (r1, r2)) :
    Calls Try.prog 30 #[.int .i64 a0, .slice A1 l1.length c1, .int .i64 a2, .int .i64 a3] w fun e w' => e = .returned (.agg #[.int .i64 r1, .int .i64 r2]) ∧ Below w.heap.size w w' := by
  have hu49 := Try.underlying49
  have HR1 := Aside0.mk hr1
  have HC1 := Aside0.mk hc1
  clear hr1 hc1
  have HB := Aside0.mk (Below.refl w.heap.size w)
  have H : ((weirgateref16_place.f k l1 a2).bind fun t337 => (if t337 < 0 then (some (0, 5)) else (if a3 < 0 then (weirgateref16_Victim.j0 k a0 l1 a2 a3 t337 true) else (weirgateref16_Victim.j0 k a0 l1 a2 a3 t337 (decide (a3 > 1099511627776)))))) = some (r1, r2) := h
  clear h
  replace H := Option.bind_eq_some_iff.mp H
  obtain ⟨t337, A50, H⟩ := H
  replace H : (if t337 < 0 then (some (0, 5)) else (if a3 < 0 then (weirgateref16_Victim.j0 k a0 l1 a2 a3 t337 true) else (weirgateref16_Victim.j0 k a0 l1 a2 a3 t337 (decide (a3 > 1099511627776))))) = some (r1, r2) := H
  have A5 := Aside0.mk A50
  clear A50
  by_cases c6 : t337 < 0
  · rw [if_pos c6] at H
    have c6b0 : decide (t337 < 0) = true := decide_eq_true c6
    clear c6
    simp only [Option.some.injEq, Prod.mk.injEq] at H
    obtain ⟨rfl, rfl⟩ := H
    go_enter Try.func30, Try.ntmps30
    go_wp2_with (first | ((with_reducible refine gate_dst (N := 8) rfl ?_); refine box_event ?hg (N := 8) ?hd (cs := #[.int .i64 0, .int .i64 0]) (t := 49) ?hr ?_; (case hd => rfl); (case hg => rfl); (case hr => first | (go_simp; done) | (go_simp; rfl)); intro gb336 hg w7 hbox hb; have n0_ := Aside0.mk (below_step (by repeat (first | (with_reducible first | exact HB.out | apply below_alloc | apply pw_below_drewN | apply below_drew1) | exact HB.out)) hb); have n1_ := Aside0.mk (hbox); have n2_ := Aside0.mk ((by rw [hg]; exact (below_size (by repeat (first | (with_reducible first | exact HB.out | apply below_alloc | apply pw_below_drewN | apply below_drew1) | exact HB.out))) : w.heap.size ≤ gb336)); have n3_ := Aside0.mk ((by rw [hg]; exact (below_size (by repeat (first | (with_reducible first | exact HB.out | apply below_alloc | apply pw_below_drewN | apply below_drew1) | exact HB.out))) : w.heap.size ≤ gb336)); clear HB; have HB := n0_; have BK336 := n1_; have GW336 := n2_; have GE336 := n3_; clear n0_ n1_ n2_ n3_; clear hb hbox hg) | (go_at_call 43; (with_reducible refine (weirgateref16_place.calls k _ _ l1 a2 t337 _ ?side1 ?side2 A5.out).mono ?_); (case side1 => repeat (first | exact (Kd.C_below HR1.out HB.out) | (with_reducible refine Kd.C_alloc ?_ _) | (with_reducible refine Kd.C_drewN ?_ _) | (with_reducible refine Kd.C_drew ?_))); (case side2 => exact HC1.out); rintro e w' ⟨rfl, ⟨nd, rfl⟩⟩; (try first | exact ⟨rfl, _, World.drewN_drewN _ _ _⟩ | exact ⟨rfl, _, Eq.trans (World.drewN_drewN _ _ _) (congrArg (World.drewN _) (Nat.add_assoc _ _ _))⟩); have hcz8_0 : w7.cell? ⟨gb336, 0, none⟩ = some (.int .i64 0) := (blk_cell BK336.out 0).trans rfl; have hcz8_1 : w7.cell? ⟨gb336, 1, none⟩ = some (.int .i64 0) := (blk_cell BK336.out 1).trans rfl; have hfz8_0 := blk_frozen BK336.out 0; have hfz8_1 := blk_frozen BK336.out 1))
    repeat (go_quiet (first | ((with_reducible refine gate_dst (N := 8) rfl ?_); refine box_event ?hg (N := 8) ?hd (cs := #[.int .i64 0, .int .i64 0]) (t := 49) ?hr ?_; (case hd => rfl); (case hg => rfl); (case hr => first | (go_simp; done) | (go_simp; rfl)); intro gb336 hg w7 hbox hb; have n0_ := Aside0.mk (below_step (by repeat (first | (with_reducible first | exact HB.out | apply below_alloc | apply pw_below_drewN | apply below_drew1) | exact HB.out)) hb); have n1_ := Aside0.mk (hbox); have n2_ := Aside0.mk ((by rw [hg]; exact (below_size (by repeat (first | (with_reducible first | exact HB.out | apply below_alloc | apply pw_below_drewN | apply below_drew1) | exact HB.out))) : w.heap.size ≤ gb336)); have n3_ := Aside0.mk ((by rw [hg]; exact (below_size (by repeat (first | (with_reducible first | exact HB.out | apply below_alloc | apply pw_below_drewN | apply below_drew1) | exact HB.out))) : w.heap.size ≤ gb336)); clear HB; have HB := n0_; have BK336 := n1_; have GW336 := n2_; have GE336 := n3_; clear n0_ n1_ n2_ n3_; clear hb hbox hg) | (go_at_call 43; (with_reducible refine (weirgateref16_place.calls k _ _ l1 a2 t337 _ ?side1 ?side2 A5.out).mono ?_); (case side1 => repeat (first | exact (Kd.C_below HR1.out HB.out) | (with_reducible refine Kd.C_alloc ?_ _) | (with_reducible refine Kd.C_drewN ?_ _) | (with_reducible refine Kd.C_drew ?_))); (case side2 => exact HC1.out); rintro e w' ⟨rfl, ⟨nd, rfl⟩⟩; (try first | exact ⟨rfl, _, World.drewN_drewN _ _ _⟩ | exact ⟨rfl, _, Eq.trans (World.drewN_drewN _ _ _) (congrArg (World.drewN _) (Nat.add_assoc _ _ _))⟩); have hcz8_0 : w7.cell? ⟨gb336, 0, none⟩ = some (.int .i64 0) := (blk_cell BK336.out 0).trans rfl; have hcz8_1 : w7.cell? ⟨gb336, 1, none⟩ = some (.int .i64 0) := (blk_cell BK336.out 1).trans rfl; have hfz8_0 := blk_frozen BK336.out 0; have hfz8_1 := blk_frozen BK336.out 1)); try go_wp2_with (first | ((with_reducible refine gate_dst (N := 8) rfl ?_); refine box_event ?hg (N := 8) ?hd (cs := #[.int .i64 0, .int .i64 0]) (t := 49) ?hr ?_; (case hd => rfl); (case hg => rfl); (case hr => first | (go_simp; done) | (go_simp; rfl)); intro gb336 hg w7 hbox hb; have n0_ := Aside0.mk (below_step (by repeat (first | (with_reducible first | exact HB.out | apply below_alloc | apply pw_below_drewN | apply below_drew1) | exact HB.out)) hb); have n1_ := Aside0.mk (hbox); have n2_ := Aside0.mk ((by rw [hg]; exact (below_size (by repeat (first | (with_reducible first | exact HB.out | apply below_alloc | apply pw_below_drewN | apply below_drew1) | exact HB.out))) : w.heap.size ≤ gb336)); have n3_ := Aside0.mk ((by rw [hg]; exact (below_size (by repeat (first | (with_reducible first | exact HB.out | apply below_alloc | apply pw_below_drewN | apply below_drew1) | exact HB.out))) : w.heap.size ≤ gb336)); clear HB; have HB := n0_; have BK336 := n1_; have GW336 := n2_; have GE336 := n3_; clear n0_ n1_ n2_ n3_; clear hb hbox hg) | (go_at_call 43; (with_reducible refine (weirgateref16_place.calls k _ _ l1 a2 t337 _ ?side1 ?side2 A5.out).mono ?_); (case side1 => repeat (first | exact (Kd.C_below HR1.out HB.out) | (with_reducible refine Kd.C_alloc ?_ _) | (with_reducible refine Kd.C_drewN ?_ _) | (with_reducible refine Kd.C_drew ?_))); (case side2 => exact HC1.out); rintro e w' ⟨rfl, ⟨nd, rfl⟩⟩; (try first | exact ⟨rfl, _, World.drewN_drewN _ _ _⟩ | exact ⟨rfl, _, Eq.trans (World.drewN_drewN _ _ _) (congrArg (World.drewN _) (Nat.add_assoc _ _ _))⟩); have hcz8_0 : w7.cell? ⟨gb336, 0, none⟩ = some (.int .i64 0) := (blk_cell BK336.out 0).trans rfl; have hcz8_1 : w7.cell? ⟨gb336, 1, none⟩ = some (.int .i64 0) := (blk_cell BK336.out 1).trans rfl; have hfz8_0 := blk_frozen BK336.out 0; have hfz8_1 := blk_frozen BK336.out 1)))
    refine bodyPost_ret (results_cell_row rfl _ _ gb336 49 #[.int .i64 0, .int .i64 5] (0, 0) _ rfl (by (with_reducible repeat (first | refine blk_drewN ?_ _ | refine blk_drew ?_ | refine blk_alloc ?_ _)); refine blk_put (cs := #[.int .i64 0, .int .i64 0]) ?_ 1 _ rfl; (with_reducible repeat (first | refine blk_drewN ?_ _ | refine blk_drew ?_ | refine blk_alloc ?_ _)); refine blk_put (cs := #[.int .i64 0, .int .i64 0]) ?_ 0 _ rfl; (with_reducible repeat (first | refine blk_drewN ?_ _ | refine blk_drew ?_ | refine blk_alloc ?_ _)); exact BK336.out) Try.underlying49 rfl (by kernel_rfl)) rfl ?_
    exact ⟨by first | rfl | (simp [errW_none, errW_some] <;> rfl) | (simp [*, errW_none, errW_some] <;> rfl), by repeat (first | (with_reducible first | exact HB.out | apply below_alloc | apply pw_below_drewN | apply below_drew1 | refine below_set ?_ GE336.out) | exact HB.out)⟩
  · rw [if_neg c6] at H
    have c6b0 : decide (t337 < 0) = false := decide_eq_false c6
    clear c6
    have HC9 := Aside0.mk H
    clear H
    go_enter Try.func30, Try.ntmps30
    go_upto_region 4 with (first | ((with_reducible refine gate_dst (N := 8) rfl ?_); refine box_event ?hg (N := 8) ?hd (cs := #[.int .i64 0, .int .i64 0]) (t := 49) ?hr ?_; (case hd => rfl); (case hg => rfl); (case hr => first | (go_simp; done) | (go_simp; rfl)); intro gb336 hg w10 hbox hb; have n0_ := Aside0.mk (below_step (by repeat (first | (with_reducible first | exact HB.out | apply below_alloc | apply pw_below_drewN | apply below_drew1) | exact HB.out)) hb); have n1_ := Aside0.mk (hbox); have n2_ := Aside0.mk ((by rw [hg]; exact (below_size (by repeat (first | (with_reducible first | exact HB.out | apply below_alloc | apply pw_below_drewN | apply below_drew1) | exact HB.out))) : w.heap.size ≤ gb336)); have n3_ := Aside0.mk ((by rw [hg]; exact (below_size (by repeat (first | (with_reducible first | exact HB.out | apply below_alloc | apply pw_below_drewN | apply below_drew1) | exact HB.out))) : w.heap.size ≤ gb336)); clear HB; have HB := n0_; have BK336 := n1_; have GW336 := n2_; have GE336 := n3_; clear n0_ n1_ n2_ n3_; clear hb hbox hg) | (go_at_call 43; (with_reducible refine (weirgateref16_place.calls k _ _ l1 a2 t337 _ ?side1 ?side2 A5.out).mono ?_); (case side1 => repeat (first | exact (Kd.C_below HR1.out HB.out) | (with_reducible refine Kd.C_alloc ?_ _) | (with_reducible refine Kd.C_drewN ?_ _) | (with_reducible refine Kd.C_drew ?_))); (case side2 => exact HC1.out); rintro e w' ⟨rfl, ⟨nd, rfl⟩⟩; (try first | exact ⟨rfl, _, World.drewN_drewN _ _ _⟩ | exact ⟨rfl, _, Eq.trans (World.drewN_drewN _ _ _) (congrArg (World.drewN _) (Nat.add_assoc _ _ _))⟩)))
    repeat (go_quiet (first | ((with_reducible refine gate_dst (N := 8) rfl ?_); refine box_event ?hg (N := 8) ?hd (cs := #[.int .i64 0, .int .i64 0]) (t := 49) ?hr ?_; (case hd => rfl); (case hg => rfl); (case hr => first | (go_simp; done) | (go_simp; rfl)); intro gb336 hg w10 hbox hb; have n0_ := Aside0.mk (below_step (by repeat (first | (with_reducible first | exact HB.out | apply below_alloc | apply pw_below_drewN | apply below_drew1) | exact HB.out)) hb); have n1_ := Aside0.mk (hbox); have n2_ := Aside0.mk ((by rw [hg]; exact (below_size (by repeat (first | (with_reducible first | exact HB.out | apply below_alloc | apply pw_below_drewN | apply below_drew1) | exact HB.out))) : w.heap.size ≤ gb336)); have n3_ := Aside0.mk ((by rw [hg]; exact (below_size (by repeat (first | (with_reducible first | exact HB.out | apply below_alloc | apply pw_below_drewN | apply below_drew1) | exact HB.out))) : w.heap.size ≤ gb336)); clear HB; have HB := n0_; have BK336 := n1_; have GW336 := n2_; have GE336 := n3_; clear n0_ n1_ n2_ n3_; clear hb hbox hg) | (go_at_call 43; (with_reducible refine (weirgateref16_place.calls k _ _ l1 a2 t337 _ ?side1 ?side2 A5.out).mono ?_); (case side1 => repeat (first | exact (Kd.C_below HR1.out HB.out) | (with_reducible refine Kd.C_alloc ?_ _) | (with_reducible refine Kd.C_drewN ?_ _) | (with_reducible refine Kd.C_drew ?_))); (case side2 => exact HC1.out); rintro e w' ⟨rfl, ⟨nd, rfl⟩⟩; (try first | exact ⟨rfl, _, World.drewN_drewN _ _ _⟩ | exact ⟨rfl, _, Eq.trans (World.drewN_drewN _ _ _) (congrArg (World.drewN _) (Nat.add_assoc _ _ _))⟩))); go_upto_region 4 with (first | ((with_reducible refine gate_dst (N := 8) rfl ?_); refine box_event ?hg (N := 8) ?hd (cs := #[.int .i64 0, .int .i64 0]) (t := 49) ?hr ?_; (case hd => rfl); (case hg => rfl); (case hr => first | (go_simp; done) | (go_simp; rfl)); intro gb336 hg w10 hbox hb; have n0_ := Aside0.mk (below_step (by repeat (first | (with_reducible first | exact HB.out | apply below_alloc | apply pw_below_drewN | apply below_drew1) | exact HB.out)) hb); have n1_ := Aside0.mk (hbox); have n2_ := Aside0.mk ((by rw [hg]; exact (below_size (by repeat (first | (with_reducible first | exact HB.out | apply below_alloc | apply pw_below_drewN | apply below_drew1) | exact HB.out))) : w.heap.size ≤ gb336)); have n3_ := Aside0.mk ((by rw [hg]; exact (below_size (by repeat (first | (with_reducible first | exact HB.out | apply below_alloc | apply pw_below_drewN | apply below_drew1) | exact HB.out))) : w.heap.size ≤ gb336)); clear HB; have HB := n0_; have BK336 := n1_; have GW336 := n2_; have GE336 := n3_; clear n0_ n1_ n2_ n3_; clear hb hbox hg) | (go_at_call 43; (with_reducible refine (weirgateref16_place.calls k _ _ l1 a2 t337 _ ?side1 ?side2 A5.out).mono ?_); (case side1 => repeat (first | exact (Kd.C_below HR1.out HB.out) | (with_reducible refine Kd.C_alloc ?_ _) | (with_reducible refine Kd.C_drewN ?_ _) | (with_reducible refine Kd.C_drew ?_))); (case side2 => exact HC1.out); rintro e w' ⟨rfl, ⟨nd, rfl⟩⟩; (try first | exact ⟨rfl, _, World.drewN_drewN _ _ _⟩ | exact ⟨rfl, _, Eq.trans (World.drewN_drewN _ _ _) (congrArg (World.drewN _) (Nat.add_assoc _ _ _))⟩))))
    (try simp only [Act.put, List.setIfInBounds_toArray, List.set_cons_zero, List.set_cons_succ])
    go_cut [25] (fun v25 wc => ∃ (kq : Nat) (x25_8 : Bool), v25 = .bool x25_8 ∧ Aside0 (weirgateref16_Victim.j0 kq a0 l1 a2 a3 t337 x25_8 = some (r1, r2)) ∧ Aside0 (kq ≤ k) ∧ Aside0 (wc.heap[gb336]? = some (.cells #[.int .i64 0, .int .i64 0] 49 (0, 0))) ∧ Aside0 (Below w.heap.size w wc))
    case first =>
      have H := HC9.out
      clear HC9
      by_cases c11 : a3 < 0
      · rw [if_pos c11] at H
        have c11b0 : decide (a3 < 0) = true := decide_eq_true c11
        clear c11
        (first | rw [c11b0] | (simp only [i64_w, i32_w]; rw [c11b0]) | skip)
        have H' := Aside0.mk H
        clear H
        go_wp2
        repeat (go_quiet (fail); try go_wp2)
        go_meet
        case rel => exact ⟨_, (true), (by first | rfl | (simp; done) | (simp [*]; done)), H', ⟨by first | omega | exact Nat.le_refl _⟩, ⟨by (with_reducible repeat (first | refine blk_drewN ?_ _ | refine blk_drew ?_ | refine blk_alloc ?_ _)); exact BK336.out⟩, ⟨by repeat (first | (with_reducible first | exact HB.out | apply below_alloc | apply pw_below_drewN | apply below_drew1 | refine below_set ?_ GE336.out) | exact HB.out)⟩⟩
      · rw [if_neg c11] at H
        have c11b0 : decide (a3 < 0) = false := decide_eq_false c11
        clear c11
        (first | rw [c11b0] | (simp only [i64_w, i32_w]; rw [c11b0]) | skip)
        have H' := Aside0.mk H
        clear H
        go_wp2
        repeat (go_quiet (fail); try go_wp2)
        go_meet
        case rel => exact ⟨_, (decide (a3 > 1099511627776)), (by first | rfl | (simp; done) | (simp [*]; done)), H', ⟨by first | omega | exact Nat.le_refl _⟩, ⟨by (with_reducible repeat (first | refine blk_drewN ?_ _ | refine blk_drew ?_ | refine blk_alloc ?_ _)); exact BK336.out⟩, ⟨by repeat (first | (with_reducible first | exact HB.out | apply below_alloc | apply pw_below_drewN | apply below_drew1 | refine below_set ?_ GE336.out) | exact HB.out)⟩⟩
    case rest =>
      clear HC9
      try clear c1
      try clear p2
      try clear c3
      try clear c6
      try clear c6b0
      try clear c11
      try clear c11b0
      try clear hcz8_0
      try clear hcz8_1
      try clear hfz8_0
      try clear hfz8_1
      obtain ⟨kq, x25_8, rfl, HA, HJ8, BK336, HB⟩ := hcut
      cases kq with
      | zero => exact absurd HA.out (by simp [weirgateref16_Victim.j0])
      | succ kj8 =>
        have H := HA.out
        clear HA
        simp only [weirgateref16_Victim.j0] at H
        by_cases c12 : x25_8 = true
        · subst c12
          have H1 : (some (0, 1)) = some (r1, r2) := by rw [if_pos rfl] at H; exact H
          clear H
          have H := H1
          clear H1
          simp only [Option.some.injEq, Prod.mk.injEq] at H
          obtain ⟨rfl, rfl⟩ := H
          have hcz13_0 : wc.cell? ⟨gb336, 0, none⟩ = some (.int .i64 0) := (blk_cell BK336.out 0).trans rfl
          have hcz13_1 : wc.cell? ⟨gb336, 1, none⟩ = some (.int .i64 0) := (blk_cell BK336.out 1).trans rfl
          have hfz13_0 := blk_frozen BK336.out 0
          have hfz13_1 := blk_frozen BK336.out 1
          go_wp2
          repeat (go_quiet (fail); try go_wp2)
          refine bodyPost_ret (results_cell_row rfl _ _ gb336 49 #[.int .i64 0, .int .i64 1] (0, 0) _ rfl (by (with_reducible repeat (first | refine blk_drewN ?_ _ | refine blk_drew ?_ | refine blk_alloc ?_ _)); refine blk_put (cs := #[.int .i64 0, .int .i64 0]) ?_ 1 _ rfl; (with_reducible repeat (first | refine blk_drewN ?_ _ | refine blk_drew ?_ | refine blk_alloc ?_ _)); refine blk_put (cs := #[.int .i64 0, .int .i64 0]) ?_ 0 _ rfl; (with_reducible repeat (first | refine blk_drewN ?_ _ | refine blk_drew ?_ | refine blk_alloc ?_ _)); exact BK336.out) Try.underlying49 rfl (by kernel_rfl)) rfl ?_
          exact ⟨by first | rfl | (simp [errW_none, errW_some] <;> rfl) | (simp [*, errW_none, errW_some] <;> rfl), by repeat (first | (with_reducible first | exact HB.out | apply below_alloc | apply pw_below_drewN | apply below_drew1 | refine below_set ?_ GE336.out) | exact HB.out)⟩
        · replace c12 := Bool.eq_false_iff.mpr c12
          subst c12
          have H1 : ((weirgateref16_Total.f kj8 l1).bind fun t338 => (if (wrap64 (t338 + a3)) ≤ a0 then (some (0, 0)) else ((weirgateref16_Wants.f l1 a2 a3).bind fun t339 => ((weirgateref16_Fair.f kj8 a0 t339).bind fun t342 => (if 0 ≤ t337 then (if t337 < (t342.length : Int) then (if t337 < (l1.length : Int) then (if (rd t342 t337) < (wrap64 (((rd_T53 l1 t337).f2) + a3)) then (some (0, 160)) else (weirgateref16_Victim.l0 kj8 l1 t337 t342 0 0 0 0)) else (none)) else (none)) else (none)))))) = some (r1, r2) := by rw [if_neg (show ¬ (false = true) by decide)] at H; exact H
          clear H
          have H := H1
          clear H1
          replace H := Option.bind_eq_some_iff.mp H
          obtain ⟨t338, A140, H⟩ := H
          replace H : (if (wrap64 (t338 + a3)) ≤ a0 then (some (0, 0)) else ((weirgateref16_Wants.f l1 a2 a3).bind fun t339 => ((weirgateref16_Fair.f kj8 a0 t339).bind fun t342 => (if 0 ≤ t337 then (if t337 < (t342.length : Int) then (if t337 < (l1.length : Int) then (if (rd t342 t337) < (wrap64 (((rd_T53 l1 t337).f2) + a3)) then (some (0, 160)) else (weirgateref16_Victim.l0 kj8 l1 t337 t342 0 0 0 0)) else (none)) else (none)) else (none))))) = some (r1, r2) := H
          have A14 := Aside0.mk A140
          clear A140
          by_cases c15 : (wrap64 (t338 + a3)) ≤ a0
          · rw [if_pos c15] at H
            have c15b0 : decide ((wrap64 (t338 + a3)) ≤ a0) = true := decide_eq_true c15
            clear c15
            simp only [Option.some.injEq, Prod.mk.injEq] at H
            obtain ⟨rfl, rfl⟩ := H
            go_wp2_with (first | (go_at_call 28; (with_reducible refine (weirgateref16_Total.calls kj8 _ _ l1 t338 _ ?side1 ?side2 A14.out).mono ?_); (case side1 => repeat (first | exact (Kd.C_below HR1.out HB.out) | (with_reducible refine Kd.C_alloc ?_ _) | (with_reducible refine Kd.C_drewN ?_ _) | (with_reducible refine Kd.C_drew ?_))); (case side2 => exact HC1.out); rintro e w' ⟨rfl, ⟨nd, rfl⟩⟩; (try first | exact ⟨rfl, _, World.drewN_drewN _ _ _⟩ | exact ⟨rfl, _, Eq.trans (World.drewN_drewN _ _ _) (congrArg (World.drewN _) (Nat.add_assoc _ _ _))⟩); have hcz16_0 : wc.cell? ⟨gb336, 0, none⟩ = some (.int .i64 0) := (blk_cell BK336.out 0).trans rfl; have hcz16_1 : wc.cell? ⟨gb336, 1, none⟩ = some (.int .i64 0) := (blk_cell BK336.out 1).trans rfl; have hfz16_0 := blk_frozen BK336.out 0; have hfz16_1 := blk_frozen BK336.out 1))
            repeat (go_quiet (first | (go_at_call 28; (with_reducible refine (weirgateref16_Total.calls kj8 _ _ l1 t338 _ ?side1 ?side2 A14.out).mono ?_); (case side1 => repeat (first | exact (Kd.C_below HR1.out HB.out) | (with_reducible refine Kd.C_alloc ?_ _) | (with_reducible refine Kd.C_drewN ?_ _) | (with_reducible refine Kd.C_drew ?_))); (case side2 => exact HC1.out); rintro e w' ⟨rfl, ⟨nd, rfl⟩⟩; (try first | exact ⟨rfl, _, World.drewN_drewN _ _ _⟩ | exact ⟨rfl, _, Eq.trans (World.drewN_drewN _ _ _) (congrArg (World.drewN _) (Nat.add_assoc _ _ _))⟩); have hcz16_0 : wc.cell? ⟨gb336, 0, none⟩ = some (.int .i64 0) := (blk_cell BK336.out 0).trans rfl; have hcz16_1 : wc.cell? ⟨gb336, 1, none⟩ = some (.int .i64 0) := (blk_cell BK336.out 1).trans rfl; have hfz16_0 := blk_frozen BK336.out 0; have hfz16_1 := blk_frozen BK336.out 1)); try go_wp2_with (first | (go_at_call 28; (with_reducible refine (weirgateref16_Total.calls kj8 _ _ l1 t338 _ ?side1 ?side2 A14.out).mono ?_); (case side1 => repeat (first | exact (Kd.C_below HR1.out HB.out) | (with_reducible refine Kd.C_alloc ?_ _) | (with_reducible refine Kd.C_drewN ?_ _) | (with_reducible refine Kd.C_drew ?_))); (case side2 => exact HC1.out); rintro e w' ⟨rfl, ⟨nd, rfl⟩⟩; (try first | exact ⟨rfl, _, World.drewN_drewN _ _ _⟩ | exact ⟨rfl, _, Eq.trans (World.drewN_drewN _ _ _) (congrArg (World.drewN _) (Nat.add_assoc _ _ _))⟩); have hcz16_0 : wc.cell? ⟨gb336, 0, none⟩ = some (.int .i64 0) := (blk_cell BK336.out 0).trans rfl; have hcz16_1 : wc.cell? ⟨gb336, 1, none⟩ = some (.int .i64 0) := (blk_cell BK336.out 1).trans rfl; have hfz16_0 := blk_frozen BK336.out 0; have hfz16_1 := blk_frozen BK336.out 1)))
            refine bodyPost_ret (results_cell_row rfl _ _ gb336 49 #[.int .i64 0, .int .i64 0] (0, 0) _ rfl (by (with_reducible repeat (first | refine blk_drewN ?_ _ | refine blk_drew ?_ | refine blk_alloc ?_ _)); refine blk_put (cs := #[.int .i64 0, .int .i64 0]) ?_ 1 _ rfl; (with_reducible repeat (first | refine blk_drewN ?_ _ | refine blk_drew ?_ | refine blk_alloc ?_ _)); refine blk_put (cs := #[.int .i64 0, .int .i64 0]) ?_ 0 _ rfl; (with_reducible repeat (first | refine blk_drewN ?_ _ | refine blk_drew ?_ | refine blk_alloc ?_ _)); exact BK336.out) Try.underlying49 rfl (by kernel_rfl)) rfl ?_
            exact ⟨by first | rfl | (simp [errW_none, errW_some] <;> rfl) | (simp [*, errW_none, errW_some] <;> rfl), by repeat (first | (with_reducible first | exact HB.out | apply below_alloc | apply pw_below_drewN | apply below_drew1 | refine below_set ?_ GE336.out) | exact HB.out)⟩
          · rw [if_neg c15] at H
            have c15b0 : decide ((wrap64 (t338 + a3)) ≤ a0) = false := decide_eq_false c15
            clear c15
            replace H := Option.bind_eq_some_iff.mp H
            obtain ⟨t339, A170, H⟩ := H
            replace H : ((weirgateref16_Fair.f kj8 a0 t339).bind fun t342 => (if 0 ≤ t337 then (if t337 < (t342.length : Int) then (if t337 < (l1.length : Int) then (if (rd t342 t337) < (wrap64 (((rd_T53 l1 t337).f2) + a3)) then (some (0, 160)) else (weirgateref16_Victim.l0 kj8 l1 t337 t342 0 0 0 0)) else (none)) else (none)) else (none))) = some (r1, r2) := H
            have A17 := Aside0.mk A170
            clear A170
            replace H := Option.bind_eq_some_iff.mp H
            obtain ⟨t342, A180, H⟩ := H
            replace H : (if 0 ≤ t337 then (if t337 < (t342.length : Int) then (if t337 < (l1.length : Int) then (if (rd t342 t337) < (wrap64 (((rd_T53 l1 t337).f2) + a3)) then (some (0, 160)) else (weirgateref16_Victim.l0 kj8 l1 t337 t342 0 0 0 0)) else (none)) else (none)) else (none)) = some (r1, r2) := H
            have A18 := Aside0.mk A180
            clear A180
            by_cases c19 : 0 ≤ t337
            · rw [if_pos c19] at H
              have c19b0 : decide (0 ≤ t337) = true := decide_eq_true c19
              clear c19
              by_cases c20 : t337 < (t342.length : Int)
              · rw [if_pos c20] at H
                have c20b0 : decide (t337 < (t342.length : Int)) = true := decide_eq_true c20
                clear c20
                by_cases c21 : t337 < (l1.length : Int)
                · rw [if_pos c21] at H
                  have c21b0 : decide (t337 < (l1.length : Int)) = true := decide_eq_true c21
                  clear c21
                  by_cases c22 : (rd t342 t337) < (wrap64 (((rd_T53 l1 t337).f2) + a3))
                  · rw [if_pos c22] at H
                    have c22b0 : decide ((rd t342 t337) < (wrap64 (((rd_T53 l1 t337).f2) + a3))) = true := decide_eq_true c22
                    clear c22
                    simp only [Option.some.injEq, Prod.mk.injEq] at H
                    obtain ⟨rfl, rfl⟩ := H
                    go_wp2_with (first | (go_at_call 28; (with_reducible refine (weirgateref16_Total.calls kj8 _ _ l1 t338 _ ?side1 ?side2 A14.out).mono ?_); (case side1 => repeat (first | exact (Kd.C_below HR1.out HB.out) | (with_reducible refine Kd.C_alloc ?_ _) | (with_reducible refine Kd.C_drewN ?_ _) | (with_reducible refine Kd.C_drew ?_))); (case side2 => exact HC1.out); rintro e w' ⟨rfl, ⟨nd, rfl⟩⟩; (try first | exact ⟨rfl, _, World.drewN_drewN _ _ _⟩ | exact ⟨rfl, _, Eq.trans (World.drewN_drewN _ _ _) (congrArg (World.drewN _) (Nat.add_assoc _ _ _))⟩)) | (go_at_call 31; (with_reducible refine (weirgateref16_Wants.calls _ _ l1 a2 a3 t339 _ ?side1 ?side2 A17.out).mono ?_); (case side1 => repeat (first | exact (Kd.C_below HR1.out (by repeat (first | (with_reducible first | exact HB.out | apply below_alloc | apply pw_below_drewN | apply below_drew1 | refine below_set ?_ GE336.out) | exact HB.out))) | (with_reducible refine Kd.C_alloc ?_ _) | (with_reducible refine Kd.C_drewN ?_ _) | (with_reducible refine Kd.C_drew ?_))); (case side2 => exact HC1.out); rintro e w23 ⟨v340, rfl, ho0, hb⟩; have n0_ := Aside0.mk (Kd.R_lower ho0 (below_size (by repeat (first | (with_reducible first | exact HB.out | apply below_alloc | apply pw_below_drewN | apply below_drew1 | refine below_set ?_ GE336.out) | exact HB.out)))); have n1_ := Aside0.mk (blk_below (g := gb336) (o := .cells #[.int .i64 0, .int .i64 0] 49 (0, 0)) (by (with_reducible repeat (first | refine blk_drewN ?_ _ | refine blk_drew ?_ | refine blk_alloc ?_ _)); exact BK336.out) hb); have n2_ := Aside0.mk (below_step (by repeat (first | (with_reducible first | exact HB.out | apply below_alloc | apply pw_below_drewN | apply below_drew1 | refine below_set ?_ GE336.out) | exact HB.out)) hb); clear BK336; clear HB; have HO341 := n0_; have BK336 := n1_; have HB := n2_; clear n0_ n1_ n2_; (try clear hb); (try clear hb2); (try clear hk); (try clear hi); (try clear ho0); obtain ⟨Ao24, co24, eo24⟩ := Kd.R_slice HO341.out; subst eo24) | (go_at_call 17; (with_reducible refine (weirgateref16_Fair.calls kj8 a0 _ _ t339 t342 _ ?side1 ?side2 A18.out).mono ?_); (case side1 => repeat (first | exact (Kd.R_reads' HO341.out).2.2 | (with_reducible refine Kd.C_alloc ?_ _) | (with_reducible refine Kd.C_drewN ?_ _) | (with_reducible refine Kd.C_drew ?_))); (case side2 => exact (Kd.R_reads' HO341.out).2.1); rintro e w25 ⟨v343, rfl, ho0, hb⟩; have n0_ := Aside0.mk (Kd.R_below (by (with_reducible repeat (first | apply Kd.R_alloc | apply Kd.R_drewN | apply Kd.R_drew)); exact HO341.out) hb); have n1_ := Aside0.mk (Kd.R_lower ho0 (below_size (by repeat (first | (with_reducible first | exact HB.out | apply below_alloc | apply pw_below_drewN | apply below_drew1 | refine below_set ?_ GE336.out) | exact HB.out)))); have n2_ := Aside0.mk (blk_below (g := gb336) (o := .cells #[.int .i64 0, .int .i64 0] 49 (0, 0)) (by (with_reducible repeat (first | refine blk_drewN ?_ _ | refine blk_drew ?_ | refine blk_alloc ?_ _)); exact BK336.out) hb); have n3_ := Aside0.mk (below_step (by repeat (first | (with_reducible first | exact HB.out | apply below_alloc | apply pw_below_drewN | apply below_drew1 | refine below_set ?_ GE336.out) | exact HB.out)) hb); clear HO341; clear BK336; clear HB; have HO341 := n0_; have HO344 := n1_; have BK336 := n2_; have HB := n3_; clear n0_ n1_ n2_ n3_; (try clear hb); (try clear hb2); (try clear hk); (try clear hi); (try clear ho0); obtain ⟨Ao26, co26, eo26⟩ := Kd.R_slice HO344.out; subst eo26; have p345 : 0 ≤ (t337 : Int) := of_decide_eq_true (by first | (with_reducible assumption) | assumption); have q345 : t337 < (t342.length : Int) := of_decide_eq_true (by first | (with_reducible assumption) | assumption); obtain ⟨ad345, e345, hx345_0⟩ := Kd.at_int (Kd.R_reads' HO344.out).2.2 t337 p345 q345; cases e345; replace p345 := eq_true p345; replace q345 := eq_true q345; have p346 : 0 ≤ (t337 : Int) := of_decide_eq_true (by first | (with_reducible assumption) | assumption); have q346 : t337 < (l1.length : Int) := of_decide_eq_true (by first | (with_reducible assumption) | assumption); obtain ⟨ad346, e346, hx346_0, hx346_1, hx346_2⟩ := at_T53 HR1.out t337 p346 q346; cases e346; replace hx346_0 := (HB.out.cell (World.block_lt_of_cell? w _ hx346_0)).trans hx346_0; replace hx346_1 := (HB.out.cell (World.block_lt_of_cell? w _ hx346_1)).trans hx346_1; replace hx346_2 := (HB.out.cell (World.block_lt_of_cell? w _ hx346_2)).trans hx346_2; replace p346 := eq_true p346; replace q346 := eq_true q346; have hcz27_0 : w25.cell? ⟨gb336, 0, none⟩ = some (.int .i64 0) := (blk_cell BK336.out 0).trans rfl; have hcz27_1 : w25.cell? ⟨gb336, 1, none⟩ = some (.int .i64 0) := (blk_cell BK336.out 1).trans rfl; have hfz27_0 := blk_frozen BK336.out 0; have hfz27_1 := blk_frozen BK336.out 1))
                    repeat (go_quiet (first | (go_at_call 28; (with_reducible refine (weirgateref16_Total.calls kj8 _ _ l1 t338 _ ?side1 ?side2 A14.out).mono ?_); (case side1 => repeat (first | exact (Kd.C_below HR1.out HB.out) | (with_reducible refine Kd.C_alloc ?_ _) | (with_reducible refine Kd.C_drewN ?_ _) | (with_reducible refine Kd.C_drew ?_))); (case side2 => exact HC1.out); rintro e w' ⟨rfl, ⟨nd, rfl⟩⟩; (try first | exact ⟨rfl, _, World.drewN_drewN _ _ _⟩ | exact ⟨rfl, _, Eq.trans (World.drewN_drewN _ _ _) (congrArg (World.drewN _) (Nat.add_assoc _ _ _))⟩)) | (go_at_call 31; (with_reducible refine (weirgateref16_Wants.calls _ _ l1 a2 a3 t339 _ ?side1 ?side2 A17.out).mono ?_); (case side1 => repeat (first | exact (Kd.C_below HR1.out (by repeat (first | (with_reducible first | exact HB.out | apply below_alloc | apply pw_below_drewN | apply below_drew1 | refine below_set ?_ GE336.out) | exact HB.out))) | (with_reducible refine Kd.C_alloc ?_ _) | (with_reducible refine Kd.C_drewN ?_ _) | (with_reducible refine Kd.C_drew ?_))); (case side2 => exact HC1.out); rintro e w23 ⟨v340, rfl, ho0, hb⟩; have n0_ := Aside0.mk (Kd.R_lower ho0 (below_size (by repeat (first | (with_reducible first | exact HB.out | apply below_alloc | apply pw_below_drewN | apply below_drew1 | refine below_set ?_ GE336.out) | exact HB.out)))); have n1_ := Aside0.mk (blk_below (g := gb336) (o := .cells #[.int .i64 0, .int .i64 0] 49 (0, 0)) (by (with_reducible repeat (first | refine blk_drewN ?_ _ | refine blk_drew ?_ | refine blk_alloc ?_ _)); exact BK336.out) hb); have n2_ := Aside0.mk (below_step (by repeat (first | (with_reducible first | exact HB.out | apply below_alloc | apply pw_below_drewN | apply below_drew1 | refine below_set ?_ GE336.out) | exact HB.out)) hb); clear BK336; clear HB; have HO341 := n0_; have BK336 := n1_; have HB := n2_; clear n0_ n1_ n2_; (try clear hb); (try clear hb2); (try clear hk); (try clear hi); (try clear ho0); obtain ⟨Ao24, co24, eo24⟩ := Kd.R_slice HO341.out; subst eo24) | (go_at_call 17; (with_reducible refine (weirgateref16_Fair.calls kj8 a0 _ _ t339 t342 _ ?side1 ?side2 A18.out).mono ?_); (case side1 => repeat (first | exact (Kd.R_reads' HO341.out).2.2 | (with_reducible refine Kd.C_alloc ?_ _) | (with_reducible refine Kd.C_drewN ?_ _) | (with_reducible refine Kd.C_drew ?_))); (case side2 => exact (Kd.R_reads' HO341.out).2.1); rintro e w25 ⟨v343, rfl, ho0, hb⟩; have n0_ := Aside0.mk (Kd.R_below (by (with_reducible repeat (first | apply Kd.R_alloc | apply Kd.R_drewN | apply Kd.R_drew)); exact HO341.out) hb); have n1_ := Aside0.mk (Kd.R_lower ho0 (below_size (by repeat (first | (with_reducible first | exact HB.out | apply below_alloc | apply pw_below_drewN | apply below_drew1 | refine below_set ?_ GE336.out) | exact HB.out)))); have n2_ := Aside0.mk (blk_below (g := gb336) (o := .cells #[.int .i64 0, .int .i64 0] 49 (0, 0)) (by (with_reducible repeat (first | refine blk_drewN ?_ _ | refine blk_drew ?_ | refine blk_alloc ?_ _)); exact BK336.out) hb); have n3_ := Aside0.mk (below_step (by repeat (first | (with_reducible first | exact HB.out | apply below_alloc | apply pw_below_drewN | apply below_drew1 | refine below_set ?_ GE336.out) | exact HB.out)) hb); clear HO341; clear BK336; clear HB; have HO341 := n0_; have HO344 := n1_; have BK336 := n2_; have HB := n3_; clear n0_ n1_ n2_ n3_; (try clear hb); (try clear hb2); (try clear hk); (try clear hi); (try clear ho0); obtain ⟨Ao26, co26, eo26⟩ := Kd.R_slice HO344.out; subst eo26; have p345 : 0 ≤ (t337 : Int) := of_decide_eq_true (by first | (with_reducible assumption) | assumption); have q345 : t337 < (t342.length : Int) := of_decide_eq_true (by first | (with_reducible assumption) | assumption); obtain ⟨ad345, e345, hx345_0⟩ := Kd.at_int (Kd.R_reads' HO344.out).2.2 t337 p345 q345; cases e345; replace p345 := eq_true p345; replace q345 := eq_true q345; have p346 : 0 ≤ (t337 : Int) := of_decide_eq_true (by first | (with_reducible assumption) | assumption); have q346 : t337 < (l1.length : Int) := of_decide_eq_true (by first | (with_reducible assumption) | assumption); obtain ⟨ad346, e346, hx346_0, hx346_1, hx346_2⟩ := at_T53 HR1.out t337 p346 q346; cases e346; replace hx346_0 := (HB.out.cell (World.block_lt_of_cell? w _ hx346_0)).trans hx346_0; replace hx346_1 := (HB.out.cell (World.block_lt_of_cell? w _ hx346_1)).trans hx346_1; replace hx346_2 := (HB.out.cell (World.block_lt_of_cell? w _ hx346_2)).trans hx346_2; replace p346 := eq_true p346; replace q346 := eq_true q346; have hcz27_0 : w25.cell? ⟨gb336, 0, none⟩ = some (.int .i64 0) := (blk_cell BK336.out 0).trans rfl; have hcz27_1 : w25.cell? ⟨gb336, 1, none⟩ = some (.int .i64 0) := (blk_cell BK336.out 1).trans rfl; have hfz27_0 := blk_frozen BK336.out 0; have hfz27_1 := blk_frozen BK336.out 1)); try go_wp2_with (first | (go_at_call 28; (with_reducible refine (weirgateref16_Total.calls kj8 _ _ l1 t338 _ ?side1 ?side2 A14.out).mono ?_); (case side1 => repeat (first | exact (Kd.C_below HR1.out HB.out) | (with_reducible refine Kd.C_alloc ?_ _) | (with_reducible refine Kd.C_drewN ?_ _) | (with_reducible refine Kd.C_drew ?_))); (case side2 => exact HC1.out); rintro e w' ⟨rfl, ⟨nd, rfl⟩⟩; (try first | exact ⟨rfl, _, World.drewN_drewN _ _ _⟩ | exact ⟨rfl, _, Eq.trans (World.drewN_drewN _ _ _) (congrArg (World.drewN _) (Nat.add_assoc _ _ _))⟩)) | (go_at_call 31; (with_reducible refine (weirgateref16_Wants.calls _ _ l1 a2 a3 t339 _ ?side1 ?side2 A17.out).mono ?_); (case side1 => repeat (first | exact (Kd.C_below HR1.out (by repeat (first | (with_reducible first | exact HB.out | apply below_alloc | apply pw_below_drewN | apply below_drew1 | refine below_set ?_ GE336.out) | exact HB.out))) | (with_reducible refine Kd.C_alloc ?_ _) | (with_reducible refine Kd.C_drewN ?_ _) | (with_reducible refine Kd.C_drew ?_))); (case side2 => exact HC1.out); rintro e w23 ⟨v340, rfl, ho0, hb⟩; have n0_ := Aside0.mk (Kd.R_lower ho0 (below_size (by repeat (first | (with_reducible first | exact HB.out | apply below_alloc | apply pw_below_drewN | apply below_drew1 | refine below_set ?_ GE336.out) | exact HB.out)))); have n1_ := Aside0.mk (blk_below (g := gb336) (o := .cells #[.int .i64 0, .int .i64 0] 49 (0, 0)) (by (with_reducible repeat (first | refine blk_drewN ?_ _ | refine blk_drew ?_ | refine blk_alloc ?_ _)); exact BK336.out) hb); have n2_ := Aside0.mk (below_step (by repeat (first | (with_reducible first | exact HB.out | apply below_alloc | apply pw_below_drewN | apply below_drew1 | refine below_set ?_ GE336.out) | exact HB.out)) hb); clear BK336; clear HB; have HO341 := n0_; have BK336 := n1_; have HB := n2_; clear n0_ n1_ n2_; (try clear hb); (try clear hb2); (try clear hk); (try clear hi); (try clear ho0); obtain ⟨Ao24, co24, eo24⟩ := Kd.R_slice HO341.out; subst eo24) | (go_at_call 17; (with_reducible refine (weirgateref16_Fair.calls kj8 a0 _ _ t339 t342 _ ?side1 ?side2 A18.out).mono ?_); (case side1 => repeat (first | exact (Kd.R_reads' HO341.out).2.2 | (with_reducible refine Kd.C_alloc ?_ _) | (with_reducible refine Kd.C_drewN ?_ _) | (with_reducible refine Kd.C_drew ?_))); (case side2 => exact (Kd.R_reads' HO341.out).2.1); rintro e w25 ⟨v343, rfl, ho0, hb⟩; have n0_ := Aside0.mk (Kd.R_below (by (with_reducible repeat (first | apply Kd.R_alloc | apply Kd.R_drewN | apply Kd.R_drew)); exact HO341.out) hb); have n1_ := Aside0.mk (Kd.R_lower ho0 (below_size (by repeat (first | (with_reducible first | exact HB.out | apply below_alloc | apply pw_below_drewN | apply below_drew1 | refine below_set ?_ GE336.out) | exact HB.out)))); have n2_ := Aside0.mk (blk_below (g := gb336) (o := .cells #[.int .i64 0, .int .i64 0] 49 (0, 0)) (by (with_reducible repeat (first | refine blk_drewN ?_ _ | refine blk_drew ?_ | refine blk_alloc ?_ _)); exact BK336.out) hb); have n3_ := Aside0.mk (below_step (by repeat (first | (with_reducible first | exact HB.out | apply below_alloc | apply pw_below_drewN | apply below_drew1 | refine below_set ?_ GE336.out) | exact HB.out)) hb); clear HO341; clear BK336; clear HB; have HO341 := n0_; have HO344 := n1_; have BK336 := n2_; have HB := n3_; clear n0_ n1_ n2_ n3_; (try clear hb); (try clear hb2); (try clear hk); (try clear hi); (try clear ho0); obtain ⟨Ao26, co26, eo26⟩ := Kd.R_slice HO344.out; subst eo26; have p345 : 0 ≤ (t337 : Int) := of_decide_eq_true (by first | (with_reducible assumption) | assumption); have q345 : t337 < (t342.length : Int) := of_decide_eq_true (by first | (with_reducible assumption) | assumption); obtain ⟨ad345, e345, hx345_0⟩ := Kd.at_int (Kd.R_reads' HO344.out).2.2 t337 p345 q345; cases e345; replace p345 := eq_true p345; replace q345 := eq_true q345; have p346 : 0 ≤ (t337 : Int) := of_decide_eq_true (by first | (with_reducible assumption) | assumption); have q346 : t337 < (l1.length : Int) := of_decide_eq_true (by first | (with_reducible assumption) | assumption); obtain ⟨ad346, e346, hx346_0, hx346_1, hx346_2⟩ := at_T53 HR1.out t337 p346 q346; cases e346; replace hx346_0 := (HB.out.cell (World.block_lt_of_cell? w _ hx346_0)).trans hx346_0; replace hx346_1 := (HB.out.cell (World.block_lt_of_cell? w _ hx346_1)).trans hx346_1; replace hx346_2 := (HB.out.cell (World.block_lt_of_cell? w _ hx346_2)).trans hx346_2; replace p346 := eq_true p346; replace q346 := eq_true q346; have hcz27_0 : w25.cell? ⟨gb336, 0, none⟩ = some (.int .i64 0) := (blk_cell BK336.out 0).trans rfl; have hcz27_1 : w25.cell? ⟨gb336, 1, none⟩ = some (.int .i64 0) := (blk_cell BK336.out 1).trans rfl; have hfz27_0 := blk_frozen BK336.out 0; have hfz27_1 := blk_frozen BK336.out 1)))
                    refine bodyPost_ret (results_cell_row rfl _ _ gb336 49 #[.int .i64 0, .int .i64 160] (0, 0) _ rfl (by (with_reducible repeat (first | refine blk_drewN ?_ _ | refine blk_drew ?_ | refine blk_alloc ?_ _)); refine blk_put (cs := #[.int .i64 0, .int .i64 0]) ?_ 1 _ rfl; (with_reducible repeat (first | refine blk_drewN ?_ _ | refine blk_drew ?_ | refine blk_alloc ?_ _)); refine blk_put (cs := #[.int .i64 0, .int .i64 0]) ?_ 0 _ rfl; (with_reducible repeat (first | refine blk_drewN ?_ _ | refine blk_drew ?_ | refine blk_alloc ?_ _)); exact BK336.out) Try.underlying49 rfl (by kernel_rfl)) rfl ?_
                    exact ⟨by first | rfl | (simp [errW_none, errW_some] <;> rfl) | (simp [*, errW_none, errW_some] <;> rfl), by repeat (first | (with_reducible first | exact HB.out | apply below_alloc | apply pw_below_drewN | apply below_drew1 | refine below_set ?_ GE336.out) | exact HB.out)⟩
                  · rw [if_neg c22] at H
                    have c22b0 : decide ((rd t342 t337) < (wrap64 (((rd_T53 l1 t337).f2) + a3))) = false := decide_eq_false c22
                    clear c22
                    have H' := Aside0.mk H
                    clear H
                    go_wp2_with (first | (go_at_call 28; (with_reducible refine (weirgateref16_Total.calls kj8 _ _ l1 t338 _ ?side1 ?side2 A14.out).mono ?_); (case side1 => repeat (first | exact (Kd.C_below HR1.out HB.out) | (with_reducible refine Kd.C_alloc ?_ _) | (with_reducible refine Kd.C_drewN ?_ _) | (with_reducible refine Kd.C_drew ?_))); (case side2 => exact HC1.out); rintro e w' ⟨rfl, ⟨nd, rfl⟩⟩; (try first | exact ⟨rfl, _, World.drewN_drewN _ _ _⟩ | exact ⟨rfl, _, Eq.trans (World.drewN_drewN _ _ _) (congrArg (World.drewN _) (Nat.add_assoc _ _ _))⟩)) | (go_at_call 31; (with_reducible refine (weirgateref16_Wants.calls _ _ l1 a2 a3 t339 _ ?side1 ?side2 A17.out).mono ?_); (case side1 => repeat (first | exact (Kd.C_below HR1.out (by repeat (first | (with_reducible first | exact HB.out | apply below_alloc | apply pw_below_drewN | apply below_drew1 | refine below_set ?_ GE336.out) | exact HB.out))) | (with_reducible refine Kd.C_alloc ?_ _) | (with_reducible refine Kd.C_drewN ?_ _) | (with_reducible refine Kd.C_drew ?_))); (case side2 => exact HC1.out); rintro e w28 ⟨v340, rfl, ho0, hb⟩; have n0_ := Aside0.mk (Kd.R_lower ho0 (below_size (by repeat (first | (with_reducible first | exact HB.out | apply below_alloc | apply pw_below_drewN | apply below_drew1 | refine below_set ?_ GE336.out) | exact HB.out)))); have n1_ := Aside0.mk (blk_below (g := gb336) (o := .cells #[.int .i64 0, .int .i64 0] 49 (0, 0)) (by (with_reducible repeat (first | refine blk_drewN ?_ _ | refine blk_drew ?_ | refine blk_alloc ?_ _)); exact BK336.out) hb); have n2_ := Aside0.mk (below_step (by repeat (first | (with_reducible first | exact HB.out | apply below_alloc | apply pw_below_drewN | apply below_drew1 | refine below_set ?_ GE336.out) | exact HB.out)) hb); clear BK336; clear HB; have HO341 := n0_; have BK336 := n1_; have HB := n2_; clear n0_ n1_ n2_; (try clear hb); (try clear hb2); (try clear hk); (try clear hi); (try clear ho0); obtain ⟨Ao29, co29, eo29⟩ := Kd.R_slice HO341.out; subst eo29) | (go_at_call 17; (with_reducible refine (weirgateref16_Fair.calls kj8 a0 _ _ t339 t342 _ ?side1 ?side2 A18.out).mono ?_); (case side1 => repeat (first | exact (Kd.R_reads' HO341.out).2.2 | (with_reducible refine Kd.C_alloc ?_ _) | (with_reducible refine Kd.C_drewN ?_ _) | (with_reducible refine Kd.C_drew ?_))); (case side2 => exact (Kd.R_reads' HO341.out).2.1); rintro e w30 ⟨v343, rfl, ho0, hb⟩; have n0_ := Aside0.mk (Kd.R_below (by (with_reducible repeat (first | apply Kd.R_alloc | apply Kd.R_drewN | apply Kd.R_drew)); exact HO341.out) hb); have n1_ := Aside0.mk (Kd.R_lower ho0 (below_size (by repeat (first | (with_reducible first | exact HB.out | apply below_alloc | apply pw_below_drewN | apply below_drew1 | refine below_set ?_ GE336.out) | exact HB.out)))); have n2_ := Aside0.mk (blk_below (g := gb336) (o := .cells #[.int .i64 0, .int .i64 0] 49 (0, 0)) (by (with_reducible repeat (first | refine blk_drewN ?_ _ | refine blk_drew ?_ | refine blk_alloc ?_ _)); exact BK336.out) hb); have n3_ := Aside0.mk (below_step (by repeat (first | (with_reducible first | exact HB.out | apply below_alloc | apply pw_below_drewN | apply below_drew1 | refine below_set ?_ GE336.out) | exact HB.out)) hb); clear HO341; clear BK336; clear HB; have HO341 := n0_; have HO344 := n1_; have BK336 := n2_; have HB := n3_; clear n0_ n1_ n2_ n3_; (try clear hb); (try clear hb2); (try clear hk); (try clear hi); (try clear ho0); obtain ⟨Ao31, co31, eo31⟩ := Kd.R_slice HO344.out; subst eo31; have p345 : 0 ≤ (t337 : Int) := of_decide_eq_true (by first | (with_reducible assumption) | assumption); have q345 : t337 < (t342.length : Int) := of_decide_eq_true (by first | (with_reducible assumption) | assumption); obtain ⟨ad345, e345, hx345_0⟩ := Kd.at_int (Kd.R_reads' HO344.out).2.2 t337 p345 q345; cases e345; replace p345 := eq_true p345; replace q345 := eq_true q345; have p346 : 0 ≤ (t337 : Int) := of_decide_eq_true (by first | (with_reducible assumption) | assumption); have q346 : t337 < (l1.length : Int) := of_decide_eq_true (by first | (with_reducible assumption) | assumption); obtain ⟨ad346, e346, hx346_0, hx346_1, hx346_2⟩ := at_T53 HR1.out t337 p346 q346; cases e346; replace hx346_0 := (HB.out.cell (World.block_lt_of_cell? w _ hx346_0)).trans hx346_0; replace hx346_1 := (HB.out.cell (World.block_lt_of_cell? w _ hx346_1)).trans hx346_1; replace hx346_2 := (HB.out.cell (World.block_lt_of_cell? w _ hx346_2)).trans hx346_2; replace p346 := eq_true p346; replace q346 := eq_true q346) | ((with_reducible refine gate_dst (N := 11) rfl ?_); refine box_event ?hg (N := 11) ?hd (cs := #[.int .i64 0, .int .i64 0]) (t := 49) ?hr ?_; (case hd => rfl); (case hg => rfl); (case hr => first | (go_simp; done) | (go_simp; rfl)); intro gb347 hg w32 hbox hb; have n0_ := Aside0.mk (Kd.R_below (by (with_reducible repeat (first | apply Kd.R_alloc | apply Kd.R_drewN | apply Kd.R_drew)); exact HO341.out) hb); have n1_ := Aside0.mk (Kd.R_below (by (with_reducible repeat (first | apply Kd.R_alloc | apply Kd.R_drewN | apply Kd.R_drew)); exact HO344.out) hb); have n2_ := Aside0.mk (blk_below (g := gb336) (o := .cells #[.int .i64 0, .int .i64 0] 49 (0, 0)) (by (with_reducible repeat (first | refine blk_drewN ?_ _ | refine blk_drew ?_ | refine blk_alloc ?_ _)); exact BK336.out) hb); have n3_ := Aside0.mk (below_step (by repeat (first | (with_reducible first | exact HB.out | apply below_alloc | apply pw_below_drewN | apply below_drew1 | refine below_set ?_ GE336.out) | exact HB.out)) hb); have n4_ := Aside0.mk (hbox); have n5_ := Aside0.mk ((by rw [hg]; exact (below_size (by repeat (first | (with_reducible first | exact HB.out | apply below_alloc | apply pw_below_drewN | apply below_drew1 | refine below_set ?_ GE336.out) | exact HB.out))) : w.heap.size ≤ gb347)); have n6_ := Aside0.mk ((by rw [hg]; exact (below_size (by repeat (first | (with_reducible first | exact HB.out | apply below_alloc | apply pw_below_drewN | apply below_drew1 | refine below_set ?_ GE336.out) | exact HB.out))) : w.heap.size ≤ gb347)); have n7_ := Aside0.mk ((by rw [hg]; exact Nat.ne_of_lt (blk_lt (g := gb336) (o := .cells #[.int .i64 0, .int .i64 0] 49 (0, 0)) (by (with_reducible repeat (first | refine blk_drewN ?_ _ | refine blk_drew ?_ | refine blk_alloc ?_ _)); exact BK336.out)) : gb336 ≠ gb347)); have n8_ := Aside0.mk ((by rw [hg]; exact Nat.ne_of_gt (blk_lt (g := gb336) (o := .cells #[.int .i64 0, .int .i64 0] 49 (0, 0)) (by (with_reducible repeat (first | refine blk_drewN ?_ _ | refine blk_drew ?_ | refine blk_alloc ?_ _)); exact BK336.out)) : gb347 ≠ gb336)); clear HO341; clear HO344; clear BK336; clear HB; have HO341 := n0_; have HO344 := n1_; have BK336 := n2_; have HB := n3_; have BK347 := n4_; have GW347 := n5_; have GE347 := n6_; have NB336_347 := n7_; have NB347_336 := n8_; clear n0_ n1_ n2_ n3_ n4_ n5_ n6_ n7_ n8_; clear hb hbox hg; have hnb33 := NB347_336.out; have hnc33 := NB336_347.out; have hcz34_0 : w32.cell? ⟨gb347, 0, none⟩ = some (.int .i64 0) := (blk_cell BK347.out 0).trans rfl; have hcz34_1 : w32.cell? ⟨gb347, 1, none⟩ = some (.int .i64 0) := (blk_cell BK347.out 1).trans rfl; have hfz34_0 := blk_frozen BK347.out 0; have hfz34_1 := blk_frozen BK347.out 1))
                    repeat (go_quiet (first | (go_at_call 28; (with_reducible refine (weirgateref16_Total.calls kj8 _ _ l1 t338 _ ?side1 ?side2 A14.out).mono ?_); (case side1 => repeat (first | exact (Kd.C_below HR1.out HB.out) | (with_reducible refine Kd.C_alloc ?_ _) | (with_reducible refine Kd.C_drewN ?_ _) | (with_reducible refine Kd.C_drew ?_))); (case side2 => exact HC1.out); rintro e w' ⟨rfl, ⟨nd, rfl⟩⟩; (try first | exact ⟨rfl, _, World.drewN_drewN _ _ _⟩ | exact ⟨rfl, _, Eq.trans (World.drewN_drewN _ _ _) (congrArg (World.drewN _) (Nat.add_assoc _ _ _))⟩)) | (go_at_call 31; (with_reducible refine (weirgateref16_Wants.calls _ _ l1 a2 a3 t339 _ ?side1 ?side2 A17.out).mono ?_); (case side1 => repeat (first | exact (Kd.C_below HR1.out (by repeat (first | (with_reducible first | exact HB.out | apply below_alloc | apply pw_below_drewN | apply below_drew1 | refine below_set ?_ GE336.out) | exact HB.out))) | (with_reducible refine Kd.C_alloc ?_ _) | (with_reducible refine Kd.C_drewN ?_ _) | (with_reducible refine Kd.C_drew ?_))); (case side2 => exact HC1.out); rintro e w28 ⟨v340, rfl, ho0, hb⟩; have n0_ := Aside0.mk (Kd.R_lower ho0 (below_size (by repeat (first | (with_reducible first | exact HB.out | apply below_alloc | apply pw_below_drewN | apply below_drew1 | refine below_set ?_ GE336.out) | exact HB.out)))); have n1_ := Aside0.mk (blk_below (g := gb336) (o := .cells #[.int .i64 0, .int .i64 0] 49 (0, 0)) (by (with_reducible repeat (first | refine blk_drewN ?_ _ | refine blk_drew ?_ | refine blk_alloc ?_ _)); exact BK336.out) hb); have n2_ := Aside0.mk (below_step (by repeat (first | (with_reducible first | exact HB.out | apply below_alloc | apply pw_below_drewN | apply below_drew1 | refine below_set ?_ GE336.out) | exact HB.out)) hb); clear BK336; clear HB; have HO341 := n0_; have BK336 := n1_; have HB := n2_; clear n0_ n1_ n2_; (try clear hb); (try clear hb2); (try clear hk); (try clear hi); (try clear ho0); obtain ⟨Ao29, co29, eo29⟩ := Kd.R_slice HO341.out; subst eo29) | (go_at_call 17; (with_reducible refine (weirgateref16_Fair.calls kj8 a0 _ _ t339 t342 _ ?side1 ?side2 A18.out).mono ?_); (case side1 => repeat (first | exact (Kd.R_reads' HO341.out).2.2 | (with_reducible refine Kd.C_alloc ?_ _) | (with_reducible refine Kd.C_drewN ?_ _) | (with_reducible refine Kd.C_drew ?_))); (case side2 => exact (Kd.R_reads' HO341.out).2.1); rintro e w30 ⟨v343, rfl, ho0, hb⟩; have n0_ := Aside0.mk (Kd.R_below (by (with_reducible repeat (first | apply Kd.R_alloc | apply Kd.R_drewN | apply Kd.R_drew)); exact HO341.out) hb); have n1_ := Aside0.mk (Kd.R_lower ho0 (below_size (by repeat (first | (with_reducible first | exact HB.out | apply below_alloc | apply pw_below_drewN | apply below_drew1 | refine below_set ?_ GE336.out) | exact HB.out)))); have n2_ := Aside0.mk (blk_below (g := gb336) (o := .cells #[.int .i64 0, .int .i64 0] 49 (0, 0)) (by (with_reducible repeat (first | refine blk_drewN ?_ _ | refine blk_drew ?_ | refine blk_alloc ?_ _)); exact BK336.out) hb); have n3_ := Aside0.mk (below_step (by repeat (first | (with_reducible first | exact HB.out | apply below_alloc | apply pw_below_drewN | apply below_drew1 | refine below_set ?_ GE336.out) | exact HB.out)) hb); clear HO341; clear BK336; clear HB; have HO341 := n0_; have HO344 := n1_; have BK336 := n2_; have HB := n3_; clear n0_ n1_ n2_ n3_; (try clear hb); (try clear hb2); (try clear hk); (try clear hi); (try clear ho0); obtain ⟨Ao31, co31, eo31⟩ := Kd.R_slice HO344.out; subst eo31; have p345 : 0 ≤ (t337 : Int) := of_decide_eq_true (by first | (with_reducible assumption) | assumption); have q345 : t337 < (t342.length : Int) := of_decide_eq_true (by first | (with_reducible assumption) | assumption); obtain ⟨ad345, e345, hx345_0⟩ := Kd.at_int (Kd.R_reads' HO344.out).2.2 t337 p345 q345; cases e345; replace p345 := eq_true p345; replace q345 := eq_true q345; have p346 : 0 ≤ (t337 : Int) := of_decide_eq_true (by first | (with_reducible assumption) | assumption); have q346 : t337 < (l1.length : Int) := of_decide_eq_true (by first | (with_reducible assumption) | assumption); obtain ⟨ad346, e346, hx346_0, hx346_1, hx346_2⟩ := at_T53 HR1.out t337 p346 q346; cases e346; replace hx346_0 := (HB.out.cell (World.block_lt_of_cell? w _ hx346_0)).trans hx346_0; replace hx346_1 := (HB.out.cell (World.block_lt_of_cell? w _ hx346_1)).trans hx346_1; replace hx346_2 := (HB.out.cell (World.block_lt_of_cell? w _ hx346_2)).trans hx346_2; replace p346 := eq_true p346; replace q346 := eq_true q346) | ((with_reducible refine gate_dst (N := 11) rfl ?_); refine box_event ?hg (N := 11) ?hd (cs := #[.int .i64 0, .int .i64 0]) (t := 49) ?hr ?_; (case hd => rfl); (case hg => rfl); (case hr => first | (go_simp; done) | (go_simp; rfl)); intro gb347 hg w32 hbox hb; have n0_ := Aside0.mk (Kd.R_below (by (with_reducible repeat (first | apply Kd.R_alloc | apply Kd.R_drewN | apply Kd.R_drew)); exact HO341.out) hb); have n1_ := Aside0.mk (Kd.R_below (by (with_reducible repeat (first | apply Kd.R_alloc | apply Kd.R_drewN | apply Kd.R_drew)); exact HO344.out) hb); have n2_ := Aside0.mk (blk_below (g := gb336) (o := .cells #[.int .i64 0, .int .i64 0] 49 (0, 0)) (by (with_reducible repeat (first | refine blk_drewN ?_ _ | refine blk_drew ?_ | refine blk_alloc ?_ _)); exact BK336.out) hb); have n3_ := Aside0.mk (below_step (by repeat (first | (with_reducible first | exact HB.out | apply below_alloc | apply pw_below_drewN | apply below_drew1 | refine below_set ?_ GE336.out) | exact HB.out)) hb); have n4_ := Aside0.mk (hbox); have n5_ := Aside0.mk ((by rw [hg]; exact (below_size (by repeat (first | (with_reducible first | exact HB.out | apply below_alloc | apply pw_below_drewN | apply below_drew1 | refine below_set ?_ GE336.out) | exact HB.out))) : w.heap.size ≤ gb347)); have n6_ := Aside0.mk ((by rw [hg]; exact (below_size (by repeat (first | (with_reducible first | exact HB.out | apply below_alloc | apply pw_below_drewN | apply below_drew1 | refine below_set ?_ GE336.out) | exact HB.out))) : w.heap.size ≤ gb347)); have n7_ := Aside0.mk ((by rw [hg]; exact Nat.ne_of_lt (blk_lt (g := gb336) (o := .cells #[.int .i64 0, .int .i64 0] 49 (0, 0)) (by (with_reducible repeat (first | refine blk_drewN ?_ _ | refine blk_drew ?_ | refine blk_alloc ?_ _)); exact BK336.out)) : gb336 ≠ gb347)); have n8_ := Aside0.mk ((by rw [hg]; exact Nat.ne_of_gt (blk_lt (g := gb336) (o := .cells #[.int .i64 0, .int .i64 0] 49 (0, 0)) (by (with_reducible repeat (first | refine blk_drewN ?_ _ | refine blk_drew ?_ | refine blk_alloc ?_ _)); exact BK336.out)) : gb347 ≠ gb336)); clear HO341; clear HO344; clear BK336; clear HB; have HO341 := n0_; have HO344 := n1_; have BK336 := n2_; have HB := n3_; have BK347 := n4_; have GW347 := n5_; have GE347 := n6_; have NB336_347 := n7_; have NB347_336 := n8_; clear n0_ n1_ n2_ n3_ n4_ n5_ n6_ n7_ n8_; clear hb hbox hg; have hnb33 := NB347_336.out; have hnc33 := NB336_347.out; have hcz34_0 : w32.cell? ⟨gb347, 0, none⟩ = some (.int .i64 0) := (blk_cell BK347.out 0).trans rfl; have hcz34_1 : w32.cell? ⟨gb347, 1, none⟩ = some (.int .i64 0) := (blk_cell BK347.out 1).trans rfl; have hfz34_0 := blk_frozen BK347.out 0; have hfz34_1 := blk_frozen BK347.out 1)); try go_wp2_with (first | (go_at_call 28; (with_reducible refine (weirgateref16_Total.calls kj8 _ _ l1 t338 _ ?side1 ?side2 A14.out).mono ?_); (case side1 => repeat (first | exact (Kd.C_below HR1.out HB.out) | (with_reducible refine Kd.C_alloc ?_ _) | (with_reducible refine Kd.C_drewN ?_ _) | (with_reducible refine Kd.C_drew ?_))); (case side2 => exact HC1.out); rintro e w' ⟨rfl, ⟨nd, rfl⟩⟩; (try first | exact ⟨rfl, _, World.drewN_drewN _ _ _⟩ | exact ⟨rfl, _, Eq.trans (World.drewN_drewN _ _ _) (congrArg (World.drewN _) (Nat.add_assoc _ _ _))⟩)) | (go_at_call 31; (with_reducible refine (weirgateref16_Wants.calls _ _ l1 a2 a3 t339 _ ?side1 ?side2 A17.out).mono ?_); (case side1 => repeat (first | exact (Kd.C_below HR1.out (by repeat (first | (with_reducible first | exact HB.out | apply below_alloc | apply pw_below_drewN | apply below_drew1 | refine below_set ?_ GE336.out) | exact HB.out))) | (with_reducible refine Kd.C_alloc ?_ _) | (with_reducible refine Kd.C_drewN ?_ _) | (with_reducible refine Kd.C_drew ?_))); (case side2 => exact HC1.out); rintro e w28 ⟨v340, rfl, ho0, hb⟩; have n0_ := Aside0.mk (Kd.R_lower ho0 (below_size (by repeat (first | (with_reducible first | exact HB.out | apply below_alloc | apply pw_below_drewN | apply below_drew1 | refine below_set ?_ GE336.out) | exact HB.out)))); have n1_ := Aside0.mk (blk_below (g := gb336) (o := .cells #[.int .i64 0, .int .i64 0] 49 (0, 0)) (by (with_reducible repeat (first | refine blk_drewN ?_ _ | refine blk_drew ?_ | refine blk_alloc ?_ _)); exact BK336.out) hb); have n2_ := Aside0.mk (below_step (by repeat (first | (with_reducible first | exact HB.out | apply below_alloc | apply pw_below_drewN | apply below_drew1 | refine below_set ?_ GE336.out) | exact HB.out)) hb); clear BK336; clear HB; have HO341 := n0_; have BK336 := n1_; have HB := n2_; clear n0_ n1_ n2_; (try clear hb); (try clear hb2); (try clear hk); (try clear hi); (try clear ho0); obtain ⟨Ao29, co29, eo29⟩ := Kd.R_slice HO341.out; subst eo29) | (go_at_call 17; (with_reducible refine (weirgateref16_Fair.calls kj8 a0 _ _ t339 t342 _ ?side1 ?side2 A18.out).mono ?_); (case side1 => repeat (first | exact (Kd.R_reads' HO341.out).2.2 | (with_reducible refine Kd.C_alloc ?_ _) | (with_reducible refine Kd.C_drewN ?_ _) | (with_reducible refine Kd.C_drew ?_))); (case side2 => exact (Kd.R_reads' HO341.out).2.1); rintro e w30 ⟨v343, rfl, ho0, hb⟩; have n0_ := Aside0.mk (Kd.R_below (by (with_reducible repeat (first | apply Kd.R_alloc | apply Kd.R_drewN | apply Kd.R_drew)); exact HO341.out) hb); have n1_ := Aside0.mk (Kd.R_lower ho0 (below_size (by repeat (first | (with_reducible first | exact HB.out | apply below_alloc | apply pw_below_drewN | apply below_drew1 | refine below_set ?_ GE336.out) | exact HB.out)))); have n2_ := Aside0.mk (blk_below (g := gb336) (o := .cells #[.int .i64 0, .int .i64 0] 49 (0, 0)) (by (with_reducible repeat (first | refine blk_drewN ?_ _ | refine blk_drew ?_ | refine blk_alloc ?_ _)); exact BK336.out) hb); have n3_ := Aside0.mk (below_step (by repeat (first | (with_reducible first | exact HB.out | apply below_alloc | apply pw_below_drewN | apply below_drew1 | refine below_set ?_ GE336.out) | exact HB.out)) hb); clear HO341; clear BK336; clear HB; have HO341 := n0_; have HO344 := n1_; have BK336 := n2_; have HB := n3_; clear n0_ n1_ n2_ n3_; (try clear hb); (try clear hb2); (try clear hk); (try clear hi); (try clear ho0); obtain ⟨Ao31, co31, eo31⟩ := Kd.R_slice HO344.out; subst eo31; have p345 : 0 ≤ (t337 : Int) := of_decide_eq_true (by first | (with_reducible assumption) | assumption); have q345 : t337 < (t342.length : Int) := of_decide_eq_true (by first | (with_reducible assumption) | assumption); obtain ⟨ad345, e345, hx345_0⟩ := Kd.at_int (Kd.R_reads' HO344.out).2.2 t337 p345 q345; cases e345; replace p345 := eq_true p345; replace q345 := eq_true q345; have p346 : 0 ≤ (t337 : Int) := of_decide_eq_true (by first | (with_reducible assumption) | assumption); have q346 : t337 < (l1.length : Int) := of_decide_eq_true (by first | (with_reducible assumption) | assumption); obtain ⟨ad346, e346, hx346_0, hx346_1, hx346_2⟩ := at_T53 HR1.out t337 p346 q346; cases e346; replace hx346_0 := (HB.out.cell (World.block_lt_of_cell? w _ hx346_0)).trans hx346_0; replace hx346_1 := (HB.out.cell (World.block_lt_of_cell? w _ hx346_1)).trans hx346_1; replace hx346_2 := (HB.out.cell (World.block_lt_of_cell? w _ hx346_2)).trans hx346_2; replace p346 := eq_true p346; replace q346 := eq_true q346) | ((with_reducible refine gate_dst (N := 11) rfl ?_); refine box_event ?hg (N := 11) ?hd (cs := #[.int .i64 0, .int .i64 0]) (t := 49) ?hr ?_; (case hd => rfl); (case hg => rfl); (case hr => first | (go_simp; done) | (go_simp; rfl)); intro gb347 hg w32 hbox hb; have n0_ := Aside0.mk (Kd.R_below (by (with_reducible repeat (first | apply Kd.R_alloc | apply Kd.R_drewN | apply Kd.R_drew)); exact HO341.out) hb); have n1_ := Aside0.mk (Kd.R_below (by (with_reducible repeat (first | apply Kd.R_alloc | apply Kd.R_drewN | apply Kd.R_drew)); exact HO344.out) hb); have n2_ := Aside0.mk (blk_below (g := gb336) (o := .cells #[.int .i64 0, .int .i64 0] 49 (0, 0)) (by (with_reducible repeat (first | refine blk_drewN ?_ _ | refine blk_drew ?_ | refine blk_alloc ?_ _)); exact BK336.out) hb); have n3_ := Aside0.mk (below_step (by repeat (first | (with_reducible first | exact HB.out | apply below_alloc | apply pw_below_drewN | apply below_drew1 | refine below_set ?_ GE336.out) | exact HB.out)) hb); have n4_ := Aside0.mk (hbox); have n5_ := Aside0.mk ((by rw [hg]; exact (below_size (by repeat (first | (with_reducible first | exact HB.out | apply below_alloc | apply pw_below_drewN | apply below_drew1 | refine below_set ?_ GE336.out) | exact HB.out))) : w.heap.size ≤ gb347)); have n6_ := Aside0.mk ((by rw [hg]; exact (below_size (by repeat (first | (with_reducible first | exact HB.out | apply below_alloc | apply pw_below_drewN | apply below_drew1 | refine below_set ?_ GE336.out) | exact HB.out))) : w.heap.size ≤ gb347)); have n7_ := Aside0.mk ((by rw [hg]; exact Nat.ne_of_lt (blk_lt (g := gb336) (o := .cells #[.int .i64 0, .int .i64 0] 49 (0, 0)) (by (with_reducible repeat (first | refine blk_drewN ?_ _ | refine blk_drew ?_ | refine blk_alloc ?_ _)); exact BK336.out)) : gb336 ≠ gb347)); have n8_ := Aside0.mk ((by rw [hg]; exact Nat.ne_of_gt (blk_lt (g := gb336) (o := .cells #[.int .i64 0, .int .i64 0] 49 (0, 0)) (by (with_reducible repeat (first | refine blk_drewN ?_ _ | refine blk_drew ?_ | refine blk_alloc ?_ _)); exact BK336.out)) : gb347 ≠ gb336)); clear HO341; clear HO344; clear BK336; clear HB; have HO341 := n0_; have HO344 := n1_; have BK336 := n2_; have HB := n3_; have BK347 := n4_; have GW347 := n5_; have GE347 := n6_; have NB336_347 := n7_; have NB347_336 := n8_; clear n0_ n1_ n2_ n3_ n4_ n5_ n6_ n7_ n8_; clear hb hbox hg; have hnb33 := NB347_336.out; have hnc33 := NB336_347.out; have hcz34_0 : w32.cell? ⟨gb347, 0, none⟩ = some (.int .i64 0) := (blk_cell BK347.out 0).trans rfl; have hcz34_1 : w32.cell? ⟨gb347, 1, none⟩ = some (.int .i64 0) := (blk_cell BK347.out 1).trans rfl; have hfz34_0 := blk_frozen BK347.out 0; have hfz34_1 := blk_frozen BK347.out 1)))
                    go_loopg [12, 13] kj8 (fun kq v12 v13 w' => ∃ (x12_2 : Int) (x13_2 : Int) (x348000_2 : Int), v12 = .int .i64 x12_2 ∧ v13 = .int .i64 x13_2 ∧ Aside0 (weirgateref16_Victim.l0 kq l1 t337 t342 x12_2 x13_2 x348000_2 0 = some (r1, r2)) ∧ Aside0 (kq ≤ kj8) ∧ Aside0 (Kd.R (Kd.int .i64) 3 w' w.heap.size (fun _ => True) (.slice (some ad345) t342.length co31) t342) ∧ Aside0 (w'.heap[gb336]? = some (.cells #[.int .i64 0, .int .i64 0] 49 (0, 0))) ∧ Aside0 (w'.heap[gb347]? = some (.cells #[.int .i64 x348000_2, .int .i64 0] 49 (0, 0))) ∧ Aside0 (Below w.heap.size w w'))
                    case atStart => exact ⟨(0), (0), (0), (by first | rfl | (simp; done) | (simp [*]; done)), (by first | rfl | (simp; done) | (simp [*]; done)), H', ⟨Nat.le_refl _⟩, ⟨by (with_reducible repeat (first | apply Kd.R_alloc | apply Kd.R_drewN | apply Kd.R_drew)); exact Kd.R_mono (Kd.R_far (p := ⟨gb347, 1, none⟩) (Kd.R_far (p := ⟨gb347, 0, none⟩) (Kd.R_types HO344.out BK347.out (by decide)) (fun _ hk => hk.2) (.int .i64 0)) (fun _ hk => hk.2) (.int .i64 0)) (fun _ hk => trivial)⟩, ⟨by (with_reducible repeat (first | refine blk_drewN ?_ _ | refine blk_drew ?_ | refine blk_alloc ?_ _)); refine blk_far ?_ NB336_347.out _; (with_reducible repeat (first | refine blk_drewN ?_ _ | refine blk_drew ?_ | refine blk_alloc ?_ _)); refine blk_far ?_ NB336_347.out _; (with_reducible repeat (first | refine blk_drewN ?_ _ | refine blk_drew ?_ | refine blk_alloc ?_ _)); exact BK336.out⟩, ⟨by (with_reducible repeat (first | refine blk_drewN ?_ _ | refine blk_drew ?_ | refine blk_alloc ?_ _)); refine blk_put (cs := #[.int .i64 0, .int .i64 0]) ?_ 1 _ rfl; (with_reducible repeat (first | refine blk_drewN ?_ _ | refine blk_drew ?_ | refine blk_alloc ?_ _)); refine blk_put (cs := #[.int .i64 0, .int .i64 0]) ?_ 0 _ rfl; (with_reducible repeat (first | refine blk_drewN ?_ _ | refine blk_drew ?_ | refine blk_alloc ?_ _)); exact BK347.out⟩, ⟨by repeat (first | (with_reducible first | exact HB.out | apply below_alloc | apply pw_below_drewN | apply below_drew1 | refine below_set ?_ GE336.out | refine below_set ?_ GE347.out) | exact HB.out)⟩⟩
                    case round =>
                      clear H'
                      try clear c1
                      try clear c2
                      try clear p2
                      try clear c3
                      try clear p3
                      try clear q3
                      try clear hx3
                      try clear c6
                      try clear c6b0
                      try clear p6
                      try clear c11
                      try clear c11b0
                      try clear c12
                      try clear c15
                      try clear c15b0
                      try clear c19
                      try clear c19b0
                      try clear c20
                      try clear c20b0
                      try clear c21
                      try clear c21b0
                      try clear c22
                      try clear c22b0
                      try clear c30
                      try clear c33
                      try clear p34
                      try clear q34
                      try clear hx34
                      try clear hcz13_0
                      try clear hcz13_1
                      try clear hcz16_0
                      try clear hcz16_1
                      try clear hcz27_0
                      try clear hcz27_1
                      try clear hcz34_0
                      try clear hcz34_1
                      try clear hcz8_0
                      try clear hcz8_1
                      try clear hfz13_0
                      try clear hfz13_1
                      try clear hfz16_0
                      try clear hfz16_1
                      try clear hfz27_0
                      try clear hfz27_1
                      try clear hfz34_0
                      try clear hfz34_1
                      try clear hfz8_0
                      try clear hfz8_1
                      try clear hx345_0
                      try clear hx346_0
                      try clear hx346_1
                      try clear hx346_2
                      try clear p2
                      try clear p345
                      try clear p346
                      try clear q345
                      try clear q346
                      obtain ⟨x12_2, x13_2, x348000_2, rfl, rfl, HA, HK2, HO_10, BK336, BK347, HB⟩ := hrel
                      cases gk with
                      | zero => exact absurd HA.out (by simp [weirgateref16_Victim.l0])
                      | succ k2 =>
                        have H := HA.out
                        clear HA
                        simp only [weirgateref16_Victim.l0] at H
                        by_cases c35 : x13_2 < (l1.length : Int)
                        · rw [if_pos c35] at H
                          have c35b0 : decide (x13_2 < (l1.length : Int)) = true := decide_eq_true c35
                          clear c35
                          by_cases c36 : x13_2 = t337
                          · rw [if_pos c36] at H
                            have c36b0 : (x13_2 == t337) = true := beq_iff_eq.mpr c36
                            have c36b1 : (x13_2 != t337) = false := bne_eq_false_iff_eq.mpr c36
                            clear c36
                            have H' := Aside0.mk H
                            clear H
                            go_wp2
                            repeat (go_quiet (fail); try go_wp2)
                            go_roundg k2
                            case measure => have := HJ8.out; have := HK2.out; omega
                            case rel => exact ⟨(x12_2), (wrap64 (x13_2 + 1)), (x348000_2), (by first | rfl | (simp; done) | (simp [*]; done)), (by first | rfl | (simp; done) | (simp [*]; done)), H', ⟨by have := HJ8.out; have := HK2.out; omega⟩, ⟨by (with_reducible repeat (first | apply Kd.R_alloc | apply Kd.R_drewN | apply Kd.R_drew)); exact HO_10.out⟩, ⟨by (with_reducible repeat (first | refine blk_drewN ?_ _ | refine blk_drew ?_ | refine blk_alloc ?_ _)); exact BK336.out⟩, ⟨by (with_reducible repeat (first | refine blk_drewN ?_ _ | refine blk_drew ?_ | refine blk_alloc ?_ _)); exact BK347.out⟩, ⟨by repeat (first | (with_reducible first | exact HB.out | apply below_alloc | apply pw_below_drewN | apply below_drew1 | refine below_set ?_ GE336.out | refine below_set ?_ GE347.out) | exact HB.out)⟩⟩
                          · rw [if_neg c36] at H
                            have c36b0 : (x13_2 == t337) = false := beq_eq_false_iff_ne.mpr c36
                            have c36b1 : (x13_2 != t337) = true := bne_iff_ne.mpr c36
                            by_cases c37 : 0 ≤ x13_2
                            · rw [if_pos c37] at H
                              have c37b0 : decide (0 ≤ x13_2) = true := decide_eq_true c37
                              clear c37
                              by_cases c38 : x13_2 < (t342.length : Int)
                              · rw [if_pos c38] at H
                                have c38b0 : decide (x13_2 < (t342.length : Int)) = true := decide_eq_true c38
                                clear c38
                                by_cases c39 : (wrap64 (((rd_T53 l1 x13_2).f2) - (rd t342 x13_2))) > x12_2
                                · rw [if_pos c39] at H
                                  have c39b0 : decide (x12_2 < (wrap64 (((rd_T53 l1 x13_2).f2) - (rd t342 x13_2)))) = true := decide_eq_true c39
                                  clear c39
                                  have H' := Aside0.mk H
                                  clear H
                                  have p348 : 0 ≤ (x13_2 : Int) := of_decide_eq_true (by first | (with_reducible assumption) | assumption)
                                  have q348 : x13_2 < (l1.length : Int) := of_decide_eq_true (by first | (with_reducible assumption) | assumption)
                                  obtain ⟨ad348, e348, hx348_0, hx348_1, hx348_2⟩ := at_T53 HR1.out x13_2 p348 q348
                                  obtain rfl : ad346 = ad348 := (by injection e348)
                                  replace hx348_0 := (HB.out.cell (World.block_lt_of_cell? w _ hx348_0)).trans hx348_0
                                  replace hx348_1 := (HB.out.cell (World.block_lt_of_cell? w _ hx348_1)).trans hx348_1
                                  replace hx348_2 := (HB.out.cell (World.block_lt_of_cell? w _ hx348_2)).trans hx348_2
                                  replace p348 := eq_true p348
                                  replace q348 := eq_true q348
                                  have p349 : 0 ≤ (x13_2 : Int) := of_decide_eq_true (by first | (with_reducible assumption) | assumption)
                                  have q349 : x13_2 < (t342.length : Int) := of_decide_eq_true (by first | (with_reducible assumption) | assumption)
                                  obtain ⟨ad349, e349, hx349_0⟩ := Kd.at_int (Kd.R_reads' HO_10.out).2.2 x13_2 p349 q349
                                  obtain rfl : ad345 = ad349 := (by injection e349)
                                  replace p349 := eq_true p349
                                  replace q349 := eq_true q349
                                  have p350 : 0 ≤ (x13_2 : Int) := of_decide_eq_true (by first | (with_reducible assumption) | assumption)
                                  have q350 : x13_2 < (l1.length : Int) := of_decide_eq_true (by first | (with_reducible assumption) | assumption)
                                  obtain ⟨ad350, e350, hx350_0, hx350_1, hx350_2⟩ := at_T53 HR1.out x13_2 p350 q350
                                  obtain rfl : ad346 = ad350 := (by injection e350)
                                  replace hx350_0 := (HB.out.cell (World.block_lt_of_cell? w _ hx350_0)).trans hx350_0
                                  replace hx350_1 := (HB.out.cell (World.block_lt_of_cell? w _ hx350_1)).trans hx350_1
                                  replace hx350_2 := (HB.out.cell (World.block_lt_of_cell? w _ hx350_2)).trans hx350_2
                                  replace p350 := eq_true p350
                                  replace q350 := eq_true q350
                                  have p351 : 0 ≤ (x13_2 : Int) := of_decide_eq_true (by first | (with_reducible assumption) | assumption)
                                  have q351 : x13_2 < (t342.length : Int) := of_decide_eq_true (by first | (with_reducible assumption) | assumption)
                                  obtain ⟨ad351, e351, hx351_0⟩ := Kd.at_int (Kd.R_reads' HO_10.out).2.2 x13_2 p351 q351
                                  obtain rfl : ad345 = ad351 := (by injection e351)
                                  replace p351 := eq_true p351
                                  replace q351 := eq_true q351
                                  have p352 : 0 ≤ (x13_2 : Int) := of_decide_eq_true (by first | (with_reducible assumption) | assumption)
                                  have q352 : x13_2 < (l1.length : Int) := of_decide_eq_true (by first | (with_reducible assumption) | assumption)
                                  obtain ⟨ad352, e352, hx352_0, hx352_1, hx352_2⟩ := at_T53 HR1.out x13_2 p352 q352
                                  obtain rfl : ad346 = ad352 := (by injection e352)
                                  replace hx352_0 := (HB.out.cell (World.block_lt_of_cell? w _ hx352_0)).trans hx352_0
                                  replace hx352_1 := (HB.out.cell (World.block_lt_of_cell? w _ hx352_1)).trans hx352_1
                                  replace hx352_2 := (HB.out.cell (World.block_lt_of_cell? w _ hx352_2)).trans hx352_2
                                  replace p352 := eq_true p352
                                  replace q352 := eq_true q352
                                  have hnb40 := NB347_336.out
                                  have hnc40 := NB336_347.out
                                  have hcz41_0 : wr.cell? ⟨gb347, 0, none⟩ = some (.int .i64 x348000_2) := (blk_cell BK347.out 0).trans rfl
                                  have hcz41_1 : wr.cell? ⟨gb347, 1, none⟩ = some (.int .i64 0) := (blk_cell BK347.out 1).trans rfl
                                  have hfz41_0 := blk_frozen BK347.out 0
                                  have hfz41_1 := blk_frozen BK347.out 1
                                  go_wp2
                                  repeat (go_quiet (fail); try go_wp2)
                                  go_roundg k2
                                  case measure => have := HJ8.out; have := HK2.out; omega
                                  case rel => exact ⟨(wrap64 (((rd_T53 l1 x13_2).f2) - (rd t342 x13_2))), (wrap64 (x13_2 + 1)), ((rd_T53 l1 x13_2).f0), (by first | rfl | (simp; done) | (simp [*]; done)), (by first | rfl | (simp; done) | (simp [*]; done)), H', ⟨by have := HJ8.out; have := HK2.out; omega⟩, ⟨by (with_reducible repeat (first | apply Kd.R_alloc | apply Kd.R_drewN | apply Kd.R_drew)); exact Kd.R_mono (Kd.R_far (p := ⟨gb347, 0, none⟩) (Kd.R_types HO_10.out BK347.out (by decide)) (fun _ hk => hk.2) (.int .i64 ((rd_T53 l1 x13_2).f0))) (fun _ hk => trivial)⟩, ⟨by (with_reducible repeat (first | refine blk_drewN ?_ _ | refine blk_drew ?_ | refine blk_alloc ?_ _)); refine blk_far ?_ NB336_347.out _; (with_reducible repeat (first | refine blk_drewN ?_ _ | refine blk_drew ?_ | refine blk_alloc ?_ _)); exact BK336.out⟩, ⟨by (with_reducible repeat (first | refine blk_drewN ?_ _ | refine blk_drew ?_ | refine blk_alloc ?_ _)); refine blk_put (cs := #[.int .i64 x348000_2, .int .i64 0]) ?_ 0 _ rfl; (with_reducible repeat (first | refine blk_drewN ?_ _ | refine blk_drew ?_ | refine blk_alloc ?_ _)); exact BK347.out⟩, ⟨by repeat (first | (with_reducible first | exact HB.out | apply below_alloc | apply pw_below_drewN | apply below_drew1 | refine below_set ?_ GE336.out | refine below_set ?_ GE347.out) | exact HB.out)⟩⟩
                                · rw [if_neg c39] at H
                                  have c39b0 : decide (x12_2 < (wrap64 (((rd_T53 l1 x13_2).f2) - (rd t342 x13_2)))) = false := decide_eq_false c39
                                  clear c39
                                  have H' := Aside0.mk H
                                  clear H
                                  have p348 : 0 ≤ (x13_2 : Int) := of_decide_eq_true (by first | (with_reducible assumption) | assumption)
                                  have q348 : x13_2 < (l1.length : Int) := of_decide_eq_true (by first | (with_reducible assumption) | assumption)
                                  obtain ⟨ad348, e348, hx348_0, hx348_1, hx348_2⟩ := at_T53 HR1.out x13_2 p348 q348
                                  obtain rfl : ad346 = ad348 := (by injection e348)
                                  replace hx348_0 := (HB.out.cell (World.block_lt_of_cell? w _ hx348_0)).trans hx348_0
                                  replace hx348_1 := (HB.out.cell (World.block_lt_of_cell? w _ hx348_1)).trans hx348_1
                                  replace hx348_2 := (HB.out.cell (World.block_lt_of_cell? w _ hx348_2)).trans hx348_2
                                  replace p348 := eq_true p348
                                  replace q348 := eq_true q348
                                  have p349 : 0 ≤ (x13_2 : Int) := of_decide_eq_true (by first | (with_reducible assumption) | assumption)
                                  have q349 : x13_2 < (t342.length : Int) := of_decide_eq_true (by first | (with_reducible assumption) | assumption)
                                  obtain ⟨ad349, e349, hx349_0⟩ := Kd.at_int (Kd.R_reads' HO_10.out).2.2 x13_2 p349 q349
                                  obtain rfl : ad345 = ad349 := (by injection e349)
                                  replace p349 := eq_true p349
                                  replace q349 := eq_true q349
                                  go_wp2
                                  repeat (go_quiet (fail); try go_wp2)
                                  go_roundg k2
                                  case measure => have := HJ8.out; have := HK2.out; omega
                                  case rel => exact ⟨(x12_2), (wrap64 (x13_2 + 1)), (x348000_2), (by first | rfl | (simp; done) | (simp [*]; done)), (by first | rfl | (simp; done) | (simp [*]; done)), H', ⟨by have := HJ8.out; have := HK2.out; omega⟩, ⟨by (with_reducible repeat (first | apply Kd.R_alloc | apply Kd.R_drewN | apply Kd.R_drew)); exact HO_10.out⟩, ⟨by (with_reducible repeat (first | refine blk_drewN ?_ _ | refine blk_drew ?_ | refine blk_alloc ?_ _)); exact BK336.out⟩, ⟨by (with_reducible repeat (first | refine blk_drewN ?_ _ | refine blk_drew ?_ | refine blk_alloc ?_ _)); exact BK347.out⟩, ⟨by repeat (first | (with_reducible first | exact HB.out | apply below_alloc | apply pw_below_drewN | apply below_drew1 | refine below_set ?_ GE336.out | refine below_set ?_ GE347.out) | exact HB.out)⟩⟩
                              · rw [if_neg c38] at H
                                exact absurd H (by simp)
                            · rw [if_neg c37] at H
                              exact absurd H (by simp)
                        · rw [if_neg c35] at H
                          have c35b0 : decide (x13_2 < (l1.length : Int)) = false := decide_eq_false c35
                          clear c35
                          simp only [Option.some.injEq, Prod.mk.injEq] at H
                          obtain ⟨rfl, rfl⟩ := H
                          have hnb42 := NB347_336.out
                          have hnc42 := NB336_347.out
                          have hcz43_0 : wr.cell? ⟨gb347, 0, none⟩ = some (.int .i64 x348000_2) := (blk_cell BK347.out 0).trans rfl
                          have hcz43_1 : wr.cell? ⟨gb347, 1, none⟩ = some (.int .i64 0) := (blk_cell BK347.out 1).trans rfl
                          have hfz43_0 := blk_frozen BK347.out 0
                          have hfz43_1 := blk_frozen BK347.out 1
                          have hcz44_0 : wr.cell? ⟨gb336, 0, none⟩ = some (.int .i64 0) := (blk_cell BK336.out 0).trans rfl
                          have hcz44_1 : wr.cell? ⟨gb336, 1, none⟩ = some (.int .i64 0) := (blk_cell BK336.out 1).trans rfl
                          have hfz44_0 := blk_frozen BK336.out 0
                          have hfz44_1 := blk_frozen BK336.out 1
                          go_wp2
                          repeat (go_quiet (fail); try go_wp2)
                          refine bodyPost_ret (results_cell_row rfl _ _ gb336 49 #[.int .i64 x348000_2, .int .i64 0] (0, 0) _ rfl (by (with_reducible repeat (first | refine blk_drewN ?_ _ | refine blk_drew ?_ | refine blk_alloc ?_ _)); refine blk_put (cs := #[.int .i64 x348000_2, .int .i64 0]) ?_ 1 _ rfl; (with_reducible repeat (first | refine blk_drewN ?_ _ | refine blk_drew ?_ | refine blk_alloc ?_ _)); refine blk_put (cs := #[.int .i64 0, .int .i64 0]) ?_ 0 _ rfl; (with_reducible repeat (first | refine blk_drewN ?_ _ | refine blk_drew ?_ | refine blk_alloc ?_ _)); exact BK336.out) Try.underlying49 rfl (by kernel_rfl)) rfl ?_
                          exact ⟨by first | rfl | (simp [errW_none, errW_some] <;> rfl) | (simp [*, errW_none, errW_some] <;> rfl), by repeat (first | (with_reducible first | exact HB.out | apply below_alloc | apply pw_below_drewN | apply below_drew1 | refine below_set ?_ GE336.out | refine below_set ?_ GE347.out) | exact HB.out)⟩
                · rw [if_neg c21] at H
                  exact absurd H (by simp)
              · rw [if_neg c20] at H
                exact absurd H (by simp)
            · rw [if_neg c19] at H
              exact absurd H (by simp)

end Go.Proofs.Yteieknlkcodkcaa.Q
namespace Go.Proofs.Yteieknlkcodkcaa.Q
open Go.RowKit Go.Proofs.YteieknlkcodkcaaW.PrintWords Go.Proofs.YteieknlkcodkcaaW.PrintLast Go.Proofs.YteieknlkcodkcaaW.PrintMore
attribute [local go_sem] max2_int min2_int max_two min_two max_three min_three max_four min_four   -- for this text's walks alone
set_option linter.unusedVariables false
set_option linter.unusedSimpArgs false

/-! Whom both choose. -/
theorem fairGo_mem (n : Int) (h0 : 0 ≤ n) (h1 : n ≤ 1099511627777) : ∀ (l : List S32) (left : Int), (∀ s ∈ l, okS s) → 0 ≤ left → ∀ x ∈ fairGo n left l, 0 ≤ x ∧ x ≤ 1099511627776
  | [], _, _, _, x, hx => by simp [fairGo] at hx
  | s :: l, left, h, hl, x, hx => by
    have ok := h s (by simp)
    have a := atL_bd ok h0 h1
    have b := moreOf_bd ok h0 h1 hl
    have c := ok.2.2
    rcases List.mem_cons.1 hx with e | e
    · subst e; omega
    · exact fairGo_mem n h0 h1 l _ (fun t ht => h t (by simp [ht])) (by omega) x e
theorem rd_mem (g : List Int) (i : Int) (h0 : 0 ≤ i) (h1 : i < (g.length : Int)) : rd g i ∈ g := by
  have : i.toNat < g.length := by omega
  simp only [rd, List.getD_eq_getElem?_getD, List.getElem?_eq_getElem this, Option.getD_some]
  exact List.getElem_mem this
theorem most_go (but : Int) (g : List Int) (hg : ∀ x ∈ g, 0 ≤ x ∧ x ≤ 1099511627776) : ∀ (suf pre : List S53) (out most : Int), (∀ a ∈ suf, okA a) → (pre ++ suf).length ≤ 1000 → g.length = (pre ++ suf).length → 0 ≤ most →
    Ev (fun k => weirgateref16_Victim.l0 k (pre ++ suf) but g most (pre.length : Int) out 0) (mostOf suf g but (pre.length : Int) out most, 0) := by
  intro suf
  induction suf with
  | nil =>
    intro pre out most _ hl _ _
    refine Ev.step (f := fun _ => some (out, 0)) (fun k => ?_) (Ev.now _)
    simp only [weirgateref16_Victim.l0, List.append_nil]
    rw [if_neg (by omega)]
  | cons a suf IH =>
    intro pre out most hs hl hgl hm
    have ok := (hs a (by simp)).2.2
    have hlen : (pre ++ a :: suf).length = pre.length + suf.length + 1 := by simp; omega
    have hpl : ((pre ++ [a]).length : Int) = (pre.length : Int) + 1 := by simp
    have gb := hg _ (rd_mem g (pre.length : Int) (by omega) (by omega))
    have wv : wrap64 (a.f2 - rd g (pre.length : Int)) = a.f2 - rd g (pre.length : Int) := w64 (by omega) (by omega)
    have ih := fun out most hm => IH (pre ++ [a]) out most (fun t ht => hs t (by simp [ht])) (by simpa using hl) (by simpa using hgl) hm
    simp only [List.append_assoc, List.singleton_append, hpl] at ih
    by_cases c1 : (pre.length : Int) = but
    · have e : mostOf (a :: suf) g but (pre.length : Int) out most = mostOf suf g but ((pre.length : Int) + 1) out most := by
        simp only [mostOf]; rw [if_neg (by omega)]
      rw [e]
      refine Ev.step (fun k => ?_) (ih out most hm)
      simp only [weirgateref16_Victim.l0]
      rw [if_pos (by omega), if_pos c1, w64 (x := (pre.length : Int) + 1) (by omega) (by omega)]
    · by_cases c2 : a.f2 - rd g (pre.length : Int) > most
      · have e : mostOf (a :: suf) g but (pre.length : Int) out most = mostOf suf g but ((pre.length : Int) + 1) a.f0 (a.f2 - rd g (pre.length : Int)) := by
          simp only [mostOf]; rw [wv, if_pos (by omega)]
        rw [e]
        refine Ev.step (fun k => ?_) (ih a.f0 (a.f2 - rd g (pre.length : Int)) (by omega))
        simp only [weirgateref16_Victim.l0]
        rw [if_pos (by omega), if_neg c1, if_pos (by omega), if_pos (by omega), rd53_mid, wv, if_pos c2, w64 (x := (pre.length : Int) + 1) (by omega) (by omega)]
      · have e : mostOf (a :: suf) g but (pre.length : Int) out most = mostOf suf g but ((pre.length : Int) + 1) out most := by
          simp only [mostOf]; rw [wv, if_neg (by omega)]
        rw [e]
        refine Ev.step (fun k => ?_) (ih out most hm)
        simp only [weirgateref16_Victim.l0]
        rw [if_pos (by omega), if_neg c1, if_pos (by omega), if_pos (by omega), rd53_mid, wv, if_neg c2, w64 (x := (pre.length : Int) + 1) (by omega) (by omega)]
theorem shares_eq {pre suf : List S53} {a : S53} {t more : Int} (ea : a.f0 = t) (h1 : ∀ x ∈ pre, x.f0 < t) (h2 : ∀ x ∈ suf, t < x.f0) :
    sharesOf (pre ++ a :: suf) (pre.length : Int) more = (pre ++ a :: suf).map (wantOf t more) := by
  unfold sharesOf
  rw [rd53_mid, Int.toNat_natCast, List.map_append, List.map_cons, List.map_append, List.map_cons]
  rw [List.set_append_right _ _ (by simp), List.length_map, Nat.sub_self, List.set_cons_zero]
  have e1 : pre.map (fun a => (⟨a.f1, a.f2⟩ : S32)) = pre.map (wantOf t more) := List.map_congr_left fun x hx => by
    unfold wantOf; rw [if_neg (by have := h1 x hx; omega)]
  have e2 : suf.map (fun a => (⟨a.f1, a.f2⟩ : S32)) = suf.map (wantOf t more) := List.map_congr_left fun x hx => by
    unfold wantOf; rw [if_neg (by have := h2 x hx; omega)]
  rw [e1, e2]
  unfold wantOf
  rw [if_pos ea]
theorem wants_ok {l : List S53} (h : okAs l) {t more : Int} (h0 : 0 ≤ more) (h1 : more ≤ 1099511627776) : okL (l.map (wantOf t more)) := by
  refine ⟨by rw [List.length_map]; exact h.len, fun s hs => ?_⟩
  obtain ⟨a, ha, rfl⟩ := List.mem_map.1 hs
  have ok := h.okA a ha
  unfold okA at ok
  unfold okS wantOf
  refine ⟨ok.1, ok.2.1, ?_⟩
  by_cases c : a.f0 = t
  · simp only [if_pos c]; rw [w64 (by omega) (by omega)]; omega
  · simp only [if_neg c]; omega
/-- What Victim says, of a tenant that has an account and a number that may be. -/
theorem victim_found {l pre suf : List S53} {a : S53} (h : okAs l) {n t more : Int} (hn0 : 0 ≤ n) (hn1 : n ≤ 1099511627776) (m0 : 0 ≤ more) (m1 : more ≤ 1099511627776) (e : l = pre ++ a :: suf) (ea : a.f0 = t) (h1 : ∀ x ∈ pre, x.f0 < t) (h2 : ∀ x ∈ suf, t < x.f0)
    (hq : Ev (fun k => quota_place.f k l t) ((pre.length : Int), true)) {r : Int} (Lr : LevelIs n (l.map (wantOf t more)) r) (f1 : Ev (fun k => quota_Fair.f k n (l.map (wantOf t more))) (fairGo r (n - allL (l.map (wantOf t more)) r) (l.map (wantOf t more)))) :
    Ev (fun k => quota_Victim.f k n l t more) (if totL l + more ≤ n then (0, 0) else if rd (fairGo r (n - allL (l.map (wantOf t more)) r) (l.map (wantOf t more))) (pre.length : Int) < a.f2 + more then (0, 160) else (mostOf l (fairGo r (n - allL (l.map (wantOf t more)) r) (l.map (wantOf t more))) (pre.length : Int) 0 0 0, 0)) := by
  have hlen := h.len
  have tb := totL_bd h.okA
  have ok := (h.okA a (by rw [e]; simp)).2.2
  have ra : rd_T53 l (pre.length : Int) = a := by rw [e]; exact rd53_mid pre suf a
  unfold quota_Victim.f
  refine Ev.bind hq ?_
  simp only [if_true, if_neg (show ¬ more < 0 by omega), if_neg (show ¬ more > 1099511627776 by omega)]
  refine Ev.bind (total_ev h.okA (by omega)).1 ?_
  rw [w64 (x := totL l + more) (by omega) (by omega)]
  by_cases c : totL l + more ≤ n
  · simp only [if_pos c]; exact Ev.now _
  simp only [if_neg c]
  have es : sharesOf l (pre.length : Int) more = l.map (wantOf t more) := by rw [e]; exact shares_eq ea h1 h2
  rw [es]
  refine Ev.bind f1 ?_
  simp only [fairGo_length, List.length_map, if_true, ra]
  rw [w64 (x := a.f2 + more) (by omega) (by omega)]
  by_cases d : rd (fairGo r (n - allL (l.map (wantOf t more)) r) (l.map (wantOf t more))) (pre.length : Int) < a.f2 + more
  · simp only [if_pos d]; exact Ev.now _
  · simp only [if_neg d]; exact Ev.now _

end Go.Proofs.Yteieknlkcodkcaa.Q
namespace Go.Proofs.Yteieknlkcodkcaa.Q
open Go.RowKit Go.Proofs.YteieknlkcodkcaaW.PrintWords Go.Proofs.YteieknlkcodkcaaW.PrintLast Go.Proofs.YteieknlkcodkcaaW.PrintMore
attribute [local go_sem] max2_int min2_int max_two min_two max_three min_three max_four min_four   -- for this text's walks alone
set_option linter.unusedVariables false
set_option linter.unusedSimpArgs false

/-! With the level, all grow. -/
theorem atL_mono (s : S32) (h : okS s) {x y : Int} (hxy : x ≤ y) : atL s x ≤ atL s y := by
  have := Int.mul_le_mul_of_nonneg_left hxy (show 0 ≤ s.f0 by have := h.1; omega)
  unfold atL
  omega
theorem allL_mono : ∀ {l : List S32}, (∀ s ∈ l, okS s) → ∀ {x y : Int}, x ≤ y → allL l x ≤ allL l y
  | [], _, _, _, _ => Int.le_refl _
  | s :: l, h, x, y, hxy => by
    have a := atL_mono s (h s (by simp)) hxy
    have b := allL_mono (l := l) (fun t ht => h t (by simp [ht])) hxy
    rw [allL_cons, allL_cons]
    omega

end Go.Proofs.Yteieknlkcodkcaa.Q
namespace Go.Proofs.Yteieknlkcodkcaa.Q
open Go.RowKit Go.Proofs.YteieknlkcodkcaaW.PrintWords Go.Proofs.YteieknlkcodkcaaW.PrintLast Go.Proofs.YteieknlkcodkcaaW.PrintMore
attribute [local go_sem] max2_int min2_int max_two min_two max_three min_three max_four min_four   -- for this text's walks alone
set_option linter.unusedVariables false
set_option linter.unusedSimpArgs false

/-! Divisions, and shares with what they are given. -/
theorem ceil_eq {W g : Int} (hW1 : 1 ≤ W) (hW2 : W ≤ 1048576) (h0 : 0 ≤ g) (h1 : g ≤ 1099511627776) :
    wrap64 ((wrap64 (Int.tdiv (wrap64 ((wrap64 (g + W)) - 1)) W)) - 1) = (g + W - 1) / W - 1 ∧ g ≤ W * ((g + W - 1) / W) ∧ 0 ≤ (g + W - 1) / W ∧ (g + W - 1) / W ≤ 1099511627777 := by
  have e := Int.mul_ediv_add_emod (g + W - 1) W
  have m0 := Int.emod_nonneg (g + W - 1) (show W ≠ 0 by omega)
  have m1 := Int.emod_lt_of_pos (g + W - 1) (show 0 < W by omega)
  have d0 : 0 ≤ (g + W - 1) / W := Int.ediv_nonneg (by omega) (by omega)
  have d1 : (g + W - 1) / W ≤ 1099511627777 := by
    by_cases c : (g + W - 1) / W ≤ 1099511627777
    · exact c
    · exfalso
      have := Int.mul_le_mul_of_nonneg_left (show (1099511627778 : Int) ≤ (g + W - 1) / W by omega) (show 0 ≤ W by omega)
      omega
  refine ⟨?_, by omega, d0, d1⟩
  rw [w64 (x := g + W) (by omega) (by omega), w64 (x := g + W - 1) (by omega) (by omega), Int.tdiv_eq_ediv_of_nonneg (by omega), w64 (x := (g + W - 1) / W) (by omega) (by omega), w64 (by omega) (by omega)]
theorem quot_eq {W g : Int} (hW1 : 1 ≤ W) (h0 : 0 ≤ g) (h1 : g ≤ 1099511627776) : wrap64 (Int.tdiv g W) = g / W ∧ 0 ≤ g / W ∧ g / W ≤ 1099511627776 := by
  have d0 : 0 ≤ g / W := Int.ediv_nonneg h0 (by omega)
  have d1 : g / W ≤ g := Int.ediv_le_self W h0
  rw [Int.tdiv_eq_ediv_of_nonneg h0, w64 (by omega) (by omega)]
  omega
/-- Shares with what they are given. -/
abbrev ShPs := List (S32 × Int)
def shF (ps : ShPs) : List S32 := ps.map Prod.fst
def shG (ps : ShPs) : List Int := ps.map Prod.snd
theorem fs_len (ps : ShPs) : (shF ps).length = ps.length := by simp [shF]
theorem gs_len (ps : ShPs) : (shG ps).length = ps.length := by simp [shG]
theorem fs_mid (pre suf : ShPs) (p : S32 × Int) : rd_T32 (shF (pre ++ p :: suf)) (pre.length : Int) = p.1 := by
  have := rd32_mid (shF pre) (shF suf) p.1
  simpa [shF] using this
theorem gs_mid (pre suf : ShPs) (p : S32 × Int) : rd (shG (pre ++ p :: suf)) (pre.length : Int) = p.2 := by
  have := rd_mid (shG pre) (shG suf) p.2
  simpa [shG] using this
def okP (p : S32 × Int) : Prop := okS p.1 ∧ 0 ≤ p.2 ∧ p.2 ≤ p.1.f1

end Go.Proofs.Yteieknlkcodkcaa.Q
namespace Go.Proofs.Yteieknlkcodkcaa.Q
open Go.RowKit Go.Proofs.YteieknlkcodkcaaW.PrintWords Go.Proofs.YteieknlkcodkcaaW.PrintLast Go.Proofs.YteieknlkcodkcaaW.PrintMore
attribute [local go_sem] max2_int min2_int max_two min_two max_three min_three max_four min_four   -- for this text's walks alone
set_option linter.unusedVariables false
set_option linter.unusedSimpArgs false

/-! A division by levels is fair. -/
def shSumG : ShPs → Int
  | [] => 0
  | p :: ps => p.2 + shSumG ps
def shSumW : ShPs → Int
  | [] => 0
  | p :: ps => p.1.f1 + shSumW ps
def shSumT : ShPs → Int
  | [] => 0
  | p :: ps => p.1.f0 + shSumT ps
/-- Sound at a level. -/
def okNear (n : Int) (p : S32 × Int) : Prop := okP p ∧ p.2 ≤ p.1.f0 * (n + 1) ∧ (p.2 < p.1.f1 → p.1.f0 * n ≤ p.2)
theorem sG_bd : ∀ (ps : ShPs), (∀ p ∈ ps, okP p) → 0 ≤ shSumG ps ∧ shSumG ps ≤ (ps.length : Int) * 1099511627776 ∧ 0 ≤ shSumW ps ∧ shSumW ps ≤ (ps.length : Int) * 1099511627776 ∧ (ps.length : Int) ≤ shSumT ps ∧ shSumT ps ≤ (ps.length : Int) * 1048576
  | [], _ => by simp [shSumG, shSumW, shSumT]
  | p :: ps, h => by
    have b := sG_bd ps (fun t ht => h t (by simp [ht]))
    obtain ⟨⟨o1, o2, o3, o4⟩, o5, o6⟩ := h p (by simp)
    have e : ((p :: ps).length : Int) = (ps.length : Int) + 1 := by simp
    rw [e]
    simp only [shSumG, shSumW, shSumT]
    omega
theorem all_le_wants : ∀ (ps : ShPs) (x : Int), allL (shF ps) x ≤ shSumW ps
  | [], _ => Int.le_refl _
  | p :: ps, x => by
    have := all_le_wants ps x
    show allL (p.1 :: shF ps) x ≤ _
    rw [allL_cons]
    simp only [shSumW]
    unfold atL
    omega
theorem all_top : ∀ (ps : ShPs), (∀ p ∈ ps, okP p) → allL (shF ps) 1099511627777 = shSumW ps
  | [], _ => rfl
  | p :: ps, h => by
    have ih := all_top ps (fun t ht => h t (by simp [ht]))
    obtain ⟨⟨o1, o2, o3, o4⟩, o5, o6⟩ := h p (by simp)
    show allL (p.1 :: shF ps) _ = _
    rw [allL_cons, ih]
    simp only [shSumW]
    unfold atL
    omega
theorem all_weights : ∀ (ps : ShPs) (q : Int), allL (shF ps) q ≤ shSumT ps * q
  | [], q => by simp [shF, allL, shSumT]
  | p :: ps, q => by
    have := all_weights ps q
    show allL (p.1 :: shF ps) q ≤ _
    rw [allL_cons]
    simp only [shSumT, Int.add_mul]
    unfold atL
    omega
theorem fair_pairs (n : Int) (h0 : 0 ≤ n) (h1 : n ≤ 1099511627776) : ∀ (l : List S32) (left : Int), (∀ s ∈ l, okS s) → 0 ≤ left → ∀ p ∈ l.zip (fairGo n left l), okNear n p
  | [], _, _, _, p, hp => by simp at hp
  | s :: l, left, h, hl, p, hp => by
    have ok := h s (by simp)
    have a := atL_bd ok h0 (by omega)
    have b := moreOf_bd ok h0 (by omega) hl
    have c := ok.2.2
    simp only [fairGo, List.zip_cons_cons] at hp
    rcases List.mem_cons.1 hp with e | e
    · subst e
      have e1 : atL s n = min (s.f0 * n) s.f1 := rfl
      have e2 : s.f0 * (n + 1) = s.f0 * n + s.f0 := by rw [Int.mul_add, Int.mul_one]
      refine ⟨⟨ok, ?_, ?_⟩, ?_, ?_⟩ <;> simp only <;> omega
    · exact fair_pairs n h0 h1 l _ (fun t ht => h t (by simp [ht])) (by omega) p e
theorem fair_sum (n : Int) (h0 : 0 ≤ n) (h1 : n ≤ 1099511627776) : ∀ (l : List S32) (left : Int), (∀ s ∈ l, okS s) → 0 ≤ left → shSumG (l.zip (fairGo n left l)) = min (allL l n + left) (allL l (n + 1))
  | [], left, _, hl => by simp [shSumG, allL]; omega
  | s :: l, left, h, hl => by
    have ok := h s (by simp)
    have a := atL_bd ok h0 (by omega)
    have b := moreOf_bd ok h0 (by omega) hl
    have ih := fair_sum n h0 h1 l (left - moreOf n left s) (fun t ht => h t (by simp [ht])) (by omega)
    have mo := allL_mono (l := l) (fun t ht => h t (by simp [ht])) (show n ≤ n + 1 by omega)
    have e0 : moreOf n left s = min left (min s.f0 (s.f1 - atL s n)) := rfl
    have e1 : atL s n = min (s.f0 * n) s.f1 := rfl
    have e2 : atL s (n + 1) = min (s.f0 * (n + 1)) s.f1 := rfl
    have e3 : s.f0 * (n + 1) = s.f0 * n + s.f0 := by rw [Int.mul_add, Int.mul_one]
    have ok1 := ok.1
    simp only [fairGo, List.zip_cons_cons, shSumG, allL_cons, ih]
    omega

end Go.Proofs.Yteieknlkcodkcaa.Q
namespace Go.Proofs.Yteieknlkcodkcaa.Q
open Go.RowKit Go.Proofs.YteieknlkcodkcaaW.PrintWords Go.Proofs.YteieknlkcodkcaaW.PrintLast Go.Proofs.YteieknlkcodkcaaW.PrintMore
attribute [local go_sem] max2_int min2_int max_two min_two max_three min_three max_four min_four   -- for this text's walks alone
set_option linter.unusedVariables false
set_option linter.unusedSimpArgs false

/-! The examples of the chapter. -/
theorem sanity_60 : weirgatelaw16_sanity.f 60 = some true := by decide +kernel
theorem sanity_ev : Ev (fun k => weirgatelaw16_sanity.f k) true := Ev.of (weirgatelaw16_sanity.mono) sanity_60
theorem cap_eq (a : Int) : weirgatelaw16_capacity.f a = some (decide (0 ≤ a ∧ a ≤ 1099511627776)) := by
  unfold weirgatelaw16_capacity.f
  by_cases h : a ≥ 0
  · rw [if_pos h]; simp; omega
  · rw [if_neg h]; simp; omega

end Go.Proofs.Yteieknlkcodkcaa.Q
namespace Go.Proofs.Yteieknlkcodkcaa.Q
open Go.RowKit Go.Proofs.YteieknlkcodkcaaW.PrintWords Go.Proofs.YteieknlkcodkcaaW.PrintLast Go.Proofs.YteieknlkcodkcaaW.PrintMore
attribute [local go_sem] max2_int min2_int max_two min_two max_three min_three max_four min_four   -- for this text's walks alone
set_option linter.unusedVariables false
set_option linter.unusedSimpArgs false

/-! Who must give way, and why. -/
theorem accP_before : ∀ (pre suf : List S53) (a : S53) (last : Int), accP last (pre ++ a :: suf) → ∀ x ∈ pre, x.f0 < a.f0
  | [], _, _, _, _, x, hx => by simp at hx
  | b :: pre, suf, a, last, h, x, hx => by
    rcases List.mem_cons.1 hx with e | e
    · subst e
      exact (accP_mem (pre ++ a :: suf) x.f0 h.2.2 a (by simp)).1
    · exact accP_before pre suf a b.f0 h.2.2 x e
/-- Accounts with what they get. -/
abbrev AcPs := List (S53 × Int)
def acF (ps : AcPs) : List S53 := ps.map Prod.fst
def acG (ps : AcPs) : List Int := ps.map Prod.snd
theorem fa_len (ps : AcPs) : (acF ps).length = ps.length := by simp [acF]
theorem ga_len (ps : AcPs) : (acG ps).length = ps.length := by simp [acG]
theorem fa_mid (pre suf : AcPs) (p : S53 × Int) : rd_T53 (acF (pre ++ p :: suf)) (pre.length : Int) = p.1 := by
  have := rd53_mid (acF pre) (acF suf) p.1
  simpa [acF] using this
theorem ga_mid (pre suf : AcPs) (p : S53 × Int) : rd (acG (pre ++ p :: suf)) (pre.length : Int) = p.2 := by
  have := rd_mid (acG pre) (acG suf) p.2
  simpa [acG] using this
def allP (but more : Int) : Int → AcPs → Prop
  | _, [] => True
  | i, p :: ps => (if i = but then p.1.f2 + more ≤ p.2 else p.1.f2 ≤ p.2) ∧ allP but more (i + 1) ps
def qG : AcPs → Int
  | [] => 0
  | p :: ps => p.2 + qG ps
def wtL : List S53 → Int
  | [] => 0
  | a :: l => a.f1 + wtL l
theorem allP_sum (but more : Int) : ∀ (ps : AcPs) (i : Int), allP but more i ps → totL (acF ps) + (if i ≤ but ∧ but < i + (ps.length : Int) then more else 0) ≤ qG ps
  | [], i, _ => by
    show totL [] + (if i ≤ but ∧ but < i + ((0 : Nat) : Int) then more else 0) ≤ 0
    rw [if_neg (by omega)]
    simp [totL]
  | p :: ps, i, h => by
    have ih := allP_sum but more ps (i + 1) h.2
    have e : ((p :: ps).length : Int) = (ps.length : Int) + 1 := by simp
    have h1 := h.1
    show p.1.f2 + totL (acF ps) + _ ≤ p.2 + qG ps
    rw [e]
    by_cases c : i = but
    · rw [if_pos c] at h1
      rw [if_neg (by omega)] at ih
      rw [if_pos (by omega)]
      omega
    · rw [if_neg c] at h1
      by_cases d : i + 1 ≤ but ∧ but < i + 1 + (ps.length : Int)
      · rw [if_pos d] at ih
        rw [if_pos (by omega)]
        omega
      · rw [if_neg d] at ih
        rw [if_neg (by omega)]
        omega
theorem most_spec (all : AcPs) (but more : Int) (hg : ∀ p ∈ all, okA p.1 ∧ 0 ≤ p.2 ∧ p.2 ≤ 1099511627776) (hb : ∀ pre p suf, all = pre ++ p :: suf → (pre.length : Int) = but → p.1.f2 + more ≤ p.2) : ∀ (suf pre : AcPs) (out most : Int), all = pre ++ suf → 0 ≤ most →
    (mostOf (acF suf) (acG all) but (pre.length : Int) out most = out ∧ (most = 0 → allP but more (pre.length : Int) suf)) ∨
    ∃ p1 p p2, all = p1 ++ p :: p2 ∧ mostOf (acF suf) (acG all) but (pre.length : Int) out most = p.1.f0 ∧ (p1.length : Int) ≠ but ∧ p.2 < p.1.f2 := by
  intro suf
  induction suf with
  | nil => intro pre out most _ _; exact .inl ⟨rfl, fun _ => trivial⟩
  | cons p suf IH =>
    intro pre out most e hm
    have hpl : ((pre ++ [p]).length : Int) = (pre.length : Int) + 1 := by simp
    have ra : rd (acG all) (pre.length : Int) = p.2 := by rw [e]; exact ga_mid pre suf p
    obtain ⟨ok, b0, b1⟩ := hg p (by rw [e]; simp)
    have ok2 := ok.2.2
    have wv : wrap64 (p.1.f2 - p.2) = p.1.f2 - p.2 := w64 (by omega) (by omega)
    have ih := fun out most hm => IH (pre ++ [p]) out most (by simpa using e) hm
    simp only [hpl] at ih
    have st : mostOf (acF (p :: suf)) (acG all) but (pre.length : Int) out most = if (pre.length : Int) ≠ but ∧ p.1.f2 > p.2 ∧ p.1.f2 - p.2 > most then mostOf (acF suf) (acG all) but ((pre.length : Int) + 1) p.1.f0 (p.1.f2 - p.2) else mostOf (acF suf) (acG all) but ((pre.length : Int) + 1) out most := by
      show mostOf (p.1 :: acF suf) (acG all) but (pre.length : Int) out most = _
      simp only [mostOf]
      rw [ra, wv]
    rw [st]
    by_cases c : (pre.length : Int) ≠ but ∧ p.1.f2 > p.2 ∧ p.1.f2 - p.2 > most
    · rw [if_pos c]
      rcases ih p.1.f0 (p.1.f2 - p.2) (by omega) with ⟨r, _⟩ | r
      · exact .inr ⟨pre, p, suf, e, r, c.1, c.2.1⟩
      · exact .inr r
    · rw [if_neg c]
      rcases ih out most hm with ⟨r, q⟩ | r
      · refine .inl ⟨r, fun z => ⟨?_, q z⟩⟩
        by_cases d : (pre.length : Int) = but
        · rw [if_pos d]; exact hb pre p suf e d
        · rw [if_neg d]; omega
      · exact .inr r
theorem protects_l1 (n T m0 m1 m2 : Int) (hT : 1 ≤ T) (n0 : 0 ≤ n) (n1 : n ≤ 1099511627776) (p : S53 × Int) (ok : okA p.1) (h1 : p.1.f0 ≠ m0) (h2 : p.2 < p.1.f2) (h3 : p.1.f1 * (n / T) < p.1.f2) : ∀ (mid pre p2 : AcPs), (∀ x ∈ mid, x.1.f0 ≠ p.1.f0) → (pre ++ (mid ++ p :: p2)).length ≤ 60 →
    Ev (fun k => weirgatelaw16_QuotaProtects.l1 k n T p.1.f0 (acG (pre ++ (mid ++ p :: p2))) (acF (pre ++ (mid ++ p :: p2))) ((pre ++ (mid ++ p :: p2)).length : Int) (pre.length : Int) m0 m1 m2) true := by
  intro mid
  induction mid with
  | nil =>
    intro pre p2 _ hl
    simp only [List.nil_append] at hl ⊢
    have hlen : (pre ++ p :: p2).length = pre.length + p2.length + 1 := by simp; omega
    refine Ev.step (f := fun k => (weirgatelaw16_sanity.f k).bind fun t => if t = true then some true else some false) (fun k => ?_) (Ev.bind sanity_ev (by simpa using Ev.now true))
    obtain ⟨qe, q0, q1⟩ := quot_eq hT n0 n1
    have m := mul_bd (W := p.1.f1) (n := n / T) (by have := ok.1; omega) ok.2.1 q0 (by omega)
    simp only [weirgatelaw16_QuotaProtects.l1, fa_len, ga_len]
    rw [if_pos (by omega), if_pos (by omega), if_pos (by omega), fa_mid, ga_mid, if_pos rfl, if_neg h1, if_pos (by omega), if_pos (by omega), if_neg (by omega), qe, w64 (x := p.1.f1 * (n / T)) (by omega) (by omega), decide_eq_true (by omega)]
  | cons a mid IH =>
    intro pre p2 hm hl
    have hlen : (pre ++ (a :: mid ++ p :: p2)).length = pre.length + mid.length + p2.length + 2 := by simp; omega
    have hpl : ((pre ++ [a]).length : Int) = (pre.length : Int) + 1 := by simp
    have ih := IH (pre ++ [a]) p2 (fun x hx => hm x (by simp [hx])) (by simpa using hl)
    simp only [List.append_assoc, List.singleton_append, hpl] at ih
    refine Ev.step (fun k => ?_) ih
    have ra : rd_T53 (acF (pre ++ (a :: mid ++ p :: p2))) (pre.length : Int) = a.1 := fa_mid pre (mid ++ p :: p2) a
    simp only [weirgatelaw16_QuotaProtects.l1, fa_len, ga_len]
    rw [if_pos (by omega), if_pos (by omega), if_pos (by omega), ra, if_neg (hm a (by simp)), w64 (x := (pre.length : Int) + 1) (by omega) (by omega)]
    rfl
theorem wtL_bd : ∀ {l : List S53}, (∀ a ∈ l, okA a) → (l.length : Int) ≤ wtL l ∧ wtL l ≤ (l.length : Int) * 1048576 ∧ ∀ a ∈ l, a.f1 ≤ wtL l
  | [], _ => by simp [wtL]
  | a :: l, h => by
    obtain ⟨b1, b2, b3⟩ := wtL_bd (l := l) (fun t ht => h t (by simp [ht]))
    have c := h a (by simp)
    have c1 := c.1
    have c2 := c.2.1
    have e : ((a :: l).length : Int) = (l.length : Int) + 1 := by simp
    rw [e]
    simp only [wtL]
    refine ⟨by omega, by omega, fun x hx => ?_⟩
    rcases List.mem_cons.1 hx with q | q
    · subst q; omega
    · have := b3 x q; omega
theorem protects_l0 (n more m0 m1 m2 : Int) (l : List S53) (hl : l.length ≤ 60) : ∀ (suf pre : List S53) (acc : Int), l = pre ++ suf → (∀ a ∈ suf, okA a) → 0 ≤ acc → acc ≤ (pre.length : Int) * 1048576 →
    Ev (fun k => weirgatelaw16_QuotaProtects.l0 k n l more (acc + wtL suf) l (l.length : Int) (l.length : Int) m0 m1 m2) true →
    Ev (fun k => weirgatelaw16_QuotaProtects.l0 k n l more acc l (l.length : Int) (pre.length : Int) m0 m1 m2) true := by
  intro suf
  induction suf with
  | nil =>
    intro pre acc e _ _ _ h
    have : l.length = pre.length := by rw [e]; simp
    simpa [wtL, this] using h
  | cons a suf IH =>
    intro pre acc e hs h0 h1 h
    have c := hs a (by simp)
    have c1 := c.1
    have c2 := c.2.1
    have hlen : l.length = pre.length + suf.length + 1 := by rw [e]; simp; omega
    have hpl : ((pre ++ [a]).length : Int) = (pre.length : Int) + 1 := by simp
    have ea : acc + a.f1 + wtL suf = acc + wtL (a :: suf) := by simp only [wtL]; omega
    have ih := IH (pre ++ [a]) (acc + a.f1) (by simpa using e) (fun t ht => hs t (by simp [ht])) (by omega) (by rw [hpl]; omega) (by rw [ea]; exact h)
    rw [hpl] at ih
    have ra : rd_T53 l (pre.length : Int) = a := by rw [e]; exact rd53_mid pre suf a
    refine Ev.step (fun k => ?_) ih
    simp only [weirgatelaw16_QuotaProtects.l0]
    rw [if_pos (by omega), if_pos (by omega), if_pos (by omega), ra, w64 (x := acc + a.f1) (by omega) (by omega), w64 (x := (pre.length : Int) + 1) (by omega) (by omega)]
/-- What an account wants, with what it gets. -/
def acV (t more : Int) (p : S53 × Int) : S32 × Int := (wantOf t more p.1, p.2)
theorem sG_cv (t more : Int) : ∀ (ps : AcPs), shSumG (ps.map (acV t more)) = qG ps
  | [] => rfl
  | p :: ps => by
    show p.2 + shSumG (ps.map (acV t more)) = p.2 + qG ps
    rw [sG_cv t more ps]
theorem sT_cv (t more : Int) : ∀ (ps : AcPs), shSumT (ps.map (acV t more)) = wtL (acF ps)
  | [] => rfl
  | p :: ps => by
    show p.1.f1 + shSumT (ps.map (acV t more)) = p.1.f1 + wtL (acF ps)
    rw [sT_cv t more ps]
theorem zip_cv (t more : Int) : ∀ (l : List S53) (g : List Int), (l.map (wantOf t more)).zip g = (l.zip g).map (acV t more)
  | [], _ => rfl
  | _ :: _, [] => rfl
  | a :: l, x :: g => by
    simp only [List.map_cons, List.zip_cons_cons]
    rw [zip_cv t more l g]
    rfl

end Go.Proofs.Yteieknlkcodkcaa.Q
namespace Go.Proofs.Yteieknlkcodkcaa.Q
open Go.RowKit Go.Proofs.YteieknlkcodkcaaW.PrintWords Go.Proofs.YteieknlkcodkcaaW.PrintLast Go.Proofs.YteieknlkcodkcaaW.PrintMore
attribute [local go_sem] max2_int min2_int max_two min_two max_three min_three max_four min_four   -- for this text's walks alone
set_option linter.unusedVariables false
set_option linter.unusedSimpArgs false

/-! The law QuotaProtects. -/
theorem split_list (g : List Int) (m : Nat) (h : m < g.length) : ∃ g1 x g2, g = g1 ++ x :: g2 ∧ g1.length = m :=
  ⟨g.take m, g[m], g.drop (m + 1), by rw [← List.drop_eq_getElem_cons h, List.take_append_drop], by rw [List.length_take]; omega⟩
theorem rd53_pre (pre rest : List S53) (j : Int) (h0 : 0 ≤ j) (h1 : j < (pre.length : Int)) : rd_T53 (pre ++ rest) j ∈ pre := by
  have : j.toNat < pre.length := by omega
  have e : rd_T53 (pre ++ rest) j = pre[j.toNat] := by
    simp [rd_T53, List.getD_eq_getElem?_getD, List.getElem?_append_left this, List.getElem?_eq_getElem this]
  rw [e]
  exact List.getElem_mem this
theorem protects_ok {n more : Int} {l : List S53} (h : okAs l) (hn0 : 0 ≤ n) (hn1 : n ≤ 1099511627776) (m0 : 0 ≤ more) (m1 : more ≤ 1099511627776) (me : S53) (hme : me ∈ l) :
    Ev (fun k => weirgatelaw16_QuotaProtects.l0 k n l more 0 l (l.length : Int) 0 me.f0 me.f1 me.f2) true := by
  have hlen := h.len
  have hm0 := accP_mem l 0 h.acc me hme
  have htop := h.top me hme
  rcases place_ev (by omega) h.acc h.top (t := me.f0) (by omega) htop with ⟨pre, a, suf, e, ea, h1, h2, hq, _⟩ | ⟨i, _, _, hx, _⟩
  rotate_left
  · exact absurd rfl (hx me hme)
  obtain rfl : a = me := by
    rw [e] at hme
    rcases List.mem_append.1 hme with q | q
    · have := h1 me q; omega
    · rcases List.mem_cons.1 q with q | q
      · exact q.symm
      · have := h2 me q; omega
  have okw := wants_ok h (t := a.f0) (more := more) m0 m1
  obtain ⟨r, Lr, _, _, f1, _⟩ := fair_ev okw hn0 hn1
  have vic := victim_found h hn0 hn1 m0 m1 e ea h1 h2 hq Lr f1
  have fl := fairGo_length r (l.map (wantOf a.f0 more)) (n - allL (l.map (wantOf a.f0 more)) r)
  have hfit := Lr.fits
  have ok := fair_pairs r Lr.lo Lr.hi (l.map (wantOf a.f0 more)) (n - allL (l.map (wantOf a.f0 more)) r) okw.2 (by omega)
  have sum := fair_sum r Lr.lo Lr.hi (l.map (wantOf a.f0 more)) (n - allL (l.map (wantOf a.f0 more)) r) okw.2 (by omega)
  generalize hg : fairGo r (n - allL (l.map (wantOf a.f0 more)) r) (l.map (wantOf a.f0 more)) = g at *
  rw [List.length_map] at fl
  have wts := wtL_bd h.okA
  have wt := all_weights ((l.map (wantOf a.f0 more)).zip g) (n / wtL l)
  have es : shF ((l.map (wantOf a.f0 more)).zip g) = l.map (wantOf a.f0 more) := List.map_fst_zip (by rw [List.length_map]; omega)
  rw [es] at wt
  rw [zip_cv] at wt ok sum
  rw [sT_cv] at wt
  rw [sG_cv] at sum
  have e1 : acF (l.zip g) = l := List.map_fst_zip (by omega)
  have e2 : acG (l.zip g) = g := List.map_snd_zip (by omega)
  have e3 : (l.zip g).length = l.length := by rw [List.length_zip]; omega
  rw [e1] at wt
  have pos : 0 < l.length := List.length_pos_of_mem hme
  have hT : 1 ≤ wtL l := by omega
  have hqr : n / wtL l ≤ r := by
    have d1 := Int.ediv_le_self (wtL l) hn0
    rcases Lr.most with m | m
    · omega
    · by_cases c : n / wtL l ≤ r
      · exact c
      · exfalso
        have mo := allL_mono okw.2 (show r + 1 ≤ n / wtL l by omega)
        have dm := Int.mul_ediv_self_le (x := n) (k := wtL l) (by omega)
        omega
  have q0 : 0 ≤ n / wtL l := Int.ediv_nonneg hn0 (by omega)
  have dm := Int.mul_ediv_self_le (x := n) (k := wtL l) (by omega)
  obtain ⟨qe, _, q1⟩ := quot_eq hT hn0 hn1
  obtain ⟨g1, gm, g2, eg, hg1⟩ := split_list g pre.length (by rw [fl, e]; simp)
  have eq : l.zip g = pre.zip g1 ++ (a, gm) :: suf.zip g2 := by
    rw [e, eg, List.zip_append hg1.symm, List.zip_cons_cons]
  have hz : (pre.zip g1).length = pre.length := by rw [List.length_zip]; omega
  have rgm : rd g (pre.length : Int) = gm := by rw [eg, ← hg1]; exact rd_mid g1 g2 gm
  have okN : ∀ p ∈ l.zip g, okNear r (acV a.f0 more p) := fun p hp => ok _ (List.mem_map_of_mem hp)
  have oka := okN (a, gm) (by rw [eq]; simp)
  have ga := (h.okA a hme)
  have ga1 := ga.1
  have ga2 := ga.2.1
  have ga3 := ga.2.2
  have wa : (acV a.f0 more (a, gm)).1 = ⟨a.f1, min 1099511627776 (a.f2 + more)⟩ := by
    show wantOf a.f0 more a = _
    unfold wantOf
    rw [if_pos rfl, w64 (by omega) (by omega)]
  have tb := totL_bd h.okA
  have start := protects_l0 n more a.f0 a.f1 a.f2 l hlen l [] 0 rfl h.okA (by omega) (by simp)
  refine start ?_
  rw [Int.zero_add]
  have T0 : ¬ wtL l = 0 := by omega
  refine Ev.step (fun k => by simp only [weirgatelaw16_QuotaProtects.l0]; rw [if_neg (by omega)]) (Ev.bind vic ?_)
  rw [rgm]
  by_cases c : totL l + more ≤ n
  · rw [if_pos c]
    refine Ev.congr (f := fun k => (weirgatelaw16_sanity.f k).bind fun t373 => if t373 = true then ((quota_Total.f k l).bind fun t374 => some (decide ((wrap64 (t374 + more)) ≤ n))) else some false) (fun k => by (try dsimp only); rw [if_neg T0, if_pos rfl, if_pos rfl]) (Ev.bind sanity_ev ?_)
    simp only [if_true]
    refine Ev.bind (total_ev h.okA (by omega)).1 ?_
    rw [w64 (x := totL l + more) (by omega) (by omega), decide_eq_true c]
    exact Ev.now _
  · rw [if_neg c]
    by_cases d : gm < a.f2 + more
    · rw [if_pos d]
      have key : a.f2 + more > a.f1 * (n / wtL l) := by
        by_cases z : a.f2 + more > a.f1 * (n / wtL l)
        · exact z
        · exfalso
          have z1 := Int.mul_le_mul_of_nonneg_right (wts.2.2 a hme) q0
          have z2 := Int.mul_le_mul_of_nonneg_left hqr (show 0 ≤ a.f1 by omega)
          have z3 := oka.2.2
          rw [wa] at z3
          simp only [acV] at z3
          have := z3 (by omega)
          omega
      have mq := mul_bd (W := a.f1) (n := n / wtL l) (by omega) ga2 q0 (by omega)
      refine Ev.congr (f := fun k => (weirgatelaw16_sanity.f k).bind fun t => if t = true then some true else some false) (fun k => ?_) (Ev.bind sanity_ev (by simpa using Ev.now true))
      try dsimp only
      rw [if_neg T0, if_neg (by decide), if_pos rfl, qe, w64 (x := a.f2 + more) (by omega) (by omega), w64 (x := a.f1 * (n / wtL l)) (by omega) (by omega), if_pos key]
      rfl
    · rw [if_neg d]
      have ms := most_spec (l.zip g) (pre.length : Int) more (fun p hp => by
        have o := okN p hp
        have m1 : p.1 ∈ l := by rw [← e1]; exact List.mem_map_of_mem hp
        have o1 := o.1
        exact ⟨h.okA _ m1, o1.2.1, by have z1 := o1.1.2.2; have z2 : p.2 ≤ (acV a.f0 more p).1.f1 := o1.2.2; omega⟩) (fun pre' p suf' e' hl' => by
          rw [eq] at e'
          obtain ⟨_, b⟩ := List.append_inj e' (by omega)
          injection b with b1 _
          rw [← b1]
          show a.f2 + more ≤ gm
          omega) (l.zip g) [] 0 0 rfl (by omega)
      rw [e1, e2] at ms
      rcases ms with ⟨_, al⟩ | ⟨p1, p, p2, ep, em, hne, hlt⟩
      · exfalso
        have s := allP_sum (pre.length : Int) more (l.zip g) 0 (by simpa using al rfl)
        rw [e1, e3, if_pos ⟨by omega, by rw [e]; simp; omega⟩] at s
        omega
      · have mp : p.1 ∈ l := by rw [← e1, ep]; simp [acF]
        have okp := h.okA p.1 mp
        have okp1 := okp.1
        have el : l = acF p1 ++ p.1 :: acF p2 := by rw [← e1, ep]; simp [acF]
        have bef := accP_before (acF p1) (acF p2) p.1 0 (el ▸ h.acc)
        have hp1 : (acF p1).length = p1.length := fa_len p1
        have dist : p.1.f0 ≠ a.f0 := fun z => by
          rcases Int.lt_or_gt_of_ne hne with y | y
          · have : rd_T53 l (p1.length : Int) ∈ pre := by rw [e]; exact rd53_pre pre (a :: suf) _ (by omega) y
            have r1 : rd_T53 l (p1.length : Int) = p.1 := by rw [el, ← hp1]; exact rd53_mid _ _ _
            rw [r1] at this
            have := h1 _ this
            omega
          · have : rd_T53 l (pre.length : Int) ∈ acF p1 := by rw [el]; exact rd53_pre (acF p1) (p.1 :: acF p2) _ (by omega) (by omega)
            have r1 : rd_T53 l (pre.length : Int) = a := by rw [e]; exact rd53_mid _ _ _
            rw [r1] at this
            have := bef _ this
            omega
        have op := okN p (by rw [ep]; simp)
        have wp : (acV a.f0 more p).1 = ⟨p.1.f1, p.1.f2⟩ := by
          show wantOf a.f0 more p.1 = _
          unfold wantOf
          rw [if_neg dist]
        have z3 := op.2.2
        rw [wp] at z3
        simp only [acV] at z3
        have z4 := z3 hlt
        have z2 := Int.mul_le_mul_of_nonneg_left hqr (show 0 ≤ p.1.f1 by omega)
        have fin := protects_l1 n (wtL l) a.f0 a.f1 a.f2 hT hn0 hn1 p okp dist hlt (by omega) p1 [] p2 (fun x hx => by
          have := bef x.1 (List.mem_map_of_mem hx)
          omega) (by simp only [List.nil_append, ← ep, e3]; exact hlen)
        simp only [List.nil_append, ← ep, e1, e2, e3, List.length_nil] at fin
        have v0 : ¬ p.1.f0 = 0 := by have := (accP_mem l 0 h.acc _ mp).1; omega
        have em' : mostOf l g (pre.length : Int) 0 0 0 = p.1.f0 := em
        rw [em']
        refine Ev.congr (f := fun k => (quota_Fair.f k n (l.map (wantOf a.f0 more))).bind fun t378 => weirgatelaw16_QuotaProtects.l1 k n (wtL l) p.1.f0 t378 l (l.length : Int) 0 a.f0 a.f1 a.f2) (fun k => ?_) (Ev.bind f1 fin)
        try dsimp only
        rw [if_neg T0, if_pos rfl, if_neg v0]
        unfold weirgateref16_Wants.f
        rw [if_pos (by omega)]
        rfl
theorem QuotaProtects_ev (a0 : Int) (w0 : (Lit.int .i64 a0).wf = true) (l1 : List S53) (w1 : ∀ s ∈ l1, wf53 s) (a2 : Int) (w2 : (Lit.int .u8 a2).wf = true) (a3 : Int) (w3 : (Lit.int .i64 a3).wf = true) : Ev (fun k => weirgatelaw16_QuotaProtects.f k a0 l1 a2 a3) true := by
  have J : Ev (fun k => weirgatelaw16_QuotaProtects.j0 k a0 l1 a2 a3 true) true :=
    Ev.step (f := fun k => (weirgatelaw16_sanity.f k).bind fun t => some t) (fun k => by simp only [weirgatelaw16_QuotaProtects.j0]; rw [if_pos trivial]) (Ev.bind sanity_ev (Ev.now true))
  unfold weirgatelaw16_QuotaProtects.f
  by_cases hz : (l1.length : Int) = 0
  · simp only [if_pos hz]; exact J
  simp only [if_neg hz]
  by_cases hl : (l1.length : Int) > 60
  · simp only [if_pos hl]; exact J
  simp only [if_neg hl]
  refine Ev.bind (accounts_ev (show l1.length ≤ 1000 by omega)).2 ?_
  cases hb : accB 0 l1 with
  | false => simp only [Bool.false_eq_true, if_false]; exact J
  | true =>
    have ok := okAs_of (by omega) hb w1
    have b2 := Go.bounds_u8 w2
    simp only [if_true, cap_eq, Option.bind_some]
    by_cases c0 : 0 ≤ a0 ∧ a0 ≤ 1099511627776
    · simp only [decide_eq_true c0, if_true]
      by_cases c1 : 0 ≤ a3 ∧ a3 ≤ 1099511627776
      · simp only [decide_eq_true c1, Bool.not_true]
        have i0 : 0 ≤ Int.tmod (wrap64 a2) (l1.length : Int) := by
          rw [w64 (by omega) (by omega)]; exact Int.tmod_nonneg _ (by omega)
        have i1 : Int.tmod (wrap64 a2) (l1.length : Int) < (l1.length : Int) := Int.tmod_lt_of_pos _ (by omega)
        have mem : rd_T53 l1 (Int.tmod (wrap64 a2) (l1.length : Int)) ∈ l1 := by
          have := rd53_pre l1 [] _ i0 i1
          simpa using this
        refine Ev.step (fun k => ?_) (protects_ok ok c0.1 c0.2 c1.1 c1.2 _ mem)
        simp only [weirgatelaw16_QuotaProtects.j0]
        rw [if_neg (by simp), if_neg hz, if_pos i0, if_pos i1]
      · simp only [decide_eq_false c1, Bool.not_false]; exact J
    · simp only [decide_eq_false c0, Bool.false_eq_true, if_false]; exact J

end Go.Proofs.Yteieknlkcodkcaa.Q
