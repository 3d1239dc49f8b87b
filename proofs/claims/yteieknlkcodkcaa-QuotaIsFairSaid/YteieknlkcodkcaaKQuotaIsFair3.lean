/- Texts of this claim, part 3: the walks of the functions that the law calls, and the plain mathematics of what they answer. -/
import Derived.Test.YteieknlkcodkcaaKQuotaIsFair2
namespace Go.Proofs.Yteieknlkcodkcaa.Q
open Go.RowKit Go.Proofs.YteieknlkcodkcaaW.PrintWords Go.Proofs.YteieknlkcodkcaaW.PrintLast Go.Proofs.YteieknlkcodkcaaW.PrintMore
attribute [local go_sem] max2_int min2_int max_two min_two max_three min_three max_four min_four   -- for this text's walks alone
set_option linter.unusedVariables false
set_option linter.unusedSimpArgs false

/-! ### weirgateref16_Fair: function 17 -/
def weirgateref16_Fair.l0 : Nat → List (S32) → Int → Int → List Int → Int → Option (List Int)
  | 0, _, _, _, _, _ => none
  | k + 1, x1, x5, x6, x7, x8 => if x8 < (x1.length : Int) then (if 0 ≤ x8 then ((weirgateref16_At.f ((rd_T32 x1 x8).f0) ((rd_T32 x1 x8).f1) x5).bind fun t185 => (if x7.length < 17592186044416 then (weirgateref16_Fair.l0 k x1 x5 (wrap64 (x6 - (mn x6 (mn ((rd_T32 x1 x8).f0) (wrap64 (((rd_T32 x1 x8).f1) - t185)))))) (x7 ++ [wrap64 (t185 + (mn x6 (mn ((rd_T32 x1 x8).f0) (wrap64 (((rd_T32 x1 x8).f1) - t185)))))]) (wrap64 (x8 + 1))) else (none))) else (none)) else (some x7)
def weirgateref16_Fair.f (k : Nat) (a0 : Int) (l1 : List (S32)) : Option (List Int) := (weirgateref16_Level.f k a0 l1).bind fun t182 => ((weirgateref16_All.f k l1 t182).bind fun t183 => (weirgateref16_Fair.l0 k l1 t182 (wrap64 (a0 - t183)) ([] : List Int) 0))
theorem weirgateref16_Fair.mono_l : ∀ k, (∀ y0 y1 y2 y3 y4, LeO (weirgateref16_Fair.l0 k y0 y1 y2 y3 y4) (weirgateref16_Fair.l0 (k + 1) y0 y1 y2 y3 y4))
  | 0 => fun _ _ _ _ _ r h => by simp [weirgateref16_Fair.l0] at h
  | k + 1 => by
    have ih0 := weirgateref16_Fair.mono_l k
    · intro y0 y1 y2 y3 y4
      unfold weirgateref16_Fair.l0
      repeat' first
      | (with_reducible exact ih0 _ _ _ _ _)
      | (with_reducible exact weirgateref16_All.mono _ _ _)
      | (with_reducible exact weirgateref16_Level.mono _ _ _)
      | (with_reducible exact LeO.refl _)
      | (with_reducible exact LeO.none _)
      | (with_reducible refine LeO.ite ?_ ?_)
      | (with_reducible refine LeO.bind ?_ (fun _ => ?_))
      | exact ih0 _ _ _ _ _
      | exact weirgateref16_All.mono _ _ _
      | exact weirgateref16_Level.mono _ _ _
      | exact LeO.none _
      | refine LeO.ite ?_ ?_
      | refine LeO.bind ?_ (fun _ => ?_)
theorem weirgateref16_Fair.mono : ∀ a0 a1 k, LeO (weirgateref16_Fair.f k a0 a1) (weirgateref16_Fair.f (k + 1) a0 a1) := by
  intro a0 a1 k
  have ih0 := weirgateref16_Fair.mono_l k
  unfold weirgateref16_Fair.f
  repeat' first
      | (with_reducible exact ih0 _ _ _ _ _)
      | (with_reducible exact weirgateref16_All.mono _ _ _)
      | (with_reducible exact weirgateref16_Level.mono _ _ _)
      | (with_reducible exact LeO.refl _)
      | (with_reducible exact LeO.none _)
      | (with_reducible refine LeO.ite ?_ ?_)
      | (with_reducible refine LeO.bind ?_ (fun _ => ?_))
      | exact ih0 _ _ _ _ _
      | exact weirgateref16_All.mono _ _ _
      | exact weirgateref16_Level.mono _ _ _
      | exact LeO.none _
      | refine LeO.ite ?_ ?_
      | refine LeO.bind ?_ (fun _ => ?_)
set_option maxHeartbeats 8000000 in
set_option maxRecDepth 100000 in
theorem weirgateref16_Fair.calls (k : Nat) (a0 : Int) (A1 : Option Addr) (c1 : Nat) (l1 : List (S32)) (r : List Int) (w : World) (hr1 : Kd.C k32 w A1 l1.length l1) (hc1 : l1.length ≤ c1) (h : weirgateref16_Fair.f k a0 l1 = some r) :
    Calls Try.prog 17 #[.int .i64 a0, .slice A1 l1.length c1] w fun e w' => ∃ v0_ : Value, e = .returned (v0_) ∧ Kd.R (Kd.int .i64) 3 w' w.heap.size (fun _ => True) v0_ r ∧ Below w.heap.size w w' := by
  have hu32 := Try.underlying32
  have HR1 := Aside0.mk hr1
  have HC1 := Aside0.mk hc1
  clear hr1 hc1
  have HB := Aside0.mk (Below.refl w.heap.size w)
  have H : ((weirgateref16_Level.f k a0 l1).bind fun t182 => ((weirgateref16_All.f k l1 t182).bind fun t183 => (weirgateref16_Fair.l0 k l1 t182 (wrap64 (a0 - t183)) ([] : List Int) 0))) = some r := h
  clear h
  replace H := Option.bind_eq_some_iff.mp H
  obtain ⟨t182, A30, H⟩ := H
  replace H : ((weirgateref16_All.f k l1 t182).bind fun t183 => (weirgateref16_Fair.l0 k l1 t182 (wrap64 (a0 - t183)) ([] : List Int) 0)) = some r := H
  have A3 := Aside0.mk A30
  clear A30
  replace H := Option.bind_eq_some_iff.mp H
  obtain ⟨t183, A40, H⟩ := H
  replace H : (weirgateref16_Fair.l0 k l1 t182 (wrap64 (a0 - t183)) ([] : List Int) 0) = some r := H
  have A4 := Aside0.mk A40
  clear A40
  have H' := Aside0.mk H
  clear H
  go_enter Try.func17, Try.ntmps17
  go_wp2_with (first | (go_at_call 14; (with_reducible refine (weirgateref16_Level.calls k a0 _ _ l1 t182 _ ?side1 ?side2 A3.out).mono ?_); (case side1 => repeat (first | exact HR1.out | (with_reducible refine Kd.C_alloc ?_ _) | (with_reducible refine Kd.C_drewN ?_ _) | (with_reducible refine Kd.C_drew ?_))); (case side2 => exact HC1.out); rintro e w5 ⟨rfl, hb⟩; have n0_ := Aside0.mk (below_step (by repeat (first | (with_reducible first | exact HB.out | apply below_alloc | apply pw_below_drewN | apply below_drew1) | exact HB.out)) hb); clear HB; have HB := n0_; clear n0_; (try clear hb); (try clear hb2); (try clear hk); (try clear hi)) | (go_at_call 37; (with_reducible refine (weirgateref16_All.calls k _ _ l1 t182 t183 _ ?side1 ?side2 A4.out).mono ?_); (case side1 => repeat (first | exact (Kd.C_below HR1.out HB.out) | (with_reducible refine Kd.C_alloc ?_ _) | (with_reducible refine Kd.C_drewN ?_ _) | (with_reducible refine Kd.C_drew ?_))); (case side2 => exact HC1.out); rintro e w6 ⟨rfl, hb⟩; have n0_ := Aside0.mk (below_step (by repeat (first | (with_reducible first | exact HB.out | apply below_alloc | apply pw_below_drewN | apply below_drew1) | exact HB.out)) hb); clear HB; have HB := n0_; clear n0_; (try clear hb); (try clear hb2); (try clear hk); (try clear hi)))
  repeat (go_quiet (first | (go_at_call 14; (with_reducible refine (weirgateref16_Level.calls k a0 _ _ l1 t182 _ ?side1 ?side2 A3.out).mono ?_); (case side1 => repeat (first | exact HR1.out | (with_reducible refine Kd.C_alloc ?_ _) | (with_reducible refine Kd.C_drewN ?_ _) | (with_reducible refine Kd.C_drew ?_))); (case side2 => exact HC1.out); rintro e w5 ⟨rfl, hb⟩; have n0_ := Aside0.mk (below_step (by repeat (first | (with_reducible first | exact HB.out | apply below_alloc | apply pw_below_drewN | apply below_drew1) | exact HB.out)) hb); clear HB; have HB := n0_; clear n0_; (try clear hb); (try clear hb2); (try clear hk); (try clear hi)) | (go_at_call 37; (with_reducible refine (weirgateref16_All.calls k _ _ l1 t182 t183 _ ?side1 ?side2 A4.out).mono ?_); (case side1 => repeat (first | exact (Kd.C_below HR1.out HB.out) | (with_reducible refine Kd.C_alloc ?_ _) | (with_reducible refine Kd.C_drewN ?_ _) | (with_reducible refine Kd.C_drew ?_))); (case side2 => exact HC1.out); rintro e w6 ⟨rfl, hb⟩; have n0_ := Aside0.mk (below_step (by repeat (first | (with_reducible first | exact HB.out | apply below_alloc | apply pw_below_drewN | apply below_drew1) | exact HB.out)) hb); clear HB; have HB := n0_; clear n0_; (try clear hb); (try clear hb2); (try clear hk); (try clear hi))); try go_wp2_with (first | (go_at_call 14; (with_reducible refine (weirgateref16_Level.calls k a0 _ _ l1 t182 _ ?side1 ?side2 A3.out).mono ?_); (case side1 => repeat (first | exact HR1.out | (with_reducible refine Kd.C_alloc ?_ _) | (with_reducible refine Kd.C_drewN ?_ _) | (with_reducible refine Kd.C_drew ?_))); (case side2 => exact HC1.out); rintro e w5 ⟨rfl, hb⟩; have n0_ := Aside0.mk (below_step (by repeat (first | (with_reducible first | exact HB.out | apply below_alloc | apply pw_below_drewN | apply below_drew1) | exact HB.out)) hb); clear HB; have HB := n0_; clear n0_; (try clear hb); (try clear hb2); (try clear hk); (try clear hi)) | (go_at_call 37; (with_reducible refine (weirgateref16_All.calls k _ _ l1 t182 t183 _ ?side1 ?side2 A4.out).mono ?_); (case side1 => repeat (first | exact (Kd.C_below HR1.out HB.out) | (with_reducible refine Kd.C_alloc ?_ _) | (with_reducible refine Kd.C_drewN ?_ _) | (with_reducible refine Kd.C_drew ?_))); (case side2 => exact HC1.out); rintro e w6 ⟨rfl, hb⟩; have n0_ := Aside0.mk (below_step (by repeat (first | (with_reducible first | exact HB.out | apply below_alloc | apply pw_below_drewN | apply below_drew1) | exact HB.out)) hb); clear HB; have HB := n0_; clear n0_; (try clear hb); (try clear hb2); (try clear hk); (try clear hi))))
  go_loopg [6, 7, 8] k (fun kq v6 v7 v8 w' => ∃ (x6_1 : Int) (x7_1 : List Int) (x8_1 : Int), v6 = .int .i64 x6_1 ∧ v8 = .int .i64 x8_1 ∧ Aside0 (weirgateref16_Fair.l0 kq l1 t182 x6_1 x7_1 x8_1 = some r) ∧ Aside0 (kq ≤ k) ∧ Aside0 (Kd.R (Kd.int .i64) 3 w' w.heap.size (fun _ => True) v7 x7_1) ∧ Aside0 (Below w.heap.size w w'))
  case atStart => exact ⟨(wrap64 (a0 - t183)), (([] : List Int)), (0), (by first | rfl | (simp; done) | (simp [*]; done)), (by first | rfl | (simp; done) | (simp [*]; done)), H', ⟨Nat.le_refl _⟩, ⟨by first | exact Kd.R_nil _ _ _ _ _ | exact Kd.N_nil _ _ _ _ _ | exact Kd.V_nil _ _ _ _ _ | exact Kd.Q_nil _ _ _ _ _ | exact Kd.S_nil _ _ _ _ _⟩, ⟨by repeat (first | (with_reducible first | exact HB.out | apply below_alloc | apply pw_below_drewN | apply below_drew1) | exact HB.out)⟩⟩
  case round =>
    clear H'
    try clear c1
    try clear p2
    try clear p6
    obtain ⟨x6_1, x7_1, x8_1, rfl, rfl, HA, HK1, HO_7, HB⟩ := hrel
    cases gk with
    | zero => exact absurd HA.out (by simp [weirgateref16_Fair.l0])
    | succ k1 =>
      have H := HA.out
      clear HA
      simp only [weirgateref16_Fair.l0] at H
      by_cases c7 : x8_1 < (l1.length : Int)
      · rw [if_pos c7] at H
        have c7b0 : decide (x8_1 < (l1.length : Int)) = true := decide_eq_true c7
        clear c7
        by_cases c8 : 0 ≤ x8_1
        · rw [if_pos c8] at H
          have c8b0 : decide (0 ≤ x8_1) = true := decide_eq_true c8
          clear c8
          replace H := Option.bind_eq_some_iff.mp H
          obtain ⟨t185, A90, H⟩ := H
          replace H : (if x7_1.length < 17592186044416 then (weirgateref16_Fair.l0 k1 l1 t182 (wrap64 (x6_1 - (mn x6_1 (mn ((rd_T32 l1 x8_1).f0) (wrap64 (((rd_T32 l1 x8_1).f1) - t185)))))) (x7_1 ++ [wrap64 (t185 + (mn x6_1 (mn ((rd_T32 l1 x8_1).f0) (wrap64 (((rd_T32 l1 x8_1).f1) - t185)))))]) (wrap64 (x8_1 + 1))) else (none)) = some r := H
          have A9 := Aside0.mk A90
          clear A90
          obtain ⟨ji10, hji10⟩ : ∃ j_ : Int, (mn ((rd_T32 l1 x8_1).f0) (wrap64 (((rd_T32 l1 x8_1).f1) - t185))) = j_ := ⟨_, rfl⟩
          replace H : (if x7_1.length < 17592186044416 then (weirgateref16_Fair.l0 k1 l1 t182 (wrap64 (x6_1 - (mn x6_1 (ji10)))) (x7_1 ++ [wrap64 (t185 + (mn x6_1 (ji10)))]) (wrap64 (x8_1 + 1))) else (none)) = some r := by first | (rw [hji10] at H; exact H) | (simp only [hji10] at H ⊢; exact H)
          (try rw [hji10] at A9)
          have hji10_ : (if (wrap64 (((rd_T32 l1 x8_1).f1) - t185)) < ((rd_T32 l1 x8_1).f0) then (wrap64 (((rd_T32 l1 x8_1).f1) - t185)) else ((rd_T32 l1 x8_1).f0)) = ji10 := hji10
          obtain ⟨ji11, hji11⟩ : ∃ j_ : Int, (mn x6_1 (ji10)) = j_ := ⟨_, rfl⟩
          replace H : (if x7_1.length < 17592186044416 then (weirgateref16_Fair.l0 k1 l1 t182 (wrap64 (x6_1 - (ji11))) (x7_1 ++ [wrap64 (t185 + (ji11))]) (wrap64 (x8_1 + 1))) else (none)) = some r := by first | (rw [hji11] at H; exact H) | (simp only [hji11] at H ⊢; exact H)
          (try rw [hji11] at A9)
          have hji11_ : (if (ji10) < x6_1 then (ji10) else x6_1) = ji11 := hji11
          by_cases c12 : x7_1.length < 17592186044416
          · rw [if_pos c12] at H
            have LMc12 := Aside0.mk c12
            clear c12
            obtain ⟨y188, hy188⟩ : ∃ y_ : List Int, y_ = (x7_1 ++ [wrap64 (t185 + (ji11))]) := ⟨_, rfl⟩
            replace H : (weirgateref16_Fair.l0 k1 l1 t182 (wrap64 (x6_1 - (ji11))) y188 (wrap64 (x8_1 + 1))) = some r := by first | (rw [hy188]; with_reducible exact H) | (have H2_ := (Option.bind_some _ _).symm.trans H; rw [hy188]; with_reducible exact H2_) | (have H2_ := (Option.bind_some _ _).symm.trans H; with_reducible exact H2_) | with_reducible exact H | (rw [hy188]; exact H) | exact H
            have Ny188 := Aside0.mk hy188
            clear hy188
            have H' := Aside0.mk H
            clear H
            have p184 : 0 ≤ (x8_1 : Int) := of_decide_eq_true (by first | (with_reducible assumption) | assumption)
            have q184 : x8_1 < (l1.length : Int) := of_decide_eq_true (by first | (with_reducible assumption) | assumption)
            obtain ⟨ad184, e184, hx184_0, hx184_1⟩ := at_T32 HR1.out x8_1 p184 q184
            cases e184
            replace hx184_0 := (HB.out.cell (World.block_lt_of_cell? w _ hx184_0)).trans hx184_0
            replace hx184_1 := (HB.out.cell (World.block_lt_of_cell? w _ hx184_1)).trans hx184_1
            replace p184 := eq_true p184
            replace q184 := eq_true q184
            go_wp2_with (first | (go_at_call 38; (with_reducible refine (weirgateref16_At.calls ((rd_T32 l1 x8_1).f0) ((rd_T32 l1 x8_1).f1) t182 t185 _ A9.out).mono ?_); rintro e w13 ⟨rfl, hb⟩; have n0_ := Aside0.mk (Kd.R_below (by (with_reducible repeat (first | apply Kd.R_alloc | apply Kd.R_drewN | apply Kd.R_drew)); exact HO_7.out) hb); have n1_ := Aside0.mk (below_step (by repeat (first | (with_reducible first | exact HB.out | apply below_alloc | apply pw_below_drewN | apply below_drew1) | exact HB.out)) hb); clear HO_7; clear HB; have HO_7 := n0_; have HB := n1_; clear n0_ n1_; (try clear hb); (try clear hb2); (try clear hk); (try clear hi); have p186 : 0 ≤ (x8_1 : Int) := of_decide_eq_true (by first | (with_reducible assumption) | assumption); have q186 : x8_1 < (l1.length : Int) := of_decide_eq_true (by first | (with_reducible assumption) | assumption); obtain ⟨ad186, e186, hx186_0, hx186_1⟩ := at_T32 HR1.out x8_1 p186 q186; obtain rfl : ad184 = ad186 := (by injection e186); replace hx186_0 := (HB.out.cell (World.block_lt_of_cell? w _ hx186_0)).trans hx186_0; replace hx186_1 := (HB.out.cell (World.block_lt_of_cell? w _ hx186_1)).trans hx186_1; replace p186 := eq_true p186; replace q186 := eq_true q186; have p187 : 0 ≤ (x8_1 : Int) := of_decide_eq_true (by first | (with_reducible assumption) | assumption); have q187 : x8_1 < (l1.length : Int) := of_decide_eq_true (by first | (with_reducible assumption) | assumption); obtain ⟨ad187, e187, hx187_0, hx187_1⟩ := at_T32 HR1.out x8_1 p187 q187; obtain rfl : ad184 = ad187 := (by injection e187); replace hx187_0 := (HB.out.cell (World.block_lt_of_cell? w _ hx187_0)).trans hx187_0; replace hx187_1 := (HB.out.cell (World.block_lt_of_cell? w _ hx187_1)).trans hx187_1; replace p187 := eq_true p187; replace q187 := eq_true q187) | ((with_reducible refine gate_builtin (b := .append) (xs := #[.tmp 49, .tmp 53]) rfl ?_); at_builtin; refine Kd.R_append (Kd.int .i64) (w0 := w) w.heap.size rfl (.tmp 49) (.tmp 53) 23 3 (.int .i64 0) 8 rfl Try.underlying23 info3 rfl (by decide) (by omega) u7 x7_1 (wrap64 (t185 + (ji11))) [.int .i64 (wrap64 (t185 + (ji11)))] (fun _ => True) (fun _ => False) rfl rfl ?aP (fun _ hk => hk.elim) ?aF ?aO ?aB ?aS ?aL ?_; (case aP => exact rfl); (case aB => exact (by repeat (first | (with_reducible first | exact HB.out | apply below_alloc | apply pw_below_drewN | apply below_drew1) | exact HB.out))); (case aF => exact (fun _ _ => trivial)); (case aO => exact (by (with_reducible repeat (first | apply Kd.R_alloc | apply Kd.R_drewN | apply Kd.R_drew)); exact HO_7.out)); (case aS => exact (below_size (by repeat (first | (with_reducible first | exact HB.out | apply below_alloc | apply pw_below_drewN | apply below_drew1) | exact HB.out)))); (case aL => have := LMc12.out; omega); intro v189 w14 ho hb hg hat; rw [← Ny188.out] at ho; have n0_ := Aside0.mk (hb); have n1_ := Aside0.mk (ho); clear HB; clear HO_7; have HB := n0_; have HO190 := n1_; clear n0_ n1_; clear ho hb hg hat))
            repeat (go_quiet (first | (go_at_call 38; (with_reducible refine (weirgateref16_At.calls ((rd_T32 l1 x8_1).f0) ((rd_T32 l1 x8_1).f1) t182 t185 _ A9.out).mono ?_); rintro e w13 ⟨rfl, hb⟩; have n0_ := Aside0.mk (Kd.R_below (by (with_reducible repeat (first | apply Kd.R_alloc | apply Kd.R_drewN | apply Kd.R_drew)); exact HO_7.out) hb); have n1_ := Aside0.mk (below_step (by repeat (first | (with_reducible first | exact HB.out | apply below_alloc | apply pw_below_drewN | apply below_drew1) | exact HB.out)) hb); clear HO_7; clear HB; have HO_7 := n0_; have HB := n1_; clear n0_ n1_; (try clear hb); (try clear hb2); (try clear hk); (try clear hi); have p186 : 0 ≤ (x8_1 : Int) := of_decide_eq_true (by first | (with_reducible assumption) | assumption); have q186 : x8_1 < (l1.length : Int) := of_decide_eq_true (by first | (with_reducible assumption) | assumption); obtain ⟨ad186, e186, hx186_0, hx186_1⟩ := at_T32 HR1.out x8_1 p186 q186; obtain rfl : ad184 = ad186 := (by injection e186); replace hx186_0 := (HB.out.cell (World.block_lt_of_cell? w _ hx186_0)).trans hx186_0; replace hx186_1 := (HB.out.cell (World.block_lt_of_cell? w _ hx186_1)).trans hx186_1; replace p186 := eq_true p186; replace q186 := eq_true q186; have p187 : 0 ≤ (x8_1 : Int) := of_decide_eq_true (by first | (with_reducible assumption) | assumption); have q187 : x8_1 < (l1.length : Int) := of_decide_eq_true (by first | (with_reducible assumption) | assumption); obtain ⟨ad187, e187, hx187_0, hx187_1⟩ := at_T32 HR1.out x8_1 p187 q187; obtain rfl : ad184 = ad187 := (by injection e187); replace hx187_0 := (HB.out.cell (World.block_lt_of_cell? w _ hx187_0)).trans hx187_0; replace hx187_1 := (HB.out.cell (World.block_lt_of_cell? w _ hx187_1)).trans hx187_1; replace p187 := eq_true p187; replace q187 := eq_true q187) | ((with_reducible refine gate_builtin (b := .append) (xs := #[.tmp 49, .tmp 53]) rfl ?_); at_builtin; refine Kd.R_append (Kd.int .i64) (w0 := w) w.heap.size rfl (.tmp 49) (.tmp 53) 23 3 (.int .i64 0) 8 rfl Try.underlying23 info3 rfl (by decide) (by omega) u7 x7_1 (wrap64 (t185 + (ji11))) [.int .i64 (wrap64 (t185 + (ji11)))] (fun _ => True) (fun _ => False) rfl rfl ?aP (fun _ hk => hk.elim) ?aF ?aO ?aB ?aS ?aL ?_; (case aP => exact rfl); (case aB => exact (by repeat (first | (with_reducible first | exact HB.out | apply below_alloc | apply pw_below_drewN | apply below_drew1) | exact HB.out))); (case aF => exact (fun _ _ => trivial)); (case aO => exact (by (with_reducible repeat (first | apply Kd.R_alloc | apply Kd.R_drewN | apply Kd.R_drew)); exact HO_7.out)); (case aS => exact (below_size (by repeat (first | (with_reducible first | exact HB.out | apply below_alloc | apply pw_below_drewN | apply below_drew1) | exact HB.out)))); (case aL => have := LMc12.out; omega); intro v189 w14 ho hb hg hat; rw [← Ny188.out] at ho; have n0_ := Aside0.mk (hb); have n1_ := Aside0.mk (ho); clear HB; clear HO_7; have HB := n0_; have HO190 := n1_; clear n0_ n1_; clear ho hb hg hat)); try go_wp2_with (first | (go_at_call 38; (with_reducible refine (weirgateref16_At.calls ((rd_T32 l1 x8_1).f0) ((rd_T32 l1 x8_1).f1) t182 t185 _ A9.out).mono ?_); rintro e w13 ⟨rfl, hb⟩; have n0_ := Aside0.mk (Kd.R_below (by (with_reducible repeat (first | apply Kd.R_alloc | apply Kd.R_drewN | apply Kd.R_drew)); exact HO_7.out) hb); have n1_ := Aside0.mk (below_step (by repeat (first | (with_reducible first | exact HB.out | apply below_alloc | apply pw_below_drewN | apply below_drew1) | exact HB.out)) hb); clear HO_7; clear HB; have HO_7 := n0_; have HB := n1_; clear n0_ n1_; (try clear hb); (try clear hb2); (try clear hk); (try clear hi); have p186 : 0 ≤ (x8_1 : Int) := of_decide_eq_true (by first | (with_reducible assumption) | assumption); have q186 : x8_1 < (l1.length : Int) := of_decide_eq_true (by first | (with_reducible assumption) | assumption); obtain ⟨ad186, e186, hx186_0, hx186_1⟩ := at_T32 HR1.out x8_1 p186 q186; obtain rfl : ad184 = ad186 := (by injection e186); replace hx186_0 := (HB.out.cell (World.block_lt_of_cell? w _ hx186_0)).trans hx186_0; replace hx186_1 := (HB.out.cell (World.block_lt_of_cell? w _ hx186_1)).trans hx186_1; replace p186 := eq_true p186; replace q186 := eq_true q186; have p187 : 0 ≤ (x8_1 : Int) := of_decide_eq_true (by first | (with_reducible assumption) | assumption); have q187 : x8_1 < (l1.length : Int) := of_decide_eq_true (by first | (with_reducible assumption) | assumption); obtain ⟨ad187, e187, hx187_0, hx187_1⟩ := at_T32 HR1.out x8_1 p187 q187; obtain rfl : ad184 = ad187 := (by injection e187); replace hx187_0 := (HB.out.cell (World.block_lt_of_cell? w _ hx187_0)).trans hx187_0; replace hx187_1 := (HB.out.cell (World.block_lt_of_cell? w _ hx187_1)).trans hx187_1; replace p187 := eq_true p187; replace q187 := eq_true q187) | ((with_reducible refine gate_builtin (b := .append) (xs := #[.tmp 49, .tmp 53]) rfl ?_); at_builtin; refine Kd.R_append (Kd.int .i64) (w0 := w) w.heap.size rfl (.tmp 49) (.tmp 53) 23 3 (.int .i64 0) 8 rfl Try.underlying23 info3 rfl (by decide) (by omega) u7 x7_1 (wrap64 (t185 + (ji11))) [.int .i64 (wrap64 (t185 + (ji11)))] (fun _ => True) (fun _ => False) rfl rfl ?aP (fun _ hk => hk.elim) ?aF ?aO ?aB ?aS ?aL ?_; (case aP => exact rfl); (case aB => exact (by repeat (first | (with_reducible first | exact HB.out | apply below_alloc | apply pw_below_drewN | apply below_drew1) | exact HB.out))); (case aF => exact (fun _ _ => trivial)); (case aO => exact (by (with_reducible repeat (first | apply Kd.R_alloc | apply Kd.R_drewN | apply Kd.R_drew)); exact HO_7.out)); (case aS => exact (below_size (by repeat (first | (with_reducible first | exact HB.out | apply below_alloc | apply pw_below_drewN | apply below_drew1) | exact HB.out)))); (case aL => have := LMc12.out; omega); intro v189 w14 ho hb hg hat; rw [← Ny188.out] at ho; have n0_ := Aside0.mk (hb); have n1_ := Aside0.mk (ho); clear HB; clear HO_7; have HB := n0_; have HO190 := n1_; clear n0_ n1_; clear ho hb hg hat)))
            go_roundg k1
            case measure => have := HK1.out; omega
            case rel => exact ⟨(wrap64 (x6_1 - (ji11))), (y188), (wrap64 (x8_1 + 1)), (by first | rfl | (simp; done) | (simp only [← hji11] <;> (first | rfl | simp)) | (simp [*]; done)), (by first | rfl | (simp; done) | (simp [*]; done)), H', ⟨by have := HK1.out; omega⟩, ⟨by (with_reducible repeat (first | apply Kd.R_alloc | apply Kd.R_drewN | apply Kd.R_drew)); exact HO190.out⟩, ⟨by repeat (first | (with_reducible first | exact HB.out | apply below_alloc | apply pw_below_drewN | apply below_drew1) | exact HB.out)⟩⟩
          · rw [if_neg c12] at H
            exact absurd H (by simp)
        · rw [if_neg c8] at H
          exact absurd H (by simp)
      · rw [if_neg c7] at H
        have c7b0 : decide (x8_1 < (l1.length : Int)) = false := decide_eq_false c7
        clear c7
        obtain rfl := Option.some.inj H
        go_wp2
        repeat (go_quiet (fail); try go_wp2)
        go_ret
        exact ⟨_, by first | rfl | (simp [errW_none, errW_some] <;> rfl) | (simp [*, errW_none, errW_some] <;> rfl), by (with_reducible repeat (first | apply Kd.R_alloc | apply Kd.R_drewN | apply Kd.R_drew)); exact HO_7.out, by repeat (first | (with_reducible first | exact HB.out | apply below_alloc | apply pw_below_drewN | apply below_drew1) | exact HB.out)⟩

end Go.Proofs.Yteieknlkcodkcaa.Q
namespace Go.Proofs.Yteieknlkcodkcaa.Q
open Go.RowKit Go.Proofs.YteieknlkcodkcaaW.PrintWords Go.Proofs.YteieknlkcodkcaaW.PrintLast Go.Proofs.YteieknlkcodkcaaW.PrintMore
attribute [local go_sem] max2_int min2_int max_two min_two max_three min_three max_four min_four   -- for this text's walks alone
set_option linter.unusedVariables false
set_option linter.unusedSimpArgs false

/-! What each gets, and whether a division is fair: the program's and the reference's. -/
def moreOf (n left : Int) (s : S32) : Int := min left (min s.f0 (s.f1 - atL s n))
def fairGo (n : Int) : Int → List S32 → List Int
  | _, [] => []
  | left, s :: l => (atL s n + moreOf n left s) :: fairGo n (left - moreOf n left s) l
theorem fairGo_length (n : Int) (l : List S32) : ∀ left, (fairGo n left l).length = l.length := by
  induction l with
  | nil => intro left; rfl
  | cons s l ih => intro left; simp [fairGo, ih]
theorem moreOf_bd {n left : Int} {s : S32} (h : okS s) (h0 : 0 ≤ n) (h1 : n ≤ 1099511627777) (hl : 0 ≤ left) : 0 ≤ moreOf n left s ∧ moreOf n left s ≤ left ∧ moreOf n left s ≤ s.f0 ∧ moreOf n left s ≤ s.f1 - atL s n := by
  have := atL_bd h h0 h1
  have := h.1
  unfold moreOf
  omega
theorem set_mid (pre : List Int) (x v : Int) (suf : List Int) : (pre ++ x :: suf).set (pre.length : Int).toNat v = pre ++ v :: suf := by
  rw [Int.toNat_natCast, List.set_append_right _ _ (Nat.le_refl _), Nat.sub_self]; rfl
theorem fair_go (n : Int) (h0 : 0 ≤ n) (h1 : n ≤ 1099511627777) : ∀ (suf pre : List S32) (done : List Int) (left : Int), (∀ s ∈ suf, okS s) → (pre ++ suf).length ≤ 60 → done.length = pre.length → 0 ≤ left → left ≤ 1099511627776 →
    Ev (fun k => quota_Fair.l0 k n left (done ++ List.replicate suf.length 0) (pre ++ suf) ((pre ++ suf).length : Int) (pre.length : Int)) (done ++ fairGo n left suf) := by
  intro suf
  induction suf with
  | nil =>
    intro pre done left _ _ _ _ _
    refine Ev.step (f := fun _ => some done) (fun k => ?_) ?_
    · simp only [quota_Fair.l0, List.append_nil]
      rw [if_neg (by omega)]
      simp
    · simp only [fairGo, List.append_nil]
      exact Ev.now _
  | cons s suf IH =>
    intro pre done left hs hl hd hl0 hl1
    have ok := hs s (by simp)
    have a := atL_bd ok h0 h1
    have m := mul_bd (W := s.f0) (n := n) (by have := ok.1; omega) ok.2.1 h0 h1
    have b := moreOf_bd ok h0 h1 hl0
    have am : atL s n = min (s.f0 * n) s.f1 := rfl
    have bm : min (min left s.f0) (s.f1 - atL s n) = moreOf n left s := by unfold moreOf; omega
    have ih := IH (pre ++ [s]) (done ++ [atL s n + moreOf n left s]) (left - moreOf n left s) (fun t ht => hs t (by simp [ht])) (by simpa using hl) (by simp [hd]) (by omega) (by omega)
    simp only [List.append_assoc, List.singleton_append, List.length_append, List.length_cons, List.length_nil, Nat.zero_add] at ih
    have hlen : (pre ++ s :: suf).length = pre.length + suf.length + 1 := by simp; omega
    have hok := ok.2.2
    refine Ev.step (f := fun k => quota_Fair.l0 k n (left - moreOf n left s) (done ++ (atL s n + moreOf n left s) :: List.replicate suf.length 0) (pre ++ s :: suf) ((pre ++ s :: suf).length : Int) ((pre.length : Int) + 1)) (fun k => ?_) ?_
    · simp only [quota_Fair.l0]
      rw [if_pos (by omega), if_pos (by omega), if_pos (by omega), if_pos (by simp; omega), rd32_mid, w64 (x := s.f0 * n) (by omega) (by omega)]
      simp only [mn_min]
      rw [← am, w64 (x := s.f1 - atL s n) (by omega) (by omega), bm, w64 (x := left - moreOf n left s) (by omega) (by omega), w64 (x := atL s n + moreOf n left s) (by omega) (by omega), w64 (x := (pre.length : Int) + 1) (by omega) (by omega)]
      rw [List.length_cons, List.replicate_succ, ← hd, set_mid]
    · simp only [fairGo]
      simpa using ih
theorem Fair_go (n : Int) (h0 : 0 ≤ n) (h1 : n ≤ 1099511627777) : ∀ (suf pre : List S32) (done : List Int) (left : Int), (∀ s ∈ suf, okS s) → (pre ++ suf).length ≤ 60 → done.length = pre.length → 0 ≤ left → left ≤ 1099511627776 →
    Ev (fun k => weirgateref16_Fair.l0 k (pre ++ suf) n left done (pre.length : Int)) (done ++ fairGo n left suf) := by
  intro suf
  induction suf with
  | nil =>
    intro pre done left _ _ _ _ _
    refine Ev.step (f := fun _ => some done) (fun k => ?_) ?_
    · simp only [weirgateref16_Fair.l0, List.append_nil]
      rw [if_neg (by omega)]
    · simp only [fairGo, List.append_nil]
      exact Ev.now _
  | cons s suf IH =>
    intro pre done left hs hl hd hl0 hl1
    have ok := hs s (by simp)
    have a := atL_bd ok h0 h1
    have b := moreOf_bd ok h0 h1 hl0
    have bm : min left (min s.f0 (s.f1 - atL s n)) = moreOf n left s := rfl
    have ih := IH (pre ++ [s]) (done ++ [atL s n + moreOf n left s]) (left - moreOf n left s) (fun t ht => hs t (by simp [ht])) (by simpa using hl) (by simp [hd]) (by omega) (by omega)
    simp only [List.append_assoc, List.singleton_append, List.length_append, List.length_cons, List.length_nil, Nat.zero_add] at ih
    have hlen : (pre ++ s :: suf).length = pre.length + suf.length + 1 := by simp; omega
    have hok := ok.2.2
    refine Ev.step (f := fun k => weirgateref16_Fair.l0 k (pre ++ s :: suf) n (left - moreOf n left s) (done ++ [atL s n + moreOf n left s]) ((pre.length : Int) + 1)) (fun k => ?_) ?_
    · simp only [weirgateref16_Fair.l0]
      rw [if_pos (by omega), if_pos (by omega), rd32_mid, At_eq ok h0 h1]
      simp only [Option.bind_some, mn_min]
      rw [if_pos (by omega), w64 (x := s.f1 - atL s n) (by omega) (by omega), bm, w64 (x := left - moreOf n left s) (by omega) (by omega), w64 (x := atL s n + moreOf n left s) (by omega) (by omega), w64 (x := (pre.length : Int) + 1) (by omega) (by omega)]
    · simp only [fairGo]
      simpa using ih
/-- What all get, at a capacity. -/
theorem fair_ev {l : List S32} (h : okL l) {cap : Int} (hc : 0 ≤ cap) (hc1 : cap ≤ 1099511627776) : ∃ r, LevelIs cap l r ∧ Ev (fun k => quota_Level.f k cap l) r ∧ Ev (fun k => weirgateref16_Level.f k cap l) r ∧
    Ev (fun k => quota_Fair.f k cap l) (fairGo r (cap - allL l r) l) ∧ Ev (fun k => weirgateref16_Fair.f k cap l) (fairGo r (cap - allL l r) l) := by
  obtain ⟨r, hq, hr, hL⟩ := level_ev h hc
  have hb := allL_bd h.2 hL.lo (by have := hL.hi; omega)
  have hf := hL.fits
  have hlo := hL.lo
  have hhi := hL.hi
  have hlen := h.1
  refine ⟨r, hL, hq, hr, ?_, ?_⟩
  · refine Ev.bind hq (Ev.bind (all_ev h hlo hhi) ?_)
    have := fair_go r hlo (by omega) l [] [] (cap - allL l r) h.2 (by simpa using hlen) rfl (by omega) (by omega)
    refine Ev.congr (fun k => ?_) (by simpa using this)
    rw [if_pos (by omega), if_pos (by omega), w64 (x := cap - allL l r) (by omega) (by omega), Int.toNat_natCast]
  · refine Ev.bind hr (Ev.bind (All_ev h hlo hhi) ?_)
    have := Fair_go r hlo (by omega) l [] [] (cap - allL l r) h.2 (by simpa using hlen) rfl (by omega) (by omega)
    refine Ev.congr (fun k => ?_) (by simpa using this)
    rw [w64 (x := cap - allL l r) (by omega) (by omega)]
/-- What 'Valid' says. -/
theorem bad_iff (s : S32) : badShare s = false ↔ okS s := by
  unfold badShare okS
  simp only [Bool.or_eq_false_iff, decide_eq_false_iff_not]
  omega
theorem RefValid_go : ∀ (suf pre : List S32), (pre ++ suf).length ≤ 60 → Ev (fun k => weirgateref16_Valid.l0 k (pre ++ suf) (pre.length : Int)) (!(suf.any badShare)) := by
  intro suf
  induction suf with
  | nil =>
    intro pre hl
    refine Ev.step (f := fun _ => some true) (fun k => ?_) (by simpa using Ev.now true)
    simp only [weirgateref16_Valid.l0, List.append_nil]
    rw [if_neg (by omega)]
    simp only [List.append_nil] at hl
    rw [decide_eq_true (by omega)]
  | cons s suf IH =>
    intro pre hl
    have ih := IH (pre ++ [s]) (by simpa using hl)
    have hlen : (pre ++ s :: suf).length = pre.length + suf.length + 1 := by simp; omega
    simp only [List.append_assoc, List.singleton_append, List.length_append, List.length_cons, List.length_nil, Nat.zero_add] at ih
    have e : ∀ k, weirgateref16_Valid.l0 (k + 1) (pre ++ s :: suf) (pre.length : Int) = if badShare s = true then some false else weirgateref16_Valid.l0 k (pre ++ s :: suf) ((pre.length : Int) + 1) := fun k => by
      simp only [weirgateref16_Valid.l0]
      rw [if_pos (by omega), if_pos (by omega), rd32_mid, w64 (x := (pre.length : Int) + 1) (by omega) (by omega)]
      unfold badShare
      by_cases c1 : s.f0 < 1
      · simp [c1]
      · by_cases c2 : s.f0 > 1048576
        · simp [c1, c2]
        · by_cases c3 : s.f1 < 0
          · simp [c1, c2, c3]
          · by_cases c4 : s.f1 > 1099511627776 <;> simp [c1, c2, c3, c4]
    cases hb : badShare s with
    | true => exact Ev.step (f := fun _ => some false) (fun k => by rw [e, if_pos hb]) (by simpa [hb] using Ev.now false)
    | false => exact Ev.step (f := fun k => weirgateref16_Valid.l0 k (pre ++ s :: suf) ((pre.length : Int) + 1)) (fun k => by rw [e, if_neg (by simp [hb])]) (by simpa [hb] using ih)
theorem RefValid_ev {l : List S32} (hl : l.length ≤ 60) : Ev (fun k => weirgateref16_Valid.f k l) (!(l.any badShare)) := by
  simpa [weirgateref16_Valid.f] using RefValid_go l [] (by simpa using hl)
theorem Valid_eq {l : List S32} (hl : l.length ≤ 60) : quota_Valid.f l = some (!(l.any badShare)) := by
  unfold quota_Valid.f
  rw [decide_eq_true (by omega), Bool.true_and]
theorem ok_of_valid {l : List S32} (hl : l.length ≤ 60) (h : l.any badShare = false) : okL l :=
  ⟨hl, fun s hs => (bad_iff s).1 (by
    cases hb : badShare s with
    | false => rfl
    | true => exact absurd (List.any_eq_true.2 ⟨s, hs, hb⟩) (by simp [h]))⟩
/-- Lists of numbers compared. -/
theorem Same_go : ∀ (suf pre : List Int) (a : List Int), a = pre ++ suf → a.length ≤ 1000 → Ev (fun k => weirgateref16_Same.l0 k a a (pre.length : Int)) true := by
  intro suf
  induction suf with
  | nil =>
    intro pre a ha hl
    refine Ev.step (f := fun _ => some true) (fun k => ?_) (Ev.now true)
    subst ha
    simp only [weirgateref16_Same.l0, List.append_nil]
    rw [if_neg (by omega)]
  | cons s suf IH =>
    intro pre a ha hl
    have ih := IH (pre ++ [s]) a (by simpa using ha) hl
    have hlen : a.length = pre.length + suf.length + 1 := by rw [ha]; simp; omega
    refine Ev.step (f := fun k => weirgateref16_Same.l0 k a a ((pre.length : Int) + 1)) (fun k => ?_) (by simpa using ih)
    simp only [weirgateref16_Same.l0]
    rw [if_pos (by omega), if_pos (by omega), if_pos (by omega), if_pos trivial, w64 (x := (pre.length : Int) + 1) (by omega) (by omega)]
theorem Same_ev {a : List Int} (hl : a.length ≤ 1000) : Ev (fun k => weirgateref16_Same.f k a a) true := by
  refine Ev.congr (fun k => ?_) (Same_go a [] a rfl hl)
  unfold weirgateref16_Same.f
  rw [if_pos rfl]
  rfl

end Go.Proofs.Yteieknlkcodkcaa.Q
namespace Go.Proofs.Yteieknlkcodkcaa.Q
open Go.RowKit Go.Proofs.YteieknlkcodkcaaW.PrintWords Go.Proofs.YteieknlkcodkcaaW.PrintLast Go.Proofs.YteieknlkcodkcaaW.PrintMore
attribute [local go_sem] max2_int min2_int max_two min_two max_three min_three max_four min_four   -- for this text's walks alone
set_option linter.unusedVariables false
set_option linter.unusedSimpArgs false

/-! With the level, all grow. -/
theorem atL_mono (s : S32) (h : okS s) {x y : Int} (hxy : x ≤ y) : atL s x ≤ atL s y := by
  have := Int.mul_le_mul_of_nonneg_left hxy (show 0 ≤ s.f0 by have := h.1; omega)
  unfold atL
  omega
theorem allL_mono : ∀ {l : List S32}, (∀ s ∈ l, okS s) → ∀ {x y : Int}, x ≤ y → allL l x ≤ allL l y
  | [], _, _, _, _ => Int.le_refl _
  | s :: l, h, x, y, hxy => by
    have a := atL_mono s (h s (by simp)) hxy
    have b := allL_mono (l := l) (fun t ht => h t (by simp [ht])) hxy
    rw [allL_cons, allL_cons]
    omega

end Go.Proofs.Yteieknlkcodkcaa.Q
namespace Go.Proofs.Yteieknlkcodkcaa.Q
open Go.RowKit Go.Proofs.YteieknlkcodkcaaW.PrintWords Go.Proofs.YteieknlkcodkcaaW.PrintLast Go.Proofs.YteieknlkcodkcaaW.PrintMore
attribute [local go_sem] max2_int min2_int max_two min_two max_three min_three max_four min_four   -- for this text's walks alone
set_option linter.unusedVariables false
set_option linter.unusedSimpArgs false

/-! Divisions, and shares with what they are given. -/
theorem ceil_eq {W g : Int} (hW1 : 1 ≤ W) (hW2 : W ≤ 1048576) (h0 : 0 ≤ g) (h1 : g ≤ 1099511627776) :
    wrap64 ((wrap64 (Int.tdiv (wrap64 ((wrap64 (g + W)) - 1)) W)) - 1) = (g + W - 1) / W - 1 ∧ g ≤ W * ((g + W - 1) / W) ∧ 0 ≤ (g + W - 1) / W ∧ (g + W - 1) / W ≤ 1099511627777 := by
  have e := Int.mul_ediv_add_emod (g + W - 1) W
  have m0 := Int.emod_nonneg (g + W - 1) (show W ≠ 0 by omega)
  have m1 := Int.emod_lt_of_pos (g + W - 1) (show 0 < W by omega)
  have d0 : 0 ≤ (g + W - 1) / W := Int.ediv_nonneg (by omega) (by omega)
  have d1 : (g + W - 1) / W ≤ 1099511627777 := by
    by_cases c : (g + W - 1) / W ≤ 1099511627777
    · exact c
    · exfalso
      have := Int.mul_le_mul_of_nonneg_left (show (1099511627778 : Int) ≤ (g + W - 1) / W by omega) (show 0 ≤ W by omega)
      omega
  refine ⟨?_, by omega, d0, d1⟩
  rw [w64 (x := g + W) (by omega) (by omega), w64 (x := g + W - 1) (by omega) (by omega), Int.tdiv_eq_ediv_of_nonneg (by omega), w64 (x := (g + W - 1) / W) (by omega) (by omega), w64 (by omega) (by omega)]
theorem quot_eq {W g : Int} (hW1 : 1 ≤ W) (h0 : 0 ≤ g) (h1 : g ≤ 1099511627776) : wrap64 (Int.tdiv g W) = g / W ∧ 0 ≤ g / W ∧ g / W ≤ 1099511627776 := by
  have d0 : 0 ≤ g / W := Int.ediv_nonneg h0 (by omega)
  have d1 : g / W ≤ g := Int.ediv_le_self W h0
  rw [Int.tdiv_eq_ediv_of_nonneg h0, w64 (by omega) (by omega)]
  omega
/-- Shares with what they are given. -/
abbrev ShPs := List (S32 × Int)
def shF (ps : ShPs) : List S32 := ps.map Prod.fst
def shG (ps : ShPs) : List Int := ps.map Prod.snd
theorem fs_len (ps : ShPs) : (shF ps).length = ps.length := by simp [shF]
theorem gs_len (ps : ShPs) : (shG ps).length = ps.length := by simp [shG]
theorem fs_mid (pre suf : ShPs) (p : S32 × Int) : rd_T32 (shF (pre ++ p :: suf)) (pre.length : Int) = p.1 := by
  have := rd32_mid (shF pre) (shF suf) p.1
  simpa [shF] using this
theorem gs_mid (pre suf : ShPs) (p : S32 × Int) : rd (shG (pre ++ p :: suf)) (pre.length : Int) = p.2 := by
  have := rd_mid (shG pre) (shG suf) p.2
  simpa [shG] using this
def okP (p : S32 × Int) : Prop := okS p.1 ∧ 0 ≤ p.2 ∧ p.2 ≤ p.1.f1

end Go.Proofs.Yteieknlkcodkcaa.Q
namespace Go.Proofs.Yteieknlkcodkcaa.Q
open Go.RowKit Go.Proofs.YteieknlkcodkcaaW.PrintWords Go.Proofs.YteieknlkcodkcaaW.PrintLast Go.Proofs.YteieknlkcodkcaaW.PrintMore
attribute [local go_sem] max2_int min2_int max_two min_two max_three min_three max_four min_four   -- for this text's walks alone
set_option linter.unusedVariables false
set_option linter.unusedSimpArgs false

/-! A division by levels is fair. -/
def shSumG : ShPs → Int
  | [] => 0
  | p :: ps => p.2 + shSumG ps
def shSumW : ShPs → Int
  | [] => 0
  | p :: ps => p.1.f1 + shSumW ps
def shSumT : ShPs → Int
  | [] => 0
  | p :: ps => p.1.f0 + shSumT ps
/-- Sound at a level. -/
def okNear (n : Int) (p : S32 × Int) : Prop := okP p ∧ p.2 ≤ p.1.f0 * (n + 1) ∧ (p.2 < p.1.f1 → p.1.f0 * n ≤ p.2)
theorem sG_bd : ∀ (ps : ShPs), (∀ p ∈ ps, okP p) → 0 ≤ shSumG ps ∧ shSumG ps ≤ (ps.length : Int) * 1099511627776 ∧ 0 ≤ shSumW ps ∧ shSumW ps ≤ (ps.length : Int) * 1099511627776 ∧ (ps.length : Int) ≤ shSumT ps ∧ shSumT ps ≤ (ps.length : Int) * 1048576
  | [], _ => by simp [shSumG, shSumW, shSumT]
  | p :: ps, h => by
    have b := sG_bd ps (fun t ht => h t (by simp [ht]))
    obtain ⟨⟨o1, o2, o3, o4⟩, o5, o6⟩ := h p (by simp)
    have e : ((p :: ps).length : Int) = (ps.length : Int) + 1 := by simp
    rw [e]
    simp only [shSumG, shSumW, shSumT]
    omega
theorem all_le_wants : ∀ (ps : ShPs) (x : Int), allL (shF ps) x ≤ shSumW ps
  | [], _ => Int.le_refl _
  | p :: ps, x => by
    have := all_le_wants ps x
    show allL (p.1 :: shF ps) x ≤ _
    rw [allL_cons]
    simp only [shSumW]
    unfold atL
    omega
theorem all_top : ∀ (ps : ShPs), (∀ p ∈ ps, okP p) → allL (shF ps) 1099511627777 = shSumW ps
  | [], _ => rfl
  | p :: ps, h => by
    have ih := all_top ps (fun t ht => h t (by simp [ht]))
    obtain ⟨⟨o1, o2, o3, o4⟩, o5, o6⟩ := h p (by simp)
    show allL (p.1 :: shF ps) _ = _
    rw [allL_cons, ih]
    simp only [shSumW]
    unfold atL
    omega
theorem all_weights : ∀ (ps : ShPs) (q : Int), allL (shF ps) q ≤ shSumT ps * q
  | [], q => by simp [shF, allL, shSumT]
  | p :: ps, q => by
    have := all_weights ps q
    show allL (p.1 :: shF ps) q ≤ _
    rw [allL_cons]
    simp only [shSumT, Int.add_mul]
    unfold atL
    omega
theorem fair_pairs (n : Int) (h0 : 0 ≤ n) (h1 : n ≤ 1099511627776) : ∀ (l : List S32) (left : Int), (∀ s ∈ l, okS s) → 0 ≤ left → ∀ p ∈ l.zip (fairGo n left l), okNear n p
  | [], _, _, _, p, hp => by simp at hp
  | s :: l, left, h, hl, p, hp => by
    have ok := h s (by simp)
    have a := atL_bd ok h0 (by omega)
    have b := moreOf_bd ok h0 (by omega) hl
    have c := ok.2.2
    simp only [fairGo, List.zip_cons_cons] at hp
    rcases List.mem_cons.1 hp with e | e
    · subst e
      have e1 : atL s n = min (s.f0 * n) s.f1 := rfl
      have e2 : s.f0 * (n + 1) = s.f0 * n + s.f0 := by rw [Int.mul_add, Int.mul_one]
      refine ⟨⟨ok, ?_, ?_⟩, ?_, ?_⟩ <;> simp only <;> omega
    · exact fair_pairs n h0 h1 l _ (fun t ht => h t (by simp [ht])) (by omega) p e
theorem fair_sum (n : Int) (h0 : 0 ≤ n) (h1 : n ≤ 1099511627776) : ∀ (l : List S32) (left : Int), (∀ s ∈ l, okS s) → 0 ≤ left → shSumG (l.zip (fairGo n left l)) = min (allL l n + left) (allL l (n + 1))
  | [], left, _, hl => by simp [shSumG, allL]; omega
  | s :: l, left, h, hl => by
    have ok := h s (by simp)
    have a := atL_bd ok h0 (by omega)
    have b := moreOf_bd ok h0 (by omega) hl
    have ih := fair_sum n h0 h1 l (left - moreOf n left s) (fun t ht => h t (by simp [ht])) (by omega)
    have mo := allL_mono (l := l) (fun t ht => h t (by simp [ht])) (show n ≤ n + 1 by omega)
    have e0 : moreOf n left s = min left (min s.f0 (s.f1 - atL s n)) := rfl
    have e1 : atL s n = min (s.f0 * n) s.f1 := rfl
    have e2 : atL s (n + 1) = min (s.f0 * (n + 1)) s.f1 := rfl
    have e3 : s.f0 * (n + 1) = s.f0 * n + s.f0 := by rw [Int.mul_add, Int.mul_one]
    have ok1 := ok.1
    simp only [fairGo, List.zip_cons_cons, shSumG, allL_cons, ih]
    omega

end Go.Proofs.Yteieknlkcodkcaa.Q
namespace Go.Proofs.Yteieknlkcodkcaa.Q
open Go.RowKit Go.Proofs.YteieknlkcodkcaaW.PrintWords Go.Proofs.YteieknlkcodkcaaW.PrintLast Go.Proofs.YteieknlkcodkcaaW.PrintMore
attribute [local go_sem] max2_int min2_int max_two min_two max_three min_three max_four min_four   -- for this text's walks alone
set_option linter.unusedVariables false
set_option linter.unusedSimpArgs false

/-! The examples of the chapter. -/
theorem sanity_60 : weirgatelaw16_sanity.f 60 = some true := by decide +kernel
theorem sanity_ev : Ev (fun k => weirgatelaw16_sanity.f k) true := Ev.of (weirgatelaw16_sanity.mono) sanity_60
theorem cap_eq (a : Int) : weirgatelaw16_capacity.f a = some (decide (0 ≤ a ∧ a ≤ 1099511627776)) := by
  unfold weirgatelaw16_capacity.f
  by_cases h : a ≥ 0
  · rw [if_pos h]; simp; omega
  · rw [if_neg h]; simp; omega

end Go.Proofs.Yteieknlkcodkcaa.Q
namespace Go.Proofs.Yteieknlkcodkcaa.Q
open Go.RowKit Go.Proofs.YteieknlkcodkcaaW.PrintWords Go.Proofs.YteieknlkcodkcaaW.PrintLast Go.Proofs.YteieknlkcodkcaaW.PrintMore
attribute [local go_sem] max2_int min2_int max_two min_two max_three min_three max_four min_four   -- for this text's walks alone
set_option linter.unusedVariables false
set_option linter.unusedSimpArgs false

/-! The law QuotaIsFair. -/
theorem explT_go (cap n : Int) (n0 : 0 ≤ n) (n1 : n ≤ 1099511627776) : ∀ (suf pre : ShPs) (sum wants low high : Int), (∀ p ∈ suf, okNear n p) → (pre ++ suf).length ≤ 60 →
    0 ≤ sum → sum ≤ (pre.length : Int) * 1099511627776 → 0 ≤ wants → wants ≤ (pre.length : Int) * 1099511627776 → 0 ≤ low → low ≤ n → n ≤ high → sum + shSumG suf = min cap (wants + shSumW suf) →
    Ev (fun k => quota_Explains.l0 k cap (shG (pre ++ suf)) sum wants low high (shF (pre ++ suf)) ((pre ++ suf).length : Int) (pre.length : Int)) true := by
  intro suf
  induction suf with
  | nil =>
    intro pre sum wants low high _ hl hs0 hs1 hw0 hw1 hlo0 hlo1 hhi he
    simp only [List.append_nil] at hl ⊢
    simp only [shSumG, shSumW, Int.add_zero] at he
    refine Ev.step (f := fun _ => some true) (fun k => ?_) (Ev.now _)
    simp only [quota_Explains.l0, mn_min]
    rw [if_neg (by omega), if_pos he, decide_eq_true (by omega)]
  | cons p suf IH =>
    intro pre sum wants low high hs hl hs0 hs1 hw0 hw1 hlo0 hlo1 hhi he
    obtain ⟨⟨⟨W1, W2, T0, T1⟩, g0, g1⟩, hb, hc⟩ := hs p (by simp)
    have hlen : (pre ++ p :: suf).length = pre.length + suf.length + 1 := by simp; omega
    obtain ⟨ce, cb, c0, c1⟩ := ceil_eq W1 W2 g0 (by omega : p.2 ≤ 1099511627776)
    obtain ⟨qe, q0, q1⟩ := quot_eq W1 g0 (by omega : p.2 ≤ 1099511627776)
    have hpl : ((pre ++ [p]).length : Int) = (pre.length : Int) + 1 := by simp
    have cn : (p.2 + p.1.f0 - 1) / p.1.f0 ≤ n + 1 := by
      have : (p.2 + p.1.f0 - 1) / p.1.f0 < n + 2 := by
        rw [Int.ediv_lt_iff_lt_mul (by omega)]
        have e2 : p.1.f0 * (n + 1) = p.1.f0 * n + p.1.f0 := by rw [Int.mul_add, Int.mul_one]
        have e3 : (n + 2) * p.1.f0 = p.1.f0 * n + 2 * p.1.f0 := by rw [Int.add_mul, Int.mul_comm n]
        omega
      omega
    have hn : p.2 < p.1.f1 → n ≤ p.2 / p.1.f0 := fun d => by
      rw [Int.le_ediv_iff_mul_le (by omega), Int.mul_comm]; exact hc d
    simp only [shSumG, shSumW] at he
    have hq := IH (pre ++ [p]) (sum + p.2) (wants + p.1.f1) (max low ((p.2 + p.1.f0 - 1) / p.1.f0 - 1)) (if p.2 < p.1.f1 then min high (p.2 / p.1.f0) else high) (fun q hq => hs q (by simp [hq])) (by simpa using hl) (by omega) (by rw [hpl]; omega) (by omega) (by rw [hpl]; omega) (by omega) (by omega) (by split <;> omega) (by omega)
    simp only [List.append_assoc, List.singleton_append, hpl] at hq
    refine Ev.step (f := fun k => quota_Explains.j1 k cap (shG (pre ++ p :: suf)) sum wants low high (pre.length : Int) (shF (pre ++ p :: suf)) ((pre ++ p :: suf).length : Int) (pre.length : Int) false p.1.f0 p.1.f1) (fun k => ?_) (Ev.step (fun k => ?_) hq)
    · simp only [quota_Explains.l0, fs_len, gs_len]
      rw [if_pos (by omega), if_pos (by omega), if_pos (by omega), if_pos (by omega), fs_mid, gs_mid, if_neg (by omega), decide_eq_false (by omega)]
    · simp only [quota_Explains.j1, fs_len, gs_len]
      rw [if_neg (by simp), if_pos (by omega), if_pos (by omega), if_neg (by omega), gs_mid, ce, qe, w64 (x := sum + p.2) (by omega) (by omega), w64 (x := wants + p.1.f1) (by omega) (by omega), w64 (x := (pre.length : Int) + 1) (by omega) (by omega)]
      simp only [mx_max, mn_min]
      by_cases d : p.2 < p.1.f1
      · rw [if_pos d, if_pos d]
      · rw [if_neg d, if_neg d]
theorem isFair_l0 (cap n : Int) : ∀ (suf pre : ShPs) (sum wants weights : Int), (∀ p ∈ suf, okNear n p) → (pre ++ suf).length ≤ 60 →
    0 ≤ sum → sum ≤ (pre.length : Int) * 1099511627776 → 0 ≤ wants → wants ≤ (pre.length : Int) * 1099511627776 → 0 ≤ weights → weights ≤ (pre.length : Int) * 1048576 →
    Ev (fun k => weirgatelaw16_QuotaIsFair.l1 k cap (shF (pre ++ suf)) (shG (pre ++ suf)) (sum + shSumG suf) (wants + shSumW suf) (weights + shSumT suf) (shF (pre ++ suf)) ((pre ++ suf).length : Int) 0) true →
    Ev (fun k => weirgatelaw16_QuotaIsFair.l0 k cap (shF (pre ++ suf)) (shG (pre ++ suf)) sum wants weights (shF (pre ++ suf)) ((pre ++ suf).length : Int) (pre.length : Int)) true := by
  intro suf
  induction suf with
  | nil =>
    intro pre sum wants weights _ hl _ _ _ _ _ _ h
    simp only [List.append_nil, shSumG, shSumW, shSumT, Int.add_zero] at hl h ⊢
    refine Ev.step (fun k => ?_) h
    simp only [weirgatelaw16_QuotaIsFair.l0, fs_len]
    rw [if_neg (by omega)]
  | cons p suf IH =>
    intro pre sum wants weights hs hl hs0 hs1 hw0 hw1 ht0 ht1 h
    obtain ⟨⟨⟨W1, W2, T0, T1⟩, g0, g1⟩, hb, hc⟩ := hs p (by simp)
    have hlen : (pre ++ p :: suf).length = pre.length + suf.length + 1 := by simp; omega
    have hpl : ((pre ++ [p]).length : Int) = (pre.length : Int) + 1 := by simp
    have e1 : sum + p.2 + shSumG suf = sum + shSumG (p :: suf) := by simp only [shSumG]; omega
    have e2 : wants + p.1.f1 + shSumW suf = wants + shSumW (p :: suf) := by simp only [shSumW]; omega
    have e3 : weights + p.1.f0 + shSumT suf = weights + shSumT (p :: suf) := by simp only [shSumT]; omega
    have hq := IH (pre ++ [p]) (sum + p.2) (wants + p.1.f1) (weights + p.1.f0) (fun q hq => hs q (by simp [hq])) (by simpa using hl) (by omega) (by rw [hpl]; omega) (by omega) (by rw [hpl]; omega) (by omega) (by rw [hpl]; omega) (by
      rw [e1, e2, e3]
      simpa using h)
    simp only [List.append_assoc, List.singleton_append, hpl] at hq
    refine Ev.step (fun k => ?_) hq
    simp only [weirgatelaw16_QuotaIsFair.l0, fs_len, gs_len]
    rw [if_pos (by omega), if_pos (by omega), if_pos (by omega), if_pos (by omega), fs_mid, gs_mid, if_neg (by omega), if_neg (by omega), w64 (x := sum + p.2) (by omega) (by omega), w64 (x := wants + p.1.f1) (by omega) (by omega), w64 (x := weights + p.1.f0) (by omega) (by omega), w64 (x := (pre.length : Int) + 1) (by omega) (by omega)]
/-- The comparison with each. -/
theorem isFair_l2 (cap n S Wn T : Int) (n0 : 0 ≤ n) (n1 : n ≤ 1099511627776) (ps : ShPs) (hps : ps.length ≤ 60) (i : Int) (i0 : 0 ≤ i) (i1 : i < (ps.length : Int)) (p : S32 × Int) (hp : okNear n p) (hi : rd (shG ps) i = p.2) : ∀ (suf pre : ShPs), ps = pre ++ suf → (∀ q ∈ suf, okNear n q) →
    Ev (fun k => weirgatelaw16_QuotaIsFair.l1 k cap (shF ps) (shG ps) S Wn T (shF ps) (ps.length : Int) (i + 1)) true →
    Ev (fun k => weirgatelaw16_QuotaIsFair.l2 k cap (shF ps) (shG ps) S Wn T i (shF ps) (ps.length : Int) i (shF ps) (ps.length : Int) (pre.length : Int) p.1.f0 p.1.f1) true := by
  intro suf
  induction suf with
  | nil =>
    intro pre e _ h
    refine Ev.step (fun k => ?_) h
    simp only [weirgatelaw16_QuotaIsFair.l2, fs_len]
    have : ps.length = pre.length := by rw [e]; simp
    rw [if_neg (by omega), w64 (x := i + 1) (by omega) (by omega)]
  | cons q suf IH =>
    intro pre e hs h
    obtain ⟨⟨⟨W1, W2, T0, T1⟩, g0, g1⟩, hb, hc⟩ := hp
    obtain ⟨⟨⟨V1, V2, U0, U1⟩, k0, k1⟩, kb, kc⟩ := hs q (by simp)
    have hlen : ps.length = pre.length + suf.length + 1 := by rw [e]; simp; omega
    have hpl : ((pre ++ [q]).length : Int) = (pre.length : Int) + 1 := by simp
    have ih := IH (pre ++ [q]) (by simpa using e) (fun t ht => hs t (by simp [ht])) h
    rw [hpl] at ih
    have rq : rd (shG ps) (pre.length : Int) = q.2 := by rw [e]; exact gs_mid pre suf q
    have rs : rd_T32 (shF ps) (pre.length : Int) = q.1 := by rw [e]; exact fs_mid pre suf q
    refine Ev.step (fun k => ?_) ih
    simp only [weirgatelaw16_QuotaIsFair.l2, fs_len, gs_len]
    rw [if_pos (by omega), if_pos (by omega), if_pos (by omega), if_pos i0, if_pos i1, hi, w64 (x := (pre.length : Int) + 1) (by omega) (by omega)]
    by_cases d : p.2 < p.1.f1
    · have m1 : 0 ≤ q.2 * p.1.f0 ∧ q.2 * p.1.f0 ≤ 1152921504607895552 := by
        have := mul_bd (W := p.1.f0) (n := q.2) (by omega) W2 k0 (by omega)
        rw [Int.mul_comm]; exact this
      have m2 : 0 ≤ (p.2 + p.1.f0) * q.1.f0 ∧ (p.2 + p.1.f0) * q.1.f0 ≤ 1152922604119523328 := by
        refine ⟨Int.mul_nonneg (by omega) (by omega), ?_⟩
        calc (p.2 + p.1.f0) * q.1.f0 ≤ (p.2 + p.1.f0) * 1048576 := Int.mul_le_mul_of_nonneg_left V2 (by omega)
          _ ≤ 1152922604119523328 := by omega
      have key : q.2 * p.1.f0 ≤ (p.2 + p.1.f0) * q.1.f0 := by
        have a1 : q.2 * p.1.f0 ≤ q.1.f0 * (n + 1) * p.1.f0 := Int.mul_le_mul_of_nonneg_right kb (by omega)
        have a2 : p.1.f0 * (n + 1) ≤ p.2 + p.1.f0 := by
          have e2 : p.1.f0 * (n + 1) = p.1.f0 * n + p.1.f0 := by rw [Int.mul_add, Int.mul_one]
          have := hc d
          omega
        have a3 : p.1.f0 * (n + 1) * q.1.f0 ≤ (p.2 + p.1.f0) * q.1.f0 := Int.mul_le_mul_of_nonneg_right a2 (by omega)
        have a4 : q.1.f0 * (n + 1) * p.1.f0 = p.1.f0 * (n + 1) * q.1.f0 := by rw [Int.mul_comm q.1.f0, Int.mul_comm p.1.f0, Int.mul_assoc, Int.mul_assoc, Int.mul_comm q.1.f0]
        omega
      rw [if_pos d, if_pos (by omega), rq, rs, w64 (x := q.2 * p.1.f0) (by omega) (by omega), w64 (x := p.2 + p.1.f0) (by omega) (by omega), w64 (x := (p.2 + p.1.f0) * q.1.f0) (by omega) (by omega), if_neg (by omega)]
    · rw [if_neg d]
theorem isFair_l1 (cap n S Wn T : Int) (n0 : 0 ≤ n) (n1 : n ≤ 1099511627776) (c0 : 0 ≤ cap) (c1 : cap ≤ 1099511627776) (ps : ShPs) (hps : ps.length ≤ 60) (hT : 0 < ps.length → 1 ≤ T) (hq : ∀ p ∈ ps, p.2 < p.1.f1 → cap / T ≤ n) (hok : ∀ p ∈ ps, okNear n p) (hS : S = min cap Wn) : ∀ (suf pre : ShPs), ps = pre ++ suf →
    Ev (fun k => weirgatelaw16_QuotaIsFair.l1 k cap (shF ps) (shG ps) S Wn T (shF ps) (ps.length : Int) (pre.length : Int)) true := by
  intro suf
  induction suf with
  | nil =>
    intro pre e
    refine Ev.step (fun k => ?_) (Ev.bind (f := fun _ t => if t = true then some (S == mn cap Wn) else some false) sanity_ev ?_)
    · simp only [weirgatelaw16_QuotaIsFair.l1, fs_len]
      have : ps.length = pre.length := by rw [e]; simp
      rw [if_neg (by omega)]
    · simp only [if_true, mn_min, hS]
      simpa using Ev.now true
  | cons p suf IH =>
    intro pre e
    have hlen : ps.length = pre.length + suf.length + 1 := by rw [e]; simp; omega
    have hpl : ((pre ++ [p]).length : Int) = (pre.length : Int) + 1 := by simp
    have ih := IH (pre ++ [p]) (by simpa using e)
    rw [hpl] at ih
    have mp : p ∈ ps := by rw [e]; simp
    have op := hok p mp
    have rq : rd (shG ps) (pre.length : Int) = p.2 := by rw [e]; exact gs_mid pre suf p
    have rs : rd_T32 (shF ps) (pre.length : Int) = p.1 := by rw [e]; exact fs_mid pre suf p
    have l2 := isFair_l2 cap n S Wn T n0 n1 ps hps (pre.length : Int) (by omega) (by omega) p op rq ps [] rfl hok ih
    have J : Ev (fun k => weirgatelaw16_QuotaIsFair.j4 k cap (shF ps) (shG ps) S Wn T (pre.length : Int) (shF ps) (ps.length : Int) (pre.length : Int) false p.1.f0 p.1.f1) true :=
      Ev.step (fun k => by simp only [weirgatelaw16_QuotaIsFair.j4]; rw [if_neg (by simp), fs_len]; rfl) l2
    refine Ev.step (fun k => ?_) J
    simp only [weirgatelaw16_QuotaIsFair.l1, fs_len, gs_len]
    rw [if_pos (by omega), if_pos (by omega), if_pos (by omega), if_pos (by omega), rq, rs]
    by_cases d : p.2 < p.1.f1
    · have t1 := hT (by omega)
      obtain ⟨qe, q0, q1⟩ := quot_eq t1 c0 c1
      have hqn := hq p mp d
      obtain ⟨⟨⟨W1, W2, T0, T1⟩, g0, g1⟩, hb, hc⟩ := op
      have m := mul_bd (W := p.1.f0) (n := cap / T) (by omega) W2 q0 (by omega)
      have mm := Int.mul_le_mul_of_nonneg_left hqn (show 0 ≤ p.1.f0 by omega)
      have := hc d
      rw [if_pos d, if_neg (by omega), qe, w64 (x := p.1.f0 * (cap / T)) (by omega) (by omega), decide_eq_false (by omega)]
    · rw [if_neg d]
theorem isFair_ok {n : Int} {l : List S32} (h : okL l) (hn0 : 0 ≤ n) (hn1 : n ≤ 1099511627776) : Ev (fun k => weirgatelaw16_QuotaIsFair.j0 k n l false) true := by
  obtain ⟨x, Lx, q1, _, f1, _⟩ := fair_ev h hn0 hn1
  have hlen := h.1
  have hfit := Lx.fits
  have fl := fairGo_length x l (n - allL l x)
  have e1 : shF (l.zip (fairGo x (n - allL l x) l)) = l := List.map_fst_zip (by omega)
  have e2 : shG (l.zip (fairGo x (n - allL l x) l)) = fairGo x (n - allL l x) l := List.map_snd_zip (by omega)
  have e3 : (l.zip (fairGo x (n - allL l x) l)).length = l.length := by rw [List.length_zip]; omega
  have ok := fair_pairs x Lx.lo Lx.hi l (n - allL l x) h.2 (by omega)
  have sum := fair_sum x Lx.lo Lx.hi l (n - allL l x) h.2 (by omega)
  have okp := fun p hp => (ok p hp).1
  have aw := all_le_wants (l.zip (fairGo x (n - allL l x) l)) (x + 1)
  have at_ := all_top (l.zip (fairGo x (n - allL l x) l)) okp
  have bd := sG_bd (l.zip (fairGo x (n - allL l x) l)) okp
  have wt := all_weights (l.zip (fairGo x (n - allL l x) l)) (n / shSumT (l.zip (fairGo x (n - allL l x) l)))
  rw [e1] at aw at_ wt
  rw [e3] at bd
  have hsum : shSumG (l.zip (fairGo x (n - allL l x) l)) = min n (shSumW (l.zip (fairGo x (n - allL l x) l))) := by
    rw [sum]
    rcases Lx.most with m | m
    · have ex : x + 1 = 1099511627777 := by omega
      rw [ex, at_]; omega
    · omega
  have hq : 0 < l.length → n / shSumT (l.zip (fairGo x (n - allL l x) l)) ≤ x := fun pos => by
    have d1 := Int.ediv_le_self (shSumT (l.zip (fairGo x (n - allL l x) l))) hn0
    rcases Lx.most with m | m
    · omega
    · by_cases c : n / shSumT (l.zip (fairGo x (n - allL l x) l)) ≤ x
      · exact c
      · exfalso
        have mo := allL_mono h.2 (show x + 1 ≤ n / shSumT (l.zip (fairGo x (n - allL l x) l)) by omega)
        have dm := Int.mul_ediv_self_le (x := n) (k := shSumT (l.zip (fairGo x (n - allL l x) l))) (by omega)
        omega
  generalize hps : l.zip (fairGo x (n - allL l x) l) = ps at *
  have ex := explT_go n x Lx.lo Lx.hi ps [] 0 0 0 1099511627776 ok (by simp; omega) (by omega) (by simp) (by omega) (by simp) (by omega) Lx.lo Lx.hi (by omega)
  have l0 := isFair_l0 n x ps [] 0 0 0 ok (by simp; omega) (by omega) (by simp) (by omega) (by simp) (by omega) (by simp) (by
    simp only [Int.zero_add, List.nil_append]
    exact isFair_l1 n x _ _ _ Lx.lo Lx.hi hn0 hn1 ps (by omega) (by omega) (fun p hp _ => hq (by have := List.length_pos_of_mem hp; omega)) ok hsum ps [] rfl)
  simp only [List.nil_append, List.length_nil, e1, e2, e3] at ex l0
  refine Ev.step (fun k => by simp only [weirgatelaw16_QuotaIsFair.j0]; rw [if_neg (by simp)]) (Ev.bind f1 ?_)
  simp only [fl, if_true]
  refine Ev.bind (g := fun k => quota_Explains.f k n l (fairGo x (n - allL l x) l)) (a := true) ?_ ?_
  · unfold quota_Explains.f
    simp only [fl, if_true]
    exact ex
  · refine Ev.step (fun k => by simp only [weirgatelaw16_QuotaIsFair.j1]; rw [if_neg (by simp)]) ?_
    exact l0
theorem QuotaIsFair_ev (a0 : Int) (w0 : (Lit.int .i64 a0).wf = true) (l1 : List S32) (w1 : ∀ s ∈ l1, wf32 s) : Ev (fun k => weirgatelaw16_QuotaIsFair.f k a0 l1) true := by
  have J : Ev (fun k => weirgatelaw16_QuotaIsFair.j0 k a0 l1 true) true :=
    Ev.step (f := fun k => (weirgatelaw16_sanity.f k).bind fun t => some t) (fun k => by simp only [weirgatelaw16_QuotaIsFair.j0]; rw [if_pos trivial]) (Ev.bind sanity_ev (Ev.now true))
  unfold weirgatelaw16_QuotaIsFair.f
  by_cases hl : (l1.length : Int) > 60
  · simp only [if_pos hl]; exact J
  simp only [if_neg hl]
  refine Ev.bind (RefValid_ev (by omega)) ?_
  cases hv : l1.any badShare with
  | true => simpa using J
  | false =>
    have ok := ok_of_valid (by omega : l1.length ≤ 60) hv
    simp only [Bool.not_false, if_true, cap_eq, Option.bind_some]
    by_cases c0 : 0 ≤ a0 ∧ a0 ≤ 1099511627776
    · simp only [decide_eq_true c0]
      exact isFair_ok ok c0.1 c0.2
    · simp only [decide_eq_false c0]; simpa using J

end Go.Proofs.Yteieknlkcodkcaa.Q
