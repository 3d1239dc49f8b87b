-- Written by wip/tools/drive.py out of the translation (the kit's print.py, with hand-proved functions beside). Not trusted: Lean checks it.
import Derived.Test.YteieknlkcodkcaaQx0
import Derived.Test.YteieknlkcodkcaaQx3
namespace Go.Proofs.Yteieknlkcodkcaa.Q
open Go.RowKit Go.Proofs.YteieknlkcodkcaaW.PrintWords Go.Proofs.YteieknlkcodkcaaW.PrintLast Go.Proofs.YteieknlkcodkcaaW.PrintMore
attribute [local go_sem] max2_int min2_int max_two min_two max_three min_three max_four min_four   -- for this text's walks alone
set_option linter.unusedVariables false
set_option linter.unusedSimpArgs false

def quota_Level.l0 : Nat → Int → List S32 → Int → Int → Option Int
  | 0, _, _, _, _ => none
  | k + 1, a0, l1, x, y => if y - x > 1 then ((quota_all.f k l1 (x + (y - x) / 2)).bind fun t => (if t ≤ a0 then (quota_Level.l0 k a0 l1 (x + (y - x) / 2) y) else (quota_Level.l0 k a0 l1 x (x + (y - x) / 2)))) else (some x)
def quota_Level.f (k : Nat) (a0 : Int) (l1 : List S32) : Option Int := quota_Level.l0 k a0 l1 0 1099511627777
theorem quota_Level.mono_l : ∀ k, (∀ y0 y1 y2 y3, LeO (quota_Level.l0 k y0 y1 y2 y3) (quota_Level.l0 (k + 1) y0 y1 y2 y3))
  | 0 => fun _ _ _ _ r h => by simp [quota_Level.l0] at h
  | k + 1 => by
    have ih0 := quota_Level.mono_l k
    intro y0 y1 y2 y3
    unfold quota_Level.l0
    refine LeO.ite (LeO.bind (quota_all.mono _ _ k) (fun _ => LeO.ite (ih0 _ _ _ _) (ih0 _ _ _ _))) (LeO.refl _)
theorem quota_Level.mono : ∀ a0 a1 k, LeO (quota_Level.f k a0 a1) (quota_Level.f (k + 1) a0 a1) := fun a0 a1 k => quota_Level.mono_l k a0 a1 _ _
theorem kd_below {w w1 : World} {A : Option Addr} {n : Nat} {xs : List S32} (h : Kd.C k32 w A n xs) (hb : Below w.heap.size w w1) : Kd.C k32 w1 A n xs := Kd.C_below h hb
theorem below_chain {w w1 w2 : World} (h : Below w.heap.size w w1) (k : Below w1.heap.size w1 w2) : Below w.heap.size w w2 := below_then h h.size k
set_option maxHeartbeats 2000000 in
theorem quota_Level.closure (k : Nat) (cap n t : Int) (A1 : Option Addr) (c1 : Nat) (l1 : List S32) (B : Nat) (w : World) (hB : B + 1 < w.heap.size)
    (hcl : w.cell? ⟨B + 1, 0, none⟩ = some (.slice A1 l1.length c1)) (hcap : w.cell? ⟨B, 0, none⟩ = some (.int .i64 cap)) (hr1 : Kd.C k32 w A1 l1.length l1) (hc1 : l1.length ≤ c1) (h : quota_all.f k l1 n = some t) :
    Calls Try.prog 35 #[.int .i64 n, .pointer (some ⟨B + 1, 0, none⟩), .pointer (some ⟨B, 0, none⟩)] w fun e w' => e = .returned (.bool (decide (t ≤ cap))) ∧ Below w.heap.size w w' := by
  have H := Aside0.mk h
  have HR := Aside0.mk hr1
  have HC := Aside0.mk hc1
  clear h hr1 hc1
  go_enter Try.func35, Try.ntmps35
  go_wp2
  have hb0 := Aside0.mk (below_drew (Below.refl w.heap.size w))
  go_region_held3 (fun w' => w'.cell? ⟨B + 1, 0, none⟩ = some (.slice A1 l1.length c1) ∧ w'.cell? ⟨B, 0, none⟩ = some (.int .i64 cap) ∧ Aside0 (Below w.heap.size w w'))
    (first | go_keep | (go_split_ands; refine ⟨(hb.cell (p := ⟨B + 1, 0, none⟩) (Nat.lt_of_lt_of_le hB (below_size (Aside0.out ‹_›)))).trans ‹_›, (hb.cell (p := ⟨B, 0, none⟩) (Nat.lt_of_lt_of_le (Nat.lt_trans (Nat.lt_succ_self B) hB) (below_size (Aside0.out ‹_›)))).trans ‹_›, ⟨below_chain (Aside0.out ‹_›) hb⟩⟩))
    (first | (go_at_call 36; refine (quota_all.calls k _ _ l1 n t _ (kd_below HR.out (by go_split_ands; exact Aside0.out ‹_›)) HC.out H.out).mono ?_; rintro e w1 ⟨rfl, hb⟩))
  go_wp2
  go_ret
  all_goals (go_split_ands; exact ⟨rfl, Aside0.out ‹_›⟩)
theorem cellBelow {w w1 : World} (hb : Below w.heap.size w w1) {B : Nat} {v : Value} (h : w.cell? ⟨B, 0, none⟩ = some v) : w1.cell? ⟨B, 0, none⟩ = some v := pw_cell_below hb h
set_option maxHeartbeats 2000000 in
theorem quota_Level.last_ (k : Nat) (cap x y r : Int) (A1 : Option Addr) (c1 : Nat) (l1 : List S32) (B : Nat) (w : World) (hB : B + 1 < w.heap.size) (hx : 0 ≤ x) (hxy : x ≤ y) (hy : y ≤ 1099511627777)
    (hcl : w.cell? ⟨B + 1, 0, none⟩ = some (.slice A1 l1.length c1)) (hcap : w.cell? ⟨B, 0, none⟩ = some (.int .i64 cap)) (hr1 : Kd.C k32 w A1 l1.length l1) (hc1 : l1.length ≤ c1) (h : quota_Level.l0 k cap l1 x y = some r) :
    Calls Try.prog 34 #[.int .i64 x, .int .i64 y, .func (.func 35) #[] #[.pointer (some ⟨B + 1, 0, none⟩), .pointer (some ⟨B, 0, none⟩)]] w fun e w' => e = .returned (.int .i64 r) ∧ Below w.heap.size w w' := by
  have H := Aside0.mk h
  have HR := Aside0.mk hr1
  have HC := Aside0.mk hc1
  have HCL := Aside0.mk hcl
  have HCA := Aside0.mk hcap
  clear h hr1 hc1 hcl hcap
  go_enter Try.func34, Try.ntmps34
  go_wp2
  go_loopg [0, 1] k (fun kq v0 v1 w' => ∃ x1 y1 : Int, v0 = .int .i64 x1 ∧ v1 = .int .i64 y1 ∧ 0 ≤ x1 ∧ x1 ≤ y1 ∧ y1 ≤ 1099511627777 ∧ Aside0 (quota_Level.l0 kq cap l1 x1 y1 = some r) ∧ Aside0 (kq ≤ k) ∧ Aside0 (Below w.heap.size w w'))
  case atStart => exact ⟨x, y, rfl, rfl, hx, hxy, hy, H, ⟨Nat.le_refl _⟩, ⟨Below.refl _ _⟩⟩
  case round =>
    clear H
    obtain ⟨x1, y1, rfl, rfl, h0, h1, h2, HA, HK, HB⟩ := hrel
    cases gk with
    | zero => exact absurd HA.out (by simp [quota_Level.l0])
    | succ k1 =>
      have H := HA.out
      clear HA
      simp only [quota_Level.l0] at H
      by_cases c : y1 - x1 > 1
      · rw [if_pos c] at H
        have cb : decide (1 < y1 - x1) = true := decide_eq_true c
        cases ht : quota_all.f k1 l1 (x1 + (y1 - x1) / 2) with
        | none => rw [ht] at H; exact absurd H (by simp)
        | some t =>
          rw [ht] at H
          simp only [Option.bind_some] at H
          have HT := Aside0.mk ht
          clear ht
          have hcl := quota_Level.closure k1 cap (x1 + (y1 - x1) / 2) t A1 c1 l1 B wr (Nat.lt_of_lt_of_le hB HB.out.size) (cellBelow HB.out HCL.out) (cellBelow HB.out HCA.out) (kd_below HR.out HB.out) HC.out HT.out
          by_cases d : t ≤ cap
          · rw [if_pos d] at H
            have H' := Aside0.mk H
            rw [decide_eq_true d] at hcl
            have HCC := Aside0.mk hcl
            clear H d hcl
            go_wp2_with fail
            refine HCC.out.mono ?_
            rintro e w1 ⟨rfl, hb⟩
            go_wp2
            go_roundg k1
            case measure => have := HK.out; omega
            case rel => exact ⟨_, _, rfl, rfl, by omega, by omega, h2, H', ⟨by have := HK.out; omega⟩, ⟨below_chain HB.out hb⟩⟩
          · rw [if_neg d] at H
            have H' := Aside0.mk H
            rw [decide_eq_false d] at hcl
            have HCC := Aside0.mk hcl
            clear H d hcl
            go_wp2_with fail
            refine HCC.out.mono ?_
            rintro e w1 ⟨rfl, hb⟩
            go_wp2
            go_roundg k1
            case measure => have := HK.out; omega
            case rel => exact ⟨_, _, rfl, rfl, h0, by omega, by omega, H', ⟨by have := HK.out; omega⟩, ⟨below_chain HB.out hb⟩⟩
      · rw [if_neg c] at H
        have cb : decide (1 < y1 - x1) = false := decide_eq_false c
        obtain rfl := Option.some.inj H
        clear H c
        go_wp2
        go_ret
        exact ⟨rfl, HB.out⟩
theorem quota_Level.calls (k : Nat) (a0 : Int) (A1 : Option Addr) (c1 : Nat) (l1 : List (S32)) (r : Int) (w : World) (hr1 : Kd.C k32 w A1 l1.length l1) (hc1 : l1.length ≤ c1) (h : quota_Level.f k a0 l1 = some r) :
    Calls Try.prog 13 #[.int .i64 a0, .slice A1 l1.length c1] w fun e w' => e = .returned (.int .i64 r) ∧ Below w.heap.size w w' := by
  have H := Aside0.mk h
  have HR := Aside0.mk hr1
  have HC := Aside0.mk hc1
  clear h hr1 hc1
  have hl := quota_Level.last_ k a0 0 1099511627777 r A1 c1 l1 w.heap.size ((w.alloc (.cells #[.int .i64 a0] 3)).alloc (.cells #[.slice A1 l1.length c1] 22)) (by simp) (by omega) (by omega) (by omega) (by simp) (by simp) (Kd.C_alloc (Kd.C_alloc HR.out _) _) HC.out H.out
  have HL := Aside0.mk hl
  clear hl
  go_enter Try.func13, Try.ntmps13
  go_wp2_with (go_at_call 34; (with_reducible refine HL.out.mono ?_); rintro e w1 ⟨rfl, hb⟩)
  go_ret
  exact ⟨rfl, below_then (((Below.refl _ _).alloc (Nat.le_refl _) _).alloc (by simp) _) (by simp; omega) hb⟩

end Go.Proofs.Yteieknlkcodkcaa.Q
