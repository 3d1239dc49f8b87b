-- Written by wip/tools/drive.py out of the translation (the kit's print.py, with hand-proved functions beside). Not trusted: Lean checks it.
import Derived.Test.YteieknlkcodkcaaQx0
import Derived.Test.YteieknlkcodkcaaQx4
namespace Go.Proofs.Yteieknlkcodkcaa.Q
open Go.RowKit Go.Proofs.YteieknlkcodkcaaW.PrintWords Go.Proofs.YteieknlkcodkcaaW.PrintLast Go.Proofs.YteieknlkcodkcaaW.PrintMore
attribute [local go_sem] max2_int min2_int max_two min_two max_three min_three max_four min_four   -- for this text's walks alone
set_option linter.unusedVariables false
set_option linter.unusedSimpArgs false

/-- What the search compares: -1, 0 or 1, or what an overflow leaves. -/
def cmpAt (s : S53) (n : Int) : Int := if s.f0 < n then -1 else mn (wrap64 (s.f0 - n)) 1
theorem cmpAt_calls (s : S53) (n : Int) (w : World) : Calls Try.prog 47 #[.agg #[.int .i64 s.f0, .int .i64 s.f1, .int .i64 s.f2], .int .i64 n] w fun e w' => e = .returned (.int .i64 (cmpAt s n)) ∧ Below w.heap.size w w' :=
  quota_place_1.calls s.f0 s.f1 s.f2 n (cmpAt s n) w (by unfold quota_place_1.f cmpAt; split <;> rfl)
def quota_place.l0 : Nat → List S53 → Int → Int → Int → Option Int
  | 0, _, _, _, _ => none
  | k + 1, l, n, i, j => if i < j then (if cmpAt (rd_T53 l ((i + j) / 2)) n < 0 then (quota_place.l0 k l n ((i + j) / 2 + 1) j) else (quota_place.l0 k l n i ((i + j) / 2))) else (some i)
def quota_place.f (k : Nat) (l : List S53) (n : Int) : Option (Int × Bool) := if l.length ≤ 1000000 then ((quota_place.l0 k l n 0 (l.length : Int)).bind fun i => some (i, decide (i < (l.length : Int)) && decide (cmpAt (rd_T53 l i) n = 0))) else none
theorem quota_place.mono_l : ∀ k, (∀ y0 y1 y2 y3, LeO (quota_place.l0 k y0 y1 y2 y3) (quota_place.l0 (k + 1) y0 y1 y2 y3))
  | 0 => fun _ _ _ _ r h => by simp [quota_place.l0] at h
  | k + 1 => by
    have ih0 := quota_place.mono_l k
    intro y0 y1 y2 y3
    unfold quota_place.l0
    exact LeO.ite (LeO.ite (ih0 _ _ _ _) (ih0 _ _ _ _)) (LeO.refl _)
theorem quota_place.mono : ∀ a0 a1 k, LeO (quota_place.f k a0 a1) (quota_place.f (k + 1) a0 a1) := fun a0 a1 k => LeO.ite (LeO.bind (quota_place.mono_l k a0 a1 _ _) (fun _ => LeO.refl _)) (LeO.refl _)
theorem quota_place.range (l : List S53) (n : Int) : ∀ (k : Nat) (i j r : Int), quota_place.l0 k l n i j = some r → 0 ≤ i → i ≤ j → i ≤ r ∧ r ≤ j
  | 0, _, _, _, h, _, _ => by simp [quota_place.l0] at h
  | k + 1, i, j, r, h, h0, h1 => by
    unfold quota_place.l0 at h
    split at h
    · split at h
      · have := quota_place.range l n k _ _ _ h (by omega) (by omega); omega
      · have := quota_place.range l n k _ _ _ h (by omega) (by omega); omega
    · have := Option.some.inj h; omega
theorem kd_below53 {w w1 : World} {A : Option Addr} {n : Nat} {xs : List S53} (h : Kd.C k53 w A n xs) (hb : Below w.heap.size w w1) : Kd.C k53 w1 A n xs := Kd.C_below h hb
theorem below_chain2 {w w1 w2 : World} (h : Below w.heap.size w w1) (k : Below w1.heap.size w1 w2) : Below w.heap.size w w2 := below_then h h.size k
set_option maxHeartbeats 2000000 in
theorem quota_place.search (k : Nat) (A0 : Option Addr) (c0 : Nat) (l0 : List S53) (n r : Int) (w : World) (hr0 : Kd.C k53 w A0 l0.length l0) (hl : l0.length ≤ 1000000) (h : quota_place.l0 k l0 n 0 (l0.length : Int) = some r) :
    Calls Try.prog 46 #[.slice A0 l0.length c0, .int .i64 n, .func (.func 47) #[] #[]] w fun e w' => e = .returned (.tuple #[.int .i64 r, .bool (decide (r < (l0.length : Int)) && decide (cmpAt (rd_T53 l0 r) n = 0))]) ∧ Below w.heap.size w w' := by
  have HR := Aside0.mk hr0
  have H := Aside0.mk h
  have hr := quota_place.range l0 n k _ _ _ h (by omega) (by omega)
  have hr1 := hr.1
  have hr2 := hr.2
  clear hr0 h hr
  generalize hbd : (decide (r < (l0.length : Int)) && decide (cmpAt (rd_T53 l0 r) n = 0)) = b
  have HD := Aside0.mk hbd
  clear hbd
  go_enter Try.func46, Try.ntmps46
  go_wp2
  go_loopg [9, 10] k (fun kq v9 v10 w' => ∃ x y : Int, v9 = .int .i64 x ∧ v10 = .int .i64 y ∧ 0 ≤ x ∧ x ≤ y ∧ y ≤ (l0.length : Int) ∧ Aside0 (quota_place.l0 kq l0 n x y = some r) ∧ Aside0 (kq ≤ k) ∧ Aside0 (Below w.heap.size w w'))
  case atStart => exact ⟨0, _, rfl, rfl, by omega, by omega, by omega, H, ⟨Nat.le_refl _⟩, ⟨Below.refl _ _⟩⟩
  case round =>
    clear H
    obtain ⟨x, y, rfl, rfl, h0, h1, h2, HA, HK, HB⟩ := hrel
    cases gk with
    | zero => exact absurd HA.out (by simp [quota_place.l0])
    | succ k1 =>
      have H := HA.out
      clear HA
      simp only [quota_place.l0] at H
      by_cases c : x < y
      · rw [if_pos c] at H
        have p : 0 ≤ (x + y) / 2 := by omega
        have q : (x + y) / 2 < (l0.length : Int) := by omega
        have p1 : x ≤ (x + y) / 2 := by omega
        have p2 : (x + y) / 2 < y := by omega
        obtain ⟨ad, e, hx0, hx1, hx2⟩ := at_T53 (kd_below53 HR.out HB.out) ((x + y) / 2) p q
        cases e
        have hcall := cmpAt_calls (rd_T53 l0 ((x + y) / 2)) n wr
        by_cases d : cmpAt (rd_T53 l0 ((x + y) / 2)) n < 0
        · rw [if_pos d] at H
          generalize cmpAt (rd_T53 l0 ((x + y) / 2)) n = q at hcall d
          have H' := Aside0.mk H
          have HCC := Aside0.mk hcall
          have db : decide (q < 0) = true := decide_eq_true d
          clear H hcall d
          go_wp2_with fail
          refine HCC.out.mono ?_
          rintro e w1 ⟨rfl, hb⟩
          go_wp2
          go_roundg k1
          case measure => have := HK.out; omega
          case rel => exact ⟨_, _, rfl, rfl, by omega, by omega, h2, H', ⟨by have := HK.out; omega⟩, ⟨below_chain2 HB.out hb⟩⟩
        · rw [if_neg d] at H
          generalize cmpAt (rd_T53 l0 ((x + y) / 2)) n = q at hcall d
          have H' := Aside0.mk H
          have HCC := Aside0.mk hcall
          have db : decide (q < 0) = false := decide_eq_false d
          clear H hcall d
          go_wp2_with fail
          refine HCC.out.mono ?_
          rintro e w1 ⟨rfl, hb⟩
          go_wp2
          go_roundg k1
          case measure => have := HK.out; omega
          case rel => exact ⟨_, _, rfl, rfl, h0, p1, by omega, H', ⟨by have := HK.out; omega⟩, ⟨below_chain2 HB.out hb⟩⟩
      · rw [if_neg c] at H
        have cb : decide (x < y) = false := decide_eq_false c
        obtain rfl := Option.some.inj H
        clear H c
        by_cases d : x < (l0.length : Int)
        · obtain ⟨ad, e, hx0, hx1, hx2⟩ := at_T53 (kd_below53 HR.out HB.out) x h0 d
          cases e
          have hcall := cmpAt_calls (rd_T53 l0 x) n wr
          have d1 : decide (x < (l0.length : Int)) = true := decide_eq_true d
          have HCC := Aside0.mk hcall
          have hd := HD.out
          rw [d1, Bool.true_and] at hd
          clear hcall HD
          generalize cmpAt (rd_T53 l0 x) n = q at HCC hd
          have HD := Aside0.mk hd
          clear hd
          go_wp2_with fail
          refine HCC.out.mono ?_
          rintro e w1 ⟨rfl, hb⟩
          go_wp2
          go_ret2
          exact ⟨by rw [← HD.out]; rfl, below_chain2 HB.out hb⟩
        · have d1 : decide (x < (l0.length : Int)) = false := decide_eq_false d
          have hd := HD.out
          rw [d1, Bool.false_and] at hd
          clear HD
          have HD := Aside0.mk hd
          clear hd
          go_wp2
          go_ret2
          exact ⟨by rw [← HD.out]; rfl, HB.out⟩
theorem quota_place.calls (k : Nat) (A0 : Option Addr) (c0 : Nat) (l0 : List (S53)) (a1 : Int) (r1 : Int) (r2 : Bool) (w : World) (hr0 : Kd.C k53 w A0 l0.length l0) (hc0 : l0.length ≤ c0) (h : quota_place.f k l0 a1 = some (r1, r2)) :
    Calls Try.prog 40 #[.slice A0 l0.length c0, .int .i64 a1] w fun e w' => e = .returned (.tuple #[.int .i64 r1, .bool r2]) ∧ Below w.heap.size w w' := by
  by_cases hl : l0.length ≤ 1000000
  · unfold quota_place.f at h
    rw [if_pos hl] at h
    cases hs : quota_place.l0 k l0 a1 0 (l0.length : Int) with
    | none => rw [hs] at h; exact absurd h (by simp)
    | some i =>
      rw [hs] at h
      simp only [Option.bind_some, Option.some.injEq, Prod.mk.injEq] at h
      obtain ⟨rfl, rfl⟩ := h
      have hs' := quota_place.search k A0 c0 l0 a1 i w hr0 hl hs
      generalize (decide (i < (l0.length : Int)) && decide (cmpAt (rd_T53 l0 i) a1 = 0)) = b at hs' ⊢
      have HS := Aside0.mk hs'
      clear hs' hs hr0 hc0 hl
      go_enter Try.func40, Try.ntmps40
      go_wp2_with fail
      refine HS.out.mono ?_
      rintro e w1 ⟨rfl, hb⟩
      go_wp2
      go_ret2
      exact ⟨rfl, hb⟩
  · unfold quota_place.f at h
    rw [if_neg hl] at h
    exact absurd h (by simp)

end Go.Proofs.Yteieknlkcodkcaa.Q
