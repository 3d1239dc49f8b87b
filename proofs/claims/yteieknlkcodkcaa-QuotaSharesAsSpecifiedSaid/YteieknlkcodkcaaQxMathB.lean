-- Written by wip/tools/drive.py out of the translation (the kit's print.py, with hand-proved functions beside). Not trusted: Lean checks it.
import Derived.Test.YteieknlkcodkcaaQx0
import Derived.Test.YteieknlkcodkcaaQx4
import Derived.Test.YteieknlkcodkcaaQx6
import Derived.Test.YteieknlkcodkcaaQxHLevel
import Derived.Test.YteieknlkcodkcaaQxHValid
import Derived.Test.YteieknlkcodkcaaQxMathA
namespace Go.Proofs.Yteieknlkcodkcaa.Q
open Go.RowKit Go.Proofs.YteieknlkcodkcaaW.PrintWords Go.Proofs.YteieknlkcodkcaaW.PrintLast Go.Proofs.YteieknlkcodkcaaW.PrintMore
attribute [local go_sem] max2_int min2_int max_two min_two max_three min_three max_four min_four   -- for this text's walks alone
set_option linter.unusedVariables false
set_option linter.unusedSimpArgs false

/-! What each gets, and whether a division is fair: the program's and the reference's. -/
def moreOf (n left : Int) (s : S32) : Int := min left (min s.f0 (s.f1 - atL s n))
def fairGo (n : Int) : Int → List S32 → List Int
  | _, [] => []
  | left, s :: l => (atL s n + moreOf n left s) :: fairGo n (left - moreOf n left s) l
theorem fairGo_length (n : Int) (l : List S32) : ∀ left, (fairGo n left l).length = l.length := by
  induction l with
  | nil => intro left; rfl
  | cons s l ih => intro left; simp [fairGo, ih]
theorem moreOf_bd {n left : Int} {s : S32} (h : okS s) (h0 : 0 ≤ n) (h1 : n ≤ 1099511627777) (hl : 0 ≤ left) : 0 ≤ moreOf n left s ∧ moreOf n left s ≤ left ∧ moreOf n left s ≤ s.f0 ∧ moreOf n left s ≤ s.f1 - atL s n := by
  have := atL_bd h h0 h1
  have := h.1
  unfold moreOf
  omega
theorem set_mid (pre : List Int) (x v : Int) (suf : List Int) : (pre ++ x :: suf).set (pre.length : Int).toNat v = pre ++ v :: suf := by
  rw [Int.toNat_natCast, List.set_append_right _ _ (Nat.le_refl _), Nat.sub_self]; rfl
theorem fair_go (n : Int) (h0 : 0 ≤ n) (h1 : n ≤ 1099511627777) : ∀ (suf pre : List S32) (done : List Int) (left : Int), (∀ s ∈ suf, okS s) → (pre ++ suf).length ≤ 60 → done.length = pre.length → 0 ≤ left → left ≤ 1099511627776 →
    Ev (fun k => quota_Fair.l0 k n left (done ++ List.replicate suf.length 0) (pre ++ suf) ((pre ++ suf).length : Int) (pre.length : Int)) (done ++ fairGo n left suf) := by
  intro suf
  induction suf with
  | nil =>
    intro pre done left _ _ _ _ _
    refine Ev.step (f := fun _ => some done) (fun k => ?_) ?_
    · simp only [quota_Fair.l0, List.append_nil]
      rw [if_neg (by omega)]
      simp
    · simp only [fairGo, List.append_nil]
      exact Ev.now _
  | cons s suf IH =>
    intro pre done left hs hl hd hl0 hl1
    have ok := hs s (by simp)
    have a := atL_bd ok h0 h1
    have m := mul_bd (W := s.f0) (n := n) (by have := ok.1; omega) ok.2.1 h0 h1
    have b := moreOf_bd ok h0 h1 hl0
    have am : atL s n = min (s.f0 * n) s.f1 := rfl
    have bm : min (min left s.f0) (s.f1 - atL s n) = moreOf n left s := by unfold moreOf; omega
    have ih := IH (pre ++ [s]) (done ++ [atL s n + moreOf n left s]) (left - moreOf n left s) (fun t ht => hs t (by simp [ht])) (by simpa using hl) (by simp [hd]) (by omega) (by omega)
    simp only [List.append_assoc, List.singleton_append, List.length_append, List.length_cons, List.length_nil, Nat.zero_add] at ih
    have hlen : (pre ++ s :: suf).length = pre.length + suf.length + 1 := by simp; omega
    have hok := ok.2.2
    refine Ev.step (f := fun k => quota_Fair.l0 k n (left - moreOf n left s) (done ++ (atL s n + moreOf n left s) :: List.replicate suf.length 0) (pre ++ s :: suf) ((pre ++ s :: suf).length : Int) ((pre.length : Int) + 1)) (fun k => ?_) ?_
    · simp only [quota_Fair.l0]
      rw [if_pos (by omega), if_pos (by omega), if_pos (by omega), if_pos (by simp; omega), rd32_mid, w64 (x := s.f0 * n) (by omega) (by omega)]
      simp only [mn_min]
      rw [← am, w64 (x := s.f1 - atL s n) (by omega) (by omega), bm, w64 (x := left - moreOf n left s) (by omega) (by omega), w64 (x := atL s n + moreOf n left s) (by omega) (by omega), w64 (x := (pre.length : Int) + 1) (by omega) (by omega)]
      rw [List.length_cons, List.replicate_succ, ← hd, set_mid]
    · simp only [fairGo]
      simpa using ih
theorem Fair_go (n : Int) (h0 : 0 ≤ n) (h1 : n ≤ 1099511627777) : ∀ (suf pre : List S32) (done : List Int) (left : Int), (∀ s ∈ suf, okS s) → (pre ++ suf).length ≤ 60 → done.length = pre.length → 0 ≤ left → left ≤ 1099511627776 →
    Ev (fun k => weirgateref16_Fair.l0 k (pre ++ suf) n left done (pre.length : Int)) (done ++ fairGo n left suf) := by
  intro suf
  induction suf with
  | nil =>
    intro pre done left _ _ _ _ _
    refine Ev.step (f := fun _ => some done) (fun k => ?_) ?_
    · simp only [weirgateref16_Fair.l0, List.append_nil]
      rw [if_neg (by omega)]
    · simp only [fairGo, List.append_nil]
      exact Ev.now _
  | cons s suf IH =>
    intro pre done left hs hl hd hl0 hl1
    have ok := hs s (by simp)
    have a := atL_bd ok h0 h1
    have b := moreOf_bd ok h0 h1 hl0
    have bm : min left (min s.f0 (s.f1 - atL s n)) = moreOf n left s := rfl
    have ih := IH (pre ++ [s]) (done ++ [atL s n + moreOf n left s]) (left - moreOf n left s) (fun t ht => hs t (by simp [ht])) (by simpa using hl) (by simp [hd]) (by omega) (by omega)
    simp only [List.append_assoc, List.singleton_append, List.length_append, List.length_cons, List.length_nil, Nat.zero_add] at ih
    have hlen : (pre ++ s :: suf).length = pre.length + suf.length + 1 := by simp; omega
    have hok := ok.2.2
    refine Ev.step (f := fun k => weirgateref16_Fair.l0 k (pre ++ s :: suf) n (left - moreOf n left s) (done ++ [atL s n + moreOf n left s]) ((pre.length : Int) + 1)) (fun k => ?_) ?_
    · simp only [weirgateref16_Fair.l0]
      rw [if_pos (by omega), if_pos (by omega), rd32_mid, At_eq ok h0 h1]
      simp only [Option.bind_some, mn_min]
      rw [if_pos (by omega), w64 (x := s.f1 - atL s n) (by omega) (by omega), bm, w64 (x := left - moreOf n left s) (by omega) (by omega), w64 (x := atL s n + moreOf n left s) (by omega) (by omega), w64 (x := (pre.length : Int) + 1) (by omega) (by omega)]
    · simp only [fairGo]
      simpa using ih
/-- What all get, at a capacity. -/
theorem fair_ev {l : List S32} (h : okL l) {cap : Int} (hc : 0 ≤ cap) (hc1 : cap ≤ 1099511627776) : ∃ r, LevelIs cap l r ∧ Ev (fun k => quota_Level.f k cap l) r ∧ Ev (fun k => weirgateref16_Level.f k cap l) r ∧
    Ev (fun k => quota_Fair.f k cap l) (fairGo r (cap - allL l r) l) ∧ Ev (fun k => weirgateref16_Fair.f k cap l) (fairGo r (cap - allL l r) l) := by
  obtain ⟨r, hq, hr, hL⟩ := level_ev h hc
  have hb := allL_bd h.2 hL.lo (by have := hL.hi; omega)
  have hf := hL.fits
  have hlo := hL.lo
  have hhi := hL.hi
  have hlen := h.1
  refine ⟨r, hL, hq, hr, ?_, ?_⟩
  · refine Ev.bind hq (Ev.bind (all_ev h hlo hhi) ?_)
    have := fair_go r hlo (by omega) l [] [] (cap - allL l r) h.2 (by simpa using hlen) rfl (by omega) (by omega)
    refine Ev.congr (fun k => ?_) (by simpa using this)
    rw [if_pos (by omega), if_pos (by omega), w64 (x := cap - allL l r) (by omega) (by omega), Int.toNat_natCast]
  · refine Ev.bind hr (Ev.bind (All_ev h hlo hhi) ?_)
    have := Fair_go r hlo (by omega) l [] [] (cap - allL l r) h.2 (by simpa using hlen) rfl (by omega) (by omega)
    refine Ev.congr (fun k => ?_) (by simpa using this)
    rw [w64 (x := cap - allL l r) (by omega) (by omega)]
/-- What 'Valid' says. -/
theorem bad_iff (s : S32) : badShare s = false ↔ okS s := by
  unfold badShare okS
  simp only [Bool.or_eq_false_iff, decide_eq_false_iff_not]
  omega
theorem RefValid_go : ∀ (suf pre : List S32), (pre ++ suf).length ≤ 60 → Ev (fun k => weirgateref16_Valid.l0 k (pre ++ suf) (pre.length : Int)) (!(suf.any badShare)) := by
  intro suf
  induction suf with
  | nil =>
    intro pre hl
    refine Ev.step (f := fun _ => some true) (fun k => ?_) (by simpa using Ev.now true)
    simp only [weirgateref16_Valid.l0, List.append_nil]
    rw [if_neg (by omega)]
    simp only [List.append_nil] at hl
    rw [decide_eq_true (by omega)]
  | cons s suf IH =>
    intro pre hl
    have ih := IH (pre ++ [s]) (by simpa using hl)
    have hlen : (pre ++ s :: suf).length = pre.length + suf.length + 1 := by simp; omega
    simp only [List.append_assoc, List.singleton_append, List.length_append, List.length_cons, List.length_nil, Nat.zero_add] at ih
    have e : ∀ k, weirgateref16_Valid.l0 (k + 1) (pre ++ s :: suf) (pre.length : Int) = if badShare s = true then some false else weirgateref16_Valid.l0 k (pre ++ s :: suf) ((pre.length : Int) + 1) := fun k => by
      simp only [weirgateref16_Valid.l0]
      rw [if_pos (by omega), if_pos (by omega), rd32_mid, w64 (x := (pre.length : Int) + 1) (by omega) (by omega)]
      unfold badShare
      by_cases c1 : s.f0 < 1
      · simp [c1]
      · by_cases c2 : s.f0 > 1048576
        · simp [c1, c2]
        · by_cases c3 : s.f1 < 0
          · simp [c1, c2, c3]
          · by_cases c4 : s.f1 > 1099511627776 <;> simp [c1, c2, c3, c4]
    cases hb : badShare s with
    | true => exact Ev.step (f := fun _ => some false) (fun k => by rw [e, if_pos hb]) (by simpa [hb] using Ev.now false)
    | false => exact Ev.step (f := fun k => weirgateref16_Valid.l0 k (pre ++ s :: suf) ((pre.length : Int) + 1)) (fun k => by rw [e, if_neg (by simp [hb])]) (by simpa [hb] using ih)
theorem RefValid_ev {l : List S32} (hl : l.length ≤ 60) : Ev (fun k => weirgateref16_Valid.f k l) (!(l.any badShare)) := by
  simpa [weirgateref16_Valid.f] using RefValid_go l [] (by simpa using hl)
theorem Valid_eq {l : List S32} (hl : l.length ≤ 60) : quota_Valid.f l = some (!(l.any badShare)) := by
  unfold quota_Valid.f
  rw [decide_eq_true (by omega), Bool.true_and]
theorem ok_of_valid {l : List S32} (hl : l.length ≤ 60) (h : l.any badShare = false) : okL l :=
  ⟨hl, fun s hs => (bad_iff s).1 (by
    cases hb : badShare s with
    | false => rfl
    | true => exact absurd (List.any_eq_true.2 ⟨s, hs, hb⟩) (by simp [h]))⟩
/-- Lists of numbers compared. -/
theorem Same_go : ∀ (suf pre : List Int) (a : List Int), a = pre ++ suf → a.length ≤ 1000 → Ev (fun k => weirgateref16_Same.l0 k a a (pre.length : Int)) true := by
  intro suf
  induction suf with
  | nil =>
    intro pre a ha hl
    refine Ev.step (f := fun _ => some true) (fun k => ?_) (Ev.now true)
    subst ha
    simp only [weirgateref16_Same.l0, List.append_nil]
    rw [if_neg (by omega)]
  | cons s suf IH =>
    intro pre a ha hl
    have ih := IH (pre ++ [s]) a (by simpa using ha) hl
    have hlen : a.length = pre.length + suf.length + 1 := by rw [ha]; simp; omega
    refine Ev.step (f := fun k => weirgateref16_Same.l0 k a a ((pre.length : Int) + 1)) (fun k => ?_) (by simpa using ih)
    simp only [weirgateref16_Same.l0]
    rw [if_pos (by omega), if_pos (by omega), if_pos (by omega), if_pos trivial, w64 (x := (pre.length : Int) + 1) (by omega) (by omega)]
theorem Same_ev {a : List Int} (hl : a.length ≤ 1000) : Ev (fun k => weirgateref16_Same.f k a a) true := by
  refine Ev.congr (fun k => ?_) (Same_go a [] a rfl hl)
  unfold weirgateref16_Same.f
  rw [if_pos rfl]
  rfl

end Go.Proofs.Yteieknlkcodkcaa.Q
