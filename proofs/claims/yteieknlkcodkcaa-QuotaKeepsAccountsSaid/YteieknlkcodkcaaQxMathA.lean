-- Written by wip/tools/drive.py out of the translation (the kit's print.py, with hand-proved functions beside). Not trusted: Lean checks it.
import Derived.Test.YteieknlkcodkcaaQx0
import Derived.Test.YteieknlkcodkcaaQx3
import Derived.Test.YteieknlkcodkcaaQx6
import Derived.Test.YteieknlkcodkcaaQxHLevel
namespace Go.Proofs.Yteieknlkcodkcaa.Q
open Go.RowKit Go.Proofs.YteieknlkcodkcaaW.PrintWords Go.Proofs.YteieknlkcodkcaaW.PrintLast Go.Proofs.YteieknlkcodkcaaW.PrintMore
attribute [local go_sem] max2_int min2_int max_two min_two max_three min_three max_four min_four   -- for this text's walks alone
set_option linter.unusedVariables false
set_option linter.unusedSimpArgs false

/-! Plain mathematics of shares: sums, levels, what each gets. -/
theorem w64 {x : Int} (h1 : -9223372036854775808 ≤ x) (h2 : x ≤ 9223372036854775807) : wrap64 x = x := by unfold wrap64; omega
theorem mn_min (a b : Int) : mn a b = min a b := by unfold mn; omega
theorem mx_max (a b : Int) : mx a b = max a b := by unfold mx; omega
def okS (s : S32) : Prop := 1 ≤ s.f0 ∧ s.f0 ≤ 1048576 ∧ 0 ≤ s.f1 ∧ s.f1 ≤ 1099511627776
def okL (l : List S32) : Prop := l.length ≤ 60 ∧ ∀ s ∈ l, okS s
theorem rd32_mid (pre suf : List S32) (s : S32) : rd_T32 (pre ++ s :: suf) (pre.length : Int) = s := by
  simp [rd_T32, List.getD_eq_getElem?_getD]
theorem rd_mid (pre suf : List Int) (x : Int) : rd (pre ++ x :: suf) (pre.length : Int) = x := by
  simp [rd, List.getD_eq_getElem?_getD]
/-- W n lies within bounds. -/
theorem mul_bd {W n : Int} (h1 : 0 ≤ W) (h2 : W ≤ 1048576) (h3 : 0 ≤ n) (h4 : n ≤ 1099511627777) : 0 ≤ W * n ∧ W * n ≤ 1152921504607895552 := by
  refine ⟨Int.mul_nonneg h1 h3, ?_⟩
  calc W * n ≤ 1048576 * n := Int.mul_le_mul_of_nonneg_right h2 h3
    _ ≤ 1048576 * 1099511627777 := Int.mul_le_mul_of_nonneg_left h4 (by omega)
    _ = 1152921504607895552 := by decide
/-- What a share has at a level; what all have. -/
def atL (s : S32) (n : Int) : Int := min (s.f0 * n) s.f1
def allL : List S32 → Int → Int
  | [], _ => 0
  | s :: l, n => atL s n + allL l n
theorem allL_cons (s : S32) (l : List S32) (n : Int) : allL (s :: l) n = atL s n + allL l n := rfl
theorem atL_bd {s : S32} (h : okS s) {n : Int} (h0 : 0 ≤ n) (h1 : n ≤ 1099511627777) : 0 ≤ atL s n ∧ atL s n ≤ s.f1 ∧ atL s n ≤ 1099511627776 := by
  have := mul_bd (W := s.f0) (n := n) (by have := h.1; omega) h.2.1 h0 h1
  have h3 := h.2.2
  unfold atL
  omega
theorem allL_bd : ∀ {l : List S32}, (∀ s ∈ l, okS s) → ∀ {n : Int}, 0 ≤ n → n ≤ 1099511627777 → 0 ≤ allL l n ∧ allL l n ≤ (l.length : Int) * 1099511627776
  | [], _, n, _, _ => by simp [allL]
  | s :: l, h, n, h0, h1 => by
    have a := atL_bd (h s (by simp)) h0 h1
    have b := allL_bd (l := l) (fun t ht => h t (by simp [ht])) h0 h1
    have e : ((s :: l).length : Int) = (l.length : Int) + 1 := by simp
    rw [e]
    rw [allL_cons]
    omega
theorem all_go (n : Int) (h0 : 0 ≤ n) (h1 : n ≤ 1099511627776) : ∀ (suf pre : List S32) (acc : Int), (∀ s ∈ suf, okS s) → (pre ++ suf).length ≤ 60 → 0 ≤ acc → acc ≤ (pre.length : Int) * 1099511627776 →
    Ev (fun k => quota_all.l0 k n acc (pre ++ suf) ((pre ++ suf).length : Int) (pre.length : Int)) (acc + allL suf n) := by
  intro suf
  induction suf with
  | nil =>
    intro pre acc _ hl ha hb
    refine Ev.step (f := fun _ => some acc) (fun k => ?_) ?_
    · simp only [quota_all.l0, List.append_nil]
      rw [if_neg (by omega)]
    · simp only [allL, Int.add_zero]
      exact Ev.now _
  | cons s suf IH =>
    intro pre acc hs hl ha hb
    have ok := hs s (by simp)
    have a := atL_bd ok h0 (by omega : n ≤ 1099511627777)
    have m := mul_bd (W := s.f0) (n := n) (by have := ok.1; omega) ok.2.1 h0 (by omega)
    have hlen : (pre ++ s :: suf).length = pre.length + suf.length + 1 := by simp; omega
    have am : atL s n = min (s.f0 * n) s.f1 := rfl
    have ih := IH (pre ++ [s]) (acc + atL s n) (fun t ht => hs t (by simp [ht])) (by simpa using hl) (by omega) (by
      have e : ((pre ++ [s]).length : Int) = (pre.length : Int) + 1 := by simp
      rw [e]
      omega)
    simp only [List.append_assoc, List.singleton_append, List.length_append, List.length_cons, List.length_nil, Nat.zero_add] at ih
    refine Ev.step (f := fun k => quota_all.l0 k n (acc + atL s n) (pre ++ s :: suf) ((pre ++ s :: suf).length : Int) ((pre.length : Int) + 1)) (fun k => ?_) ?_
    · simp only [quota_all.l0]
      rw [if_pos (by omega), if_pos (by omega), if_pos (by omega), rd32_mid, w64 (x := s.f0 * n) (by omega) (by omega), mn_min, ← am]
      rw [w64 (x := acc + atL s n) (by omega) (by omega), w64 (x := (pre.length : Int) + 1) (by omega) (by omega)]
    · have e : acc + allL (s :: suf) n = acc + atL s n + allL suf n := by rw [allL_cons]; omega
      rw [e]
      simpa using ih
theorem all_ev {l : List S32} (h : okL l) {n : Int} (h0 : 0 ≤ n) (h1 : n ≤ 1099511627776) : Ev (fun k => quota_all.f k l n) (allL l n) := by
  have := all_go n h0 h1 l [] 0 h.2 (by simpa using h.1) (by omega) (by simp)
  simpa [quota_all.f] using this
theorem At_eq {s : S32} (h : okS s) {n : Int} (h0 : 0 ≤ n) (h1 : n ≤ 1099511627777) : weirgateref16_At.f s.f0 s.f1 n = some (atL s n) := by
  have m := mul_bd (W := s.f0) (n := n) (by have := h.1; omega) h.2.1 h0 h1
  unfold weirgateref16_At.f atL
  rw [w64 (by omega) (by omega), mn_min]
theorem All_go (n : Int) (h0 : 0 ≤ n) (h1 : n ≤ 1099511627776) : ∀ (suf pre : List S32) (acc : Int), (∀ s ∈ suf, okS s) → (pre ++ suf).length ≤ 60 → 0 ≤ acc → acc ≤ (pre.length : Int) * 1099511627776 →
    Ev (fun k => weirgateref16_All.l0 k (pre ++ suf) n acc (pre.length : Int)) (acc + allL suf n) := by
  intro suf
  induction suf with
  | nil =>
    intro pre acc _ hl ha hb
    refine Ev.step (f := fun _ => some acc) (fun k => ?_) ?_
    · simp only [weirgateref16_All.l0, List.append_nil]
      rw [if_neg (by omega)]
    · simp only [allL, Int.add_zero]
      exact Ev.now _
  | cons s suf IH =>
    intro pre acc hs hl ha hb
    have ok := hs s (by simp)
    have a := atL_bd ok h0 (by omega : n ≤ 1099511627777)
    have hlen : (pre ++ s :: suf).length = pre.length + suf.length + 1 := by simp; omega
    have ih := IH (pre ++ [s]) (acc + atL s n) (fun t ht => hs t (by simp [ht])) (by simpa using hl) (by omega) (by
      have e : ((pre ++ [s]).length : Int) = (pre.length : Int) + 1 := by simp
      rw [e]
      omega)
    simp only [List.append_assoc, List.singleton_append, List.length_append, List.length_cons, List.length_nil, Nat.zero_add] at ih
    refine Ev.step (f := fun k => weirgateref16_All.l0 k (pre ++ s :: suf) n (acc + atL s n) ((pre.length : Int) + 1)) (fun k => ?_) ?_
    · simp only [weirgateref16_All.l0]
      rw [if_pos (by omega), if_pos (by omega), rd32_mid, At_eq ok h0 (by omega)]
      simp only [Option.bind_some]
      rw [w64 (x := acc + atL s n) (by omega) (by omega), w64 (x := (pre.length : Int) + 1) (by omega) (by omega)]
    · have e : acc + allL (s :: suf) n = acc + atL s n + allL suf n := by rw [allL_cons]; omega
      rw [e]
      simpa using ih
theorem All_ev {l : List S32} (h : okL l) {n : Int} (h0 : 0 ≤ n) (h1 : n ≤ 1099511627776) : Ev (fun k => weirgateref16_All.f k l n) (allL l n) := by
  have := All_go n h0 h1 l [] 0 h.2 (by simpa using h.1) (by omega) (by simp)
  simpa [weirgateref16_All.f] using this
/-- The level that both searches come to. -/
structure LevelIs (cap : Int) (l : List S32) (r : Int) : Prop where
  lo : 0 ≤ r
  hi : r ≤ 1099511627776
  fits : allL l r ≤ cap
  most : r = 1099511627776 ∨ cap < allL l (r + 1)
theorem level_go {l : List S32} (h : okL l) (cap : Int) : ∀ (d : Nat) (x y : Int), (y - x).toNat ≤ d → 0 ≤ x → x < y → y ≤ 1099511627777 → allL l x ≤ cap → (y = 1099511627777 ∨ cap < allL l y) →
    ∃ r, Ev (fun k => quota_Level.l0 k cap l x y) r ∧ Ev (fun k => weirgateref16_Level.l0 k cap l x y) r ∧ LevelIs cap l r
  | 0, x, y, hd, h0, hxy, hy, _, _ => by omega
  | d + 1, x, y, hd, h0, hxy, hy, hx, hm => by
    by_cases c : y - x > 1
    · have e1 : (x + y) / 2 = x + (y - x) / 2 := by omega
      have q : Ev (fun k => quota_all.f k l (x + (y - x) / 2)) (allL l (x + (y - x) / 2)) := all_ev h (by omega) (by omega)
      have p : Ev (fun k => weirgateref16_All.f k l (x + (y - x) / 2)) (allL l (x + (y - x) / 2)) := All_ev h (by omega) (by omega)
      have s1 : ∀ k, quota_Level.l0 (k + 1) cap l x y = (quota_all.f k l (x + (y - x) / 2)).bind fun t => (if t ≤ cap then (quota_Level.l0 k cap l (x + (y - x) / 2) y) else (quota_Level.l0 k cap l x (x + (y - x) / 2))) := fun k => by
        simp only [quota_Level.l0]; rw [if_pos c]
      have s2 : ∀ k, weirgateref16_Level.l0 (k + 1) cap l x y = (weirgateref16_All.f k l (x + (y - x) / 2)).bind fun t => (if t ≤ cap then (weirgateref16_Level.l0 k cap l (x + (y - x) / 2) y) else (weirgateref16_Level.l0 k cap l x (x + (y - x) / 2))) := fun k => by
        simp only [weirgateref16_Level.l0]
        rw [w64 (x := y - x) (by omega) (by omega), if_pos c, w64 (x := x + y) (by omega) (by omega), Int.tdiv_eq_ediv_of_nonneg (by omega), w64 (x := (x + y) / 2) (by omega) (by omega), e1]
      by_cases hc : allL l (x + (y - x) / 2) ≤ cap
      · obtain ⟨r, a1, a2, a3⟩ := level_go h cap d (x + (y - x) / 2) y (by omega) (by omega) (by omega) hy hc hm
        refine ⟨r, Ev.step s1 (Ev.bind q ?_), Ev.step s2 (Ev.bind p ?_), a3⟩
        · simp only [if_pos hc]; exact a1
        · simp only [if_pos hc]; exact a2
      · obtain ⟨r, a1, a2, a3⟩ := level_go h cap d x (x + (y - x) / 2) (by omega) h0 (by omega) (by omega) hx (.inr (by omega))
        refine ⟨r, Ev.step s1 (Ev.bind q ?_), Ev.step s2 (Ev.bind p ?_), a3⟩
        · simp only [if_neg hc]; exact a1
        · simp only [if_neg hc]; exact a2
    · refine ⟨x, Ev.step (f := fun _ => some x) (fun k => ?_) (Ev.now _), Ev.step (f := fun _ => some x) (fun k => ?_) (Ev.now _), ⟨h0, by omega, hx, ?_⟩⟩
      · simp only [quota_Level.l0]; rw [if_neg c]
      · simp only [weirgateref16_Level.l0]; rw [w64 (x := y - x) (by omega) (by omega), if_neg c]
      · have : y = x + 1 := by omega
        subst this
        rcases hm with hm | hm
        · left; omega
        · exact .inr hm
theorem allL_zero : ∀ {l : List S32}, (∀ s ∈ l, okS s) → allL l 0 = 0
  | [], _ => rfl
  | s :: l, h => by
    have := h s (by simp)
    rw [allL_cons]
    unfold atL
    rw [allL_zero (l := l) (fun t ht => h t (by simp [ht]))]
    have h2 := this.2.2
    simp only [Int.mul_zero]
    omega
theorem level_ev {l : List S32} (h : okL l) {cap : Int} (hc : 0 ≤ cap) : ∃ r, Ev (fun k => quota_Level.f k cap l) r ∧ Ev (fun k => weirgateref16_Level.f k cap l) r ∧ LevelIs cap l r :=
  level_go h cap 1099511627777 0 1099511627777 (by omega) (by omega) (by omega) (by omega) (by rw [allL_zero h.2]; exact hc) (.inl rfl)

end Go.Proofs.Yteieknlkcodkcaa.Q
