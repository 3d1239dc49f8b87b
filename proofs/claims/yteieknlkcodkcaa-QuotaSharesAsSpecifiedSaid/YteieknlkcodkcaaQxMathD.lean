-- Written by wip/tools/drive.py out of the translation (the kit's print.py, with hand-proved functions beside). Not trusted: Lean checks it.
import Derived.Test.YteieknlkcodkcaaQx0
import Derived.Test.YteieknlkcodkcaaQx4
import Derived.Test.YteieknlkcodkcaaQx6
import Derived.Test.YteieknlkcodkcaaQx7
import Derived.Test.YteieknlkcodkcaaQxHOpens
import Derived.Test.YteieknlkcodkcaaQxHValid
import Derived.Test.YteieknlkcodkcaaQxMathA
import Derived.Test.YteieknlkcodkcaaQxMathB
import Derived.Test.YteieknlkcodkcaaQxMathC
import Derived.Test.YteieknlkcodkcaaQxMathS
namespace Go.Proofs.Yteieknlkcodkcaa.Q
open Go.RowKit Go.Proofs.YteieknlkcodkcaaW.PrintWords Go.Proofs.YteieknlkcodkcaaW.PrintLast Go.Proofs.YteieknlkcodkcaaW.PrintMore
attribute [local go_sem] max2_int min2_int max_two min_two max_three min_three max_four min_four   -- for this text's walks alone
set_option linter.unusedVariables false
set_option linter.unusedSimpArgs false

/-! Whether a division is fair: the program's two levels, and the reference's one. -/
theorem ceil_eq {W g : Int} (hW1 : 1 ≤ W) (hW2 : W ≤ 1048576) (h0 : 0 ≤ g) (h1 : g ≤ 1099511627776) :
    wrap64 ((wrap64 (Int.tdiv (wrap64 ((wrap64 (g + W)) - 1)) W)) - 1) = (g + W - 1) / W - 1 ∧ g ≤ W * ((g + W - 1) / W) ∧ 0 ≤ (g + W - 1) / W ∧ (g + W - 1) / W ≤ 1099511627777 := by
  have e := Int.mul_ediv_add_emod (g + W - 1) W
  have m0 := Int.emod_nonneg (g + W - 1) (show W ≠ 0 by omega)
  have m1 := Int.emod_lt_of_pos (g + W - 1) (show 0 < W by omega)
  have d0 : 0 ≤ (g + W - 1) / W := Int.ediv_nonneg (by omega) (by omega)
  have d1 : (g + W - 1) / W ≤ 1099511627777 := by
    by_cases c : (g + W - 1) / W ≤ 1099511627777
    · exact c
    · exfalso
      have := Int.mul_le_mul_of_nonneg_left (show (1099511627778 : Int) ≤ (g + W - 1) / W by omega) (show 0 ≤ W by omega)
      omega
  refine ⟨?_, by omega, d0, d1⟩
  rw [w64 (x := g + W) (by omega) (by omega), w64 (x := g + W - 1) (by omega) (by omega), Int.tdiv_eq_ediv_of_nonneg (by omega), w64 (x := (g + W - 1) / W) (by omega) (by omega), w64 (by omega) (by omega)]
theorem quot_eq {W g : Int} (hW1 : 1 ≤ W) (h0 : 0 ≤ g) (h1 : g ≤ 1099511627776) : wrap64 (Int.tdiv g W) = g / W ∧ 0 ≤ g / W ∧ g / W ≤ 1099511627776 := by
  have d0 : 0 ≤ g / W := Int.ediv_nonneg h0 (by omega)
  have d1 : g / W ≤ g := Int.ediv_le_self W h0
  rw [Int.tdiv_eq_ediv_of_nonneg h0, w64 (by omega) (by omega)]
  omega
/-- Shares with what they are given. -/
abbrev Ps := List (S32 × Int)
def fs (ps : Ps) : List S32 := ps.map Prod.fst
def gs (ps : Ps) : List Int := ps.map Prod.snd
theorem fs_len (ps : Ps) : (fs ps).length = ps.length := by simp [fs]
theorem gs_len (ps : Ps) : (gs ps).length = ps.length := by simp [gs]
theorem fs_mid (pre suf : Ps) (p : S32 × Int) : rd_T32 (fs (pre ++ p :: suf)) (pre.length : Int) = p.1 := by
  have := rd32_mid (fs pre) (fs suf) p.1
  simpa [fs] using this
theorem gs_mid (pre suf : Ps) (p : S32 × Int) : rd (gs (pre ++ p :: suf)) (pre.length : Int) = p.2 := by
  have := rd_mid (gs pre) (gs suf) p.2
  simpa [gs] using this
def okP (p : S32 × Int) : Prop := okS p.1 ∧ 0 ≤ p.2 ∧ p.2 ≤ p.1.f1
def loB (n : Int) (p : S32 × Int) : Bool := decide (p.2 < p.1.f1 → p.1.f0 * n ≤ p.2)
theorem within_go (n : Int) (h0 : 0 ≤ n) (h1 : n ≤ 1099511627776) : ∀ (suf pre : Ps), (∀ p ∈ suf, okP p ∧ p.2 ≤ p.1.f0 * (n + 1)) → (pre ++ suf).length ≤ 60 →
    Ev (fun k => weirgateref16_within.l0 k (fs (pre ++ suf)) (gs (pre ++ suf)) n (pre.length : Int)) (suf.all (loB n)) := by
  intro suf
  induction suf with
  | nil =>
    intro pre _ hl
    refine Ev.step (f := fun _ => some true) (fun k => ?_) (Ev.now true)
    simp only [weirgateref16_within.l0, List.append_nil, fs_len]
    rw [if_neg (by omega)]
  | cons p suf IH =>
    intro pre hs hl
    obtain ⟨⟨ok, g0, g1⟩, hb⟩ := hs p (by simp)
    have m := mul_bd (W := p.1.f0) (n := n) (by have := ok.1; omega) ok.2.1 h0 (by omega)
    have m1 := mul_bd (W := p.1.f0) (n := n + 1) (by have := ok.1; omega) ok.2.1 (by omega) (by omega)
    have ih := IH (pre ++ [p]) (fun q hq => hs q (by simp [hq])) (by simpa using hl)
    have hlen : (pre ++ p :: suf).length = pre.length + suf.length + 1 := by simp; omega
    simp only [List.append_assoc, List.singleton_append, List.length_append, List.length_cons, List.length_nil, Nat.zero_add] at ih
    have e : ∀ k, weirgateref16_within.l0 (k + 1) (fs (pre ++ p :: suf)) (gs (pre ++ p :: suf)) n (pre.length : Int) = if loB n p = true then weirgateref16_within.l0 k (fs (pre ++ p :: suf)) (gs (pre ++ p :: suf)) n ((pre.length : Int) + 1) else some false := fun k => by
      simp only [weirgateref16_within.l0, fs_len, gs_len]
      rw [if_pos (by omega), if_pos (by omega), if_pos (by omega), fs_mid, gs_mid, w64 (x := p.1.f0 * n) (by omega) (by omega), w64 (x := n + 1) (by omega) (by omega), w64 (x := p.1.f0 * (n + 1)) (by omega) (by omega), w64 (x := (pre.length : Int) + 1) (by omega) (by omega)]
      unfold loB
      by_cases c1 : p.2 < p.1.f1
      · by_cases c2 : p.2 < p.1.f0 * n
        · rw [if_pos c1, if_pos c2, if_neg (by simp; omega)]
        · rw [if_pos c1, if_neg c2, if_neg (by omega), if_pos (by simp; omega)]
      · rw [if_neg c1, if_neg (by omega), if_pos (by simp; omega)]
    cases hb : loB n p with
    | false => exact Ev.step (f := fun _ => some false) (fun k => by rw [e, if_neg (by simp [hb])]) (by simpa [hb] using Ev.now false)
    | true => exact Ev.step (f := fun k => weirgateref16_within.l0 k (fs (pre ++ p :: suf)) (gs (pre ++ p :: suf)) n ((pre.length : Int) + 1)) (fun k => by rw [e, if_pos hb]) (by simpa [hb] using ih)
theorem explains_go (cap : Int) : ∀ (suf pre : Ps) (sum wants low high : Int), (∀ p ∈ suf, okS p.1) → (pre ++ suf).length ≤ 60 →
    0 ≤ sum → sum ≤ (pre.length : Int) * 1099511627776 → 0 ≤ wants → wants ≤ (pre.length : Int) * 1099511627776 → 0 ≤ low → low ≤ 1099511627776 → 0 ≤ high → high ≤ 1099511627776 →
    (∀ p ∈ pre, okP p ∧ p.2 ≤ p.1.f0 * (low + 1)) → (∀ n, 0 ≤ n → n ≤ 1099511627776 → (n ≤ high ↔ pre.all (loB n) = true)) →
    ∃ b, Ev (fun k => quota_Explains.l0 k cap (gs (pre ++ suf)) sum wants low high (fs (pre ++ suf)) ((pre ++ suf).length : Int) (pre.length : Int)) b ∧
      Ev (fun k => weirgateref16_Explains.l0 k cap (fs (pre ++ suf)) (gs (pre ++ suf)) sum wants low (pre.length : Int)) b := by
  intro suf
  induction suf with
  | nil =>
    intro pre sum wants low high _ hl hs0 hs1 hw0 hw1 hlo0 hlo1 hhi0 hhi1 hp hh
    simp only [List.append_nil] at hl ⊢
    by_cases c : sum = mn cap wants
    · refine ⟨decide (low ≤ high), Ev.step (f := fun _ => some (decide (low ≤ high))) (fun k => ?_) (Ev.now _), Ev.step (f := fun k => (weirgateref16_within.f k (fs pre) (gs pre) low).bind fun t => some t) (fun k => ?_) ?_⟩
      · simp only [quota_Explains.l0]; rw [if_neg (by omega), if_pos c]
      · simp only [weirgateref16_Explains.l0, fs_len]; rw [if_neg (by omega), if_pos c]
      · have w := within_go low hlo0 hlo1 pre [] (fun p h => hp p h) (by simpa using hl)
        have e : pre.all (loB low) = decide (low ≤ high) := by
          have := hh low hlo0 hlo1
          by_cases d : low ≤ high
          · rw [this.1 d, decide_eq_true d]
          · rw [decide_eq_false d]
            cases hb : pre.all (loB low) with
            | false => rfl
            | true => exact absurd (this.2 hb) d
        rw [e] at w
        exact Ev.bind (f := fun _ t => some t) w (Ev.now _)
    · refine ⟨false, Ev.step (f := fun _ => some false) (fun k => ?_) (Ev.now _), Ev.step (f := fun _ => some false) (fun k => ?_) (Ev.now _)⟩
      · simp only [quota_Explains.l0]; rw [if_neg (by omega), if_neg c]
      · simp only [weirgateref16_Explains.l0, fs_len]; rw [if_neg (by omega), if_neg c]
  | cons p suf IH =>
    intro pre sum wants low high hs hl hs0 hs1 hw0 hw1 hlo0 hlo1 hhi0 hhi1 hp hh
    have ok := hs p (by simp)
    have hlen : (pre ++ p :: suf).length = pre.length + suf.length + 1 := by simp; omega
    obtain ⟨W1, W2, T0, T1⟩ := ok
    by_cases c : p.2 < 0 ∨ p.2 > p.1.f1
    · refine ⟨false, Ev.step (f := fun k => quota_Explains.j1 k cap (gs (pre ++ p :: suf)) sum wants low high (pre.length : Int) (fs (pre ++ p :: suf)) ((pre ++ p :: suf).length : Int) (pre.length : Int) true p.1.f0 p.1.f1) (fun k => ?_) (Ev.step (f := fun _ => some false) (fun k => ?_) (Ev.now _)), Ev.step (f := fun _ => some false) (fun k => ?_) (Ev.now _)⟩
      · simp only [quota_Explains.l0, fs_len, gs_len]
        rw [if_pos (by omega), if_pos (by omega), if_pos (by omega), if_pos (by omega), fs_mid, gs_mid]
        by_cases c1 : p.2 < 0
        · rw [if_pos c1]
        · rw [if_neg c1, decide_eq_true (by omega)]
      · simp only [quota_Explains.j1]; rw [if_pos trivial]
      · simp only [weirgateref16_Explains.l0, fs_len, gs_len]
        rw [if_pos (by omega), if_pos (by omega), if_pos (by omega), fs_mid, gs_mid]
        by_cases c1 : p.2 < 0
        · rw [if_pos c1]
        · rw [if_neg c1, if_pos (by omega)]
    have g0 : 0 ≤ p.2 := by omega
    have g1 : p.2 ≤ p.1.f1 := by omega
    obtain ⟨ce, cb, c0, c1⟩ := ceil_eq W1 W2 g0 (by omega : p.2 ≤ 1099511627776)
    obtain ⟨qe, q0, q1⟩ := quot_eq W1 g0 (by omega : p.2 ≤ 1099511627776)
    have hpl : ((pre ++ [p]).length : Int) = (pre.length : Int) + 1 := by simp
    have hp' : ∀ q ∈ pre ++ [p], okP q ∧ q.2 ≤ q.1.f0 * (max low ((p.2 + p.1.f0 - 1) / p.1.f0 - 1) + 1) := fun q hq => by
      rcases List.mem_append.1 hq with h | h
      · obtain ⟨ok, hb⟩ := hp q h
        have := Int.mul_le_mul_of_nonneg_left (show low + 1 ≤ max low ((p.2 + p.1.f0 - 1) / p.1.f0 - 1) + 1 by omega) (show 0 ≤ q.1.f0 by have := ok.1.1; omega)
        exact ⟨ok, by omega⟩
      · simp only [List.mem_singleton] at h
        subst h
        have := Int.mul_le_mul_of_nonneg_left (show (q.2 + q.1.f0 - 1) / q.1.f0 ≤ max low ((q.2 + q.1.f0 - 1) / q.1.f0 - 1) + 1 by omega) (show 0 ≤ q.1.f0 by omega)
        exact ⟨⟨⟨W1, W2, T0, T1⟩, g0, g1⟩, by omega⟩
    have hh' : ∀ n, 0 ≤ n → n ≤ 1099511627776 → (n ≤ (if p.2 < p.1.f1 then min high (p.2 / p.1.f0) else high) ↔ (pre ++ [p]).all (loB n) = true) := fun n n0 n1 => by
      have a := hh n n0 n1
      have b : n ≤ p.2 / p.1.f0 ↔ p.1.f0 * n ≤ p.2 := by rw [Int.le_ediv_iff_mul_le (by omega), Int.mul_comm]
      rw [List.all_append, Bool.and_eq_true, ← a]
      simp only [List.all_cons, List.all_nil, Bool.and_true, loB, decide_eq_true_eq]
      by_cases d : p.2 < p.1.f1
      · rw [if_pos d]
        constructor
        · intro x; exact ⟨by omega, fun _ => b.1 (by omega)⟩
        · intro x; have := b.2 (x.2 d); omega
      · rw [if_neg d]
        constructor
        · intro x; exact ⟨x, fun y => absurd y d⟩
        · intro x; exact x.1
    obtain ⟨b, hq, hr⟩ := IH (pre ++ [p]) (sum + p.2) (wants + p.1.f1) (max low ((p.2 + p.1.f0 - 1) / p.1.f0 - 1)) (if p.2 < p.1.f1 then min high (p.2 / p.1.f0) else high) (fun q hq => hs q (by simp [hq])) (by simpa using hl) (by omega) (by rw [hpl]; omega) (by omega) (by rw [hpl]; omega) (by omega) (by omega) (by split <;> omega) (by split <;> omega) hp' hh'
    simp only [List.append_assoc, List.singleton_append, hpl] at hq hr
    refine ⟨b, Ev.step (f := fun k => quota_Explains.j1 k cap (gs (pre ++ p :: suf)) sum wants low high (pre.length : Int) (fs (pre ++ p :: suf)) ((pre ++ p :: suf).length : Int) (pre.length : Int) false p.1.f0 p.1.f1) (fun k => ?_) (Ev.step (fun k => ?_) hq), Ev.step (fun k => ?_) hr⟩
    · simp only [quota_Explains.l0, fs_len, gs_len]
      rw [if_pos (by omega), if_pos (by omega), if_pos (by omega), if_pos (by omega), fs_mid, gs_mid, if_neg (by omega), decide_eq_false (by omega)]
    · simp only [quota_Explains.j1, fs_len, gs_len]
      rw [if_neg (by simp), if_pos (by omega), if_pos (by omega), if_neg (by omega), gs_mid, ce, qe, w64 (x := sum + p.2) (by omega) (by omega), w64 (x := wants + p.1.f1) (by omega) (by omega), w64 (x := (pre.length : Int) + 1) (by omega) (by omega)]
      simp only [mx_max, mn_min]
      by_cases d : p.2 < p.1.f1
      · rw [if_pos d, if_pos d]
      · rw [if_neg d, if_neg d]
    · simp only [weirgateref16_Explains.l0, fs_len, gs_len]
      rw [if_pos (by omega), if_pos (by omega), if_pos (by omega), fs_mid, gs_mid, if_neg (by omega), if_neg (by omega), if_neg (by omega), ce, w64 (x := sum + p.2) (by omega) (by omega), w64 (x := wants + p.1.f1) (by omega) (by omega), w64 (x := (pre.length : Int) + 1) (by omega) (by omega)]
      simp only [mx_max]
theorem explains_ev {l : List S32} (h : okL l) (cap : Int) (given : List Int) : ∃ b, Ev (fun k => quota_Explains.f k cap l given) b ∧ Ev (fun k => weirgateref16_Explains.f k cap l given) b := by
  unfold quota_Explains.f weirgateref16_Explains.f
  by_cases c : (given.length : Int) = (l.length : Int)
  · simp only [if_pos c]
    have e1 : fs (l.zip given) = l := List.map_fst_zip (by omega)
    have e2 : gs (l.zip given) = given := List.map_snd_zip (by omega)
    have e3 : (l.zip given).length = l.length := by rw [List.length_zip]; omega
    obtain ⟨b, p, q⟩ := explains_go cap (l.zip given) [] 0 0 0 1099511627776 (fun p hp => h.2 p.1 (by
      rw [← e1]
      exact List.mem_map_of_mem hp)) (by simp only [List.nil_append, e3]; exact h.1) (by omega) (by simp) (by omega) (by simp) (by omega) (by omega) (by omega) (by omega) (fun p hp => by simp at hp) (fun n _ hn => by simp; exact hn)
    simp only [List.nil_append, e1, e2, e3, List.length_nil] at p q
    exact ⟨b, p, q⟩
  · simp only [if_neg c]
    exact ⟨false, Ev.now _, Ev.now _⟩
theorem shares_ok {n : Int} {l : List S32} (given : List Int) (h : okL l) (hn0 : 0 ≤ n) (hn1 : n ≤ 1099511627776) : Ev (fun k => weirgatelaw16_QuotaSharesAsSpecified.j0 k n l given false) true := by
  obtain ⟨x, Lx, q1, r1, f1, g1⟩ := fair_ev h hn0 hn1
  obtain ⟨b, e1, e2⟩ := explains_ev h n given
  refine Ev.step (fun k => by simp only [weirgatelaw16_QuotaSharesAsSpecified.j0]; rw [if_neg (by simp)]) (Ev.bind sanity_ev ?_)
  simp only [if_true]
  refine Ev.bind q1 (Ev.bind r1 ?_)
  simp only [if_true]
  refine Ev.bind f1 (Ev.bind g1 (Ev.bind (Same_ev (by rw [fairGo_length]; have := h.1; omega)) ?_))
  simp only [if_true]
  refine Ev.bind e1 (Ev.bind e2 ?_)
  simpa using Ev.now true
theorem QuotaSharesAsSpecified_ev (a0 : Int) (w0 : (Lit.int .i64 a0).wf = true) (l1 : List S32) (w1 : ∀ s ∈ l1, wf32 s) (l2 : List Int) (w2 : ∀ s ∈ l2, (Lit.int .i64 s).wf = true) : Ev (fun k => weirgatelaw16_QuotaSharesAsSpecified.f k a0 l1 l2) true := by
  have J : Ev (fun k => weirgatelaw16_QuotaSharesAsSpecified.j0 k a0 l1 l2 true) true :=
    Ev.step (f := fun k => (weirgatelaw16_sanity.f k).bind fun t => some t) (fun k => by simp only [weirgatelaw16_QuotaSharesAsSpecified.j0]; rw [if_pos trivial]) (Ev.bind sanity_ev (Ev.now true))
  unfold weirgatelaw16_QuotaSharesAsSpecified.f
  by_cases hl : (l1.length : Int) > 60
  · simp only [if_pos hl]; exact Ev.bind sanity_ev (Ev.now true)
  simp only [if_neg hl, Valid_eq (by omega : l1.length ≤ 60), Option.bind_some]
  refine Ev.bind (RefValid_ev (by omega)) ?_
  simp only [bne_self_eq_false, Bool.false_eq_true, if_false]
  refine Ev.bind (RefValid_ev (by omega)) ?_
  cases hv : l1.any badShare with
  | true => simpa using J
  | false =>
    have ok := ok_of_valid (by omega : l1.length ≤ 60) hv
    simp only [Bool.not_false, if_true, cap_eq, Option.bind_some]
    by_cases c0 : 0 ≤ a0 ∧ a0 ≤ 1099511627776
    · simp only [decide_eq_true c0]
      exact shares_ok l2 ok c0.1 c0.2
    · simp only [decide_eq_false c0]; simpa using J

end Go.Proofs.Yteieknlkcodkcaa.Q
