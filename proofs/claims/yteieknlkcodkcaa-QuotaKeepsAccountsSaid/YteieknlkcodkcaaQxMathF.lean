-- Written by wip/tools/drive.py out of the translation (the kit's print.py, with hand-proved functions beside). Not trusted: Lean checks it.
import Derived.Test.YteieknlkcodkcaaQx0
import Derived.Test.YteieknlkcodkcaaQx10
import Derived.Test.YteieknlkcodkcaaQx9
import Derived.Test.YteieknlkcodkcaaQxHOpen
import Derived.Test.YteieknlkcodkcaaQxHOpens
import Derived.Test.YteieknlkcodkcaaQxHPlace
import Derived.Test.YteieknlkcodkcaaQxHUse
import Derived.Test.YteieknlkcodkcaaQxMathA
import Derived.Test.YteieknlkcodkcaaQxMathE
import Derived.Test.YteieknlkcodkcaaQxMathS
import Derived.OpenShut
namespace Go.Proofs.Yteieknlkcodkcaa.Q
open Go.RowKit Go.Proofs.YteieknlkcodkcaaW.PrintWords Go.Proofs.YteieknlkcodkcaaW.PrintLast Go.Proofs.YteieknlkcodkcaaW.PrintMore
attribute [local go_sem] max2_int min2_int max_two min_two max_three min_three max_four min_four   -- for this text's walks alone
set_option linter.unusedVariables false
set_option linter.unusedSimpArgs false

-- @import Derived.OpenShut
/-! Open and Use: the program's and the reference's. -/
theorem accP_put : ∀ (pre suf : List S53) (n : S53) (last : Int), accP last (pre ++ suf) → (∀ x ∈ pre, x.f0 < n.f0) → (∀ x ∈ suf, n.f0 < x.f0) → last < n.f0 → okA n → accP last (pre ++ n :: suf)
  | [], [], n, last, _, _, _, hl, ho => ⟨hl, ho, trivial⟩
  | [], b :: suf, n, last, h, _, h2, hl, ho => ⟨hl, ho, h2 b (by simp), h.2.1, h.2.2⟩
  | a :: pre, suf, n, last, h, h1, h2, hl, ho => ⟨h.1, h.2.1, accP_put pre suf n a.f0 h.2.2 (fun x hx => h1 x (by simp [hx])) h2 (h1 a (by simp)) ho⟩
theorem accP_swap : ∀ (pre suf : List S53) (a n : S53) (last : Int), accP last (pre ++ a :: suf) → n.f0 = a.f0 → okA n → accP last (pre ++ n :: suf)
  | [], suf, a, n, last, h, e, ho => ⟨by rw [e]; exact h.1, ho, by rw [e]; exact h.2.2⟩
  | b :: pre, suf, a, n, last, h, e, ho => ⟨h.1, h.2.1, accP_swap pre suf a n b.f0 h.2.2 e ho⟩
theorem open_done (t wt : Int) : ∀ (suf pre out : List S53), (pre ++ suf).length ≤ 1000 → out.length ≤ pre.length + 1 →
    Ev (fun k => weirgateref16_Open.l0 k (pre ++ suf) t wt out true (pre.length : Int)) (out ++ suf, 0) := by
  intro suf
  induction suf with
  | nil =>
    intro pre out hl ho
    refine Ev.step (f := fun _ => some (out, 0)) (fun k => ?_) (by simpa using Ev.now (out, (0 : Int)))
    simp only [weirgateref16_Open.l0, List.append_nil]
    rw [if_neg (by omega), if_pos trivial]
  | cons a suf IH =>
    intro pre out hl ho
    have hlen : (pre ++ a :: suf).length = pre.length + suf.length + 1 := by simp; omega
    have hpl : ((pre ++ [a]).length : Int) = (pre.length : Int) + 1 := by simp
    have ih := IH (pre ++ [a]) (out ++ [a]) (by simpa using hl) (by simp; omega)
    simp only [List.append_assoc, List.singleton_append, hpl] at ih
    refine Ev.step (fun k => ?_) ih
    simp only [weirgateref16_Open.l0]
    rw [if_pos (by omega), if_pos trivial, if_pos (by omega), if_pos (by omega), rd53_mid, w64 (x := (pre.length : Int) + 1) (by omega) (by omega)]
theorem open_go (t wt : Int) : ∀ (mid pre suf : List S53), (∀ x ∈ mid, x.f0 < t) → (∀ x ∈ suf, t < x.f0) → (pre ++ (mid ++ suf)).length ≤ 999 →
    Ev (fun k => weirgateref16_Open.l0 k (pre ++ (mid ++ suf)) t wt pre false (pre.length : Int)) (pre ++ (mid ++ ⟨t, wt, 0⟩ :: suf), 0) := by
  intro mid
  induction mid with
  | nil =>
    intro pre suf _ h2 hl
    simp only [List.nil_append] at hl ⊢
    cases suf with
    | nil =>
      refine Ev.step (f := fun _ => some (pre ++ [⟨t, wt, 0⟩], 0)) (fun k => ?_) (Ev.now _)
      simp only [weirgateref16_Open.l0, List.append_nil]
      simp only [List.append_nil] at hl
      rw [if_neg (by omega), if_neg (by simp), if_pos (by omega)]
    | cons a suf =>
      have hlen : (pre ++ a :: suf).length = pre.length + suf.length + 1 := by simp; omega
      have hpl : ((pre ++ [a]).length : Int) = (pre.length : Int) + 1 := by simp
      have d := open_done t wt suf (pre ++ [a]) (pre ++ ([⟨t, wt, 0⟩] ++ [a])) (by simp; simp at hl; omega) (by simp)
      simp only [List.append_assoc, List.singleton_append, List.cons_append, List.nil_append, hpl] at d
      refine Ev.step (fun k => ?_) d
      simp only [weirgateref16_Open.l0]
      have := h2 a (by simp)
      rw [if_pos (by omega), if_neg (by simp), if_pos (by omega), rd53_mid, if_pos (by omega), if_pos (by omega), Option.bind_some, if_pos (by simp; omega), w64 (x := (pre.length : Int) + 1) (by omega) (by omega)]
      simp only [List.append_assoc, List.singleton_append]
  | cons a mid IH =>
    intro pre suf h1 h2 hl
    have hlen : (pre ++ (a :: mid ++ suf)).length = pre.length + mid.length + suf.length + 1 := by simp; omega
    have hpl : ((pre ++ [a]).length : Int) = (pre.length : Int) + 1 := by simp
    have ih := IH (pre ++ [a]) suf (fun x hx => h1 x (by simp [hx])) h2 (by simpa using hl)
    simp only [List.append_assoc, List.singleton_append, hpl] at ih
    refine Ev.step (fun k => ?_) ih
    simp only [weirgateref16_Open.l0]
    have := h1 a (by simp)
    rw [if_pos (by omega), if_neg (by simp), if_pos (by omega), List.cons_append, rd53_mid, if_neg (by omega), if_pos (by omega), w64 (x := (pre.length : Int) + 1) (by omega) (by omega)]
/-- Sound accounts. -/
structure okAs (l : List S53) : Prop where
  len : l.length ≤ 60
  acc : accP 0 l
  top : ∀ x ∈ l, x.f0 ≤ 9223372036854775807
theorem okAs.okA {l : List S53} (h : okAs l) : ∀ a ∈ l, okA a := fun a ha => (accP_mem l 0 h.acc a ha).2
theorem open_ev {l : List S53} (h : okAs l) {t wt : Int} (ht0 : -9223372036854775808 ≤ t) (ht1 : t ≤ 9223372036854775807) :
    ∃ L e, Ev (fun k => quota_Open.f k l t wt) (L, e) ∧ Ev (fun k => weirgateref16_Open.f k l t wt) (L, e) ∧ L.length ≤ 1000 ∧ accP 0 L := by
  have hlen := h.len
  have bad : (t < 1 ∨ wt < 1 ∨ wt > 1048576) → Ev (fun k => weirgateref16_Open.f k l t wt) (([] : List S53), 1) := fun c => by
    have J : Ev (fun k => weirgateref16_Open.j0 k l t wt true) (([] : List S53), 1) := Ev.step (f := fun _ => some ([], 1)) (fun k => by simp only [weirgateref16_Open.j0]; rw [if_pos trivial]) (Ev.now _)
    refine Ev.congr (fun k => ?_) J
    unfold weirgateref16_Open.f
    by_cases c1 : t < 1
    · rw [if_pos c1]
    · by_cases c2 : wt < 1
      · rw [if_neg c1, if_pos c2]
      · rw [if_neg c1, if_neg c2, decide_eq_true (by omega)]
  have good : ¬ (t < 1 ∨ wt < 1 ∨ wt > 1048576) → ∀ {r}, Ev (fun k => weirgateref16_Open.j0 k l t wt false) r → Ev (fun k => weirgateref16_Open.f k l t wt) r := fun c r hr => by
    refine Ev.congr (fun k => ?_) hr
    unfold weirgateref16_Open.f
    rw [if_neg (by omega), if_neg (by omega), decide_eq_false (by omega)]
  have qbad : ∀ {p}, Ev (fun k => quota_place.f k l t) p → (t < 1 ∨ wt < 1 ∨ wt > 1048576) → Ev (fun k => quota_Open.f k l t wt) (([] : List S53), 1) := fun {p} hp c => by
    unfold quota_Open.f
    refine Ev.bind hp ?_
    by_cases c1 : t < 1
    · simp only [if_pos c1]; exact Ev.now _
    · by_cases c2 : wt < 1
      · simp only [if_neg c1, if_pos c2]; exact Ev.now _
      · simp only [if_neg c1, if_neg c2, if_pos (show wt > 1048576 by omega)]; exact Ev.now _
  rcases place_ev (by omega) h.acc h.top ht0 ht1 with ⟨pre, a, suf, e, ea, h1, h2, hq, hr⟩ | ⟨i, hq, hr, hx, hs⟩
  · by_cases c : t < 1 ∨ wt < 1 ∨ wt > 1048576
    · exact ⟨[], 1, qbad hq c, bad c, by simp, trivial⟩
    · refine ⟨[], 6, ?_, good c (Ev.step (fun k => by simp only [weirgateref16_Open.j0]; rw [if_neg (by simp)]) (Ev.bind hr ?_)), by simp, trivial⟩
      · unfold quota_Open.f
        refine Ev.bind hq ?_
        simp only [if_neg (show ¬ t < 1 by omega), if_neg (show ¬ wt < 1 by omega), if_neg (show ¬ wt > 1048576 by omega), if_true]
        exact Ev.now _
      · simp only [if_pos (show (pre.length : Int) ≥ 0 by omega)]
        exact Ev.now _
  · by_cases c : t < 1 ∨ wt < 1 ∨ wt > 1048576
    · exact ⟨[], 1, qbad hq c, bad c, by simp, trivial⟩
    · obtain ⟨pre, suf, e, ei, h1, h2⟩ := hs (by omega)
      have hl2 : pre.length + suf.length = l.length := by rw [e]; simp
      refine ⟨pre ++ ⟨t, wt, 0⟩ :: suf, 0, ?_, good c (Ev.step (fun k => by simp only [weirgateref16_Open.j0]; rw [if_neg (by simp)]) (Ev.bind hr ?_)), by simp; omega, ?_⟩
      · unfold quota_Open.f
        refine Ev.bind hq ?_
        simp only [if_neg (show ¬ t < 1 by omega), if_neg (show ¬ wt < 1 by omega), if_neg (show ¬ wt > 1048576 by omega), Bool.false_eq_true, if_false, if_neg (show ¬ (l.length : Int) ≥ 1000 by omega)]
        have ei' : i.toNat = pre.length := by omega
        rw [ei', e, List.take_left, List.drop_left]
        exact Ev.now _
      · simp only [if_neg (show ¬ (-1 : Int) ≥ 0 by omega), if_neg (show ¬ (l.length : Int) ≥ 1000 by omega)]
        have o := open_go t wt pre [] suf h1 h2 (by simp; omega)
        rw [e]
        simpa using o
      · exact accP_put pre suf ⟨t, wt, 0⟩ 0 (e ▸ h.acc) h1 h2 (show (0 : Int) < t by omega) ⟨by simp only; omega, by simp only; omega, by simp, by simp⟩
theorem use_ev {l : List S53} (h : okAs l) {t more : Int} (ht0 : -9223372036854775808 ≤ t) (ht1 : t ≤ 9223372036854775807) :
    ∃ L e, Ev (fun k => quota_Use.f k l t more) (L, e) ∧ Ev (fun k => weirgateref16_Use.f k l t more) (L, e) ∧ L.length ≤ 1000 ∧ accP 0 L := by
  have hlen := h.len
  rcases place_ev (by omega) h.acc h.top ht0 ht1 with ⟨pre, a, suf, e, ea, h1, h2, hq, hr⟩ | ⟨i, hq, hr, hx, hs⟩
  · have ok := h.okA a (by rw [e]; simp)
    have ra : rd_T53 l (pre.length : Int) = a := by rw [e]; exact rd53_mid pre suf a
    have hl2 : pre.length + suf.length + 1 = l.length := by rw [e]; simp; omega
    have Q : ∀ {r}, Ev (fun k => (if more > 1099511627776 then some ([], 1) else if more < -1099511627776 then some ([], 1) else if wrap64 (a.f2 + more) < 0 then some ([], 1) else if wrap64 (a.f2 + more) > 1099511627776 then some ([], 1) else some (l.set pre.length ⟨a.f0, a.f1, wrap64 (a.f2 + more)⟩, 0) : Option (List S53 × Int))) r → Ev (fun k => quota_Use.f k l t more) r := fun {r} hr => by
      unfold quota_Use.f
      refine Ev.bind hq ?_
      simp only [if_true, ra, Int.toNat_natCast]
      exact hr
    have R : ∀ {r}, Ev (fun k => (if more > 1099511627776 then some ([], 1) else if more < -1099511627776 then some ([], 1) else if wrap64 (a.f2 + more) < 0 then some ([], 1) else if wrap64 (a.f2 + more) > 1099511627776 then some ([], 1) else some (l.set pre.length ⟨a.f0, a.f1, wrap64 (a.f2 + more)⟩, 0) : Option (List S53 × Int))) r → Ev (fun k => weirgateref16_Use.f k l t more) r := fun {r} hr' => by
      unfold weirgateref16_Use.f
      refine Ev.bind hr ?_
      simp only [if_neg (show ¬ (pre.length : Int) < 0 by omega), if_pos (show 0 ≤ (pre.length : Int) by omega), if_pos (show (pre.length : Int) < (l.length : Int) by omega), Option.bind_some, List.nil_append, List.length_nil, Nat.zero_add, if_pos (show l.length < 5864062014805 by omega), ra, Int.toNat_natCast]
      exact hr'
    by_cases c1 : more > 1099511627776
    · exact ⟨[], 1, Q (by simp only [if_pos c1]; exact Ev.now _), R (by simp only [if_pos c1]; exact Ev.now _), by simp, trivial⟩
    · by_cases c2 : more < -1099511627776
      · exact ⟨[], 1, Q (by simp only [if_neg c1, if_pos c2]; exact Ev.now _), R (by simp only [if_neg c1, if_pos c2]; exact Ev.now _), by simp, trivial⟩
      · have w : wrap64 (a.f2 + more) = a.f2 + more := by have := ok.2.2; exact w64 (by omega) (by omega)
        rw [w] at Q R
        by_cases c3 : a.f2 + more < 0
        · exact ⟨[], 1, Q (by simp only [if_neg c1, if_neg c2, if_pos c3]; exact Ev.now _), R (by simp only [if_neg c1, if_neg c2, if_pos c3]; exact Ev.now _), by simp, trivial⟩
        · by_cases c4 : a.f2 + more > 1099511627776
          · exact ⟨[], 1, Q (by simp only [if_neg c1, if_neg c2, if_neg c3, if_pos c4]; exact Ev.now _), R (by simp only [if_neg c1, if_neg c2, if_neg c3, if_pos c4]; exact Ev.now _), by simp, trivial⟩
          · refine ⟨l.set pre.length ⟨a.f0, a.f1, a.f2 + more⟩, 0, Q (by simp only [if_neg c1, if_neg c2, if_neg c3, if_neg c4]; exact Ev.now _), R (by simp only [if_neg c1, if_neg c2, if_neg c3, if_neg c4]; exact Ev.now _), by simp; omega, ?_⟩
            have es : l.set pre.length ⟨a.f0, a.f1, a.f2 + more⟩ = pre ++ ⟨a.f0, a.f1, a.f2 + more⟩ :: suf := by
              rw [e, List.set_append_right _ _ (Nat.le_refl _), Nat.sub_self]; rfl
            rw [es]
            exact accP_swap pre suf a _ 0 (e ▸ h.acc) rfl ⟨ok.1, ok.2.1, by simp only; omega, by simp only; omega⟩
  · refine ⟨[], 5, ?_, ?_, by simp, trivial⟩
    · unfold quota_Use.f
      refine Ev.bind hq ?_
      simp only [Bool.false_eq_true, if_false]
      exact Ev.now _
    · unfold weirgateref16_Use.f
      refine Ev.bind hr ?_
      simp only [if_pos (show (-1 : Int) < 0 by omega)]
      exact Ev.now _
theorem same53_go : ∀ (suf pre : List S53) (a : List S53), a = pre ++ suf → a.length ≤ 1000 → Ev (fun k => weirgateref16_SameAccounts.l0 k a a (pre.length : Int)) true := by
  intro suf
  induction suf with
  | nil =>
    intro pre a ha hl
    refine Ev.step (f := fun _ => some true) (fun k => ?_) (Ev.now true)
    subst ha
    simp only [weirgateref16_SameAccounts.l0, List.append_nil]
    rw [if_neg (by omega)]
  | cons s suf IH =>
    intro pre a ha hl
    have ih := IH (pre ++ [s]) a (by simpa using ha) hl
    have hlen : a.length = pre.length + suf.length + 1 := by rw [ha]; simp; omega
    refine Ev.step (f := fun k => weirgateref16_SameAccounts.l0 k a a ((pre.length : Int) + 1)) (fun k => ?_) (by simpa using ih)
    simp only [weirgateref16_SameAccounts.l0]
    rw [if_pos (by omega), if_pos (by omega), if_pos (by omega), if_neg (by simp), w64 (x := (pre.length : Int) + 1) (by omega) (by omega)]
theorem same53_ev {a : List S53} (hl : a.length ≤ 1000) : Ev (fun k => weirgateref16_SameAccounts.f k a a) true := by
  refine Ev.congr (fun k => ?_) (same53_go a [] a rfl hl)
  unfold weirgateref16_SameAccounts.f
  rw [if_pos rfl]
  rfl
theorem okAs_of {l : List S53} (hl : l.length ≤ 60) (hb : accB 0 l = true) (hw : ∀ s ∈ l, wf53 s) : okAs l := ⟨hl, (accB_iff l 0).1 hb, fun x hx => (Go.bounds_i64 (hw x hx).1).2⟩
theorem QuotaKeepsAccounts_ev (l0 : List S53) (w0 : ∀ s ∈ l0, wf53 s) (a1 : Int) (w1 : (Lit.int .i64 a1).wf = true) (a2 : Int) (w2 : (Lit.int .i64 a2).wf = true) (a3 : Int) (w3 : (Lit.int .i64 a3).wf = true) : Ev (fun k => weirgatelaw16_QuotaKeepsAccounts.f k l0 a1 a2 a3) true := by
  unfold weirgatelaw16_QuotaKeepsAccounts.f
  by_cases hl : (l0.length : Int) > 60
  · simp only [if_pos hl]; exact Ev.bind sanity_ev (Ev.now true)
  simp only [if_neg hl]
  obtain ⟨p, q⟩ := accounts_ev (show l0.length ≤ 1000 by omega)
  refine Ev.bind p (Ev.bind q ?_)
  simp only [bne_self_eq_false, Bool.false_eq_true, if_false]
  refine Ev.bind q ?_
  cases hb : accB 0 l0 with
  | false => simp only [Bool.false_eq_true, if_false]; exact Ev.bind sanity_ev (Ev.now true)
  | true =>
    have ok := okAs_of (by omega) hb w0
    have b1 := Go.bounds_i64 w1
    obtain ⟨L, e, o1, o2, oL, oP⟩ := open_ev ok (wt := a2) b1.1 b1.2
    obtain ⟨M, f, u1, u2, uL, uP⟩ := use_ev ok (more := a3) b1.1 b1.2
    obtain ⟨t1, t2⟩ := total_ev ok.okA (by have := ok.len; omega)
    simp only [if_true]
    refine Ev.bind o1 (Ev.bind o2 (Ev.bind u1 (Ev.bind u2 (Ev.bind sanity_ev ?_))))
    simp only [if_true]
    refine Ev.bind (same53_ev oL) ?_
    simp only [if_true]
    refine Ev.bind (same53_ev uL) ?_
    simp only [if_true]
    have v1 := (accounts_ev oL).1
    have v2 := (accounts_ev uL).1
    rw [(accB_iff _ _).2 oP] at v1
    rw [(accB_iff _ _).2 uP] at v2
    refine Ev.bind v1 ?_
    simp only [if_true]
    refine Ev.bind v2 ?_
    simp only [if_true]
    refine Ev.bind t1 (Ev.bind t2 ?_)
    simpa using Ev.now true

end Go.Proofs.Yteieknlkcodkcaa.Q
