/- Texts of this claim, part 3: the walks of the functions that the law calls, and the plain mathematics of what they answer. -/
import Derived.OpenShut
import Derived.Test.YteieknlkcodkcaaKQuotaChoosesAsSpecified2
namespace Go.Proofs.Yteieknlkcodkcaa.Q
open Go.RowKit Go.Proofs.YteieknlkcodkcaaW.PrintWords Go.Proofs.YteieknlkcodkcaaW.PrintLast Go.Proofs.YteieknlkcodkcaaW.PrintMore
attribute [local go_sem] max2_int min2_int max_two min_two max_three min_three max_four min_four   -- for this text's walks alone
set_option linter.unusedVariables false
set_option linter.unusedSimpArgs false

/-! Plain mathematics of accounts: what is valid, places, totals. -/
theorem rd53_mid (pre suf : List S53) (a : S53) : rd_T53 (pre ++ a :: suf) (pre.length : Int) = a := by
  simp [rd_T53, List.getD_eq_getElem?_getD]
def okA (a : S53) : Prop := 1 ≤ a.f1 ∧ a.f1 ≤ 1048576 ∧ 0 ≤ a.f2 ∧ a.f2 ≤ 1099511627776
instance (a : S53) : Decidable (okA a) := by unfold okA; infer_instance
def accB : Int → List S53 → Bool
  | _, [] => true
  | last, a :: l => decide (last < a.f0 ∧ okA a) && accB a.f0 l
theorem acc_step (a : S53) (last : Int) (t : Option Bool) : (if a.f0 ≤ last then some false else (if a.f1 < 1 then some false else (if a.f1 > 1048576 then some false else (if a.f2 < 0 then some false else (if a.f2 > 1099511627776 then some false else t))))) = if last < a.f0 ∧ okA a then t else some false := by
  unfold okA
  by_cases c1 : a.f0 ≤ last
  · rw [if_pos c1, if_neg (by omega)]
  · by_cases c2 : a.f1 < 1
    · rw [if_neg c1, if_pos c2, if_neg (by omega)]
    · by_cases c3 : a.f1 > 1048576
      · rw [if_neg c1, if_neg c2, if_pos c3, if_neg (by omega)]
      · by_cases c4 : a.f2 < 0
        · rw [if_neg c1, if_neg c2, if_neg c3, if_pos c4, if_neg (by omega)]
        · by_cases c5 : a.f2 > 1099511627776
          · rw [if_neg c1, if_neg c2, if_neg c3, if_neg c4, if_pos c5, if_neg (by omega)]
          · rw [if_neg c1, if_neg c2, if_neg c3, if_neg c4, if_neg c5, if_pos (by omega)]
theorem accounts_go : ∀ (suf pre : List S53) (last : Int), (pre ++ suf).length ≤ 1000 →
    Ev (fun k => quota_Accounts.l0 k (pre ++ suf) last (pre ++ suf) ((pre ++ suf).length : Int) (pre.length : Int)) (accB last suf) ∧ Ev (fun k => weirgateref16_Accounts.l0 k (pre ++ suf) last (pre.length : Int)) (accB last suf) := by
  intro suf
  induction suf with
  | nil =>
    intro pre last hl
    simp only [List.append_nil] at hl ⊢
    refine ⟨Ev.step (f := fun _ => some true) (fun k => ?_) (Ev.now true), Ev.step (f := fun _ => some true) (fun k => ?_) (Ev.now true)⟩
    · simp only [quota_Accounts.l0]; rw [if_neg (by omega), decide_eq_true (by omega)]
    · simp only [weirgateref16_Accounts.l0]; rw [if_neg (by omega), decide_eq_true (by omega)]
  | cons a suf IH =>
    intro pre last hl
    obtain ⟨i1, i2⟩ := IH (pre ++ [a]) a.f0 (by simpa using hl)
    have hlen : (pre ++ a :: suf).length = pre.length + suf.length + 1 := by simp; omega
    have hpl : ((pre ++ [a]).length : Int) = (pre.length : Int) + 1 := by simp
    simp only [List.append_assoc, List.singleton_append, hpl] at i1 i2
    have e1 : ∀ k, quota_Accounts.l0 (k + 1) (pre ++ a :: suf) last (pre ++ a :: suf) ((pre ++ a :: suf).length : Int) (pre.length : Int) = if last < a.f0 ∧ okA a then quota_Accounts.l0 k (pre ++ a :: suf) a.f0 (pre ++ a :: suf) ((pre ++ a :: suf).length : Int) ((pre.length : Int) + 1) else some false := fun k => by
      simp only [quota_Accounts.l0]
      rw [if_pos (by omega), if_pos (by omega), if_pos (by omega), rd53_mid, w64 (x := (pre.length : Int) + 1) (by omega) (by omega), acc_step]
    have e2 : ∀ k, weirgateref16_Accounts.l0 (k + 1) (pre ++ a :: suf) last (pre.length : Int) = if last < a.f0 ∧ okA a then weirgateref16_Accounts.l0 k (pre ++ a :: suf) a.f0 ((pre.length : Int) + 1) else some false := fun k => by
      simp only [weirgateref16_Accounts.l0]
      rw [if_pos (by omega), if_pos (by omega), rd53_mid, w64 (x := (pre.length : Int) + 1) (by omega) (by omega), acc_step]
    by_cases c : last < a.f0 ∧ okA a
    · have e : accB last (a :: suf) = accB a.f0 suf := by simp only [accB, decide_eq_true c, Bool.true_and]
      rw [e]
      exact ⟨Ev.step (fun k => by rw [e1, if_pos c]) i1, Ev.step (fun k => by rw [e2, if_pos c]) i2⟩
    · have e : accB last (a :: suf) = false := by simp only [accB, decide_eq_false c, Bool.false_and]
      rw [e]
      exact ⟨Ev.step (f := fun _ => some false) (fun k => by rw [e1, if_neg c]) (Ev.now _), Ev.step (f := fun _ => some false) (fun k => by rw [e2, if_neg c]) (Ev.now _)⟩
theorem accounts_ev {l : List S53} (hl : l.length ≤ 1000) : Ev (fun k => quota_Accounts.f k l) (accB 0 l) ∧ Ev (fun k => weirgateref16_Accounts.f k l) (accB 0 l) := by
  have := accounts_go l [] 0 (by simpa using hl)
  simpa [quota_Accounts.f, weirgateref16_Accounts.f] using this
/-- Sorted and sound, beyond a number. -/
def accP : Int → List S53 → Prop
  | _, [] => True
  | last, a :: l => last < a.f0 ∧ okA a ∧ accP a.f0 l
theorem accB_iff : ∀ (l : List S53) (last : Int), accB last l = true ↔ accP last l
  | [], _ => by simp [accB, accP]
  | a :: l, last => by
    simp only [accB, accP, Bool.and_eq_true, decide_eq_true_eq, accB_iff l, and_assoc]
theorem accP_mem : ∀ (l : List S53) (last : Int), accP last l → ∀ a ∈ l, last < a.f0 ∧ okA a
  | [], _, _, a, h => by simp at h
  | b :: l, last, h, a, ha => by
    rcases List.mem_cons.1 ha with e | e
    · subst e; exact ⟨h.1, h.2.1⟩
    · have := accP_mem l b.f0 h.2.2 a e
      exact ⟨by have := h.1; omega, this.2⟩
/-- Where a tenant lies, or would lie. -/
theorem split_at : ∀ (l : List S53) (last n : Int), accP last l → ∃ pre suf, l = pre ++ suf ∧ (∀ x ∈ pre, x.f0 < n) ∧ ∀ x ∈ suf, n ≤ x.f0
  | [], _, _, _ => ⟨[], [], rfl, fun x h => by simp at h, fun x h => by simp at h⟩
  | a :: l, last, n, h => by
    by_cases c : a.f0 < n
    · obtain ⟨pre, suf, e, h1, h2⟩ := split_at l a.f0 n h.2.2
      refine ⟨a :: pre, suf, by rw [e]; rfl, fun x hx => ?_, h2⟩
      rcases List.mem_cons.1 hx with e | e
      · subst e; exact c
      · exact h1 x e
    · refine ⟨[], a :: l, rfl, fun x h => by simp at h, fun x hx => ?_⟩
      rcases List.mem_cons.1 hx with e | e
      · subst e; omega
      · have := (accP_mem l a.f0 h.2.2 x e).1
        omega
theorem accP_right : ∀ (pre suf : List S53) (last : Int), accP last (pre ++ suf) → ∃ last', accP last' suf ∧ last ≤ last' ∧ (pre = [] → last' = last)
  | [], suf, last, h => ⟨last, h, Int.le_refl _, fun _ => rfl⟩
  | a :: pre, suf, last, h => by
    obtain ⟨x, h1, h2, _⟩ := accP_right pre suf a.f0 h.2.2
    exact ⟨x, h1, by have := h.1; omega, fun e => by simp at e⟩
theorem cmpAt_neg (s : S53) (n : Int) (h0 : 1 ≤ s.f0) (h1 : s.f0 ≤ 9223372036854775807) (hn : 1 ≤ n) (hn1 : n ≤ 9223372036854775807) : (cmpAt s n < 0 ↔ s.f0 < n) ∧ (cmpAt s n = 0 ↔ s.f0 = n) := by
  unfold cmpAt mn
  split
  · omega
  · rw [w64 (by omega) (by omega)]; omega
theorem cmpAt_ne (s : S53) (n : Int) (h0 : 1 ≤ s.f0) (h1 : s.f0 ≤ 9223372036854775807) (hn : n < 1) (hn1 : -9223372036854775808 ≤ n) : cmpAt s n ≠ 0 := by
  unfold cmpAt mn
  rw [if_neg (by omega)]
  unfold wrap64
  omega
theorem search_go (l : List S53) (n : Int) : ∀ (d : Nat) (x y : Int), (y - x).toNat ≤ d → 0 ≤ x → x ≤ y → y ≤ (l.length : Int) →
    ∃ r, Ev (fun k => quota_place.l0 k l n x y) r ∧ x ≤ r ∧ r ≤ y ∧ ∀ m, x ≤ m → m ≤ y → (∀ j, x ≤ j → j < y → (cmpAt (rd_T53 l j) n < 0 ↔ j < m)) → r = m
  | d, x, y, hd, h0, hxy, hy => by
    by_cases c : x < y
    · match d, hd with
      | 0, hd => omega
      | d + 1, hd =>
        by_cases cc : cmpAt (rd_T53 l ((x + y) / 2)) n < 0
        · obtain ⟨r, e, a, b, f⟩ := search_go l n d ((x + y) / 2 + 1) y (by omega) (by omega) (by omega) hy
          refine ⟨r, Ev.step (fun k => by simp only [quota_place.l0]; rw [if_pos c, if_pos cc]) e, by omega, b, fun m m1 m2 hm => f m ?_ m2 (fun j j1 j2 => hm j (by omega) j2)⟩
          have := (hm ((x + y) / 2) (by omega) (by omega)).1 cc
          omega
        · obtain ⟨r, e, a, b, f⟩ := search_go l n d x ((x + y) / 2) (by omega) h0 (by omega) (by omega)
          refine ⟨r, Ev.step (fun k => by simp only [quota_place.l0]; rw [if_pos c, if_neg cc]) e, a, by omega, fun m m1 m2 hm => f m m1 ?_ (fun j j1 j2 => hm j j1 (by omega))⟩
          have : ¬ ((x + y) / 2 < m) := fun z => cc ((hm ((x + y) / 2) (by omega) (by omega)).2 z)
          omega
    · exact ⟨x, Ev.step (f := fun _ => some x) (fun k => by simp only [quota_place.l0]; rw [if_neg c]) (Ev.now _), Int.le_refl _, hxy, fun m m1 m2 _ => by omega⟩
theorem refplace_go (t : Int) : ∀ (mid pre suf : List S53), (∀ x ∈ mid, x.f0 ≠ t) → (pre ++ (mid ++ suf)).length ≤ 1000 → ∀ r, Ev (fun k => weirgateref16_place.l0 k (pre ++ (mid ++ suf)) t ((pre.length : Int) + (mid.length : Int))) r →
    Ev (fun k => weirgateref16_place.l0 k (pre ++ (mid ++ suf)) t (pre.length : Int)) r := by
  intro mid
  induction mid with
  | nil => intro pre suf _ _ r h; simpa using h
  | cons a mid IH =>
    intro pre suf hm hl r h
    have ih := IH (pre ++ [a]) suf (fun x hx => hm x (by simp [hx])) (by simpa using hl) r (by
      have e : ((pre ++ [a]).length : Int) + (mid.length : Int) = (pre.length : Int) + ((a :: mid).length : Int) := by simp; omega
      rw [e]
      simpa using h)
    have hlen : (pre ++ (a :: mid ++ suf)).length = pre.length + mid.length + suf.length + 1 := by simp; omega
    have hpl : ((pre ++ [a]).length : Int) = (pre.length : Int) + 1 := by simp
    simp only [List.append_assoc, List.singleton_append, hpl] at ih
    refine Ev.step (fun k => ?_) ih
    simp only [weirgateref16_place.l0]
    rw [if_pos (by omega), if_pos (by omega), List.cons_append, rd53_mid, if_neg (hm a (by simp)), w64 (x := (pre.length : Int) + 1) (by omega) (by omega)]
/-- Both searches. -/
theorem place_ev {l : List S53} (hl : l.length ≤ 1000) (h : accP 0 l) (hw : ∀ x ∈ l, x.f0 ≤ 9223372036854775807) {t : Int} (ht0 : -9223372036854775808 ≤ t) (ht1 : t ≤ 9223372036854775807) :
    (∃ pre a suf, l = pre ++ a :: suf ∧ a.f0 = t ∧ (∀ x ∈ pre, x.f0 < t) ∧ (∀ x ∈ suf, t < x.f0) ∧ Ev (fun k => quota_place.f k l t) ((pre.length : Int), true) ∧ Ev (fun k => weirgateref16_place.f k l t) (pre.length : Int)) ∨
    ∃ i, Ev (fun k => quota_place.f k l t) (i, false) ∧ Ev (fun k => weirgateref16_place.f k l t) (-1) ∧ (∀ x ∈ l, x.f0 ≠ t) ∧ (1 ≤ t → ∃ pre suf, l = pre ++ suf ∧ i = (pre.length : Int) ∧ (∀ x ∈ pre, x.f0 < t) ∧ ∀ x ∈ suf, t < x.f0) := by
  have hmem := accP_mem l 0 h
  obtain ⟨r, hr, r0, r1, ru⟩ := search_go l t l.length 0 (l.length : Int) (by omega) (by omega) (by omega) (by omega)
  have hf : Ev (fun k => quota_place.f k l t) (r, decide (r < (l.length : Int)) && decide (cmpAt (rd_T53 l r) t = 0)) := by
    unfold quota_place.f
    simp only [if_pos (show l.length ≤ 1000000 by omega)]
    exact Ev.bind hr (Ev.now _)
  have none : (∀ x ∈ l, x.f0 ≠ t) → Ev (fun k => weirgateref16_place.f k l t) (-1) := fun hx => by
    have := refplace_go t l [] [] hx (by simpa using hl) (-1) (Ev.step (f := fun _ => some (-1)) (fun k => by
      simp only [weirgateref16_place.l0]
      rw [if_neg (by simp)]) (Ev.now _))
    simpa [weirgateref16_place.f] using this
  have rdm : ∀ j : Int, 0 ≤ j → j < (l.length : Int) → rd_T53 l j ∈ l := fun j j0 j1 => by
    have : j.toNat < l.length := by omega
    simp only [rd_T53, List.getD_eq_getElem?_getD, List.getElem?_eq_getElem this, Option.getD_some]
    exact List.getElem_mem this
  by_cases c : t < 1
  · right
    have hx : ∀ x ∈ l, x.f0 ≠ t := fun x hx => by have := (hmem x hx).1; omega
    refine ⟨r, ?_, none hx, hx, fun z => by omega⟩
    have e : (decide (r < (l.length : Int)) && decide (cmpAt (rd_T53 l r) t = 0)) = false := by
      by_cases d : r < (l.length : Int)
      · have m := rdm r r0 d
        have := cmpAt_ne (rd_T53 l r) t (by have := (hmem _ m).1; omega) (hw _ m) c ht0
        rw [decide_eq_false this, Bool.and_false]
      · rw [decide_eq_false d, Bool.false_and]
    rw [e] at hf
    exact hf
  · obtain ⟨pre, suf, e, h1, h2⟩ := split_at l 0 t h
    have hlen : (l.length : Int) = (pre.length : Int) + (suf.length : Int) := by rw [e]; simp
    have hrp : r = (pre.length : Int) := ru (pre.length : Int) (by omega) (by omega) (fun j j0 j1 => by
      have m := rdm j j0 j1
      rw [(cmpAt_neg (rd_T53 l j) t (by have := (hmem _ m).1; omega) (hw _ m) (by omega) ht1).1]
      have hj : j.toNat < l.length := by omega
      have ej : rd_T53 l j = l[j.toNat] := by simp [rd_T53, List.getD_eq_getElem?_getD, List.getElem?_eq_getElem hj]
      by_cases d : j < (pre.length : Int)
      · have : rd_T53 l j ∈ pre := by
          rw [ej]; simp only [e]; rw [List.getElem_append_left (by omega)]; exact List.getElem_mem _
        exact ⟨fun _ => d, fun _ => h1 _ this⟩
      · have : rd_T53 l j ∈ suf := by
          rw [ej]; simp only [e]; rw [List.getElem_append_right (by omega)]; exact List.getElem_mem _
        have := h2 _ this
        exact ⟨fun z => by omega, fun z => absurd z d⟩)
    cases suf with
    | nil =>
      right
      have hx : ∀ x ∈ l, x.f0 ≠ t := fun x hx => by
        rw [e, List.append_nil] at hx
        have := h1 x hx
        omega
      refine ⟨r, ?_, none hx, hx, fun _ => ⟨pre, [], e, hrp, h1, fun x hx => by simp at hx⟩⟩
      rw [decide_eq_false (by rw [hrp, hlen]; simp), Bool.false_and] at hf
      exact hf
    | cons a suf =>
      have rda : rd_T53 l r = a := by rw [hrp, e]; exact rd53_mid pre suf a
      have ma : a ∈ l := by rw [e]; simp
      have ca := cmpAt_neg a t (by have := (hmem a ma).1; omega) (hw a ma) (by omega) ht1
      have hsuf : ∀ x ∈ suf, a.f0 < x.f0 := fun x hx => by
        obtain ⟨last, q, _, _⟩ := accP_right pre (a :: suf) 0 (e ▸ h)
        exact (accP_mem suf a.f0 q.2.2 x hx).1
      have hrl : r < (l.length : Int) := by rw [hrp, hlen, List.length_cons]; omega
      rw [rda, decide_eq_true hrl, Bool.true_and] at hf
      by_cases d : a.f0 = t
      · left
        refine ⟨pre, a, suf, e, d, h1, fun x hx => by have := hsuf x hx; omega, ?_, ?_⟩
        · rw [decide_eq_true (ca.2.2 d), hrp] at hf
          exact hf
        · have := refplace_go t pre [] (a :: suf) (fun x hx => by have := h1 x hx; omega) (by rw [List.nil_append, ← e]; exact hl) (pre.length : Int) (Ev.step (f := fun _ => some (pre.length : Int)) (fun k => by
            simp only [weirgateref16_place.l0, List.nil_append, List.length_nil]
            have z : ((0 : Nat) : Int) + (pre.length : Int) = (pre.length : Int) := by omega
            rw [z, rd53_mid, if_pos (by simp; omega), if_pos (by omega), if_pos d]) (Ev.now _))
          rw [e]
          simpa [weirgateref16_place.f] using this
      · right
        have hx : ∀ x ∈ l, x.f0 ≠ t := fun x hx => by
          rw [e] at hx
          rcases List.mem_append.1 hx with q | q
          · have := h1 x q; omega
          · rcases List.mem_cons.1 q with q | q
            · subst q; exact d
            · have := hsuf x q; have := h2 a (by simp); omega
        refine ⟨r, ?_, none hx, hx, fun _ => ⟨pre, a :: suf, e, hrp, h1, fun x hx => ?_⟩⟩
        · rw [decide_eq_false (fun z => d (ca.2.1 z))] at hf
          exact hf
        · have := h2 a (by simp)
          rcases List.mem_cons.1 hx with q | q
          · subst q; omega
          · have := hsuf x q; omega
/-- What all use. -/
def totL : List S53 → Int
  | [] => 0
  | a :: l => a.f2 + totL l
theorem totL_bd : ∀ {l : List S53}, (∀ a ∈ l, okA a) → 0 ≤ totL l ∧ totL l ≤ (l.length : Int) * 1099511627776
  | [], _ => by simp [totL]
  | a :: l, h => by
    have b := totL_bd (l := l) (fun t ht => h t (by simp [ht]))
    have c := (h a (by simp)).2.2
    have e : ((a :: l).length : Int) = (l.length : Int) + 1 := by simp
    rw [e]
    simp only [totL]
    omega
theorem total_go : ∀ (suf pre : List S53) (acc : Int), (∀ a ∈ suf, okA a) → (pre ++ suf).length ≤ 1000 → 0 ≤ acc → acc ≤ (pre.length : Int) * 1099511627776 →
    Ev (fun k => quota_Total.l0 k acc (pre ++ suf) ((pre ++ suf).length : Int) (pre.length : Int)) (acc + totL suf) ∧ Ev (fun k => weirgateref16_Total.l0 k (pre ++ suf) acc (pre.length : Int)) (acc + totL suf) := by
  intro suf
  induction suf with
  | nil =>
    intro pre acc _ hl _ _
    simp only [totL, Int.add_zero, List.append_nil]
    refine ⟨Ev.step (f := fun _ => some acc) (fun k => ?_) (Ev.now _), Ev.step (f := fun _ => some acc) (fun k => ?_) (Ev.now _)⟩
    · simp only [quota_Total.l0]; rw [if_neg (by omega)]
    · simp only [weirgateref16_Total.l0]; rw [if_neg (by omega)]
  | cons a suf IH =>
    intro pre acc hs hl h0 h1
    have c := (hs a (by simp)).2.2
    have hlen : (pre ++ a :: suf).length = pre.length + suf.length + 1 := by simp; omega
    have hpl : ((pre ++ [a]).length : Int) = (pre.length : Int) + 1 := by simp
    obtain ⟨i1, i2⟩ := IH (pre ++ [a]) (acc + a.f2) (fun t ht => hs t (by simp [ht])) (by simpa using hl) (by omega) (by rw [hpl]; omega)
    simp only [List.append_assoc, List.singleton_append, hpl] at i1 i2
    have e : acc + totL (a :: suf) = acc + a.f2 + totL suf := by simp only [totL]; omega
    rw [e]
    refine ⟨Ev.step (fun k => ?_) i1, Ev.step (fun k => ?_) i2⟩
    · simp only [quota_Total.l0]
      rw [if_pos (by omega), if_pos (by omega), if_pos (by omega), rd53_mid, w64 (x := acc + a.f2) (by omega) (by omega), w64 (x := (pre.length : Int) + 1) (by omega) (by omega)]
    · simp only [weirgateref16_Total.l0]
      rw [if_pos (by omega), if_pos (by omega), rd53_mid, w64 (x := acc + a.f2) (by omega) (by omega), w64 (x := (pre.length : Int) + 1) (by omega) (by omega)]
theorem total_ev {l : List S53} (h : ∀ a ∈ l, okA a) (hl : l.length ≤ 1000) : Ev (fun k => quota_Total.f k l) (totL l) ∧ Ev (fun k => weirgateref16_Total.f k l) (totL l) := by
  have := total_go l [] 0 h (by simpa using hl) (by omega) (by simp)
  simpa [quota_Total.f, weirgateref16_Total.f] using this
/-- Sound accounts. -/
structure okAs (l : List S53) : Prop where
  len : l.length ≤ 60
  acc : accP 0 l
  top : ∀ x ∈ l, x.f0 ≤ 9223372036854775807
theorem okAs.okA {l : List S53} (h : okAs l) : ∀ a ∈ l, okA a := fun a ha => (accP_mem l 0 h.acc a ha).2
theorem okAs_of {l : List S53} (hl : l.length ≤ 60) (hb : accB 0 l = true) (hw : ∀ s ∈ l, wf53 s) : okAs l := ⟨hl, (accB_iff l 0).1 hb, fun x hx => (Go.bounds_i64 (hw x hx).1).2⟩

end Go.Proofs.Yteieknlkcodkcaa.Q
namespace Go.Proofs.Yteieknlkcodkcaa.Q
open Go.RowKit Go.Proofs.YteieknlkcodkcaaW.PrintWords Go.Proofs.YteieknlkcodkcaaW.PrintLast Go.Proofs.YteieknlkcodkcaaW.PrintMore
attribute [local go_sem] max2_int min2_int max_two min_two max_three min_three max_four min_four   -- for this text's walks alone
set_option linter.unusedVariables false
set_option linter.unusedSimpArgs false

/-! Whom both choose. -/
theorem fairGo_mem (n : Int) (h0 : 0 ≤ n) (h1 : n ≤ 1099511627777) : ∀ (l : List S32) (left : Int), (∀ s ∈ l, okS s) → 0 ≤ left → ∀ x ∈ fairGo n left l, 0 ≤ x ∧ x ≤ 1099511627776
  | [], _, _, _, x, hx => by simp [fairGo] at hx
  | s :: l, left, h, hl, x, hx => by
    have ok := h s (by simp)
    have a := atL_bd ok h0 h1
    have b := moreOf_bd ok h0 h1 hl
    have c := ok.2.2
    rcases List.mem_cons.1 hx with e | e
    · subst e; omega
    · exact fairGo_mem n h0 h1 l _ (fun t ht => h t (by simp [ht])) (by omega) x e
theorem rd_mem (g : List Int) (i : Int) (h0 : 0 ≤ i) (h1 : i < (g.length : Int)) : rd g i ∈ g := by
  have : i.toNat < g.length := by omega
  simp only [rd, List.getD_eq_getElem?_getD, List.getElem?_eq_getElem this, Option.getD_some]
  exact List.getElem_mem this
theorem most_go (but : Int) (g : List Int) (hg : ∀ x ∈ g, 0 ≤ x ∧ x ≤ 1099511627776) : ∀ (suf pre : List S53) (out most : Int), (∀ a ∈ suf, okA a) → (pre ++ suf).length ≤ 1000 → g.length = (pre ++ suf).length → 0 ≤ most →
    Ev (fun k => weirgateref16_Victim.l0 k (pre ++ suf) but g most (pre.length : Int) out 0) (mostOf suf g but (pre.length : Int) out most, 0) := by
  intro suf
  induction suf with
  | nil =>
    intro pre out most _ hl _ _
    refine Ev.step (f := fun _ => some (out, 0)) (fun k => ?_) (Ev.now _)
    simp only [weirgateref16_Victim.l0, List.append_nil]
    rw [if_neg (by omega)]
  | cons a suf IH =>
    intro pre out most hs hl hgl hm
    have ok := (hs a (by simp)).2.2
    have hlen : (pre ++ a :: suf).length = pre.length + suf.length + 1 := by simp; omega
    have hpl : ((pre ++ [a]).length : Int) = (pre.length : Int) + 1 := by simp
    have gb := hg _ (rd_mem g (pre.length : Int) (by omega) (by omega))
    have wv : wrap64 (a.f2 - rd g (pre.length : Int)) = a.f2 - rd g (pre.length : Int) := w64 (by omega) (by omega)
    have ih := fun out most hm => IH (pre ++ [a]) out most (fun t ht => hs t (by simp [ht])) (by simpa using hl) (by simpa using hgl) hm
    simp only [List.append_assoc, List.singleton_append, hpl] at ih
    by_cases c1 : (pre.length : Int) = but
    · have e : mostOf (a :: suf) g but (pre.length : Int) out most = mostOf suf g but ((pre.length : Int) + 1) out most := by
        simp only [mostOf]; rw [if_neg (by omega)]
      rw [e]
      refine Ev.step (fun k => ?_) (ih out most hm)
      simp only [weirgateref16_Victim.l0]
      rw [if_pos (by omega), if_pos c1, w64 (x := (pre.length : Int) + 1) (by omega) (by omega)]
    · by_cases c2 : a.f2 - rd g (pre.length : Int) > most
      · have e : mostOf (a :: suf) g but (pre.length : Int) out most = mostOf suf g but ((pre.length : Int) + 1) a.f0 (a.f2 - rd g (pre.length : Int)) := by
          simp only [mostOf]; rw [wv, if_pos (by omega)]
        rw [e]
        refine Ev.step (fun k => ?_) (ih a.f0 (a.f2 - rd g (pre.length : Int)) (by omega))
        simp only [weirgateref16_Victim.l0]
        rw [if_pos (by omega), if_neg c1, if_pos (by omega), if_pos (by omega), rd53_mid, wv, if_pos c2, w64 (x := (pre.length : Int) + 1) (by omega) (by omega)]
      · have e : mostOf (a :: suf) g but (pre.length : Int) out most = mostOf suf g but ((pre.length : Int) + 1) out most := by
          simp only [mostOf]; rw [wv, if_neg (by omega)]
        rw [e]
        refine Ev.step (fun k => ?_) (ih out most hm)
        simp only [weirgateref16_Victim.l0]
        rw [if_pos (by omega), if_neg c1, if_pos (by omega), if_pos (by omega), rd53_mid, wv, if_neg c2, w64 (x := (pre.length : Int) + 1) (by omega) (by omega)]
theorem shares_eq {pre suf : List S53} {a : S53} {t more : Int} (ea : a.f0 = t) (h1 : ∀ x ∈ pre, x.f0 < t) (h2 : ∀ x ∈ suf, t < x.f0) :
    sharesOf (pre ++ a :: suf) (pre.length : Int) more = (pre ++ a :: suf).map (wantOf t more) := by
  unfold sharesOf
  rw [rd53_mid, Int.toNat_natCast, List.map_append, List.map_cons, List.map_append, List.map_cons]
  rw [List.set_append_right _ _ (by simp), List.length_map, Nat.sub_self, List.set_cons_zero]
  have e1 : pre.map (fun a => (⟨a.f1, a.f2⟩ : S32)) = pre.map (wantOf t more) := List.map_congr_left fun x hx => by
    unfold wantOf; rw [if_neg (by have := h1 x hx; omega)]
  have e2 : suf.map (fun a => (⟨a.f1, a.f2⟩ : S32)) = suf.map (wantOf t more) := List.map_congr_left fun x hx => by
    unfold wantOf; rw [if_neg (by have := h2 x hx; omega)]
  rw [e1, e2]
  unfold wantOf
  rw [if_pos ea]
theorem wants_ok {l : List S53} (h : okAs l) {t more : Int} (h0 : 0 ≤ more) (h1 : more ≤ 1099511627776) : okL (l.map (wantOf t more)) := by
  refine ⟨by rw [List.length_map]; exact h.len, fun s hs => ?_⟩
  obtain ⟨a, ha, rfl⟩ := List.mem_map.1 hs
  have ok := h.okA a ha
  unfold okA at ok
  unfold okS wantOf
  refine ⟨ok.1, ok.2.1, ?_⟩
  by_cases c : a.f0 = t
  · simp only [if_pos c]; rw [w64 (by omega) (by omega)]; omega
  · simp only [if_neg c]; omega
/-- What Victim says, of a tenant that has an account and a number that may be. -/
theorem victim_found {l pre suf : List S53} {a : S53} (h : okAs l) {n t more : Int} (hn0 : 0 ≤ n) (hn1 : n ≤ 1099511627776) (m0 : 0 ≤ more) (m1 : more ≤ 1099511627776) (e : l = pre ++ a :: suf) (ea : a.f0 = t) (h1 : ∀ x ∈ pre, x.f0 < t) (h2 : ∀ x ∈ suf, t < x.f0)
    (hq : Ev (fun k => quota_place.f k l t) ((pre.length : Int), true)) {r : Int} (Lr : LevelIs n (l.map (wantOf t more)) r) (f1 : Ev (fun k => quota_Fair.f k n (l.map (wantOf t more))) (fairGo r (n - allL (l.map (wantOf t more)) r) (l.map (wantOf t more)))) :
    Ev (fun k => quota_Victim.f k n l t more) (if totL l + more ≤ n then (0, 0) else if rd (fairGo r (n - allL (l.map (wantOf t more)) r) (l.map (wantOf t more))) (pre.length : Int) < a.f2 + more then (0, 160) else (mostOf l (fairGo r (n - allL (l.map (wantOf t more)) r) (l.map (wantOf t more))) (pre.length : Int) 0 0 0, 0)) := by
  have hlen := h.len
  have tb := totL_bd h.okA
  have ok := (h.okA a (by rw [e]; simp)).2.2
  have ra : rd_T53 l (pre.length : Int) = a := by rw [e]; exact rd53_mid pre suf a
  unfold quota_Victim.f
  refine Ev.bind hq ?_
  simp only [if_true, if_neg (show ¬ more < 0 by omega), if_neg (show ¬ more > 1099511627776 by omega)]
  refine Ev.bind (total_ev h.okA (by omega)).1 ?_
  rw [w64 (x := totL l + more) (by omega) (by omega)]
  by_cases c : totL l + more ≤ n
  · simp only [if_pos c]; exact Ev.now _
  simp only [if_neg c]
  have es : sharesOf l (pre.length : Int) more = l.map (wantOf t more) := by rw [e]; exact shares_eq ea h1 h2
  rw [es]
  refine Ev.bind f1 ?_
  simp only [fairGo_length, List.length_map, if_true, ra]
  rw [w64 (x := a.f2 + more) (by omega) (by omega)]
  by_cases d : rd (fairGo r (n - allL (l.map (wantOf t more)) r) (l.map (wantOf t more))) (pre.length : Int) < a.f2 + more
  · simp only [if_pos d]; exact Ev.now _
  · simp only [if_neg d]; exact Ev.now _

end Go.Proofs.Yteieknlkcodkcaa.Q
namespace Go.Proofs.Yteieknlkcodkcaa.Q
open Go.RowKit Go.Proofs.YteieknlkcodkcaaW.PrintWords Go.Proofs.YteieknlkcodkcaaW.PrintLast Go.Proofs.YteieknlkcodkcaaW.PrintMore
attribute [local go_sem] max2_int min2_int max_two min_two max_three min_three max_four min_four   -- for this text's walks alone
set_option linter.unusedVariables false
set_option linter.unusedSimpArgs false

/-! The examples of the chapter. -/
theorem sanity_60 : weirgatelaw16_sanity.f 60 = some true := by decide +kernel
theorem sanity_ev : Ev (fun k => weirgatelaw16_sanity.f k) true := Ev.of (weirgatelaw16_sanity.mono) sanity_60
theorem cap_eq (a : Int) : weirgatelaw16_capacity.f a = some (decide (0 ≤ a ∧ a ≤ 1099511627776)) := by
  unfold weirgatelaw16_capacity.f
  by_cases h : a ≥ 0
  · rw [if_pos h]; simp; omega
  · rw [if_neg h]; simp; omega

end Go.Proofs.Yteieknlkcodkcaa.Q
namespace Go.Proofs.Yteieknlkcodkcaa.Q
open Go.RowKit Go.Proofs.YteieknlkcodkcaaW.PrintWords Go.Proofs.YteieknlkcodkcaaW.PrintLast Go.Proofs.YteieknlkcodkcaaW.PrintMore
attribute [local go_sem] max2_int min2_int max_two min_two max_three min_three max_four min_four   -- for this text's walks alone
set_option linter.unusedVariables false
set_option linter.unusedSimpArgs false

/-! Victim: the program's and the reference's. -/
theorem victim_ev {l : List S53} (h : okAs l) {n t more : Int} (hn0 : 0 ≤ n) (hn1 : n ≤ 1099511627776) (ht0 : -9223372036854775808 ≤ t) (ht1 : t ≤ 9223372036854775807) :
    ∃ v, Ev (fun k => quota_Victim.f k n l t more) v ∧ Ev (fun k => weirgateref16_Victim.f k n l t more) v := by
  have hlen := h.len
  rcases place_ev (by omega) h.acc h.top ht0 ht1 with ⟨pre, a, suf, e, ea, h1, h2, hq, hr⟩ | ⟨i, hq, hr, hx, hs⟩
  · have R : ∀ {b v}, Ev (fun k => weirgateref16_Victim.j0 k n l t more (pre.length : Int) b) v → decide (more < 0 ∨ more > 1099511627776) = b → Ev (fun k => weirgateref16_Victim.f k n l t more) v := fun {b v} hv hb => by
      unfold weirgateref16_Victim.f
      refine Ev.bind hr ?_
      simp only [if_neg (show ¬ (pre.length : Int) < 0 by omega)]
      by_cases c : more < 0
      · rw [decide_eq_true (.inl c)] at hb
        subst hb
        simp only [if_pos c]; exact hv
      · simp only [if_neg c]
        have e2 : decide (more > 1099511627776) = b := by
          rw [← hb]
          by_cases d : more > 1099511627776
          · rw [decide_eq_true d, decide_eq_true (.inr d)]
          · rw [decide_eq_false d, decide_eq_false (by omega)]
        rw [e2]; exact hv
    by_cases cm : more < 0 ∨ more > 1099511627776
    · refine ⟨(0, 1), ?_, R (Ev.step (f := fun _ => some (0, 1)) (fun k => by simp only [weirgateref16_Victim.j0]; rw [if_pos trivial]) (Ev.now _)) (decide_eq_true cm)⟩
      unfold quota_Victim.f
      refine Ev.bind hq ?_
      by_cases c : more < 0
      · simp only [if_true, if_pos c]; exact Ev.now _
      · simp only [if_true, if_neg c, if_pos (show more > 1099511627776 by omega)]; exact Ev.now _
    · obtain ⟨r, Lr, _, _, f1, f2⟩ := fair_ev (wants_ok h (t := t) (more := more) (by omega) (by omega)) hn0 hn1
      refine ⟨_, victim_found h hn0 hn1 (by omega) (by omega) e ea h1 h2 hq Lr f1, R (Ev.step (fun k => by simp only [weirgateref16_Victim.j0]; rw [if_neg (by simp)]) ?_) (decide_eq_false cm)⟩
      have tb := totL_bd h.okA
      have ok := (h.okA a (by rw [e]; simp)).2.2
      have ra : rd_T53 l (pre.length : Int) = a := by rw [e]; exact rd53_mid pre suf a
      refine Ev.bind (total_ev h.okA (by omega)).2 ?_
      rw [w64 (x := totL l + more) (by omega) (by omega)]
      by_cases c : totL l + more ≤ n
      · simp only [if_pos c]; exact Ev.now _
      simp only [if_neg c]
      have hp : (pre.length : Int) < (l.length : Int) := by rw [e]; simp; omega
      unfold weirgateref16_Wants.f
      simp only [if_pos (show l.length ≤ 1000000 by omega), Option.bind_some]
      refine Ev.bind f2 ?_
      simp only [fairGo_length, List.length_map, if_pos hp, if_pos (show 0 ≤ (pre.length : Int) by omega), ra]
      rw [w64 (x := a.f2 + more) (by omega) (by omega)]
      by_cases d : rd (fairGo r (n - allL (l.map (wantOf t more)) r) (l.map (wantOf t more))) (pre.length : Int) < a.f2 + more
      · simp only [if_pos d]; exact Ev.now _
      · simp only [if_neg d]
        have m := most_go (pre.length : Int) (fairGo r (n - allL (l.map (wantOf t more)) r) (l.map (wantOf t more))) (fairGo_mem r Lr.lo (by have := Lr.hi; omega) _ _ (wants_ok h (by omega) (by omega)).2 (by have := Lr.fits; omega)) l [] 0 0 h.okA (by simp; omega) (by simp [fairGo_length]) (by omega)
        simpa using m
  · refine ⟨(0, 5), ?_, ?_⟩
    · unfold quota_Victim.f
      refine Ev.bind hq ?_
      simp only [Bool.false_eq_true, if_false]
      exact Ev.now _
    · unfold weirgateref16_Victim.f
      refine Ev.bind hr ?_
      simp only [if_pos (show (-1 : Int) < 0 by omega)]
      exact Ev.now _
theorem QuotaChoosesAsSpecified_ev (a0 : Int) (w0 : (Lit.int .i64 a0).wf = true) (l1 : List S53) (w1 : ∀ s ∈ l1, wf53 s) (a2 : Int) (w2 : (Lit.int .i64 a2).wf = true) (a3 : Int) (w3 : (Lit.int .i64 a3).wf = true) : Ev (fun k => weirgatelaw16_QuotaChoosesAsSpecified.f k a0 l1 a2 a3) true := by
  have J : Ev (fun k => weirgatelaw16_QuotaChoosesAsSpecified.j0 k a0 l1 a2 a3 true) true :=
    Ev.step (f := fun k => (weirgatelaw16_sanity.f k).bind fun t => some t) (fun k => by simp only [weirgatelaw16_QuotaChoosesAsSpecified.j0]; rw [if_pos trivial]) (Ev.bind sanity_ev (Ev.now true))
  unfold weirgatelaw16_QuotaChoosesAsSpecified.f
  by_cases hl : (l1.length : Int) > 60
  · simp only [if_pos hl]; exact J
  simp only [if_neg hl]
  refine Ev.bind (accounts_ev (show l1.length ≤ 1000 by omega)).2 ?_
  cases hb : accB 0 l1 with
  | false => simp only [Bool.false_eq_true, if_false]; exact J
  | true =>
    have ok := okAs_of (by omega) hb w1
    have b2 := Go.bounds_i64 w2
    simp only [if_true, cap_eq, Option.bind_some]
    by_cases c0 : 0 ≤ a0 ∧ a0 ≤ 1099511627776
    · simp only [decide_eq_true c0, Bool.not_true]
      obtain ⟨v, v1, v2⟩ := victim_ev ok (more := a3) c0.1 c0.2 b2.1 b2.2
      refine Ev.step (fun k => by simp only [weirgatelaw16_QuotaChoosesAsSpecified.j0]; rw [if_neg (by simp)]) (Ev.bind v1 (Ev.bind v2 (Ev.bind sanity_ev ?_)))
      simp only [if_true]
      simpa using Ev.now true
    · simp only [decide_eq_false c0, Bool.not_false]; exact J

end Go.Proofs.Yteieknlkcodkcaa.Q
