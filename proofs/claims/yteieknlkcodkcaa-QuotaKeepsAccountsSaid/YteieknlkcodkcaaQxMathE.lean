-- Written by wip/tools/drive.py out of the translation (the kit's print.py, with hand-proved functions beside). Not trusted: Lean checks it.
import Derived.Test.YteieknlkcodkcaaQx0
import Derived.Test.YteieknlkcodkcaaQx10
import Derived.Test.YteieknlkcodkcaaQx4
import Derived.Test.YteieknlkcodkcaaQx5
import Derived.Test.YteieknlkcodkcaaQx9
import Derived.Test.YteieknlkcodkcaaQxHPlace
import Derived.Test.YteieknlkcodkcaaQxMathA
namespace Go.Proofs.Yteieknlkcodkcaa.Q
open Go.RowKit Go.Proofs.YteieknlkcodkcaaW.PrintWords Go.Proofs.YteieknlkcodkcaaW.PrintLast Go.Proofs.YteieknlkcodkcaaW.PrintMore
attribute [local go_sem] max2_int min2_int max_two min_two max_three min_three max_four min_four   -- for this text's walks alone
set_option linter.unusedVariables false
set_option linter.unusedSimpArgs false

/-! Plain mathematics of accounts: what is valid, places, totals. -/
theorem rd53_mid (pre suf : List S53) (a : S53) : rd_T53 (pre ++ a :: suf) (pre.length : Int) = a := by
  simp [rd_T53, List.getD_eq_getElem?_getD]
def okA (a : S53) : Prop := 1 ≤ a.f1 ∧ a.f1 ≤ 1048576 ∧ 0 ≤ a.f2 ∧ a.f2 ≤ 1099511627776
instance (a : S53) : Decidable (okA a) := by unfold okA; infer_instance
def accB : Int → List S53 → Bool
  | _, [] => true
  | last, a :: l => decide (last < a.f0 ∧ okA a) && accB a.f0 l
theorem acc_step (a : S53) (last : Int) (t : Option Bool) : (if a.f0 ≤ last then some false else (if a.f1 < 1 then some false else (if a.f1 > 1048576 then some false else (if a.f2 < 0 then some false else (if a.f2 > 1099511627776 then some false else t))))) = if last < a.f0 ∧ okA a then t else some false := by
  unfold okA
  by_cases c1 : a.f0 ≤ last
  · rw [if_pos c1, if_neg (by omega)]
  · by_cases c2 : a.f1 < 1
    · rw [if_neg c1, if_pos c2, if_neg (by omega)]
    · by_cases c3 : a.f1 > 1048576
      · rw [if_neg c1, if_neg c2, if_pos c3, if_neg (by omega)]
      · by_cases c4 : a.f2 < 0
        · rw [if_neg c1, if_neg c2, if_neg c3, if_pos c4, if_neg (by omega)]
        · by_cases c5 : a.f2 > 1099511627776
          · rw [if_neg c1, if_neg c2, if_neg c3, if_neg c4, if_pos c5, if_neg (by omega)]
          · rw [if_neg c1, if_neg c2, if_neg c3, if_neg c4, if_neg c5, if_pos (by omega)]
theorem accounts_go : ∀ (suf pre : List S53) (last : Int), (pre ++ suf).length ≤ 1000 →
    Ev (fun k => quota_Accounts.l0 k (pre ++ suf) last (pre ++ suf) ((pre ++ suf).length : Int) (pre.length : Int)) (accB last suf) ∧ Ev (fun k => weirgateref16_Accounts.l0 k (pre ++ suf) last (pre.length : Int)) (accB last suf) := by
  intro suf
  induction suf with
  | nil =>
    intro pre last hl
    simp only [List.append_nil] at hl ⊢
    refine ⟨Ev.step (f := fun _ => some true) (fun k => ?_) (Ev.now true), Ev.step (f := fun _ => some true) (fun k => ?_) (Ev.now true)⟩
    · simp only [quota_Accounts.l0]; rw [if_neg (by omega), decide_eq_true (by omega)]
    · simp only [weirgateref16_Accounts.l0]; rw [if_neg (by omega), decide_eq_true (by omega)]
  | cons a suf IH =>
    intro pre last hl
    obtain ⟨i1, i2⟩ := IH (pre ++ [a]) a.f0 (by simpa using hl)
    have hlen : (pre ++ a :: suf).length = pre.length + suf.length + 1 := by simp; omega
    have hpl : ((pre ++ [a]).length : Int) = (pre.length : Int) + 1 := by simp
    simp only [List.append_assoc, List.singleton_append, hpl] at i1 i2
    have e1 : ∀ k, quota_Accounts.l0 (k + 1) (pre ++ a :: suf) last (pre ++ a :: suf) ((pre ++ a :: suf).length : Int) (pre.length : Int) = if last < a.f0 ∧ okA a then quota_Accounts.l0 k (pre ++ a :: suf) a.f0 (pre ++ a :: suf) ((pre ++ a :: suf).length : Int) ((pre.length : Int) + 1) else some false := fun k => by
      simp only [quota_Accounts.l0]
      rw [if_pos (by omega), if_pos (by omega), if_pos (by omega), rd53_mid, w64 (x := (pre.length : Int) + 1) (by omega) (by omega), acc_step]
    have e2 : ∀ k, weirgateref16_Accounts.l0 (k + 1) (pre ++ a :: suf) last (pre.length : Int) = if last < a.f0 ∧ okA a then weirgateref16_Accounts.l0 k (pre ++ a :: suf) a.f0 ((pre.length : Int) + 1) else some false := fun k => by
      simp only [weirgateref16_Accounts.l0]
      rw [if_pos (by omega), if_pos (by omega), rd53_mid, w64 (x := (pre.length : Int) + 1) (by omega) (by omega), acc_step]
    by_cases c : last < a.f0 ∧ okA a
    · have e : accB last (a :: suf) = accB a.f0 suf := by simp only [accB, decide_eq_true c, Bool.true_and]
      rw [e]
      exact ⟨Ev.step (fun k => by rw [e1, if_pos c]) i1, Ev.step (fun k => by rw [e2, if_pos c]) i2⟩
    · have e : accB last (a :: suf) = false := by simp only [accB, decide_eq_false c, Bool.false_and]
      rw [e]
      exact ⟨Ev.step (f := fun _ => some false) (fun k => by rw [e1, if_neg c]) (Ev.now _), Ev.step (f := fun _ => some false) (fun k => by rw [e2, if_neg c]) (Ev.now _)⟩
theorem accounts_ev {l : List S53} (hl : l.length ≤ 1000) : Ev (fun k => quota_Accounts.f k l) (accB 0 l) ∧ Ev (fun k => weirgateref16_Accounts.f k l) (accB 0 l) := by
  have := accounts_go l [] 0 (by simpa using hl)
  simpa [quota_Accounts.f, weirgateref16_Accounts.f] using this
/-- Sorted and sound, beyond a number. -/
def accP : Int → List S53 → Prop
  | _, [] => True
  | last, a :: l => last < a.f0 ∧ okA a ∧ accP a.f0 l
theorem accB_iff : ∀ (l : List S53) (last : Int), accB last l = true ↔ accP last l
  | [], _ => by simp [accB, accP]
  | a :: l, last => by
    simp only [accB, accP, Bool.and_eq_true, decide_eq_true_eq, accB_iff l, and_assoc]
theorem accP_mem : ∀ (l : List S53) (last : Int), accP last l → ∀ a ∈ l, last < a.f0 ∧ okA a
  | [], _, _, a, h => by simp at h
  | b :: l, last, h, a, ha => by
    rcases List.mem_cons.1 ha with e | e
    · subst e; exact ⟨h.1, h.2.1⟩
    · have := accP_mem l b.f0 h.2.2 a e
      exact ⟨by have := h.1; omega, this.2⟩
/-- Where a tenant lies, or would lie. -/
theorem split_at : ∀ (l : List S53) (last n : Int), accP last l → ∃ pre suf, l = pre ++ suf ∧ (∀ x ∈ pre, x.f0 < n) ∧ ∀ x ∈ suf, n ≤ x.f0
  | [], _, _, _ => ⟨[], [], rfl, fun x h => by simp at h, fun x h => by simp at h⟩
  | a :: l, last, n, h => by
    by_cases c : a.f0 < n
    · obtain ⟨pre, suf, e, h1, h2⟩ := split_at l a.f0 n h.2.2
      refine ⟨a :: pre, suf, by rw [e]; rfl, fun x hx => ?_, h2⟩
      rcases List.mem_cons.1 hx with e | e
      · subst e; exact c
      · exact h1 x e
    · refine ⟨[], a :: l, rfl, fun x h => by simp at h, fun x hx => ?_⟩
      rcases List.mem_cons.1 hx with e | e
      · subst e; omega
      · have := (accP_mem l a.f0 h.2.2 x e).1
        omega
theorem accP_right : ∀ (pre suf : List S53) (last : Int), accP last (pre ++ suf) → ∃ last', accP last' suf ∧ last ≤ last' ∧ (pre = [] → last' = last)
  | [], suf, last, h => ⟨last, h, Int.le_refl _, fun _ => rfl⟩
  | a :: pre, suf, last, h => by
    obtain ⟨x, h1, h2, _⟩ := accP_right pre suf a.f0 h.2.2
    exact ⟨x, h1, by have := h.1; omega, fun e => by simp at e⟩
theorem cmpAt_neg (s : S53) (n : Int) (h0 : 1 ≤ s.f0) (h1 : s.f0 ≤ 9223372036854775807) (hn : 1 ≤ n) (hn1 : n ≤ 9223372036854775807) : (cmpAt s n < 0 ↔ s.f0 < n) ∧ (cmpAt s n = 0 ↔ s.f0 = n) := by
  unfold cmpAt mn
  split
  · omega
  · rw [w64 (by omega) (by omega)]; omega
theorem cmpAt_ne (s : S53) (n : Int) (h0 : 1 ≤ s.f0) (h1 : s.f0 ≤ 9223372036854775807) (hn : n < 1) (hn1 : -9223372036854775808 ≤ n) : cmpAt s n ≠ 0 := by
  unfold cmpAt mn
  rw [if_neg (by omega)]
  unfold wrap64
  omega
theorem search_go (l : List S53) (n : Int) : ∀ (d : Nat) (x y : Int), (y - x).toNat ≤ d → 0 ≤ x → x ≤ y → y ≤ (l.length : Int) →
    ∃ r, Ev (fun k => quota_place.l0 k l n x y) r ∧ x ≤ r ∧ r ≤ y ∧ ∀ m, x ≤ m → m ≤ y → (∀ j, x ≤ j → j < y → (cmpAt (rd_T53 l j) n < 0 ↔ j < m)) → r = m
  | d, x, y, hd, h0, hxy, hy => by
    by_cases c : x < y
    · match d, hd with
      | 0, hd => omega
      | d + 1, hd =>
        by_cases cc : cmpAt (rd_T53 l ((x + y) / 2)) n < 0
        · obtain ⟨r, e, a, b, f⟩ := search_go l n d ((x + y) / 2 + 1) y (by omega) (by omega) (by omega) hy
          refine ⟨r, Ev.step (fun k => by simp only [quota_place.l0]; rw [if_pos c, if_pos cc]) e, by omega, b, fun m m1 m2 hm => f m ?_ m2 (fun j j1 j2 => hm j (by omega) j2)⟩
          have := (hm ((x + y) / 2) (by omega) (by omega)).1 cc
          omega
        · obtain ⟨r, e, a, b, f⟩ := search_go l n d x ((x + y) / 2) (by omega) h0 (by omega) (by omega)
          refine ⟨r, Ev.step (fun k => by simp only [quota_place.l0]; rw [if_pos c, if_neg cc]) e, a, by omega, fun m m1 m2 hm => f m m1 ?_ (fun j j1 j2 => hm j j1 (by omega))⟩
          have : ¬ ((x + y) / 2 < m) := fun z => cc ((hm ((x + y) / 2) (by omega) (by omega)).2 z)
          omega
    · exact ⟨x, Ev.step (f := fun _ => some x) (fun k => by simp only [quota_place.l0]; rw [if_neg c]) (Ev.now _), Int.le_refl _, hxy, fun m m1 m2 _ => by omega⟩
theorem refplace_go (t : Int) : ∀ (mid pre suf : List S53), (∀ x ∈ mid, x.f0 ≠ t) → (pre ++ (mid ++ suf)).length ≤ 1000 → ∀ r, Ev (fun k => weirgateref16_place.l0 k (pre ++ (mid ++ suf)) t ((pre.length : Int) + (mid.length : Int))) r →
    Ev (fun k => weirgateref16_place.l0 k (pre ++ (mid ++ suf)) t (pre.length : Int)) r := by
  intro mid
  induction mid with
  | nil => intro pre suf _ _ r h; simpa using h
  | cons a mid IH =>
    intro pre suf hm hl r h
    have ih := IH (pre ++ [a]) suf (fun x hx => hm x (by simp [hx])) (by simpa using hl) r (by
      have e : ((pre ++ [a]).length : Int) + (mid.length : Int) = (pre.length : Int) + ((a :: mid).length : Int) := by simp; omega
      rw [e]
      simpa using h)
    have hlen : (pre ++ (a :: mid ++ suf)).length = pre.length + mid.length + suf.length + 1 := by simp; omega
    have hpl : ((pre ++ [a]).length : Int) = (pre.length : Int) + 1 := by simp
    simp only [List.append_assoc, List.singleton_append, hpl] at ih
    refine Ev.step (fun k => ?_) ih
    simp only [weirgateref16_place.l0]
    rw [if_pos (by omega), if_pos (by omega), List.cons_append, rd53_mid, if_neg (hm a (by simp)), w64 (x := (pre.length : Int) + 1) (by omega) (by omega)]
/-- Both searches. -/
theorem place_ev {l : List S53} (hl : l.length ≤ 1000) (h : accP 0 l) (hw : ∀ x ∈ l, x.f0 ≤ 9223372036854775807) {t : Int} (ht0 : -9223372036854775808 ≤ t) (ht1 : t ≤ 9223372036854775807) :
    (∃ pre a suf, l = pre ++ a :: suf ∧ a.f0 = t ∧ (∀ x ∈ pre, x.f0 < t) ∧ (∀ x ∈ suf, t < x.f0) ∧ Ev (fun k => quota_place.f k l t) ((pre.length : Int), true) ∧ Ev (fun k => weirgateref16_place.f k l t) (pre.length : Int)) ∨
    ∃ i, Ev (fun k => quota_place.f k l t) (i, false) ∧ Ev (fun k => weirgateref16_place.f k l t) (-1) ∧ (∀ x ∈ l, x.f0 ≠ t) ∧ (1 ≤ t → ∃ pre suf, l = pre ++ suf ∧ i = (pre.length : Int) ∧ (∀ x ∈ pre, x.f0 < t) ∧ ∀ x ∈ suf, t < x.f0) := by
  have hmem := accP_mem l 0 h
  obtain ⟨r, hr, r0, r1, ru⟩ := search_go l t l.length 0 (l.length : Int) (by omega) (by omega) (by omega) (by omega)
  have hf : Ev (fun k => quota_place.f k l t) (r, decide (r < (l.length : Int)) && decide (cmpAt (rd_T53 l r) t = 0)) := by
    unfold quota_place.f
    simp only [if_pos (show l.length ≤ 1000000 by omega)]
    exact Ev.bind hr (Ev.now _)
  have none : (∀ x ∈ l, x.f0 ≠ t) → Ev (fun k => weirgateref16_place.f k l t) (-1) := fun hx => by
    have := refplace_go t l [] [] hx (by simpa using hl) (-1) (Ev.step (f := fun _ => some (-1)) (fun k => by
      simp only [weirgateref16_place.l0]
      rw [if_neg (by simp)]) (Ev.now _))
    simpa [weirgateref16_place.f] using this
  have rdm : ∀ j : Int, 0 ≤ j → j < (l.length : Int) → rd_T53 l j ∈ l := fun j j0 j1 => by
    have : j.toNat < l.length := by omega
    simp only [rd_T53, List.getD_eq_getElem?_getD, List.getElem?_eq_getElem this, Option.getD_some]
    exact List.getElem_mem this
  by_cases c : t < 1
  · right
    have hx : ∀ x ∈ l, x.f0 ≠ t := fun x hx => by have := (hmem x hx).1; omega
    refine ⟨r, ?_, none hx, hx, fun z => by omega⟩
    have e : (decide (r < (l.length : Int)) && decide (cmpAt (rd_T53 l r) t = 0)) = false := by
      by_cases d : r < (l.length : Int)
      · have m := rdm r r0 d
        have := cmpAt_ne (rd_T53 l r) t (by have := (hmem _ m).1; omega) (hw _ m) c ht0
        rw [decide_eq_false this, Bool.and_false]
      · rw [decide_eq_false d, Bool.false_and]
    rw [e] at hf
    exact hf
  · obtain ⟨pre, suf, e, h1, h2⟩ := split_at l 0 t h
    have hlen : (l.length : Int) = (pre.length : Int) + (suf.length : Int) := by rw [e]; simp
    have hrp : r = (pre.length : Int) := ru (pre.length : Int) (by omega) (by omega) (fun j j0 j1 => by
      have m := rdm j j0 j1
      rw [(cmpAt_neg (rd_T53 l j) t (by have := (hmem _ m).1; omega) (hw _ m) (by omega) ht1).1]
      have hj : j.toNat < l.length := by omega
      have ej : rd_T53 l j = l[j.toNat] := by simp [rd_T53, List.getD_eq_getElem?_getD, List.getElem?_eq_getElem hj]
      by_cases d : j < (pre.length : Int)
      · have : rd_T53 l j ∈ pre := by
          rw [ej]; simp only [e]; rw [List.getElem_append_left (by omega)]; exact List.getElem_mem _
        exact ⟨fun _ => d, fun _ => h1 _ this⟩
      · have : rd_T53 l j ∈ suf := by
          rw [ej]; simp only [e]; rw [List.getElem_append_right (by omega)]; exact List.getElem_mem _
        have := h2 _ this
        exact ⟨fun z => by omega, fun z => absurd z d⟩)
    cases suf with
    | nil =>
      right
      have hx : ∀ x ∈ l, x.f0 ≠ t := fun x hx => by
        rw [e, List.append_nil] at hx
        have := h1 x hx
        omega
      refine ⟨r, ?_, none hx, hx, fun _ => ⟨pre, [], e, hrp, h1, fun x hx => by simp at hx⟩⟩
      rw [decide_eq_false (by rw [hrp, hlen]; simp), Bool.false_and] at hf
      exact hf
    | cons a suf =>
      have rda : rd_T53 l r = a := by rw [hrp, e]; exact rd53_mid pre suf a
      have ma : a ∈ l := by rw [e]; simp
      have ca := cmpAt_neg a t (by have := (hmem a ma).1; omega) (hw a ma) (by omega) ht1
      have hsuf : ∀ x ∈ suf, a.f0 < x.f0 := fun x hx => by
        obtain ⟨last, q, _, _⟩ := accP_right pre (a :: suf) 0 (e ▸ h)
        exact (accP_mem suf a.f0 q.2.2 x hx).1
      have hrl : r < (l.length : Int) := by rw [hrp, hlen, List.length_cons]; omega
      rw [rda, decide_eq_true hrl, Bool.true_and] at hf
      by_cases d : a.f0 = t
      · left
        refine ⟨pre, a, suf, e, d, h1, fun x hx => by have := hsuf x hx; omega, ?_, ?_⟩
        · rw [decide_eq_true (ca.2.2 d), hrp] at hf
          exact hf
        · have := refplace_go t pre [] (a :: suf) (fun x hx => by have := h1 x hx; omega) (by rw [List.nil_append, ← e]; exact hl) (pre.length : Int) (Ev.step (f := fun _ => some (pre.length : Int)) (fun k => by
            simp only [weirgateref16_place.l0, List.nil_append, List.length_nil]
            have z : ((0 : Nat) : Int) + (pre.length : Int) = (pre.length : Int) := by omega
            rw [z, rd53_mid, if_pos (by simp; omega), if_pos (by omega), if_pos d]) (Ev.now _))
          rw [e]
          simpa [weirgateref16_place.f] using this
      · right
        have hx : ∀ x ∈ l, x.f0 ≠ t := fun x hx => by
          rw [e] at hx
          rcases List.mem_append.1 hx with q | q
          · have := h1 x q; omega
          · rcases List.mem_cons.1 q with q | q
            · subst q; exact d
            · have := hsuf x q; have := h2 a (by simp); omega
        refine ⟨r, ?_, none hx, hx, fun _ => ⟨pre, a :: suf, e, hrp, h1, fun x hx => ?_⟩⟩
        · rw [decide_eq_false (fun z => d (ca.2.1 z))] at hf
          exact hf
        · have := h2 a (by simp)
          rcases List.mem_cons.1 hx with q | q
          · subst q; omega
          · have := hsuf x q; omega
/-- What all use. -/
def totL : List S53 → Int
  | [] => 0
  | a :: l => a.f2 + totL l
theorem totL_bd : ∀ {l : List S53}, (∀ a ∈ l, okA a) → 0 ≤ totL l ∧ totL l ≤ (l.length : Int) * 1099511627776
  | [], _ => by simp [totL]
  | a :: l, h => by
    have b := totL_bd (l := l) (fun t ht => h t (by simp [ht]))
    have c := (h a (by simp)).2.2
    have e : ((a :: l).length : Int) = (l.length : Int) + 1 := by simp
    rw [e]
    simp only [totL]
    omega
theorem total_go : ∀ (suf pre : List S53) (acc : Int), (∀ a ∈ suf, okA a) → (pre ++ suf).length ≤ 1000 → 0 ≤ acc → acc ≤ (pre.length : Int) * 1099511627776 →
    Ev (fun k => quota_Total.l0 k acc (pre ++ suf) ((pre ++ suf).length : Int) (pre.length : Int)) (acc + totL suf) ∧ Ev (fun k => weirgateref16_Total.l0 k (pre ++ suf) acc (pre.length : Int)) (acc + totL suf) := by
  intro suf
  induction suf with
  | nil =>
    intro pre acc _ hl _ _
    simp only [totL, Int.add_zero, List.append_nil]
    refine ⟨Ev.step (f := fun _ => some acc) (fun k => ?_) (Ev.now _), Ev.step (f := fun _ => some acc) (fun k => ?_) (Ev.now _)⟩
    · simp only [quota_Total.l0]; rw [if_neg (by omega)]
    · simp only [weirgateref16_Total.l0]; rw [if_neg (by omega)]
  | cons a suf IH =>
    intro pre acc hs hl h0 h1
    have c := (hs a (by simp)).2.2
    have hlen : (pre ++ a :: suf).length = pre.length + suf.length + 1 := by simp; omega
    have hpl : ((pre ++ [a]).length : Int) = (pre.length : Int) + 1 := by simp
    obtain ⟨i1, i2⟩ := IH (pre ++ [a]) (acc + a.f2) (fun t ht => hs t (by simp [ht])) (by simpa using hl) (by omega) (by rw [hpl]; omega)
    simp only [List.append_assoc, List.singleton_append, hpl] at i1 i2
    have e : acc + totL (a :: suf) = acc + a.f2 + totL suf := by simp only [totL]; omega
    rw [e]
    refine ⟨Ev.step (fun k => ?_) i1, Ev.step (fun k => ?_) i2⟩
    · simp only [quota_Total.l0]
      rw [if_pos (by omega), if_pos (by omega), if_pos (by omega), rd53_mid, w64 (x := acc + a.f2) (by omega) (by omega), w64 (x := (pre.length : Int) + 1) (by omega) (by omega)]
    · simp only [weirgateref16_Total.l0]
      rw [if_pos (by omega), if_pos (by omega), rd53_mid, w64 (x := acc + a.f2) (by omega) (by omega), w64 (x := (pre.length : Int) + 1) (by omega) (by omega)]
theorem total_ev {l : List S53} (h : ∀ a ∈ l, okA a) (hl : l.length ≤ 1000) : Ev (fun k => quota_Total.f k l) (totL l) ∧ Ev (fun k => weirgateref16_Total.f k l) (totL l) := by
  have := total_go l [] 0 h (by simpa using hl) (by omega) (by simp)
  simpa [quota_Total.f, weirgateref16_Total.f] using this

end Go.Proofs.Yteieknlkcodkcaa.Q
