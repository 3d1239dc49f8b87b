-- Written by wip/tools/drive.py out of the translation (the kit's print.py, with hand-proved functions beside). Not trusted: Lean checks it.
import Derived.Test.YteieknlkcodkcaaQx0
import Derived.Test.YteieknlkcodkcaaQxHClone
import Derived.Test.YteieknlkcodkcaaQxHPlace
namespace Go.Proofs.Yteieknlkcodkcaa.Q
open Go.RowKit Go.Proofs.YteieknlkcodkcaaW.PrintWords Go.Proofs.YteieknlkcodkcaaW.PrintLast Go.Proofs.YteieknlkcodkcaaW.PrintMore
attribute [local go_sem] max2_int min2_int max_two min_two max_three min_three max_four min_four   -- for this text's walks alone
set_option linter.unusedVariables false
set_option linter.unusedSimpArgs false

def quota_Use.f (k : Nat) (l : List S53) (t more : Int) : Option (List S53 × Int) := (quota_place.f k l t).bind fun p =>
  if p.2 = true then (if more > 1099511627776 then some ([], 1) else if more < -1099511627776 then some ([], 1) else if wrap64 ((rd_T53 l p.1).f2 + more) < 0 then some ([], 1) else if wrap64 ((rd_T53 l p.1).f2 + more) > 1099511627776 then some ([], 1)
    else some (l.set p.1.toNat ⟨(rd_T53 l p.1).f0, (rd_T53 l p.1).f1, wrap64 ((rd_T53 l p.1).f2 + more)⟩, 0))
  else some ([], 5)
theorem quota_Use.mono : ∀ a0 a1 a2 k, LeO (quota_Use.f k a0 a1 a2) (quota_Use.f (k + 1) a0 a1 a2) := fun a0 a1 _ k => LeO.bind (quota_place.mono a0 a1 k) (fun _ => LeO.refl _)
/-- An account of a row of the call's own: its cell 'Used', and the row behind a store there. -/
theorem own_used {W : World} {base : Nat} {ok : Nat → Prop} {v : Value} {l : List S53} (HO : Kd.R k53 53 W base ok v l) (j : Nat) (hj : j < l.length) :
    ∃ g cap, v = .slice (some ⟨g, 0, none⟩) l.length cap ∧ base ≤ g ∧ W.cell? ⟨g, j * 3 + 2, none⟩ = some (.int .i64 (rd_T53 l j).f2) ∧ W.frozen? ⟨g, j * 3 + 2, none⟩ = false ∧
      ∀ u : Int, Kd.R k53 53 (W.setCell ⟨g, j * 3 + 2, none⟩ (.int .i64 u)) base ok v (l.set j ⟨(rd_T53 l j).f0, (rd_T53 l j).f1, u⟩) ∧ W.grownBy (W.setCell ⟨g, j * 3 + 2, none⟩ (.int .i64 u)) (some g) := by
  obtain ⟨inner, hown⟩ := Kd.R_own HO
  rcases hown.2 with ⟨_, h0⟩ | ⟨g, cap, cur, rfl, hb, hg, hnc, hcm, hsz, hcur⟩
  · omega
  · obtain ⟨_, _, hC⟩ := Kd.R_reads' HO
    obtain ⟨ad, e, hx0, hx1, hx2⟩ := at_T53 hC (j : Int) (Int.natCast_nonneg j) (by omega)
    injection e with e
    subst e
    simp only [Int.toNat_natCast, Addr.add_lit, Nat.zero_add] at hx0 hx1 hx2
    refine ⟨g, cap, rfl, hb, hx2, blk_frozen hg _, fun u => ?_⟩
    have h := Kd.R_seg (okp := fun _ => False) HO (j : Int) (Int.natCast_nonneg j) (by omega) (c := [.int .i64 (rd_T53 l j).f0, .int .i64 (rd_T53 l j).f1, .int .i64 (rd_T53 l j).f2]) (seg := [.int .i64 u]) (j := 2) rfl
      (fun k v hk => by
        have hs : k53.sz = 3 := rfl
        rw [Int.toNat_natCast, hs]
        match k, hk with
        | 0, hk => simp at hk; subst hk; exact hx0
        | 1, hk => simp at hk; subst hk; exact hx1
        | 2, hk => simp at hk; subst hk; exact hx2
        | k + 3, hk => simp at hk) (Nat.le_refl 3) (x' := ⟨(rd_T53 l j).f0, (rd_T53 l j).f1, u⟩) (k53_mkM _ _ _ _) (fun _ h => h.elim)
    have hs : k53.sz = 3 := rfl
    simpa [World.setCells, hs] using h
def UsedAs (w : World) (r1 : List S53) (r2 : Int) (e : Ending) (w' : World) : Prop := ∃ v0_ : Value, e = .returned (.tuple #[v0_, .int .i64 r2]) ∧ Kd.R k53 53 w' w.heap.size (fun _ => True) v0_ r1 ∧ Below w.heap.size w w'
theorem quota_place.place_true (k : Nat) (l : List S53) (n i : Int) (h : quota_place.f k l n = some (i, true)) : 0 ≤ i ∧ i < (l.length : Int) ∧ l.length ≤ 1000000 := by
  unfold quota_place.f at h
  split at h
  · rename_i hl
    cases hs : quota_place.l0 k l n 0 (l.length : Int) with
    | none => rw [hs] at h; exact absurd h (by simp)
    | some j =>
      rw [hs] at h
      simp only [Option.bind_some, Option.some.injEq, Prod.mk.injEq] at h
      have := quota_place.range l n k _ _ _ hs (by omega) (by omega)
      obtain ⟨rfl, h2⟩ := h
      simp only [Bool.and_eq_true, decide_eq_true_eq] at h2
      omega
  · exact absurd h (by simp)
set_option maxHeartbeats 4000000 in
set_option maxRecDepth 100000 in
theorem quota_Use.calls (k : Nat) (A0 : Option Addr) (c0 : Nat) (l0 : List (S53)) (a1 : Int) (a2 : Int) (r1 : List (S53)) (r2 : Int) (w : World) (hr0 : Kd.C k53 w A0 l0.length l0) (hc0 : l0.length ≤ c0) (h : quota_Use.f k l0 a1 a2 = some (r1, r2)) :
    Calls Try.prog 24 #[.slice A0 l0.length c0, .int .i64 a1, .int .i64 a2] w fun e w' => ∃ v0_ : Value, e = .returned (.tuple #[v0_, .int .i64 r2]) ∧ Kd.R k53 53 w' w.heap.size (fun _ => True) v0_ r1 ∧ Below w.heap.size w w' := by
  unfold quota_Use.f at h
  cases hp : quota_place.f k l0 a1 with
  | none => rw [hp] at h; exact absurd h (by simp)
  | some p =>
    obtain ⟨i, is⟩ := p
    rw [hp] at h
    simp only [Option.bind_some] at h
    have hp' := hp
    have HP := Aside0.mk (quota_place.calls k A0 c0 l0 a1 i is w hr0 hc0 hp)
    clear hp
    have HR := Aside0.mk hr0
    have hnil : ∀ (w' : World), Below w.heap.size w w' → UsedAs w [] r2 (.returned (.tuple #[.slice none 0 0, .int .i64 r2])) w' := fun w' hb => ⟨_, rfl, Kd.R_nil _ _ _ _ _, hb⟩
    have HN := Aside0.mk hnil
    clear hnil hr0
    show Calls _ _ _ w (UsedAs w r1 r2)
    cases is with
    | false =>
      rw [if_neg (by simp)] at h
      clear hp'
      simp only [Option.some.injEq, Prod.mk.injEq] at h
      obtain ⟨rfl, rfl⟩ := h
      go_enter Try.func24, Try.ntmps24
      go_wp2_with (go_at_call 40; (with_reducible refine HP.out.mono ?_); rintro e w1 ⟨rfl, hb⟩)
      go_ret2
      exact HN.out _ hb
    | true =>
      rw [if_pos rfl] at h
      have hir := quota_place.place_true k l0 a1 i hp'
      obtain ⟨j, rfl⟩ : ∃ j : Nat, i = (j : Int) := ⟨i.toNat, by omega⟩
      have hj : j < l0.length := by omega
      have hlen : l0.length ≤ 1000000 := hir.2.2
      clear hp' hir
      obtain ⟨ad, e, hx0, hx1, hx2⟩ := at_T53 HR.out (j : Int) (Int.natCast_nonneg j) (by omega)
      cases e
      have p0 : (0 : Int) ≤ (j : Int) := Int.natCast_nonneg j
      have q0 : (j : Int) < (l0.length : Int) := by omega
      simp only [Int.toNat_natCast] at hx0 hx1 hx2
      have hk : ∀ (w1 : World), Below w.heap.size w w1 → w1.cell? ⟨(ad.add (j * 3)).block, (ad.add (j * 3)).off + 2, none⟩ = some (.int .i64 (rd_T53 l0 j).f2) := fun w1 hb => pw_cell_below hb hx2
      have HK := Aside0.mk hk
      clear hk hx0 hx1 hx2
      by_cases c1 : a2 > 1099511627776
      · rw [if_pos c1] at h
        simp only [Option.some.injEq, Prod.mk.injEq] at h
        obtain ⟨rfl, rfl⟩ := h
        go_enter Try.func24, Try.ntmps24
        go_wp2_with (go_at_call 40; (with_reducible refine HP.out.mono ?_); rintro e w1 ⟨rfl, hb⟩)
        go_ret2
        exact HN.out _ hb
      rw [if_neg c1] at h
      by_cases c2 : a2 < -1099511627776
      · rw [if_pos c2] at h
        simp only [Option.some.injEq, Prod.mk.injEq] at h
        obtain ⟨rfl, rfl⟩ := h
        go_enter Try.func24, Try.ntmps24
        go_wp2_with (go_at_call 40; (with_reducible refine HP.out.mono ?_); rintro e w1 ⟨rfl, hb⟩)
        go_ret2
        exact HN.out _ hb
      rw [if_neg c2] at h
      by_cases c3 : wrap64 ((rd_T53 l0 j).f2 + a2) < 0
      · rw [if_pos c3] at h
        simp only [Option.some.injEq, Prod.mk.injEq] at h
        obtain ⟨rfl, rfl⟩ := h
        go_enter Try.func24, Try.ntmps24
        go_wp2_with (go_at_call 40; (with_reducible refine HP.out.mono ?_); rintro e w1 ⟨rfl, hb⟩; have hxx := HK.out _ hb)
        go_ret2
        exact HN.out _ hb
      rw [if_neg c3] at h
      by_cases c4 : wrap64 ((rd_T53 l0 j).f2 + a2) > 1099511627776
      · rw [if_pos c4] at h
        simp only [Option.some.injEq, Prod.mk.injEq] at h
        obtain ⟨rfl, rfl⟩ := h
        go_enter Try.func24, Try.ntmps24
        go_wp2_with (go_at_call 40; (with_reducible refine HP.out.mono ?_); rintro e w1 ⟨rfl, hb⟩; have hxx := HK.out _ hb)
        go_ret2
        exact HN.out _ hb
      rw [if_neg c4] at h
      simp only [Option.some.injEq, Prod.mk.injEq] at h
      obtain ⟨rfl, rfl⟩ := h
      have hcl := fun (w1 : World) (hb : Below w.heap.size w w1) => clone_any (some ad) c0 l0 w1 (Kd.C_below HR.out hb) hc0 (by omega)
      have HCL := Aside0.mk hcl
      clear hcl
      have c3b : decide (wrap64 ((rd_T53 l0 j).f2 + a2) < 0) = false := decide_eq_false c3
      have c4b : decide (1099511627776 < wrap64 ((rd_T53 l0 j).f2 + a2)) = false := decide_eq_false c4
      clear c3 c4
      simp only [Int.toNat_natCast]
      go_enter Try.func24, Try.ntmps24
      go_wp2_with (go_at_call 40; (with_reducible refine HP.out.mono ?_); rintro e w1 ⟨rfl, hb⟩; have hxx := HK.out _ hb)
      refine (HCL.out w1 hb).mono ?_
      rintro e w2 ⟨v2, rfl, ho, hb2⟩
      obtain ⟨g, cap, rfl, hbg, hcell, hfz, hset⟩ := own_used ho j hj
      have hb12 : Below w.heap.size w w2 := below_then hb hb.size hb2
      have hlt := World.block_lt_of_cell? w2 _ hcell
      have hfin : UsedAs w (l0.set j ⟨(rd_T53 l0 j).f0, (rd_T53 l0 j).f1, wrap64 ((rd_T53 l0 j).f2 + a2)⟩) 0 (.returned (.tuple #[.slice (some ⟨g, 0, none⟩) l0.length cap, .int .i64 0])) (w2.setCell ⟨g, j * 3 + 2, none⟩ (.int .i64 (wrap64 ((rd_T53 l0 j).f2 + a2)))) :=
        ⟨_, rfl, Kd.R_lower (hset _).1 hb.size, hb12.grown (hset _).2 hb12.size (fun k e => by cases e; exact Nat.le_trans hb.size hbg)⟩
      have HF := Aside0.mk hfin
      clear hfin hset ho hb2 hb12
      go_wp2_with fail
      go_ret2
      exact HF.out

end Go.Proofs.Yteieknlkcodkcaa.Q
