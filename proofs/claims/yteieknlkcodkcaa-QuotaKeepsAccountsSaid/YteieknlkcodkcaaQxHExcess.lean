-- Written by wip/tools/drive.py out of the translation (the kit's print.py, with hand-proved functions beside). Not trusted: Lean checks it.
import Derived.Test.YteieknlkcodkcaaQx0
import Derived.Test.YteieknlkcodkcaaQxHStillIn
import Derived.RangeFuncNested
import Derived.RangeFuncBound
import Derived.RangeFuncCalls
import Derived.RangeFuncLeaves
import Derived.RangeFuncFrom
import Derived.Shelf.Abstract
import Derived.Shelf.RegionOpen
import Derived.OwnWalkIn
import Derived.TacticsInMore
import Derived.LoopNIn
import Derived.LoopIn
import Derived.Sort.QuietTacIn
import Derived.Sort.QuietIn
namespace Go.Proofs.Yteieknlkcodkcaa.Q
open Go.RowKit Go.Proofs.YteieknlkcodkcaaW.PrintWords Go.Proofs.YteieknlkcodkcaaW.PrintLast Go.Proofs.YteieknlkcodkcaaW.PrintMore
attribute [local go_sem] max2_int min2_int max_two min_two max_three min_three max_four min_four   -- for this text's walks alone
set_option linter.unusedVariables false
set_option linter.unusedSimpArgs false

-- @import Derived.RangeFuncNested
-- @import Derived.RangeFuncBound
-- @import Derived.RangeFuncCalls
-- @import Derived.RangeFuncLeaves
-- @import Derived.RangeFuncFrom
-- @import Derived.Shelf.Abstract
-- @import Derived.Shelf.RegionOpen
-- @import Derived.OwnWalkIn
-- @import Derived.TacticsInMore
-- @import Derived.LoopNIn
-- @import Derived.LoopIn
-- @import Derived.Sort.QuietTacIn
-- @import Derived.Sort.QuietIn
/-- Who has more than it gets, but one: tenants, and how much more. -/
def exl : List S53 → List Int → Int → Int → List (Int × Int)
  | [], _, _, _ => []
  | a :: l, g, but, i => if i ≠ but ∧ rd g i < a.f2 then (a.f0, wrap64 (a.f2 - rd g i)) :: exl l g but (i + 1) else exl l g but (i + 1)
theorem exl_length (l : List S53) (g : List Int) (but : Int) : ∀ i, (exl l g but i).length ≤ l.length := by
  induction l with
  | nil => intro i; simp [exl]
  | cons a l ih =>
    intro i
    unfold exl
    have := ih (i + 1)
    split <;> simp <;> omega
theorem exl_snoc (l : List S53) (a : S53) (g : List Int) (but : Int) : ∀ i, exl (l ++ [a]) g but i = exl l g but i ++ (if i + (l.length : Int) ≠ but ∧ rd g (i + l.length) < a.f2 then [(a.f0, wrap64 (a.f2 - rd g (i + l.length)))] else []) := by
  induction l with
  | nil => intro i; simp [exl]
  | cons b l ih =>
    intro i
    have e : i + ((b :: l).length : Int) = (i + 1) + (l.length : Int) := by simp; omega
    rw [e]
    simp only [List.cons_append, exl]
    rw [ih (i + 1)]
    split <;> simp
theorem take_rd53 (l : List S53) (k : Nat) (h : k < l.length) : l.take (k + 1) = l.take k ++ [rd_T53 l k] := by
  rw [List.take_succ_eq_append_getElem h]
  congr 1
  simp [rd_T53, List.getD_eq_getElem?_getD, h]
theorem grown_drewN (w : World) (n : Nat) : w.grownBy (w.drewN n) none := ⟨rfl, rfl, rfl, Nat.le_refl _, fun _ _ _ => rfl⟩
theorem World.grownBy.drew (w : World) : w.grownBy w.drew none := ⟨rfl, rfl, rfl, Nat.le_refl _, fun _ _ _ => rfl⟩
theorem yields_one {e : Ending} {A B : Prop} (h : (e = .returned (.bool true) ∧ A) ∨ (e = .returned (.bool false) ∧ B)) : ∃ b : Bool, e = .returned (.bool b) ∧ Aside0 ((b = true ∧ A) ∨ (b = false ∧ B)) := by
  rcases h with ⟨rfl, h⟩ | ⟨rfl, h⟩
  · exact ⟨true, rfl, ⟨.inl ⟨rfl, h⟩⟩⟩
  · exact ⟨false, rfl, ⟨.inr ⟨rfl, h⟩⟩⟩
attribute [local go_sem] Oper.semAt_some
/-- What the iterator reads, in the world at hand. -/
structure ExR (B : Nat) (A0 : Option Addr) (c0 : Nat) (l0 : List S53) (G : Option Addr) (cg : Nat) (g : List Int) (but : Int) (W : World) : Prop where
  c1 : W.cell? ⟨B, 0, none⟩ = some (.slice A0 l0.length c0)
  c2 : W.cell? ⟨B + 2, 0, none⟩ = some (.int .i64 but)
  c3 : W.cell? ⟨B + 1, 0, none⟩ = some (.slice G g.length cg)
  hl : Kd.C k53 W A0 l0.length l0
  hg : Kd.C (Kd.int .i64) W G g.length g
theorem ExR.below {B : Nat} {A0 : Option Addr} {c0 : Nat} {l0 : List S53} {G : Option Addr} {cg : Nat} {g : List Int} {but : Int} {W W' : World} (h : ExR B A0 c0 l0 G cg g but W) (hb : Below W.heap.size W W') : ExR B A0 c0 l0 G cg g but W' :=
  ⟨pw_cell_below hb h.c1, pw_cell_below hb h.c2, pw_cell_below hb h.c3, Kd.C_below h.hl hb, Kd.C_below h.hg hb⟩
set_option maxRecDepth 100000 in
set_option maxHeartbeats 4000000 in
theorem excess1_in (n : Nat) (hn : 1 ≤ n) (lp B : Nat) (A0 : Option Addr) (c0 : Nat) (l0 : List S53) (G : Option Addr) (cg : Nat) (g : List Int) (but : Int) (W : World)
    (J Jx : List (Int × Int) → World → Prop) (Kp : World → World → Prop) (hJ : AbidesFrom W.heap.size J) (hKR : ∀ W1 W', ExR B A0 c0 l0 G cg g but W1 → Kp W1 W' → ExR B A0 c0 l0 G cg g but W')
    (hY : ∀ pre x W1, J pre W1 → pre.length < l0.length → YieldAt Fence.wide (n - 1) Try.prog lp #[.int .i64 x.1, .int .i64 x.2] W1 fun e W' => (e = .returned (.bool true) ∧ J (pre ++ [x]) W' ∧ Kp W1 W') ∨ (e = .returned (.bool false) ∧ Jx (pre ++ [x]) W'))
    (hW : ExR B A0 c0 l0 G cg g but W) (hlen : l0.length = g.length) (h0 : J [] W) :
    CallsIn Fence.wide n Try.prog 50 #[.func (.yield lp) #[] #[], .pointer (some ⟨B, 0, none⟩), .pointer (some ⟨B + 2, 0, none⟩), .pointer (some ⟨B + 1, 0, none⟩)] W fun e W' => (∃ v, e = .returned v) ∧ ((∃ xs, xs = exl l0 g but 0 ∧ J xs W') ∨ (∃ pre, True ∧ Jx pre W')) := by
  have HW := Aside0.mk hW
  have HN := Aside0.mk hlen
  have hm := hW.hl.2.1
  have hW1 := hW.c1
  clear hW hlen
  refine callsIn_of_wp Try.func50 rfl trivial ?_ rfl
  simp only [Try.ntmps50, List.size_toArray, List.length_cons, List.length_nil, Nat.reduceAdd, Nat.reduceSub, Array.replicate_succ, Array.replicate_zero, List.push_toArray, List.append_toArray, List.nil_append, List.cons_append]
  gi_wp2
  gi_loopw [9] (fun i wr => ∃ k : Nat, k ≤ l0.length ∧ i = .int .i64 k ∧ Aside0 (J (exl (l0.take k) g but 0) wr) ∧ Aside0 (ExR B A0 c0 l0 G cg g but wr)) (fun i _ => l0.length - (intOf i).toNat)
  case atStart => exact ⟨0, Nat.zero_le _, rfl, ⟨h0⟩, HW⟩
  case round =>
    obtain ⟨k, hk, rfl, HJ, HB⟩ := hrel
    by_cases hlt : k < l0.length
    · have p : (0 : Int) ≤ (k : Int) := Int.natCast_nonneg k
      have q : (k : Int) < (l0.length : Int) := by omega
      obtain ⟨ad, e, hx0, hx1, hx2⟩ := at_T53 HB.out.hl (k : Int) p q
      cases e
      simp only [Int.toNat_natCast] at hx0 hx1 hx2
      have hb2 := HB.out.c2
      have hb3 := HB.out.c3
      have q2 : (k : Int) < (g.length : Int) := by rw [← HN.out]; omega
      obtain ⟨ad2, e, hy0⟩ := Kd.at_int HB.out.hg (k : Int) p q2
      cases e
      simp only [Int.toNat_natCast] at hy0
      have l0_ := World.block_lt_of_cell? _ _ hx0
      have l1_ := World.block_lt_of_cell? _ _ hb2
      have l2_ := World.block_lt_of_cell? _ _ hb3
      have l3_ := World.block_lt_of_cell? _ _ hy0
      obtain ⟨W1, hW1⟩ : ∃ W1, W1 = wr.alloc (.cells #[.int .i64 (rd_T53 l0 k).f0, .int .i64 (rd_T53 l0 k).f1, .int .i64 (rd_T53 l0 k).f2] 53) := ⟨_, rfl⟩
      have v2 : W1.cell? ⟨B + 2, 0, none⟩ = some (.int .i64 but) := by rw [hW1, World.cell?_alloc_lt _ _ _ l1_]; exact hb2
      have v3 : W1.cell? ⟨B + 1, 0, none⟩ = some (.slice (some ad2) g.length cg) := by rw [hW1, World.cell?_alloc_lt _ _ _ l2_]; exact hb3
      have v4 : W1.cell? (ad2.add k) = some (.int .i64 (rd g k)) := by rw [hW1, World.cell?_alloc_lt _ _ _ l3_]; exact hy0
      have v5 : W1.cell? ⟨wr.heap.size, 0, none⟩ = some (.int .i64 (rd_T53 l0 k).f0) := by rw [hW1, World.cell?_alloc_at _ _ _ _ rfl]; rfl
      have v6 : W1.cell? ⟨wr.heap.size, 2, none⟩ = some (.int .i64 (rd_T53 l0 k).f2) := by rw [hW1, World.cell?_alloc_at _ _ _ _ rfl]; rfl
      have hJ1 : J (exl (l0.take k) g but 0) W1 := by
        rw [hW1]
        exact hJ _ _ _ none HJ.out (World.grownBy_alloc wr _ none) (fun r e => by cases e)
      have HJ1 := Aside0.mk hJ1
      have HB1 : Aside0 (ExR B (some ad) c0 l0 (some ad2) cg g but W1) := ⟨by rw [hW1]; exact HB.out.below ((Below.refl _ _).alloc (Nat.le_refl _) _)⟩
      have HW1 := Aside0.mk hW1
      clear hJ1 hW1
      have hto : l0.take (k + 1) = l0.take k ++ [rd_T53 l0 k] := take_rd53 l0 k hlt
      have hex := exl_snoc (l0.take k) (rd_T53 l0 k) g but 0
      rw [← hto, List.length_take, Nat.min_eq_left (by omega), Int.zero_add] at hex
      have HEX := Aside0.mk hex
      clear hex hto
      by_cases c : (k : Int) ≠ but
      · have cb : ((k : Int) != but) = true := by simpa using c
        have cb2 : ((k : Int) == but) = false := by simpa using c
        by_cases d : rd g k < (rd_T53 l0 k).f2
        · have db : decide (rd g k < (rd_T53 l0 k).f2) = true := decide_eq_true d
          have HEX' : Aside0 (exl (l0.take (k + 1)) g but 0 = exl (l0.take k) g but 0 ++ [((rd_T53 l0 k).f0, wrap64 ((rd_T53 l0 k).f2 - rd g k))]) := ⟨by rw [HEX.out, if_pos ⟨c, d⟩]⟩
          clear HEX d c
          have hJd : J (exl (l0.take k) g but 0) W1.drew := hJ _ _ _ none HJ1.out (World.grownBy.drew W1) (fun r e => by cases e)
          obtain ⟨fn, tmps, assign, body, hy, hR⟩ := hY _ ((rd_T53 l0 k).f0, wrap64 ((rd_T53 l0 k).f2 - rd g k)) W1.drew hJd (by have := exl_length (l0.take k) g but 0; rw [List.length_take] at this; omega)
          dsimp only at hy
          have hwr : IntKind.i64.wrap ((rd_T53 l0 k).f2 - rd g k) = wrap64 ((rd_T53 l0 k).f2 - rd g k) := by rw [IntKind.wrap_i64]; unfold wrap64; rfl
          have HR := Aside0.mk hR
          have HKR := Aside0.mk hKR
          clear hR hJd hY hJ hKR cb2 h0
          gi_wp2
          rw [← HW1.out]
          clear hx0 hx1 hx2 hb2 hb3 hy0 l0_ l1_ l2_ l3_
          refine wpIn_region_still_tail 23 (by kernel_rfl) (by kernel_rfl) ?_
          simp only [List.take_succ_cons, List.take_zero, List.drop_succ_cons, List.drop_zero]
          repeat still_step
          refine wpStill_nil ?_
          gi_wp2
          refine HR.out.mono ?_
          rintro e W3 (⟨rfl, hJ3, hk3⟩ | ⟨rfl, hJx3⟩)
          · have HJ3 := Aside0.mk hJ3
            have HK3 := Aside0.mk hk3
            clear hJ3 hk3
            gi_wp2
            go_roundw
            case rel => exact ⟨k + 1, hlt, by go_num, ⟨by rw [HEX'.out]; exact HJ3.out⟩, ⟨HKR.out _ _ (HB1.out.below (below_drew (Below.refl _ _))) HK3.out⟩⟩
            case measure => simp [intOf]; omega
          · have HJX := Aside0.mk hJx3
            clear hJx3
            gi_wp2
            refine bodyPost_ret (results_none rfl _ _ _) rfl ?_
            exact ⟨⟨_, rfl⟩, .inr ⟨_, trivial, HJX.out⟩⟩
        · have db : decide (rd g k < (rd_T53 l0 k).f2) = false := decide_eq_false d
          have HEX' : Aside0 (exl (l0.take (k + 1)) g but 0 = exl (l0.take k) g but 0) := ⟨by rw [HEX.out, if_neg (fun h => d h.2), List.append_nil]⟩
          clear HEX d c
          gi_wp2
          rw [← HW1.out]
          clear hx0 hx1 hx2 hb2 hb3 hy0 l0_ l1_ l2_ l3_
          refine wpIn_region_quiet_lit rfl (by kernel_rfl) (by kernel_rfl) ?_
          repeat gi_big_quiet_step (fail)
          refine BigFrame.wpQuietIn_skip (by intro w _ f hf; trivial) rfl ?_
          simp only [Act.put, List.setIfInBounds_toArray, List.set_cons_zero, List.set_cons_succ]
          repeat gi_big_quiet_step (fail)
          refine wpQuietIn_nil ?_
          intro _ hw'
          obtain ⟨nq, hw''⟩ := hw'
          subst hw''
          gi_wp2
          go_roundw
          case rel => exact ⟨k + 1, hlt, by go_num, ⟨by rw [HEX'.out]; exact hJ _ _ _ none HJ1.out (grown_drewN W1 nq) (fun r e => by cases e)⟩, ⟨HB1.out.below (pw_below_drewN (Below.refl _ _) nq)⟩⟩
          case measure => simp [intOf]; omega
      · have ce : (k : Int) = but := Classical.not_not.mp c
        have cb : ((k : Int) != but) = false := by simpa using ce
        have HEX' : Aside0 (exl (l0.take (k + 1)) g but 0 = exl (l0.take k) g but 0) := ⟨by rw [HEX.out, if_neg (fun h => h.1 ce), List.append_nil]⟩
        clear HEX c ce
        gi_wp2
        rw [← HW1.out]
        clear hx0 hx1 hx2 hb2 hb3 hy0 l0_ l1_ l2_ l3_
        refine wpIn_region_quiet_lit rfl (by kernel_rfl) (by kernel_rfl) ?_
        repeat gi_big_quiet_step (fail)
        refine BigFrame.wpQuietIn_skip (by intro w _ f hf; trivial) rfl ?_
        simp only [Act.put, List.setIfInBounds_toArray, List.set_cons_zero, List.set_cons_succ]
        repeat gi_big_quiet_step (fail)
        refine wpQuietIn_nil ?_
        intro _ hw'
        obtain ⟨nq, hw''⟩ := hw'
        subst hw''
        gi_wp2
        go_roundw
        case rel => exact ⟨k + 1, hlt, by go_num, ⟨by rw [HEX'.out]; exact hJ _ _ _ none HJ1.out (grown_drewN W1 nq) (fun r e => by cases e)⟩, ⟨HB1.out.below (pw_below_drewN (Below.refl _ _) nq)⟩⟩
        case measure => simp [intOf]; omega
    · obtain rfl : k = l0.length := by omega
      have hJ' := HJ.out
      rw [List.take_of_length_le (Nat.le_refl _)] at hJ'
      have HJ2 := Aside0.mk hJ'
      clear hJ' HJ
      gi_wp2
      go_end0
      exact ⟨⟨_, rfl⟩, .inl ⟨_, rfl, HJ2.out⟩⟩

end Go.Proofs.Yteieknlkcodkcaa.Q
