-- Written by wip/tools/drive.py out of the translation (the kit's print.py, with hand-proved functions beside). Not trusted: Lean checks it.
import Derived.Test.YteieknlkcodkcaaQx0
import Derived.Test.YteieknlkcodkcaaQx4
import Derived.Test.YteieknlkcodkcaaQx5
import Derived.Test.YteieknlkcodkcaaQxHExcess
import Derived.Test.YteieknlkcodkcaaQxHPlace
import Derived.Test.YteieknlkcodkcaaQxHUse
import Derived.Shelf.Abstract
import Derived.Shelf.RegionOpen
import Derived.LoopNIn
import Derived.LoopIn
import Derived.RangeFuncNested
import Derived.RangeFuncBound
import Derived.RangeFuncCalls
import Derived.RangeFuncLeaves
import Derived.RangeFuncFrom
import Derived.ControlIn
import Derived.OwnWalkIn
import Derived.TacticsInMore
namespace Go.Proofs.Yteieknlkcodkcaa.Q
open Go.RowKit Go.Proofs.YteieknlkcodkcaaW.PrintWords Go.Proofs.YteieknlkcodkcaaW.PrintLast Go.Proofs.YteieknlkcodkcaaW.PrintMore
attribute [local go_sem] max2_int min2_int max_two min_two max_three min_three max_four min_four   -- for this text's walks alone
set_option linter.unusedVariables false
set_option linter.unusedSimpArgs false

-- @import Derived.Shelf.Abstract
-- @import Derived.Shelf.RegionOpen
-- @import Derived.LoopNIn
-- @import Derived.LoopIn
-- @import Derived.RangeFuncNested
-- @import Derived.RangeFuncBound
-- @import Derived.RangeFuncCalls
-- @import Derived.RangeFuncLeaves
-- @import Derived.RangeFuncFrom
-- @import Derived.ControlIn
-- @import Derived.OwnWalkIn
-- @import Derived.TacticsInMore
/-- What each one wants: what it uses; one of them more. -/
def sharesOf (l : List S53) (p : Int) (more : Int) : List S32 := (l.map fun a => (⟨a.f1, a.f2⟩ : S32)).set p.toNat ⟨(rd_T53 l p).f1, min 1099511627776 (wrap64 ((rd_T53 l p).f2 + more))⟩
/-- Who has most beyond what it gets, but one. -/
def mostOf : List S53 → List Int → Int → Int → Int → Int → Int
  | [], _, _, _, out, _ => out
  | a :: l, g, but, i, out, most => if i ≠ but ∧ a.f2 > rd g i ∧ wrap64 (a.f2 - rd g i) > most then mostOf l g but (i + 1) a.f0 (wrap64 (a.f2 - rd g i)) else mostOf l g but (i + 1) out most
def quota_Victim.f (k : Nat) (n : Int) (l : List S53) (t more : Int) : Option (Int × Int) := (quota_place.f k l t).bind fun p =>
  if p.2 = true then (if more < 0 then some (0, 1) else if more > 1099511627776 then some (0, 1) else (quota_Total.f k l).bind fun tot => if wrap64 (tot + more) ≤ n then some (0, 0) else
    (quota_Fair.f k n (sharesOf l p.1 more)).bind fun g => if g.length = l.length then (if rd g p.1 < wrap64 ((rd_T53 l p.1).f2 + more) then some (0, 160) else some (mostOf l g p.1 0 0 0, 0)) else none)
  else some (0, 5)
theorem quota_Victim.mono : ∀ a0 a1 a2 a3 k, LeO (quota_Victim.f k a0 a1 a2 a3) (quota_Victim.f (k + 1) a0 a1 a2 a3) := fun a0 a1 a2 _ k =>
  LeO.bind (quota_place.mono a1 a2 k) (fun _ => LeO.ite (LeO.ite (LeO.refl _) (LeO.ite (LeO.refl _) (LeO.bind (quota_Total.mono a1 k) (fun _ => LeO.ite (LeO.refl _) (LeO.bind (quota_Fair.mono a0 _ k) (fun _ => LeO.refl _)))))) (LeO.refl _))
/-- The cells of what somebody wants. -/
def shc (a : S53) : List Value := [.int .i64 a.f1, .int .i64 a.f2]
theorem shc_len (l : List S53) : (l.flatMap shc).length = l.length * 2 := by
  induction l with
  | nil => rfl
  | cons a l ih => simp only [List.flatMap_cons, List.length_append, ih, List.length_cons]; show 2 + _ = _; omega
theorem shc_reps (w : World) (base : Nat) (ok : Nat → Prop) (l : List S53) : Reps (k32.M w base ok) 2 (l.map fun a => (⟨a.f1, a.f2⟩ : S32)) (l.flatMap shc) := by
  induction l with
  | nil => exact Reps.none _ _
  | cons a l ih => exact Reps.front (k32_mkM _ _ _ ⟨a.f1, a.f2⟩) rfl ih rfl
theorem take_rd53v (l : List S53) (k : Nat) (h : k < l.length) : l.take (k + 1) = l.take k ++ [rd_T53 l k] := by
  rw [List.take_succ_eq_append_getElem h]
  congr 1
  simp [rd_T53, List.getD_eq_getElem?_getD, h]
/-- One of a row of wants of the call's own: its cell 'Want', and the row behind a store there. -/
theorem own_want {W : World} {base : Nat} {ok : Nat → Prop} {v : Value} {l : List S32} (HO : Kd.R k32 32 W base ok v l) (j : Nat) (hj : j < l.length) :
    ∃ g cap, v = .slice (some ⟨g, 0, none⟩) l.length cap ∧ base ≤ g ∧ W.cell? ⟨g, j * 2 + 1, none⟩ = some (.int .i64 (rd_T32 l j).f1) ∧ W.frozen? ⟨g, j * 2 + 1, none⟩ = false ∧
      ∀ u : Int, Kd.R k32 32 (W.setCell ⟨g, j * 2 + 1, none⟩ (.int .i64 u)) base ok v (l.set j ⟨(rd_T32 l j).f0, u⟩) ∧ W.grownBy (W.setCell ⟨g, j * 2 + 1, none⟩ (.int .i64 u)) (some g) := by
  obtain ⟨inner, hown⟩ := Kd.R_own HO
  rcases hown.2 with ⟨_, h0⟩ | ⟨g, cap, cur, rfl, hb, hg, hnc, hcm, hsz, hcur⟩
  · omega
  · obtain ⟨_, _, hC⟩ := Kd.R_reads' HO
    obtain ⟨ad, e, hx0, hx1⟩ := at_T32 hC (j : Int) (Int.natCast_nonneg j) (by omega)
    injection e with e
    subst e
    simp only [Int.toNat_natCast, Addr.add_lit, Nat.zero_add] at hx0 hx1
    refine ⟨g, cap, rfl, hb, hx1, blk_frozen hg _, fun u => ?_⟩
    have h := Kd.R_seg (okp := fun _ => False) HO (j : Int) (Int.natCast_nonneg j) (by omega) (c := [.int .i64 (rd_T32 l j).f0, .int .i64 (rd_T32 l j).f1]) (seg := [.int .i64 u]) (j := 1) rfl
      (fun k v hk => by
        have hs : k32.sz = 2 := rfl
        rw [Int.toNat_natCast, hs]
        match k, hk with
        | 0, hk => simp at hk; subst hk; exact hx0
        | 1, hk => simp at hk; subst hk; exact hx1
        | k + 2, hk => simp at hk) (Nat.le_refl 2) (x' := ⟨(rd_T32 l j).f0, u⟩) (k32_mkM _ _ _ _) (fun _ h => h.elim)
    have hs : k32.sz = 2 := rfl
    simpa [World.setCells, hs] using h
/-- The greatest excess so far. -/
def outMost (l : List (Int × Int)) (z : Int × Int) : Int × Int := l.foldl (fun z x => if z.2 < x.2 then x else z) z
theorem outMost_snoc (l : List (Int × Int)) (x z : Int × Int) : outMost (l ++ [x]) z = if (outMost l z).2 < x.2 then x else outMost l z := by
  unfold outMost
  rw [List.foldl_append]
  rfl
theorem mostOf_eq (l : List S53) (g : List Int) (but : Int) : ∀ (i out most : Int), mostOf l g but i out most = (outMost (exl l g but i) (out, most)).1 := by
  induction l with
  | nil => intro i out most; rfl
  | cons a l ih =>
    intro i out most
    unfold mostOf exl
    by_cases c : i ≠ but ∧ rd g i < a.f2
    · rw [if_pos c]
      by_cases d : wrap64 (a.f2 - rd g i) > most
      · rw [if_pos ⟨c.1, c.2, d⟩, ih]
        simp only [outMost, List.foldl_cons]
        rw [if_pos (by exact d)]
      · rw [if_neg (fun h => d h.2.2), ih]
        simp only [outMost, List.foldl_cons]
        rw [if_neg (by exact d)]
    · rw [if_neg c, if_neg (fun h => c ⟨h.1, h.2.1⟩), ih]
/-- What a round of the loop keeps. -/
def KpV (B n₀ : Nat) (W W' : World) : Prop := Below n₀ W W' ∧ ∀ b, B ≤ b → b ≤ B + 2 → W'.heap[b]? = W.heap[b]?
theorem C_kept53 {w0 W W' : World} {A : Option Addr} {n : Nat} {xs : List S53} (h0 : Kd.C k53 w0 A n xs) (h : Kd.C k53 W A n xs) (hb : Below w0.heap.size W W') : Kd.C k53 W' A n xs :=
  ⟨h.1, h.2.1, fun hn => by
    obtain ⟨ad, e, hc⟩ := h.2.2 hn
    obtain ⟨ad0, e0, hx0, _, _⟩ := at_T53 h0 0 (by omega) (by omega)
    have e1 : ad = ad0 := by rw [e] at e0; injection e0
    subst e1
    have hlt : ad.block < w0.heap.size := by have := World.block_lt_of_cell? _ _ hx0; rwa [add_block] at this
    refine ⟨ad, e, fun j p hj => ?_⟩
    obtain ⟨c, hs, hK, hcell⟩ := hc j p hj
    exact ⟨c, hs, by rw [k53_open hK]; exact k53_mk _ _, fun i u hu => (hb.cell (by rw [add_block]; exact hlt)).trans (hcell i u hu)⟩⟩
theorem C_keptI {w0 W W' : World} {A : Option Addr} {n : Nat} {xs : List Int} (h0 : Kd.C (Kd.int .i64) w0 A n xs) (h : Kd.C (Kd.int .i64) W A n xs) (hb : Below w0.heap.size W W') : Kd.C (Kd.int .i64) W' A n xs :=
  ⟨h.1, h.2.1, fun hn => by
    obtain ⟨ad, e, hc⟩ := h.2.2 hn
    obtain ⟨ad0, e0, hx0⟩ := Kd.at_int h0 0 (by omega) (by omega)
    have e1 : ad = ad0 := by rw [e] at e0; injection e0
    subst e1
    have hlt : ad.block < w0.heap.size := by have := World.block_lt_of_cell? _ _ hx0; rwa [add_block] at this
    refine ⟨ad, e, fun j p hj => ?_⟩
    obtain ⟨c, hs, hK, hcell⟩ := hc j p hj
    exact ⟨c, hs, hK, fun i u hu => (hb.cell (by rw [add_block]; exact hlt)).trans (hcell i u hu)⟩⟩
theorem ExR.kept {B : Nat} {A0 : Option Addr} {c0 : Nat} {l0 : List S53} {G : Option Addr} {cg : Nat} {g : List Int} {but : Int} {w0 W W' : World} (h : ExR B A0 c0 l0 G cg g but W) (hl : Kd.C k53 w0 A0 l0.length l0) (hg : Kd.C (Kd.int .i64) w0 G g.length g)
    (hk : KpV B w0.heap.size W W') : ExR B A0 c0 l0 G cg g but W' :=
  ⟨(World.cell?_of_block (hk.2 B (by omega) (by omega))).trans h.c1, (World.cell?_of_block (hk.2 (B + 2) (by omega) (by omega))).trans h.c2, (World.cell?_of_block (hk.2 (B + 1) (by omega) (by omega))).trans h.c3, C_kept53 hl h.hl hk.1, C_keptI hg h.hg hk.1⟩
attribute [local go_sem] Oper.semAt_some
theorem vic_info : (Try.prog.info? 32).map (fun i => (i.zero, i.size, i.bytes)) = some (some (.agg #[.int .i64 0, .int .i64 0]), 2, 16) := by kernel_rfl
def VicAs (w : World) (r1 r2 : Int) (e : Ending) (w' : World) : Prop := e = .returned (.tuple #[.int .i64 r1, .int .i64 r2]) ∧ Below w.heap.size w w'
set_option maxHeartbeats 4000000 in
set_option maxRecDepth 100000 in
/-- The way that looks for somebody. -/
theorem victim_main (k : Nat) (n : Int) (A1 : Option Addr) (c1 : Nat) (l1 : List S53) (t more : Int) (j : Nat) (tot : Int) (g : List Int) (r1 r2 : Int) (w : World) (hr1 : Kd.C k53 w A1 l1.length l1) (hc1 : l1.length ≤ c1) (hj : j < l1.length) (hlen : l1.length ≤ 1000000)
    (HP : Aside0 (Calls Try.prog 40 #[.slice A1 l1.length c1, .int .i64 t] w fun e w' => e = .returned (.tuple #[.int .i64 (j : Int), .bool true]) ∧ Below w.heap.size w w'))
    (m0 : 0 ≤ more) (m1 : more ≤ 1099511627776) (ht : quota_Total.f k l1 = some tot) (htc : ¬ wrap64 (tot + more) ≤ n) (hf : quota_Fair.f k n (sharesOf l1 j more) = some g) (hg : g.length = l1.length)
    (hr : (if rd g j < wrap64 ((rd_T53 l1 j).f2 + more) then some ((0 : Int), (160 : Int)) else some (mostOf l1 g j 0 0 0, 0)) = some (r1, r2)) :
    Calls Try.prog 29 #[.int .i64 n, .slice A1 l1.length c1, .int .i64 t, .int .i64 more] w (VicAs w r1 r2) := by
  have HR := Aside0.mk hr1
  have HT := Aside0.mk ht
  have HF := Aside0.mk hf
  have HG := Aside0.mk hg
  have HH := Aside0.mk hr
  have htb : decide (wrap64 (tot + more) ≤ n) = false := decide_eq_false htc
  obtain ⟨i0, hi0, hz0, hz1, hz2⟩ := info_parts vic_info
  clear hr1 ht hf hg hr htc
  refine (callsIn_wide (n := 9)).1 ?_
  refine callsIn_of_wp_marks Try.func29 rfl trivial ?_ rfl
  refine (wpIn_wide (n := 9)).2 ?_
  simp only [Try.ntmps29, List.size_toArray, List.length_cons, List.length_nil, Nat.reduceAdd, Nat.reduceSub, Array.replicate_succ, Array.replicate_zero, List.push_toArray, List.append_toArray, List.nil_append, List.cons_append]
  go_wp2_with (first | (go_at_call 40; (with_reducible refine HP.out.mono ?_); rintro e w1 ⟨rfl, hb⟩) | (go_at_call 27; refine (quota_Total.calls k _ _ l1 tot _ (Kd.C_below HR.out hb) hc1 HT.out).mono ?_; rintro e w2 ⟨rfl, hb2⟩))
  have hb12 : Below w.heap.size w w2 := below_then hb hb.size hb2
  have HB := Aside0.mk hb12
  clear hb12 hb hb2 HP HT htb
  obtain ⟨W2, hW2⟩ : ∃ W2 : World, W2 = w2 := ⟨_, rfl⟩
  rw [← hW2] at HB ⊢
  clear hW2 w2
  go_loopw [12, 45] (fun v i wr => ∃ x : Nat, x ≤ l1.length ∧ i = .int .i64 x ∧ Aside0 (wr.ownsRow W2.heap.size 32 2 v x ((l1.take x).flatMap shc)) ∧ Aside0 (Below W2.heap.size W2 wr)) (fun _ i _ => l1.length - (intOf i).toNat)
  case atStart => exact ⟨0, Nat.zero_le _, rfl, ⟨World.ownsRow_nil _ _ _ _⟩, ⟨Below.refl _ _⟩⟩
  case round =>
    obtain ⟨x, hx, rfl, HO, HW⟩ := hrel
    by_cases hlt : x < l1.length
    · have p : (0 : Int) ≤ (x : Int) := Int.natCast_nonneg x
      have q : (x : Int) < (l1.length : Int) := by omega
      obtain ⟨ad, e, hx0, hx1, hx2⟩ := at_T53 (Kd.C_below (Kd.C_below HR.out HB.out) HW.out) (x : Int) p q
      cases e
      simp only [Int.toNat_natCast] at hx0 hx1 hx2
      have htk := take_rd53v l1 x hlt
      have hfm : (l1.take (x + 1)).flatMap shc = (l1.take x).flatMap shc ++ [.int .i64 (rd_T53 l1 x).f1, .int .i64 (rd_T53 l1 x).f2] := by
        rw [htk, List.flatMap_append]; rfl
      have HFM := Aside0.mk hfm
      have hows := (HO.out.alloc (.cells #[.int .i64 (rd_T53 l1 x).f0, .int .i64 (rd_T53 l1 x).f1, .int .i64 (rd_T53 l1 x).f2] 53)).alloc (.cells #[.int .i64 (rd_T53 l1 x).f1, .int .i64 (rd_T53 l1 x).f2] 32)
      have hbls : Below W2.heap.size W2 ((wr.alloc (.cells #[.int .i64 (rd_T53 l1 x).f0, .int .i64 (rd_T53 l1 x).f1, .int .i64 (rd_T53 l1 x).f2] 53)).alloc (.cells #[.int .i64 (rd_T53 l1 x).f1, .int .i64 (rd_T53 l1 x).f2] 32)) := (HW.out.alloc HW.out.size _).alloc (by have := HW.out.size; simp; omega) _
      have hnew : ∀ jj u, [Value.int .i64 (rd_T53 l1 x).f1, .int .i64 (rd_T53 l1 x).f2][jj]? = some u → ((wr.alloc (.cells #[.int .i64 (rd_T53 l1 x).f0, .int .i64 (rd_T53 l1 x).f1, .int .i64 (rd_T53 l1 x).f2] 53)).alloc (.cells #[.int .i64 (rd_T53 l1 x).f1, .int .i64 (rd_T53 l1 x).f2] 32)).cell? ((⟨wr.heap.size + 1, 0, none⟩ : Addr).add jj) = some u := by
        have h := heap_alloc_new (wr.alloc (.cells #[.int .i64 (rd_T53 l1 x).f0, .int .i64 (rd_T53 l1 x).f1, .int .i64 (rd_T53 l1 x).f2] 53)) (.cells #[.int .i64 (rd_T53 l1 x).f1, .int .i64 (rd_T53 l1 x).f2] 32)
        rw [World.size_alloc] at h
        exact World.news_of_block (cs := #[.int .i64 (rd_T53 l1 x).f1, .int .i64 (rd_T53 l1 x).f2]) h
      have HOS := Aside0.mk hows
      have HBL := Aside0.mk hbls
      have HNW := Aside0.mk hnew
      have hszl : W2.heap.size ≤ wr.heap.size + 1 + 1 := by have := HW.out.size; omega
      clear htk hfm hows hbls hnew HO
      go_wp2_with (at_builtin; refine wpList_append_own _ rfl _ _ 22 rfl W2.heap.size 32 i0 _ 2 16 Try.underlying22 hi0 hz0 hz1 hz2 rfl (by decide) _ x _ rfl HOS.out ⟨wr.heap.size + 1, 0, none⟩ 1 1 [.int .i64 (rd_T53 l1 x).f1, .int .i64 (rd_T53 l1 x).f2] rfl rfl HNW.out (by simp [Value.oneCell']) (by unfold maxLen; omega) (by omega) (by simp; omega) ?_; intro v' w3 hown' hgrow _; have HO3 := Aside0.mk hown'; have HW3 := Aside0.mk (HBL.out.grown hgrow HBL.out.size (fun k e => own_base HOS.out k e)); clear hown' hgrow)
      go_roundw
      case rel => exact ⟨x + 1, hlt, by go_num, ⟨by rw [HFM.out]; exact HO3.out⟩, HW3⟩
      case measure => simp [intOf]; omega
    · obtain rfl : x = l1.length := by omega
      have hO := HO.out
      rw [List.take_of_length_le (Nat.le_refl _)] at hO
      have HK : Aside0 (Kd.R k32 32 wr W2.heap.size (fun _ => True) u12 (l1.map fun a => (⟨a.f1, a.f2⟩ : S32))) := ⟨fun _ _ => trivial, _, by rw [List.length_map]; exact hO, shc_reps _ _ _ _⟩
      clear HO hO
      obtain ⟨gb, cap, rfl, hbg, hcell, hfz, hset⟩ := own_want HK.out j (by rw [List.length_map]; exact hj)
      have hrm : rd_T32 (l1.map fun a => (⟨a.f1, a.f2⟩ : S32)) (j : Int) = ⟨(rd_T53 l1 j).f1, (rd_T53 l1 j).f2⟩ := by
        simp [rd_T32, rd_T53, List.getD_eq_getElem?_getD, hj]
      rw [hrm] at hcell hset
      rw [List.length_map] at hset
      have hjl : (j : Int) < (l1.length : Int) := by omega
      have hj0 : (0 : Int) ≤ (j : Int) := Int.natCast_nonneg j
      have HSET := Aside0.mk hset
      have hst := HSET.out (min 1099511627776 (wrap64 ((rd_T53 l1 j).f2 + more)))
      have hsh : ((l1.map fun a => (⟨a.f1, a.f2⟩ : S32)).set j ⟨(rd_T53 l1 j).f1, min 1099511627776 (wrap64 ((rd_T53 l1 j).f2 + more))⟩) = sharesOf l1 j more := by unfold sharesOf; rw [Int.toNat_natCast]
      simp only [hsh] at hst
      have HST := Aside0.mk hst.1
      have HSG := Aside0.mk hst.2
      have hslen : (sharesOf l1 j more).length = l1.length := by unfold sharesOf; simp
      have HSL := Aside0.mk hslen
      rw [List.length_map] at HK
      rw [List.length_map]
      clear hset hst hsh HSET hrm hslen
      generalize hmv : min 1099511627776 (wrap64 ((rd_T53 l1 j).f2 + more)) = mv at HST HSG
      have hmv2 : (if wrap64 ((rd_T53 l1 j).f2 + more) < 1099511627776 then wrap64 ((rd_T53 l1 j).f2 + more) else 1099511627776) = mv := by
        rw [← hmv]; split <;> omega
      clear hmv
      have hst' := HST.out
      rw [show l1.length = (sharesOf l1 j more).length from HSL.out.symm] at hst'
      obtain ⟨_, hcl, hcc⟩ := Kd.R_reads' hst'
      have hfc := quota_Fair.calls k n (some ⟨gb, 0, none⟩) cap (sharesOf l1 j more) g _ hcc hcl HF.out
      rw [HSL.out] at hfc
      have HFC := Aside0.mk hfc
      have hbw : Below W2.heap.size W2 (wr.setCell ⟨gb, j * 2 + 1, none⟩ (.int .i64 mv)) := HW.out.setCell (p := ⟨gb, j * 2 + 1, none⟩) hbg _
      have HBW := Aside0.mk hbw
      clear hst' hcl hcc hfc hbw HST HSG HK HF
      go_wp2_with (go_at_call 16; (with_reducible refine HFC.out.mono ?_); rintro e w4 ⟨v4, rfl, hr4, hb4⟩)
      have HR4 := Aside0.mk hr4
      have HB4 := Aside0.mk (below_then HBW.out HBW.out.size hb4)
      clear hr4 hb4
      have hbw4 : Below w.heap.size w w4 := below_then HB.out HB.out.size HB4.out
      have HBW4 := Aside0.mk hbw4
      obtain ⟨G, cg, rfl, hgl, hgc⟩ := Kd.R_reads HR4.out
      have HGC := Aside0.mk hgc
      have hl4 := Kd.C_below HR.out hbw4
      obtain ⟨ad, e, hx0, hx1, hx2⟩ := at_T53 hl4 (j : Int) hj0 hjl
      cases e
      have hjg : (j : Int) < (g.length : Int) := by rw [HG.out]; exact hjl
      obtain ⟨ad2, e, hy0⟩ := Kd.at_int hgc (j : Int) hj0 hjg
      cases e
      have HL4 := Aside0.mk hl4
      simp only [Int.toNat_natCast] at hx0 hx1 hx2 hy0
      have hwr : IntKind.i64.wrap ((rd_T53 l1 j).f2 + more) = wrap64 ((rd_T53 l1 j).f2 + more) := by rw [IntKind.wrap_i64]; unfold wrap64; rfl
      clear hbw4 hgc hl4 hmv2 hcell hfz
      by_cases c : rd g j < wrap64 ((rd_T53 l1 j).f2 + more)
      · have cb : decide (rd g j < wrap64 ((rd_T53 l1 j).f2 + more)) = true := decide_eq_true c
        have hh := HH.out
        rw [if_pos c] at hh
        simp only [Option.some.injEq, Prod.mk.injEq] at hh
        obtain ⟨rfl, rfl⟩ := hh
        clear HH c
        have HBW5 := HBW4
        go_quiet (fail)
        go_wp2
        exact ⟨_, results_tmp2 rfl _ _ _, rfl, pw_below_drewN HBW5.out nq⟩
      · have cb : decide (rd g j < wrap64 ((rd_T53 l1 j).f2 + more)) = false := decide_eq_false c
        have hh := HH.out
        rw [if_neg c] at hh
        simp only [Option.some.injEq, Prod.mk.injEq] at hh
        obtain ⟨rfl, rfl⟩ := hh
        clear HH c
        go_quiet (fail)
        obtain ⟨W5, hW5⟩ : ∃ W5 : World, W5 = w4.drewN nq := ⟨_, rfl⟩
        have HL5 : Aside0 (Kd.C k53 W5 (some ad) l1.length l1) := ⟨by rw [hW5]; exact Kd.C_drewN HL4.out nq⟩
        have HG5 : Aside0 (Kd.C (Kd.int .i64) W5 (some ad2) g.length g) := ⟨by rw [hW5]; exact Kd.C_drewN HGC.out nq⟩
        have HB5 : Aside0 (Below w.heap.size w W5) := ⟨by rw [hW5]; exact pw_below_drewN HBW4.out nq⟩
        rw [← hW5]
        clear hW5 HL4 HGC HBW4 HR4 HB4 HBW HFC HW HSL hx0 hx1 hx2 hy0 hwr cb hjg
        go_wp2
        refine (wpIn_wide (n := 9)).1 ?_
        obtain ⟨W6, hW6⟩ : ∃ W6 : World, W6 = (((((W5.alloc (.cells #[.int .i64 0] 3)).alloc (.cells #[.int .i64 0] 3)).alloc (.cells #[.slice (some ad) l1.length c1] 35)).alloc (.cells #[.slice (some ad2) g.length cg] 23)).alloc (.cells #[.int .i64 j] 3)) := ⟨_, rfl⟩
        have hs6 : W6.heap.size = W5.heap.size + 5 := by rw [hW6]; simp
        have hb6 : Below W5.heap.size W5 W6 := by
          rw [hW6]
          exact (((((Below.refl _ _).alloc (Nat.le_refl _) _).alloc (by simp) _).alloc (by simp; omega) _).alloc (by simp; omega) _).alloc (by simp; omega) _
        have hbw6 : Below w.heap.size w W6 := below_then HB5.out HB5.out.size hb6
        have k0 : W6.cell? ⟨W5.heap.size, 0, none⟩ = some (.int .i64 0) ∧ W6.frozen? ⟨W5.heap.size, 0, none⟩ = false := by rw [hW6]; constructor <;> simp [go_sem]
        have k1 : W6.cell? ⟨W5.heap.size + 1, 0, none⟩ = some (.int .i64 0) ∧ W6.frozen? ⟨W5.heap.size + 1, 0, none⟩ = false := by rw [hW6]; constructor <;> simp [go_sem]
        have hex : ExR (W5.heap.size + 2) (some ad) c1 l1 (some ad2) cg g j W6 := by
          refine ⟨?_, ?_, ?_, Kd.C_below HL5.out hb6, Kd.C_below HG5.out hb6⟩ <;> rw [hW6] <;> simp [go_sem]
        rw [← hW6]
        clear hW6
        refine wpIn_rangeFunc_ownF rfl (by omega) (gf := 50) (lb := #[.pointer (some ⟨W5.heap.size + 2, 0, none⟩), .pointer (some ⟨W5.heap.size + 2 + 2, 0, none⟩), .pointer (some ⟨W5.heap.size + 2 + 1, 0, none⟩)]) rfl trivial (enters_of Try.func50 (by kernel_rfl) rfl)
          (encs := fun x : Int × Int => #[Value.int .i64 x.1, Value.int .i64 x.2]) (Kp := KpV (W5.heap.size + 2) W5.heap.size) (S := fun xs => xs = exl l1 g j 0) (Sp := fun _ => True) (N := l1.length) (w0 := W6) ?hseq ?hKt ?hKb (Below.refl _ _) (fun _ => rfl)
          (fun pre W => ((W.cell? ⟨W5.heap.size, 0, none⟩ = some (.int .i64 (outMost pre (0, 0)).1) ∧ W.frozen? ⟨W5.heap.size, 0, none⟩ = false) ∧ (W.cell? ⟨W5.heap.size + 1, 0, none⟩ = some (.int .i64 (outMost pre (0, 0)).2) ∧ W.frozen? ⟨W5.heap.size + 1, 0, none⟩ = false)) ∧ Below w.heap.size w W)
          (fun _ _ _ => False) ?hI (fun _ _ _ _ _ hs _ _ => hs) ?h0 ?a1 ?assign ?body ?done ?stop
        case hseq =>
          intro l J Jx W hW hJ hJx hY hj0
          exact excess1_in 8 (by omega) l (W5.heap.size + 2) (some ad) c1 l1 (some ad2) cg g j W J Jx _ hJ (fun W1 W' h hk => h.kept HL5.out HG5.out hk) hY (hex.below hW) HG.out.symm hj0
        case hKt => exact fun h k => ⟨h.1.trans k.1, fun b b1 b2 => (k.2 b b1 b2).trans (h.2 b b1 b2)⟩
        case hKb =>
          intro W l o o' hl ho h1 h2
          exact ⟨belowK_b (w := W6) (by omega) W l o o' hl ho h1 h2, fun b b1 b2 => World.putObj_heap_other (by omega)⟩
        case hI => exact OwnFrom.and (Own.from (fun s A B row hs hg hr => ⟨⟨cell_kept hs.1.1 hg hr, (frozen_kept hs.1.1 hg hr).trans hs.1.2⟩, ⟨cell_kept hs.2.1 hg hr, (frozen_kept hs.2.1 hg hr).trans hs.2.2⟩⟩) _) (ownFrom_below (Nat.le_refl _) (by have := HB5.out.size; omega))
        case h0 => exact ⟨⟨k0, k1⟩, hbw6⟩
        case assign =>
          intro l x W K hK
          gi_wp2
          exact hK
        case body =>
          rintro l pre x W ⟨⟨⟨b0, b1⟩, ⟨b2, b3⟩⟩, hB⟩ _
          have hsn := outMost_snoc pre x (0, 0)
          by_cases c : (outMost pre (0, 0)).2 < x.2
          · rw [if_pos c] at hsn
            have HSN := Aside0.mk hsn
            have cb : decide ((outMost pre (0, 0)).2 < x.2) = true := decide_eq_true c
            clear hsn c
            gi_wp2
            have e1 : (W.setCell ⟨W5.heap.size, 0, none⟩ (.int .i64 x.1)).cell? ⟨W5.heap.size + 1, 0, none⟩ = some (.int .i64 (outMost pre (0, 0)).2) := by
              rw [World.cell?_setCell_other _ _ _ _ (by simp)]; exact b2
            refine ⟨(KeepsOthers.setCell _ _ _).trans (KeepsOthers.setCell _ _ _), ⟨((Below.refl _ W).setCell (p := ⟨W5.heap.size, 0, none⟩) (Nat.le_refl _) _).setCell (p := ⟨W5.heap.size + 1, 0, none⟩) (by simp) _, fun b hb1 hb2 => ?_⟩, ⟨⟨?_, ?_⟩, ⟨?_, ?_⟩⟩, ?_⟩
            · rw [Below.heap_setCell _ _ _ _ (by simp; omega), Below.heap_setCell _ _ _ _ (by simp; omega)]
            · rw [HSN.out, World.cell?_setCell_other _ _ _ _ (by simp)]
              exact World.cell?_setCell_same' _ _ _ (by rw [b0]; rfl)
            · rw [World.frozen?_setCell, World.frozen?_setCell]; exact b1
            · rw [HSN.out]
              exact World.cell?_setCell_same' _ _ _ (by rw [e1]; rfl)
            · rw [World.frozen?_setCell, World.frozen?_setCell]; exact b3
            · exact (hB.setCell (p := ⟨W5.heap.size, 0, none⟩) HB5.out.size _).setCell (p := ⟨W5.heap.size + 1, 0, none⟩) (by have := HB5.out.size; show w.heap.size ≤ W5.heap.size + 1; omega) _
          · rw [if_neg c] at hsn
            have HSN := Aside0.mk hsn
            have cb : decide ((outMost pre (0, 0)).2 < x.2) = false := decide_eq_false c
            clear hsn c
            gi_wp2
            exact ⟨KeepsOthers.refl _, ⟨Below.refl _ _, fun _ _ _ => rfl⟩, ⟨⟨by rw [HSN.out]; exact b0, b1⟩, ⟨by rw [HSN.out]; exact b2, b3⟩⟩, hB⟩
        case done =>
          rintro D ys W hD rfl ⟨⟨⟨b0, _⟩, _⟩, hB⟩ hK
          have HB' := Aside0.mk hB
          clear hB
          rw [← mostOf_eq] at b0
          go_wp2
          refine ⟨by simp, .inl ⟨_, _, rfl, run_takeDeferred hK, ?_⟩⟩
          exact ⟨_, results_tmp2 rfl _ _ _, rfl, HB'.out.trans (belowK_b (w := w) (Nat.le_refl _) W D _ _ (by have := HB5.out.size; omega) hK rfl rfl)⟩
        case stop =>
          rintro D c pre W _ _ h _
          exact h.elim
set_option maxHeartbeats 4000000 in
set_option maxRecDepth 100000 in
theorem quota_Victim.calls (k : Nat) (a0 : Int) (A1 : Option Addr) (c1 : Nat) (l1 : List (S53)) (a2 : Int) (a3 : Int) (r1 : Int) (r2 : Int) (w : World) (hr1 : Kd.C k53 w A1 l1.length l1) (hc1 : l1.length ≤ c1) (h : quota_Victim.f k a0 l1 a2 a3 = some (r1, r2)) :
    Calls Try.prog 29 #[.int .i64 a0, .slice A1 l1.length c1, .int .i64 a2, .int .i64 a3] w fun e w' => e = .returned (.tuple #[.int .i64 r1, .int .i64 r2]) ∧ Below w.heap.size w w' := by
  unfold quota_Victim.f at h
  cases hp : quota_place.f k l1 a2 with
  | none => rw [hp] at h; exact absurd h (by simp)
  | some p =>
    obtain ⟨i, is⟩ := p
    rw [hp] at h
    simp only [Option.bind_some] at h
    have hp' := hp
    have HP := Aside0.mk (quota_place.calls k A1 c1 l1 a2 i is w hr1 hc1 hp)
    clear hp
    have HR := Aside0.mk hr1
    show Calls _ _ _ w (VicAs w r1 r2)
    cases is with
    | false =>
      rw [if_neg (by simp)] at h
      simp only [Option.some.injEq, Prod.mk.injEq] at h
      obtain ⟨rfl, rfl⟩ := h
      clear hp' hr1
      go_enter Try.func29, Try.ntmps29
      go_wp2_with (go_at_call 40; (with_reducible refine HP.out.mono ?_); rintro e w1 ⟨rfl, hb⟩)
      go_ret2
      exact ⟨rfl, hb⟩
    | true =>
      rw [if_pos rfl] at h
      have hir := quota_place.place_true k l1 a2 i hp'
      obtain ⟨j, rfl⟩ : ∃ j : Nat, i = (j : Int) := ⟨i.toNat, by omega⟩
      have hj : j < l1.length := by omega
      have hlen : l1.length ≤ 1000000 := hir.2.2
      clear hp' hir
      by_cases m0 : a3 < 0
      · rw [if_pos m0] at h
        simp only [Option.some.injEq, Prod.mk.injEq] at h
        obtain ⟨rfl, rfl⟩ := h
        clear hr1
        go_enter Try.func29, Try.ntmps29
        go_wp2_with (go_at_call 40; (with_reducible refine HP.out.mono ?_); rintro e w1 ⟨rfl, hb⟩)
        go_ret2
        exact ⟨rfl, hb⟩
      rw [if_neg m0] at h
      by_cases m1 : a3 > 1099511627776
      · rw [if_pos m1] at h
        simp only [Option.some.injEq, Prod.mk.injEq] at h
        obtain ⟨rfl, rfl⟩ := h
        clear hr1
        go_enter Try.func29, Try.ntmps29
        go_wp2_with (go_at_call 40; (with_reducible refine HP.out.mono ?_); rintro e w1 ⟨rfl, hb⟩)
        go_ret2
        exact ⟨rfl, hb⟩
      rw [if_neg m1] at h
      cases ht : quota_Total.f k l1 with
      | none => rw [ht] at h; exact absurd h (by simp)
      | some tot =>
        rw [ht] at h
        simp only [Option.bind_some] at h
        by_cases c : wrap64 (tot + a3) ≤ a0
        · rw [if_pos c] at h
          simp only [Option.some.injEq, Prod.mk.injEq] at h
          obtain ⟨rfl, rfl⟩ := h
          have HT := Aside0.mk ht
          have cb : decide (wrap64 (tot + a3) ≤ a0) = true := decide_eq_true c
          have HC1 := Aside0.mk hc1
          clear hr1 ht c
          go_enter Try.func29, Try.ntmps29
          go_wp2_with (first | (go_at_call 40; (with_reducible refine HP.out.mono ?_); rintro e w1 ⟨rfl, hb⟩) | (go_at_call 27; refine (quota_Total.calls k _ _ l1 tot _ (Kd.C_below HR.out hb) hc1 HT.out).mono ?_; rintro e w2 ⟨rfl, hb2⟩))
          go_ret2
          exact ⟨rfl, below_then hb hb.size hb2⟩
        rw [if_neg c] at h
        cases hf : quota_Fair.f k a0 (sharesOf l1 (j : Int) a3) with
        | none => rw [hf] at h; exact absurd h (by simp)
        | some g =>
          rw [hf] at h
          simp only [Option.bind_some] at h
          by_cases hg : g.length = l1.length
          · rw [if_pos hg] at h
            exact victim_main k a0 A1 c1 l1 a2 a3 j tot g r1 r2 w hr1 hc1 hj hlen HP (by omega) (by omega) ht c hf hg h
          · rw [if_neg hg] at h
            exact absurd h (by simp)

end Go.Proofs.Yteieknlkcodkcaa.Q
