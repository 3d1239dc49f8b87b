-- Written by wip/tools/drive.py out of the translation (the kit's print.py, with hand-proved functions beside). Not trusted: Lean checks it.
import Derived.Test.YteieknlkcodkcaaQx0
import Derived.Lib.SliceRun
namespace Go.Proofs.Yteieknlkcodkcaa.Q
open Go.RowKit Go.Proofs.YteieknlkcodkcaaW.PrintWords Go.Proofs.YteieknlkcodkcaaW.PrintLast Go.Proofs.YteieknlkcodkcaaW.PrintMore
attribute [local go_sem] max2_int min2_int max_two min_two max_three min_three max_four min_four   -- for this text's walks alone
set_option linter.unusedVariables false
set_option linter.unusedSimpArgs false

-- @import Derived.Lib.SliceRun
/-- slices.Clone at accounts: a row of the call's own that holds the same. -/
def ClonedAs (w : World) (l : List S53) (e : Ending) (w' : World) : Prop := ∃ v' : Value, e = .returned v' ∧ Kd.R k53 53 w' w.heap.size (fun _ => True) v' l ∧ Below w.heap.size w w'
theorem cln_info : (Try.prog.info? 53).map (fun i => (i.zero, i.size, i.bytes)) = some (some (.agg #[.int .i64 0, .int .i64 0, .int .i64 0]), 3, 24) := by kernel_rfl
set_option maxHeartbeats 4000000 in
theorem clone_any (A0 : Option Addr) (c0 : Nat) (l0 : List S53) (w : World) (hr0 : Kd.C k53 w A0 l0.length l0) (hc0 : l0.length ≤ c0) (hbig : l0.length * 24 ≤ 140737488355328) :
    Calls Try.prog 42 #[.slice A0 l0.length c0] w (ClonedAs w l0) := by
  rcases A0 with _ | ad
  · have h0 : l0 = [] := by
      rcases Nat.eq_zero_or_pos l0.length with h | h
      · exact List.eq_nil_of_length_eq_zero h
      · obtain ⟨ad, e, _⟩ := hr0.2.2 h
        cases e
    subst h0
    have heq : ∀ (W : World) (n c : Nat), (Go.binOp BinOp.eql 35 (Value.slice none n c) (Value.slice none 0 0)).run Try.prog W = .ok (.bool true) W := fun W n c => Lib.run_eql_slice_nil (P := Try.prog) W 35 53 none n c 0 0 Try.underlying35
    have HD := Aside0.mk (⟨_, rfl, Kd.R_nil k53 53 w w.heap.size _, Below.refl _ _⟩ : ClonedAs w [] (.returned (.slice none 0 0)) w)
    clear hr0 hc0 hbig
    go_enter Try.func42, Try.ntmps42
    go_wp2
    go_ret
    exact HD.out
  · have heq : ∀ (W : World) (n c : Nat), (Go.binOp BinOp.eql 35 (Value.slice (some ad) n c) (Value.slice none 0 0)).run Try.prog W = .ok (.bool false) W := fun W n c => Lib.run_eql_slice_nil (P := Try.prog) W 35 53 (some ad) n c 0 0 Try.underlying35
    have HR := Aside0.mk hr0
    clear hr0
    have HO := Aside0.mk (⟨fun _ _ => trivial, [], ⟨rfl, .inr ⟨w.heap.size, 0, #[], rfl, Nat.le_refl _, heap_alloc_new w _, Nat.le_refl _, by decide, rfl, rfl⟩⟩, Reps.none _ _⟩ : Kd.R k53 53 (w.alloc (.cells #[] 53)) w.heap.size (fun _ => True) (.slice (some ⟨w.heap.size, 0, none⟩) 0 0) [])
    have HC := Aside0.mk (Kd.C_alloc HR.out (.cells #[] 53))
    clear HR
    go_enter Try.func42, Try.ntmps42
    go_wp2_with (at_builtin; refine Kd.R_append_rows k53 (w0 := w) w.heap.size rfl (.tmp 5) (.tmp 6) 35 53 (.agg #[.int .i64 0, .int .i64 0, .int .i64 0]) 24 rfl Try.underlying35 cln_info rfl (by decide) (by decide) _ [] l0 (some ad) l0.length c0 (fun _ => True) (fun _ => False) rfl rfl HO.out HC.out (fun x cs h => by rw [k53_open h]; exact k53_mkM _ _ _ _) (fun k h => h.elim) (fun _ _ => trivial) ((Below.refl _ _).alloc (Nat.le_refl _) _) (by simp) (by simpa using hbig) ?_; intro v1 w1 ho hb _ _; have HD := Aside0.mk (⟨v1, rfl, ho, hb⟩ : ClonedAs w l0 (.returned v1) w1); clear ho hb)
    all_goals (go_ret; exact HD.out)

end Go.Proofs.Yteieknlkcodkcaa.Q
