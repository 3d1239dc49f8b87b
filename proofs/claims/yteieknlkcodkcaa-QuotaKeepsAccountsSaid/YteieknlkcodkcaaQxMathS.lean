-- Written by wip/tools/drive.py out of the translation (the kit's print.py, with hand-proved functions beside). Not trusted: Lean checks it.
import Derived.Test.YteieknlkcodkcaaQx0
import Derived.Test.YteieknlkcodkcaaQx6
namespace Go.Proofs.Yteieknlkcodkcaa.Q
open Go.RowKit Go.Proofs.YteieknlkcodkcaaW.PrintWords Go.Proofs.YteieknlkcodkcaaW.PrintLast Go.Proofs.YteieknlkcodkcaaW.PrintMore
attribute [local go_sem] max2_int min2_int max_two min_two max_three min_three max_four min_four   -- for this text's walks alone
set_option linter.unusedVariables false
set_option linter.unusedSimpArgs false

/-! The examples of the chapter. -/
theorem sanity_60 : weirgatelaw16_sanity.f 60 = some true := by decide +kernel
theorem sanity_ev : Ev (fun k => weirgatelaw16_sanity.f k) true := Ev.of (weirgatelaw16_sanity.mono) sanity_60

end Go.Proofs.Yteieknlkcodkcaa.Q
