/- A call of the example, by the run. -/
import Derived.Test.YtfcfbfkjdenpdaaR0
set_option linter.unusedVariables false
set_option linter.unusedSimpArgs false
set_option linter.unusedSectionVars false
namespace Go.Proofs.Ytfcfbfkjdenpdaa
open Go.TM
theorem run1 : xfun Try.prog tab pol 100000 16 [.dv (I 2), .agg (dvs (exC 10 0))] 0 [] = .ok ([.agg [.dv (I 0), .dv (I 0), .dv (I 0), .dv .nils]], [], 0) := by kernel_rfl
end Go.Proofs.Ytfcfbfkjdenpdaa
