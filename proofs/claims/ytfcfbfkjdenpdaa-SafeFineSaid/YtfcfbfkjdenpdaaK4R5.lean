import Derived.Test.YtfcfbfkjdenpdaaK4R1
set_option linter.unusedVariables false
set_option linter.unusedSimpArgs false
set_option linter.unusedSectionVars false
namespace Go.Proofs.Ytfcfbfkjdenpdaa
open Go.TM
theorem run5:xfun Try.prog tab pol 100000 18 [.agg (dvs (exC 10 0)),.dv (I 3)] 0 []=.ok ([.own 14 0 0 [],.dv (B true)],[(14,.tree 0 0 (.osl 1 [I 0,I (-1)]))],15):=by kernel_rfl
end Go.Proofs.Ytfcfbfkjdenpdaa
