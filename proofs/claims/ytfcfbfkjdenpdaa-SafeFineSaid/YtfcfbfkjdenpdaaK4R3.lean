import Derived.Test.YtfcfbfkjdenpdaaK4R1
set_option linter.unusedVariables false
set_option linter.unusedSimpArgs false
set_option linter.unusedSectionVars false
namespace Go.Proofs.Ytfcfbfkjdenpdaa
open Go.TM
theorem run3:xfun Try.prog tab pol 100000 16 [.dv (I 2),.agg (dvs (exC 10 1))] 0 []=.ok ([.agg [.dv (I 17),.dv (I 3),.dv (I 0),.own 59 0 0 []]],[(59,.tree 0 0 (.osl 1 [I 0,I (-1)]))],60):=by kernel_rfl
end Go.Proofs.Ytfcfbfkjdenpdaa
