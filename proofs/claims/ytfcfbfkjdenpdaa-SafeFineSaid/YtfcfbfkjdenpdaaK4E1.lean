import Derived.Test.YtfcfbfkjdenpdaaK4R6
import Derived.Test.YtfcfbfkjdenpdaaK4D4
set_option linter.unusedVariables false
set_option linter.unusedSimpArgs false
set_option linter.unusedSectionVars false
namespace Go.Proofs.Ytfcfbfkjdenpdaa
open Go.TM
theorem deal_ne (l:List Int):(dealD l).states ≠ []:=by
 have hn:=pick_bd l 1 6 (by omega)
 have heq:Eqv (dl0 l).states (dealD l).states:=gvAt_eqv l (dl0 l) _
 intro e
 have h1:=heq.len
 rw [e] at h1
 have h2:(dl0 l).states.length=(dlN l).toNat:=dlStas_len _ _ _ _
 rw [h2] at h1
 unfold dlN at h1
 simp at h1
 omega
end Go.Proofs.Ytfcfbfkjdenpdaa
