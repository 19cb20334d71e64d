import Derived.Test.YtfcfbfkjdenpdaaK3A1
set_option linter.unusedVariables false
set_option linter.unusedSimpArgs false
set_option linter.unusedSectionVars false
namespace Go.Proofs.Ytfcfbfkjdenpdaa
open Go.TM
def pol (t:Nat):Bool:=!(Nat.beq t 22 || Nat.beq t 110)
def exC (w b:Int):List DV:=[.str ⟨#[]⟩,.sl 1 [.str ⟨#[97]⟩,.str ⟨#[98]⟩],.sl 6 [
 .agg [.str ⟨#[]⟩,B false,.sl 3 [.agg [I 0,I 1,.sl 2 [.agg [I 0,I 5]]]],I 0,I 0,.nils],
 .agg [.str ⟨#[]⟩,B false,.sl 3 [.agg [I 1,I 2,.sl 2 [.agg [I 1,I 7]]]],I w,I 3,.nils],
 .agg [.str ⟨#[]⟩,B true,.nils,I 0,I 0,.sl 3 [.agg [I 0,I 1,I 7],.agg [I 1,I 0,I 5]]],
 .agg [.str ⟨#[]⟩,B true,.nils,I 0,I 0,.sl 3 [.agg [I b,I 0,I 5]]]]]
theorem ex_run1:xfun Try.prog tab pol 1000 38 [.dv (I 10),.dv (I 0)] 0 []=.ok ([.agg (dvs (exC 10 0))],[],0):=by kernel_rfl
theorem ex_run2:xfun Try.prog tab pol 1000 38 [.dv (I 0),.dv (I 0)] 0 []=.ok ([.agg (dvs (exC 0 0))],[],0):=by kernel_rfl
theorem ex_run3:xfun Try.prog tab pol 1000 38 [.dv (I 10),.dv (I 1)] 0 []=.ok ([.agg (dvs (exC 10 1))],[],0):=by kernel_rfl
end Go.Proofs.Ytfcfbfkjdenpdaa
namespace Go.Proofs.Ytfcfbfkjdenpdaa
open Go.TM
theorem run1:xfun Try.prog tab pol 100000 16 [.dv (I 2),.agg (dvs (exC 10 0))] 0 []=.ok ([.agg [.dv (I 0),.dv (I 0),.dv (I 0),.dv .nils]],[],0):=by kernel_rfl
end Go.Proofs.Ytfcfbfkjdenpdaa
