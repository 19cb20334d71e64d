import Derived.Test.YtccialgeakmmpaaGreatDoorEM15
import Derived.Test.YtccialgeakmmpaaGreatDoorProg
import Derived.Test.YtccialgeakmmpaaGreatDoorChecked
import Derived.KernelRfl
import Derived.Test.YtccialgeakmmpaaGreatDoorEM18
import Derived.Laws.Bits64
import Derived.Laws.Bits64b
set_option linter.unusedVariables false
set_option linter.unusedSimpArgs false
set_option linter.unusedSectionVars false
namespace Go.Proofs.YtccialgeakmmpaaGreatDoor
open Go.TM
def tab:List TI:=[
 ⟨false,1,0,false,[],[],false,false,0,0,0,[],none,false,0,[]⟩,
 ⟨true,1,8,false,[],[.nilf],false,false,0,7,0,[],none,false,0,[]⟩,
 ⟨true,1,8,false,[],[.int .i64 0],false,false,0,2,0,[],some IntKind.i64,false,0,[]⟩,
 ⟨true,1,8,false,[],[.int .i64 0],false,false,0,2,0,[],some IntKind.i64,false,0,[]⟩,
 ⟨true,1,1,false,[],[.bool false],false,false,0,1,0,[],none,false,0,[]⟩,
 ⟨true,1,1,false,[],[.int .u8 0],false,false,0,2,0,[],some IntKind.u8,false,0,[]⟩,
 ⟨true,1,1,false,[],[.int .u8 0],false,false,0,2,0,[],some IntKind.u8,false,0,[]⟩,
 ⟨true,4,24,true,[(0,1),(1,1),(2,1),(3,1)],[.int .i64 0,.int .i64 0,.bool false,.int .u8 0],false,false,0,9,0,[2,3,4,6],none,false,0,[2,2,1,2]⟩,
 ⟨true,4,24,true,[(0,1),(1,1),(2,1),(3,1)],[.int .i64 0,.int .i64 0,.bool false,.int .u8 0],false,false,0,9,0,[2,3,4,6],none,false,0,[2,2,1,2]⟩,
 ⟨true,1,16,false,[],[.str ⟨#[]⟩],false,true,0,3,0,[],none,false,0,[]⟩,
 ⟨true,1,16,false,[],[.str ⟨#[]⟩],false,true,0,3,0,[],none,false,0,[]⟩,
 ⟨true,1,16,false,[],[.str ⟨#[]⟩],false,true,0,3,0,[],none,false,0,[]⟩,
 ⟨true,1,8,false,[],[.int .u64 0],false,false,0,2,0,[],some IntKind.u64,false,0,[]⟩,
 ⟨true,2,24,true,[(0,1),(1,1)],[.str ⟨#[]⟩,.int .u64 0],false,false,0,9,0,[9,12],none,false,0,[]⟩,
 ⟨true,2,24,true,[(0,1),(1,1)],[.str ⟨#[]⟩,.int .u64 0],false,false,0,9,0,[9,12],none,false,0,[]⟩,
 ⟨true,1,8,false,[],[.nilp],false,false,0,5,0,[],none,false,0,[]⟩,
 ⟨true,1,8,false,[],[.nilp],false,false,0,5,0,[],none,false,0,[]⟩,
 ⟨true,1,8,false,[],[.nilp],false,false,0,5,0,[],none,false,0,[]⟩,
 ⟨true,1,8,true,[(0,1)],[.nilp],false,false,0,9,0,[17],none,false,0,[]⟩,
 ⟨true,1,8,true,[(0,1)],[.nilp],false,false,0,9,0,[17],none,false,0,[]⟩,
 ⟨true,1,16,false,[],[.nili],false,false,0,8,0,[],none,false,0,[]⟩,
 ⟨true,1,4,false,[],[.int .i32 0],false,false,0,2,0,[],some IntKind.i32,false,0,[]⟩,
 ⟨true,1,24,false,[],[.nils],true,false,3,4,0,[],none,false,0,[]⟩,
 ⟨true,1,8,false,[],[.nilp],false,false,0,5,0,[],none,false,0,[]⟩,
 ⟨true,1,8,false,[],[.nilp],false,false,0,5,0,[],none,false,0,[]⟩,
 ⟨false,1,0,false,[],[],false,false,0,0,0,[],none,false,0,[]⟩,
 ⟨true,1,8,false,[],[.nilf],false,false,0,7,0,[],none,false,0,[]⟩,
 ⟨true,1,24,false,[],[.nils],true,false,58,4,0,[],none,false,0,[]⟩,
 ⟨true,1,24,false,[],[.nils],true,false,38,4,0,[],none,false,0,[]⟩,
 ⟨true,1,24,false,[],[.nils],true,false,65,4,0,[],none,false,0,[]⟩,
 ⟨true,1,24,false,[],[.nils],true,false,70,4,0,[],none,false,0,[]⟩,
 ⟨true,4,96,true,[(0,1),(1,1),(2,1),(3,1)],[.nils,.nils,.nils,.nils],false,false,0,9,0,[27,28,29,30],none,false,0,[]⟩,
 ⟨true,4,96,true,[(0,1),(1,1),(2,1),(3,1)],[.nils,.nils,.nils,.nils],false,false,0,9,0,[27,28,29,30],none,false,0,[]⟩,
 ⟨true,1,8,false,[],[.nilf],false,false,0,7,0,[],none,false,0,[]⟩,
 ⟨true,1,8,false,[],[.nilf],false,false,0,7,0,[],none,false,0,[]⟩,
 ⟨true,1,8,false,[],[.nilf],false,false,0,7,0,[],none,false,0,[]⟩,
 ⟨true,1,24,false,[],[.nils],true,false,60,4,0,[],none,false,0,[]⟩,
 ⟨true,9,128,true,[(0,1),(1,1),(2,1),(3,1),(4,1),(5,1),(6,1),(7,1),(8,1)],[.str ⟨#[]⟩,.bool false,.int .i64 0,.int .i64 0,.int .i64 0,.int .i64 0,.nils,.nils,.nils],false,false,0,9,0,[9,4,3,3,3,3,36,36,36],none,false,0,[]⟩,
 ⟨true,9,128,true,[(0,1),(1,1),(2,1),(3,1),(4,1),(5,1),(6,1),(7,1),(8,1)],[.str ⟨#[]⟩,.bool false,.int .i64 0,.int .i64 0,.int .i64 0,.int .i64 0,.nils,.nils,.nils],false,false,0,9,0,[9,4,3,3,3,3,36,36,36],none,false,0,[]⟩,
 ⟨true,1,8,false,[],[.nilf],false,false,0,7,0,[],none,false,0,[]⟩,
 ⟨true,1,8,false,[],[.int .i64 0],false,false,0,2,0,[],some IntKind.i64,false,0,[]⟩,
 ⟨false,1,0,false,[],[],false,false,0,0,0,[],none,false,0,[]⟩,
 ⟨true,1,8,false,[],[.nilf],false,false,0,7,0,[],none,false,0,[]⟩,
 ⟨false,1,0,false,[],[],false,false,0,0,0,[],none,false,0,[]⟩,
 ⟨true,1,8,false,[],[.nilf],false,false,0,7,0,[],none,false,0,[]⟩,
 ⟨true,1,8,false,[],[.nilf],false,false,0,7,0,[],none,false,0,[]⟩,
 ⟨true,1,8,false,[],[.nilf],false,false,0,7,0,[],none,false,0,[]⟩,
 ⟨true,1,8,false,[],[.nilf],false,false,0,7,0,[],none,false,0,[]⟩,
 ⟨true,1,8,false,[],[.nilf],false,false,0,7,0,[],none,false,0,[]⟩,
 ⟨true,1,24,false,[],[.nils],true,false,55,4,0,[],none,false,0,[]⟩,
 ⟨true,1,8,false,[],[.nilf],false,false,0,7,0,[],none,false,0,[]⟩,
 ⟨true,1,8,false,[],[.nilf],false,false,0,7,0,[],none,false,0,[]⟩,
 ⟨true,6,48,true,[(0,1),(1,1),(2,1),(3,1),(4,1),(5,1)],[.int .i64 0,.int .i64 0,.int .i64 0,.int .i64 0,.int .i64 0,.bool false],false,false,0,9,0,[3,3,3,3,3,4],none,false,0,[2,2,2,2,2,1]⟩,
 ⟨true,6,48,true,[(0,1),(1,1),(2,1),(3,1),(4,1),(5,1)],[.int .i64 0,.int .i64 0,.int .i64 0,.int .i64 0,.int .i64 0,.bool false],false,false,0,9,0,[3,3,3,3,3,4],none,false,0,[2,2,2,2,2,1]⟩,
 ⟨true,9,72,true,[(0,1),(1,6),(7,1),(8,1)],[.int .i64 0,.int .i64 0,.int .i64 0,.int .i64 0,.int .i64 0,.int .i64 0,.bool false,.int .i64 0,.int .i64 0],false,false,0,9,0,[3,53,3,3],none,false,0,[]⟩,
 ⟨true,9,72,true,[(0,1),(1,6),(7,1),(8,1)],[.int .i64 0,.int .i64 0,.int .i64 0,.int .i64 0,.int .i64 0,.int .i64 0,.bool false,.int .i64 0,.int .i64 0],false,false,0,9,0,[3,53,3,3],none,false,0,[]⟩,
 ⟨true,1,8,false,[],[.nilf],false,false,0,7,0,[],none,false,0,[]⟩,
 ⟨true,7,48,true,[(0,1),(1,1),(2,1),(3,1),(4,1),(5,1),(6,1)],[.str ⟨#[]⟩,.bool false,.bool false,.bool false,.int .i64 0,.int .i64 0,.int .i64 0],false,false,0,9,0,[9,4,4,4,3,3,3],none,false,0,[3,1,1,1,2,2,2]⟩,
 ⟨true,7,48,true,[(0,1),(1,1),(2,1),(3,1),(4,1),(5,1),(6,1)],[.str ⟨#[]⟩,.bool false,.bool false,.bool false,.int .i64 0,.int .i64 0,.int .i64 0],false,false,0,9,0,[9,4,4,4,3,3,3],none,false,0,[3,1,1,1,2,2,2]⟩,
 ⟨true,2,16,true,[(0,1),(1,1)],[.int .i64 0,.int .i64 0],false,false,0,9,0,[3,3],none,true,0,[2,2]⟩,
 ⟨true,2,16,true,[(0,1),(1,1)],[.int .i64 0,.int .i64 0],false,false,0,9,0,[3,3],none,true,0,[2,2]⟩,
 ⟨true,2,32,true,[(0,1),(1,1)],[.int .i64 0,.nils],false,false,0,9,0,[3,36],none,false,0,[]⟩,
 ⟨true,2,32,true,[(0,1),(1,1)],[.int .i64 0,.nils],false,false,0,9,0,[3,36],none,false,0,[]⟩,
 ⟨true,1,24,false,[],[.nils],true,false,62,4,0,[],none,false,0,[]⟩,
 ⟨true,2,40,true,[(0,1),(1,1)],[.str ⟨#[]⟩,.nils],false,false,0,9,0,[9,63],none,false,0,[]⟩,
 ⟨true,2,40,true,[(0,1),(1,1)],[.str ⟨#[]⟩,.nils],false,false,0,9,0,[9,63],none,false,0,[]⟩,
 ⟨true,2,16,true,[(0,1),(1,1)],[.int .i64 0,.int .i64 0],false,false,0,9,0,[3,3],none,true,0,[2,2]⟩,
 ⟨true,2,16,true,[(0,1),(1,1)],[.int .i64 0,.int .i64 0],false,false,0,9,0,[3,3],none,true,0,[2,2]⟩,
 ⟨true,1,24,false,[],[.nils],true,false,67,4,0,[],none,false,0,[]⟩,
 ⟨true,2,40,true,[(0,1),(1,1)],[.str ⟨#[]⟩,.nils],false,false,0,9,0,[9,68],none,false,0,[]⟩,
 ⟨true,2,40,true,[(0,1),(1,1)],[.str ⟨#[]⟩,.nils],false,false,0,9,0,[9,68],none,false,0,[]⟩,
 ⟨true,1,8,false,[],[.nilf],false,false,0,7,0,[],none,false,0,[]⟩,
 ⟨true,1,8,false,[],[.nilf],false,false,0,7,0,[],none,false,0,[]⟩,
 ⟨true,1,8,false,[],[.nilm],false,false,81,6,79,[],none,false,0,[]⟩,
 ⟨true,5,104,true,[(0,4),(4,1)],[.nils,.nils,.nils,.nils,.nilm],false,false,0,9,0,[32,73],none,false,0,[]⟩,
 ⟨true,5,104,true,[(0,4),(4,1)],[.nils,.nils,.nils,.nils,.nilm],false,false,0,9,0,[32,73],none,false,0,[]⟩,
 ⟨true,1,24,false,[],[.nils],true,false,79,4,0,[],none,false,0,[]⟩,
 ⟨true,1,8,false,[],[.nilf],false,false,0,7,0,[],none,false,0,[]⟩,
 ⟨true,2,16,true,[(0,1),(1,1)],[.int .i64 0,.int .i64 0],false,false,0,9,0,[3,3],none,true,0,[2,2]⟩,
 ⟨true,2,16,true,[(0,1),(1,1)],[.int .i64 0,.int .i64 0],false,false,0,9,0,[3,3],none,true,0,[2,2]⟩,
 ⟨true,4,32,true,[(0,1),(1,1),(2,1),(3,1)],[.int .i64 0,.int .i64 0,.int .i64 0,.bool false],false,false,0,9,0,[3,3,3,4],none,false,0,[2,2,2,1]⟩,
 ⟨true,4,32,true,[(0,1),(1,1),(2,1),(3,1)],[.int .i64 0,.int .i64 0,.int .i64 0,.bool false],false,false,0,9,0,[3,3,3,4],none,false,0,[2,2,2,1]⟩,
 ⟨false,1,0,false,[],[],false,false,0,0,0,[],none,false,0,[]⟩,
 ⟨true,1,8,false,[],[.nilf],false,false,0,7,0,[],none,false,0,[]⟩,
 ⟨false,1,0,false,[],[],false,false,0,0,0,[],none,false,0,[]⟩,
 ⟨true,1,8,false,[],[.nilf],false,false,0,7,0,[],none,false,0,[]⟩,
 ⟨true,1,8,false,[],[.nilf],false,false,0,7,0,[],none,false,0,[]⟩,
 ⟨true,1,24,false,[],[.nils],true,false,53,4,0,[],none,false,0,[]⟩,
 ⟨true,5,120,true,[(0,4),(4,1)],[.nils,.nils,.nils,.nils,.nils],false,false,0,9,0,[32,87],none,false,0,[]⟩,
 ⟨true,5,120,true,[(0,4),(4,1)],[.nils,.nils,.nils,.nils,.nils],false,false,0,9,0,[32,87],none,false,0,[]⟩,
 ⟨true,1,24,false,[],[.nils],true,false,5,4,0,[],none,false,0,[]⟩,
 ⟨true,1,8,false,[],[.nilf],false,false,0,7,0,[],none,false,0,[]⟩,
 ⟨true,1,8,false,[],[.nilf],false,false,0,7,0,[],none,false,0,[]⟩,
 ⟨false,1,0,false,[],[],false,false,0,0,0,[],none,false,0,[]⟩,
 ⟨true,1,8,false,[],[.nilf],false,false,0,7,0,[],none,false,0,[]⟩,
 ⟨true,1,8,false,[],[.nilf],false,false,0,7,0,[],none,false,0,[]⟩,
 ⟨true,1,8,false,[],[.nilf],false,false,0,7,0,[],none,false,0,[]⟩,
 ⟨true,1,8,false,[],[.nilf],false,false,0,7,0,[],none,false,0,[]⟩,
 ⟨false,1,0,false,[],[],false,false,0,0,0,[],none,false,0,[]⟩,
 ⟨true,1,8,false,[],[.nilf],false,false,0,7,0,[],none,false,0,[]⟩,
 ⟨true,1,8,false,[],[.nilf],false,false,0,7,0,[],none,false,0,[]⟩,
 ⟨true,1,8,false,[],[.nilf],false,false,0,7,0,[],none,false,0,[]⟩,
 ⟨true,1,8,false,[],[.nilf],false,false,0,7,0,[],none,false,0,[]⟩,
 ⟨false,1,0,false,[],[],false,false,0,0,0,[],none,false,0,[]⟩,
 ⟨true,1,8,false,[],[.nilf],false,false,0,7,0,[],none,false,0,[]⟩,
 ⟨true,1,8,false,[],[.nilf],false,false,0,7,0,[],none,false,0,[]⟩,
 ⟨true,1,8,false,[],[.nilf],false,false,0,7,0,[],none,false,0,[]⟩,
 ⟨true,1,8,false,[],[.nilf],false,false,0,7,0,[],none,false,0,[]⟩,
 ⟨true,1,8,false,[],[.nilf],false,false,0,7,0,[],none,false,0,[]⟩,
 ⟨true,1,8,false,[],[.nilf],false,false,0,7,0,[],none,false,0,[]⟩,
 ⟨true,1,8,false,[],[.nilf],false,false,0,7,0,[],none,false,0,[]⟩,
 ⟨true,1,8,false,[],[.nilf],false,false,0,7,0,[],none,false,0,[]⟩,
 ⟨true,1,8,false,[],[.int .u64 0],false,false,0,2,0,[],some IntKind.u64,false,0,[]⟩,
 ⟨false,1,0,false,[],[],false,false,0,0,0,[],none,false,0,[]⟩,
 ⟨true,1,8,false,[],[.nilf],false,false,0,7,0,[],none,false,0,[]⟩,
 ⟨true,1,24,false,[],[.nils],true,false,117,4,0,[],none,false,0,[]⟩,
 ⟨true,1,8,false,[],[.nilf],false,false,0,7,0,[],none,false,0,[]⟩,
 ⟨true,1,24,false,[],[.nils],true,false,9,4,0,[],none,false,0,[]⟩,
 ⟨true,1,8,false,[],[.nilf],false,false,0,7,0,[],none,false,0,[]⟩,
 ⟨true,1,8,false,[],[.nilf],false,false,0,7,0,[],none,false,0,[]⟩,
 ⟨true,1,8,false,[],[.nilf],false,false,0,7,0,[],none,false,0,[]⟩,
 ⟨false,1,0,false,[],[],false,false,0,0,0,[],none,false,0,[]⟩,
 ⟨true,1,8,false,[],[.nilf],false,false,0,7,0,[],none,false,0,[]⟩,
 ⟨true,1,8,false,[],[.nilf],false,false,0,7,0,[],none,false,0,[]⟩,
 ⟨true,1,8,false,[],[.nilf],false,false,0,7,0,[],none,false,0,[]⟩,
 ⟨true,1,24,false,[],[.nils],true,false,36,4,0,[],none,false,0,[]⟩,
 ⟨true,1,8,false,[],[.nilf],false,false,0,7,0,[],none,false,0,[]⟩,
 ⟨true,1,24,false,[],[.nils],true,false,4,4,0,[],none,false,0,[]⟩,
 ⟨true,1,24,false,[],[.nils],true,false,40,4,0,[],none,false,0,[]⟩,
 ⟨true,1,8,false,[],[.nilp],false,false,0,5,0,[],none,false,0,[]⟩,
 ⟨true,1,24,true,[(0,1)],[.nils],false,false,0,9,0,[90],none,false,0,[]⟩,
 ⟨true,1,24,true,[(0,1)],[.nils],false,false,0,9,0,[90],none,false,0,[]⟩,
 ⟨true,1,8,false,[],[.nilf],false,false,0,7,0,[],none,false,0,[]⟩,
 ⟨true,1,8,false,[],[.nilf],false,false,0,7,0,[],none,false,0,[]⟩,
 ⟨true,6,48,true,[(0,2),(2,4)],[.int .i64 0,.int .i64 0,.int .i64 0,.int .i64 0,.int .i64 0,.bool false],false,false,0,9,0,[79,81],none,false,0,[]⟩,
 ⟨true,6,48,true,[(0,2),(2,4)],[.int .i64 0,.int .i64 0,.int .i64 0,.int .i64 0,.int .i64 0,.bool false],false,false,0,9,0,[79,81],none,false,0,[]⟩,
 ⟨true,1,8,false,[],[.nilf],false,false,0,7,0,[],none,false,0,[]⟩,
 ⟨true,1,8,false,[],[.nilf],false,false,0,7,0,[],none,false,0,[]⟩,
 ⟨false,1,0,false,[],[],false,false,0,0,0,[],none,false,0,[]⟩,
 ⟨true,1,8,false,[],[.nilf],false,false,0,7,0,[],none,false,0,[]⟩,
 ⟨true,1,8,false,[],[.nilf],false,false,0,7,0,[],none,false,0,[]⟩,
 ⟨true,1,8,false,[],[.nilf],false,false,0,7,0,[],none,false,0,[]⟩,
 ⟨true,1,8,false,[],[.nilf],false,false,0,7,0,[],none,false,0,[]⟩,
 ⟨true,1,8,false,[],[.nilf],false,false,0,7,0,[],none,false,0,[]⟩,
 ⟨true,1,8,false,[],[.nilf],false,false,0,7,0,[],none,false,0,[]⟩,
 ⟨true,1,8,false,[],[.nilf],false,false,0,7,0,[],none,false,0,[]⟩,
 ⟨true,1,8,false,[],[.nilf],false,false,0,7,0,[],none,false,0,[]⟩,
 ⟨true,1,8,false,[],[.nilf],false,false,0,7,0,[],none,false,0,[]⟩,
 ⟨true,1,8,false,[],[.nilf],false,false,0,7,0,[],none,false,0,[]⟩,
 ⟨true,1,8,false,[],[.nilf],false,false,0,7,0,[],none,false,0,[]⟩,
 ⟨true,1,8,false,[],[.nilf],false,false,0,7,0,[],none,false,0,[]⟩,
 ⟨true,1,8,false,[],[.nilf],false,false,0,7,0,[],none,false,0,[]⟩,
 ⟨false,1,0,false,[],[],false,false,0,0,0,[],none,false,0,[]⟩,
 ⟨true,1,8,false,[],[.nilf],false,false,0,7,0,[],none,false,0,[]⟩,
 ⟨true,1,8,false,[],[.nilf],false,false,0,7,0,[],none,false,0,[]⟩,
 ⟨true,1,24,false,[],[.nils],true,false,159,4,0,[],none,false,0,[]⟩,
 ⟨false,1,0,false,[],[],false,false,0,0,0,[],none,false,0,[]⟩,
 ⟨true,1,8,false,[],[.nilf],false,false,0,7,0,[],none,false,0,[]⟩,
 ⟨true,4,40,true,[(0,1),(1,1),(2,1),(3,1)],[.int .i64 0,.str ⟨#[]⟩,.int .i64 0,.int .i64 0],false,false,0,9,0,[3,9,3,3],none,false,0,[2,3,2,2]⟩,
 ⟨true,4,40,true,[(0,1),(1,1),(2,1),(3,1)],[.int .i64 0,.str ⟨#[]⟩,.int .i64 0,.int .i64 0],false,false,0,9,0,[3,9,3,3],none,false,0,[2,3,2,2]⟩,
 ⟨true,1,8,false,[],[.nilf],false,false,0,7,0,[],none,false,0,[]⟩,
 ⟨true,1,8,false,[],[.nilf],false,false,0,7,0,[],none,false,0,[]⟩,
 ⟨true,1,8,false,[],[.nilf],false,false,0,7,0,[],none,false,0,[]⟩,
 ⟨true,1,8,false,[],[.nilf],false,false,0,7,0,[],none,false,0,[]⟩,
 ⟨true,1,8,false,[],[.nilf],false,false,0,7,0,[],none,false,0,[]⟩,
 ⟨true,1,8,false,[],[.nilf],false,false,0,7,0,[],none,false,0,[]⟩,
 ⟨true,1,8,false,[],[.nilf],false,false,0,7,0,[],none,false,0,[]⟩,
 ⟨true,1,8,false,[],[.int .u64 0],false,false,0,2,0,[],some IntKind.u64,false,0,[]⟩,
 ⟨true,1,8,false,[],[.nilf],false,false,0,7,0,[],none,false,0,[]⟩,
 ⟨true,1,8,false,[],[.nilf],false,false,0,7,0,[],none,false,0,[]⟩,
 ⟨true,1,8,false,[],[.nilf],false,false,0,7,0,[],none,false,0,[]⟩,
 ⟨true,1,8,false,[],[.nilf],false,false,0,7,0,[],none,false,0,[]⟩,
 ⟨true,1,8,false,[],[.nilf],false,false,0,7,0,[],none,false,0,[]⟩,
 ⟨true,1,8,false,[],[.nilf],false,false,0,7,0,[],none,false,0,[]⟩,
 ⟨true,1,8,false,[],[.nilf],false,false,0,7,0,[],none,false,0,[]⟩,
 ⟨true,1,8,false,[],[.nilf],false,false,0,7,0,[],none,false,0,[]⟩,
 ⟨true,1,8,false,[],[.nilf],false,false,0,7,0,[],none,false,0,[]⟩,
 ⟨true,1,8,false,[],[.nilf],false,false,0,7,0,[],none,false,0,[]⟩,
 ⟨true,1,8,false,[],[.nilf],false,false,0,7,0,[],none,false,0,[]⟩,
 ⟨true,1,8,false,[],[.nilf],false,false,0,7,0,[],none,false,0,[]⟩,
 ⟨true,1,8,false,[],[.nilf],false,false,0,7,0,[],none,false,0,[]⟩,
 ⟨true,1,8,false,[],[.nilf],false,false,0,7,0,[],none,false,0,[]⟩,
 ⟨true,1,8,false,[],[.nilf],false,false,0,7,0,[],none,false,0,[]⟩,
 ⟨true,1,8,false,[],[.nilf],false,false,0,7,0,[],none,false,0,[]⟩,
 ⟨true,1,8,false,[],[.nilf],false,false,0,7,0,[],none,false,0,[]⟩,
 ⟨true,1,8,false,[],[.nilf],false,false,0,7,0,[],none,false,0,[]⟩,
 ⟨true,1,8,false,[],[.nilf],false,false,0,7,0,[],none,false,0,[]⟩,
 ⟨true,1,8,false,[],[.nilf],false,false,0,7,0,[],none,false,0,[]⟩,
 ⟨true,1,8,false,[],[.nilf],false,false,0,7,0,[],none,false,0,[]⟩,
 ⟨true,1,8,false,[],[.nilf],false,false,0,7,0,[],none,false,0,[]⟩,
 ⟨true,1,8,false,[],[.nilf],false,false,0,7,0,[],none,false,0,[]⟩,
 ⟨true,1,8,false,[],[.nilf],false,false,0,7,0,[],none,false,0,[]⟩,
 ⟨true,1,8,false,[],[.nilf],false,false,0,7,0,[],none,false,0,[]⟩,
 ⟨true,1,8,false,[],[.nilf],false,false,0,7,0,[],none,false,0,[]⟩,
 ⟨true,1,8,false,[],[.nilf],false,false,0,7,0,[],none,false,0,[]⟩,
 ⟨true,1,16,false,[],[.nili],false,false,0,8,0,[],none,false,0,[]⟩,
 ⟨true,1,16,false,[],[.nili],false,false,0,8,0,[],none,false,0,[]⟩,
 ⟨true,1,8,false,[],[.nilf],false,false,0,7,0,[],none,false,0,[]⟩,
 ⟨true,1,8,false,[],[.nilf],false,false,0,7,0,[],none,false,0,[]⟩,
 ⟨true,1,8,false,[],[.nilf],false,false,0,7,0,[],none,false,0,[]⟩,
 ⟨true,1,8,false,[],[.nilf],false,false,0,7,0,[],none,false,0,[]⟩,
 ⟨true,1,8,false,[],[.nilf],false,false,0,7,0,[],none,false,0,[]⟩,
 ⟨true,1,8,false,[],[.int .i64 0],false,false,0,2,0,[],some IntKind.i64,false,0,[]⟩,
 ⟨false,1,0,false,[],[],false,false,0,0,0,[],none,false,0,[]⟩,
 ⟨true,1,8,false,[],[.nilf],false,false,0,7,0,[],none,false,0,[]⟩,
 ⟨true,1,8,false,[],[.nilf],false,false,0,7,0,[],none,false,0,[]⟩,
 ⟨true,1,8,false,[],[.nilf],false,false,0,7,0,[],none,false,0,[]⟩,
 ⟨false,1,0,false,[],[],false,false,0,0,0,[],none,false,0,[]⟩,
 ⟨true,1,8,false,[],[.nilf],false,false,0,7,0,[],none,false,0,[]⟩,
 ⟨true,1,8,false,[],[.nilf],false,false,0,7,0,[],none,false,0,[]⟩,
 ⟨true,1,4,false,[],[.int .u32 0],false,false,0,2,0,[],some IntKind.u32,false,0,[]⟩,
 ⟨true,1,24,false,[],[.nils],true,false,214,4,0,[],none,false,0,[]⟩,
 ⟨false,1,0,false,[],[],false,false,0,0,0,[],none,false,0,[]⟩,
 ⟨true,1,8,false,[],[.nilf],false,false,0,7,0,[],none,false,0,[]⟩,
 ⟨true,4,40,true,[(0,1),(1,1),(2,1),(3,1)],[.int .i64 0,.str ⟨#[]⟩,.int .i64 0,.int .i64 0],false,false,0,9,0,[3,9,3,3],none,false,0,[2,3,2,2]⟩,
 ⟨true,1,8,false,[],[.nilm],false,false,4,6,9,[],none,false,0,[]⟩,
 ⟨true,1,8,false,[],[.nilm],false,false,3,6,3,[],none,false,0,[]⟩,
 ⟨true,1,8,false,[],[.nilf],false,false,0,7,0,[],none,false,0,[]⟩,
 ⟨true,1,8,false,[],[.nilf],false,false,0,7,0,[],none,false,0,[]⟩,
 ⟨true,1,8,false,[],[.int .u64 0],false,false,0,2,0,[],some IntKind.u64,false,0,[]⟩,
 ⟨true,1,8,false,[],[.nilf],false,false,0,7,0,[],none,false,0,[]⟩,
 ⟨true,1,8,false,[],[.nilf],false,false,0,7,0,[],none,false,0,[]⟩,
 ⟨true,1,8,false,[],[.nilf],false,false,0,7,0,[],none,false,0,[]⟩,
 ⟨true,1,8,false,[],[.nilp],false,false,0,5,0,[],none,false,0,[]⟩,
 ⟨true,1,8,false,[],[.nilf],false,false,0,7,0,[],none,false,0,[]⟩,
 ⟨true,1,8,false,[],[.nilf],false,false,0,7,0,[],none,false,0,[]⟩,
 ⟨true,1,8,false,[],[.nilf],false,false,0,7,0,[],none,false,0,[]⟩,
 ⟨true,1,8,false,[],[.nilf],false,false,0,7,0,[],none,false,0,[]⟩,
 ⟨true,1,8,false,[],[.nilp],false,false,0,5,0,[],none,false,0,[]⟩,
 ⟨false,1,0,false,[],[],false,false,0,0,0,[],none,false,0,[]⟩,
 ⟨true,1,8,false,[],[.nilf],false,false,0,7,0,[],none,false,0,[]⟩,
 ⟨true,1,8,false,[],[.nilf],false,false,0,7,0,[],none,false,0,[]⟩,
 ⟨false,1,0,false,[],[],false,false,0,0,0,[],none,false,0,[]⟩,
 ⟨true,1,8,false,[],[.nilf],false,false,0,7,0,[],none,false,0,[]⟩,
 ⟨true,1,8,false,[],[.nilf],false,false,0,7,0,[],none,false,0,[]⟩,
 ⟨true,1,8,false,[],[.nilf],false,false,0,7,0,[],none,false,0,[]⟩,
 ⟨true,128,128,true,[],[.int .u8 0,.int .u8 0,.int .u8 0,.int .u8 0,.int .u8 0,.int .u8 0,.int .u8 0,.int .u8 0,.int .u8 0,.int .u8 0,.int .u8 0,.int .u8 0,.int .u8 0,.int .u8 0,.int .u8 0,.int .u8 0,.int .u8 0,.int .u8 0,.int .u8 0,.int .u8 0,.int .u8 0,.int .u8 0,.int .u8 0,.int .u8 0,.int .u8 0,.int .u8 0,.int .u8 0,.int .u8 0,.int .u8 0,.int .u8 0,.int .u8 0,.int .u8 0,.int .u8 0,.int .u8 0,.int .u8 0,.int .u8 0,.int .u8 0,.int .u8 0,.int .u8 0,.int .u8 0,.int .u8 0,.int .u8 0,.int .u8 0,.int .u8 0,.int .u8 0,.int .u8 0,.int .u8 0,.int .u8 0,.int .u8 0,.int .u8 0,.int .u8 0,.int .u8 0,.int .u8 0,.int .u8 0,.int .u8 0,.int .u8 0,.int .u8 0,.int .u8 0,.int .u8 0,.int .u8 0,.int .u8 0,.int .u8 0,.int .u8 0,.int .u8 0,.int .u8 0,.int .u8 0,.int .u8 0,.int .u8 0,.int .u8 0,.int .u8 0,.int .u8 0,.int .u8 0,.int .u8 0,.int .u8 0,.int .u8 0,.int .u8 0,.int .u8 0,.int .u8 0,.int .u8 0,.int .u8 0,.int .u8 0,.int .u8 0,.int .u8 0,.int .u8 0,.int .u8 0,.int .u8 0,.int .u8 0,.int .u8 0,.int .u8 0,.int .u8 0,.int .u8 0,.int .u8 0,.int .u8 0,.int .u8 0,.int .u8 0,.int .u8 0,.int .u8 0,.int .u8 0,.int .u8 0,.int .u8 0,.int .u8 0,.int .u8 0,.int .u8 0,.int .u8 0,.int .u8 0,.int .u8 0,.int .u8 0,.int .u8 0,.int .u8 0,.int .u8 0,.int .u8 0,.int .u8 0,.int .u8 0,.int .u8 0,.int .u8 0,.int .u8 0,.int .u8 0,.int .u8 0,.int .u8 0,.int .u8 0,.int .u8 0,.int .u8 0,.int .u8 0,.int .u8 0,.int .u8 0,.int .u8 0,.int .u8 0,.int .u8 0],false,false,5,10,0,[],none,false,128,[]⟩,
 ⟨true,1,8,false,[],[.nilp],false,false,0,5,0,[],none,false,0,[]⟩,
 ⟨true,1,8,false,[],[.nilf],false,false,0,7,0,[],none,false,0,[]⟩,
 ⟨true,4,40,true,[(0,1),(1,1),(2,1),(3,1)],[.nilp,.nilp,.nilp,.str ⟨#[]⟩],false,false,0,9,0,[17,17,17,9],none,false,0,[]⟩,
 ⟨true,4,40,true,[(0,1),(1,1),(2,1),(3,1)],[.nilp,.nilp,.nilp,.str ⟨#[]⟩],false,false,0,9,0,[17,17,17,9],none,false,0,[]⟩,
 ⟨true,0,0,true,[],[],false,false,16,10,0,[],none,false,0,[]⟩,
 ⟨true,0,0,true,[(0,0)],[],false,false,0,9,0,[241],none,false,0,[]⟩,
 ⟨true,0,0,true,[(0,0)],[],false,false,0,9,0,[241],none,false,0,[]⟩,
 ⟨true,1,8,false,[],[.nilf],false,false,0,7,0,[],none,false,0,[]⟩,
 ⟨true,1,1,false,[],[.int .u8 0],false,false,0,2,0,[],some IntKind.u8,false,0,[]⟩,
 ⟨true,1,1,false,[],[.int .u8 0],false,false,0,2,0,[],some IntKind.u8,false,0,[]⟩,
 ⟨true,1,8,false,[],[.nilf],false,false,0,7,0,[],none,false,0,[]⟩,
 ⟨true,1,8,false,[],[.nilp],false,false,0,5,0,[],none,false,0,[]⟩,
 ⟨true,1,4,false,[],[.int .i32 0],false,false,0,2,0,[],some IntKind.i32,false,0,[]⟩,
 ⟨true,1,4,false,[],[.int .i32 0],false,false,0,2,0,[],some IntKind.i32,false,0,[]⟩,
 ⟨true,11,48,true,[(0,1),(1,1),(2,1),(3,1),(4,1),(5,1),(6,1),(7,1),(8,1),(9,1),(10,1)],[.int .u64 0,.int .u64 0,.int .u32 0,.int .u8 0,.int .u8 0,.int .u8 0,.int .u8 0,.nilf,.nilp,.int .i32 0,.int .i32 0],false,false,0,9,0,[12,12,210,245,5,5,246,247,248,249,250],none,false,0,[]⟩,
 ⟨true,11,48,true,[(0,1),(1,1),(2,1),(3,1),(4,1),(5,1),(6,1),(7,1),(8,1),(9,1),(10,1)],[.int .u64 0,.int .u64 0,.int .u32 0,.int .u8 0,.int .u8 0,.int .u8 0,.int .u8 0,.nilf,.nilp,.int .i32 0,.int .i32 0],false,false,0,9,0,[12,12,210,245,5,5,246,247,248,249,250],none,false,0,[]⟩,
 ⟨true,1,8,false,[],[.nilf],false,false,0,7,0,[],none,false,0,[]⟩,
 ⟨true,1,8,false,[],[.nilf],false,false,0,7,0,[],none,false,0,[]⟩,
 ⟨true,1,16,true,[(0,1)],[.str ⟨#[]⟩],false,false,0,9,0,[9],none,false,0,[3]⟩,
 ⟨true,1,16,true,[(0,1)],[.str ⟨#[]⟩],false,false,0,9,0,[9],none,false,0,[3]⟩,
 ⟨true,1,8,false,[],[.nilp],false,false,0,0,0,[],none,false,0,[]⟩]
theorem nth_map (f:Nat→TI) (l:List Nat) (t:Nat):nth (l.map f) t=match l[t]? with | some i=>f i | none=>TI.no:=by
 induction l generalizing t with
 | nil=>cases t <;> rfl
 | cons x r ih=>cases t with
  | zero=>rfl
  | succ t=>simpa [nth] using ih t
theorem tab_eq:(List.range 258).map (TI.of Tryz.prog)=tab:=by kernel_rfl
theorem tab_ok:TOk Tryz.prog tab:=by
 intro t h
 rw [←tab_eq,nth_map] at h ⊢
 by_cases ht:t<258
 ·rw [List.getElem?_range ht]
 ·rw [List.getElem?_eq_none (by simp; omega)] at h; cases h
theorem mixed:Tryz.prog.follows .mixedOrders=true:=Checked.mixed Tryz.checked
end Go.Proofs.YtccialgeakmmpaaGreatDoor
namespace Go.Proofs.YtccialgeakmmpaaGreatDoor
open Go.TM
def kindL:List Nat:=[0,0,0,0,0,0,0,0,0,1,1,0,0,0,0,0,0,0,0,0,0,0,0,0,0,0,0,0,0,0,0,0,1,0,0,2,0,0,0,0,7,7,0,7,7,6,7,0,4,4,4,4,4,4,4,4,4,4,7,7,7,7,7,0,0,0,0,0,0,0,0,0,0,0,0,0,0,0,0,0,0,0,0,0,0,0,0,0,0,0,0,0,0,0,0,5,0,3,3,3,3,3,3,3,3,3,3,3,3,3,3,3,3,3,3,3,3,3,3,3,3,3,3,7,0,7,0,0]
class KObj where
 ty:TypeId
 fr:Nat × Nat
def kArr:Array Value:=(kindL.map fun n=>Value.int .u8 (n:Nat)).toArray
def kObj [KObj]:Nat→Option Obj:=fun i=>bif Nat.beq i 2 then some (.cells kArr KObj.ty KObj.fr) else none
def kDv:Nat→Option DV:=fun i=>bif Nat.beq i 2 then some (.agg (kindL.map fun n=>DV.int .u8 (n:Nat))) else none
theorem kOk [KObj]:∀i x,kDv i=some x→∀M:Mem,(∀j o,kObj j=some o→M j=some o)→DRel M (.at x 0) (.pointer (some ⟨i,0,none⟩)):=by
 intro i x h M hM
 unfold kDv at h
 cases hb:Nat.beq i 2 with
 | false=>rw [hb] at h; cases h
 | true =>
  rw [hb] at h
  have hi:=Nat.eq_of_beq_eq_true hb
  injection h with h; subst h
  have hm:=hM i (.cells kArr KObj.ty KObj.fr) (by unfold kObj; rw [hb]; rfl)
  have ha:∀j,(⟨i,0,none⟩:Addr).add j=⟨i,j,none⟩:=fun j=>by unfold Addr.add; split <;> simp [*]
  have:=DRel.at (M:=M) (.agg (kindL.map fun n=>DV.int .u8 (n:Nat))) 0 ⟨i,0,none⟩ (fun j=>.int .u8 ((kindL.getD j 0:Nat):Int)) (fun d hd=>by
    simp only [DV.cells,List.mem_map] at hd
    obtain ⟨n,_,rfl⟩:=hd
    rfl) (fun j hj=>by
    rw [ha]
    simp only [DV.cells,List.length_map] at hj
    simp [Mem.cell?,hm,kArr,hj]) (fun j d hd=>by
    simp only [DV.cells,List.getElem?_map] at hd
    cases hj:kindL[j]? with
    | none=>rw [hj] at hd; cases hd
    | some n =>
     rw [hj] at hd
     simp only [Option.map_some,Option.some.injEq] at hd
     subst hd
     simp only [List.getD,hj,Option.getD_some]
     exact .int .u8 _)
  rw [ha] at this
  exact this
instance kGlob [KObj]:Glob where
 obj:=kObj
 dv:=kDv
 ok:=kOk
abbrev I (n:Int):DV:=.int .i64 n
abbrev B (b:Bool):DV:=.bool b
abbrev Ints (l:List Int):DV:=.sl 1 (l.map I)
theorem le_int {a b:Int} {k:IntKind} (h:a=b):(DV.int k a).Le (.int k b):=h ▸ DV.Le.refl _
theorem le_ivl {a lo hi:Int} {k:IntKind} (h1:lo≤a) (h2:a≤hi):(DV.int k a).Le (.ivl k lo hi):=fun M v h=>by cases h; exact .ivl k lo hi a h1 h2
abbrev rf {d:DV}:d.Le d:=DV.Le.refl d
theorem names_ok:∀(g:Nat) (fn:Func),Tryz.prog.funcs[g]?=some fn→(fn.name == "runtime.NumGoroutine")=false:=by
 have h:(Tryz.prog.funcs.all fun fn=>!(fn.name == "runtime.NumGoroutine"))=true:=by kernel_rfl
 intro g fn hg
 rw [Array.all_eq_true'] at h
 have:=h fn (Array.mem_of_getElem? hg)
 simpa using this
variable [KObj]
def InI (n:Int):Prop:=-9223372036854775808≤n∧n≤9223372036854775807
theorem fzL_map {α:Type} {e:α→DV} (h:∀x,fzD (e x)=e x) (l:List α):fzL (l.map e)=l.map e:=by
 rw [fzL_eq,List.map_map]
 exact List.map_congr_left fun x _=>h x
theorem bw_t {b:Bool} (h:b=true):bw b true=true:=by subst h; rfl
theorem bw_f {b:Bool} (h:b=false):bw b false=true:=by subst h; rfl
theorem bw_and {a b:Bool} (h:a=true) (h2:b=true):(a && bw b true)=true:=by subst h; subst h2; rfl
theorem bw_andf {a b:Bool} (h:a=true) (h2:b=false):(a && bw b false)=true:=by subst h; subst h2; rfl
theorem bif_t {a b:Bool} (h:(bif a then b else false)=true):a=true∧b=true:=by cases a <;> simp_all
theorem bif_f {a b:Bool} (h:(bif a then b else false)=false):¬ (a=true∧b=true):=by cases a <;> simp_all
def itemsD (b w:DV):List DV:=[.agg [.str ⟨⟨[103,111,108,100]⟩⟩,B false,B true,B true,I 0,I 0,I 0],
 .agg [.str ⟨⟨[111,114,101]⟩⟩,B false,B false,B false,I 0,I 0,I 0],
 .agg [.str ⟨⟨[99,111,97,108]⟩⟩,B false,B true,B false,I 0,I 0,I 0],
 .agg [.str ⟨⟨[98,97,114]⟩⟩,B false,B false,B false,I 0,I 0,I 0],
 .agg [.str ⟨⟨[115,119,111,114,100]⟩⟩,B true,B false,B false,w,b,I 3]]
def rulesD:DV:=.sl 9 [.agg [.str ⟨⟨[100,105,103]⟩⟩,B true,I 0,I 0,I 1,I 1,.nils,.sl 2 [.agg [I 1,I 4],.agg [I 2,I 3]],.nils],
 .agg [.str ⟨⟨[115,109,101,108,116]⟩⟩,B false,I 2,I 5,I 2,I 3,.sl 2 [.agg [I 1,I 2],.agg [I 2,I 1]],.sl 2 [.agg [I 3,I 1]],.sl 2 [.agg [I 1,I 1]]],
 .agg [.str ⟨⟨[102,111,114,103,101]⟩⟩,B false,I 3,I 10,I 1,I 1,.sl 2 [.agg [I 3,I 3]],.sl 2 [.agg [I 4,I 1]],.nils],
 .agg [.str ⟨⟨[115,99,114,97,112]⟩⟩,B false,I 0,I 1,I 1,I 1,.sl 2 [.agg [I 4,I 1]],.sl 2 [.agg [I 3,I 3]],.nils],
 .agg [.str ⟨⟨[115,101,108,108]⟩⟩,B false,I 0,I 1,I 1,I 1,.sl 2 [.agg [I 3,I 1]],.sl 2 [.agg [I 0,I 7]],.nils]]
def tabsD:DV:=.sl 2 [.agg [.str ⟨⟨[99,104,101,115,116]⟩⟩,.sl 2 [.agg [I 5,.sl 2 [.agg [I 0,I 10]]],.agg [I 1,.sl 2 [.agg [I 3,I 2]]]]]]
def taxesD:DV:=.sl 2 [.agg [.str ⟨⟨[115,97,108,101]⟩⟩,.sl 2 [.agg [I 0,I 500],.agg [I 100,I 1000]]]]
def catD (b w:DV):DV:=.agg [.sl 7 (itemsD b w),rulesD,tabsD,taxesD]
end Go.Proofs.YtccialgeakmmpaaGreatDoor
namespace Go.Proofs.YtccialgeakmmpaaGreatDoor
open Go.TM
def vbyteN:Nat→Nat→List Int
 | 0,n=>[(n:Int)]
 | f+1,n=>if n<128 then [(n:Int)] else (128+(n % 128:Nat):Int)::vbyteN f (n / 128)
def vbytes (n:Nat):List Int:=vbyteN 10 n
theorem vbyteN_step {f n:Nat} (h:¬ n<128):vbyteN (f+1) n=(128+(n % 128:Nat):Int)::vbyteN f (n / 128):=by simp only [vbyteN,if_neg h]
theorem vbyteN_low {f n:Nat} (h:n<128):vbyteN f n=[(n:Int)]:=by
 cases f with
 | zero=>rfl
 | succ f=>simp only [vbyteN,if_pos h]
def zz (n:Int):Int:=if n<0 then 2 * (-(n+1))+1 else 2 * n
theorem zz_bd {n:Int} (h:-9223372036854775808≤n∧n≤9223372036854775807):0≤zz n∧zz n<18446744073709551616:=by
 unfold zz; split <;> omega
theorem or128 (y:Nat) (hy:y<256):bits .or .u8 (y:Int) 128=128+((y % 128:Nat):Int):=by
 have h:∀y:Fin 256,bits .or .u8 ((y:Nat):Int) 128=128+(((y:Nat) % 128:Nat):Int):=by decide +kernel
 exact h ⟨y,hy⟩
theorem xor_ones (a:Nat) (ha:a<18446744073709551616):bits .xor .u64 (a:Int) 18446744073709551615=((18446744073709551615 - a:Nat):Int):=by
 have h:=bits_xor_u64_nat a 18446744073709551615 ha (by decide)
 rw [show (18446744073709551615:Int)=((18446744073709551615:Nat):Int) from rfl,h]
 congr 1
 have h1:a ^^^ 18446744073709551615=(BitVec.ofNat 64 a ^^^ BitVec.allOnes 64).toNat:=by
  rw [BitVec.toNat_xor,BitVec.toNat_ofNat,BitVec.toNat_allOnes,Nat.mod_eq_of_lt (by simpa using ha)]
 rw [h1,BitVec.xor_allOnes,BitVec.toNat_not,BitVec.toNat_ofNat,Nat.mod_eq_of_lt (by simpa using ha)]
theorem xor_zero (a:Nat) (ha:a<18446744073709551616):bits .xor .u64 (a:Int) 0=(a:Int):=by
 have h:=bits_xor_u64_nat a 0 ha (by decide)
 rw [show (0:Int)=((0:Nat):Int) from rfl,h,Nat.xor_zero]
theorem zz_law (n:Int) (h:-9223372036854775808≤n∧n≤9223372036854775807):bits .xor .u64 (IntKind.u64.wrap (IntKind.u64.wrap n * 2 ^ min (1:Int).toNat IntKind.u64.bits)) (IntKind.u64.wrap (n / 2 ^ min (63:Int).toNat IntKind.i64.bits))=zz n:=by
 have e1:min (1:Int).toNat IntKind.u64.bits=1:=by decide
 have e2:min (63:Int).toNat IntKind.i64.bits=63:=by decide
 rw [e1,e2]
 simp only [IntKind.wrap_u64]
 unfold zz
 by_cases hn:n<0
 ·rw [if_pos hn]
  have h1:n / 2 ^ 63 % 18446744073709551616=18446744073709551615:=by omega
  have h2:n % 18446744073709551616 * 2 ^ 1 % 18446744073709551616=((2 * n+18446744073709551616).toNat:Int):=by omega
  rw [h1,h2,xor_ones _ (by omega)]
  omega
 ·rw [if_neg hn]
  have h1:n / 2 ^ 63 % 18446744073709551616=0:=by omega
  have h2:n % 18446744073709551616 * 2 ^ 1 % 18446744073709551616=((2 * n).toNat:Int):=by omega
  rw [h1,h2,xor_zero _ (by omega)]
  omega
end Go.Proofs.YtccialgeakmmpaaGreatDoor
namespace Go.Proofs.YtccialgeakmmpaaGreatDoor
open Go.TM
variable [KObj]
def pol1 (_:Nat):Bool:=true
def pol0 (_:Nat):Bool:=false
theorem cat_spec:PSpec Tryz.prog 6 [] [catD (I 2) (I 20)]:=pspec_run (pol:=pol1) (fuel:=1000) tab_ok mixed names_ok (by kernel_rfl)
theorem copy_spec (b w:Int):PSpec Tryz.prog 42 [catD (I b) (I w)] [catD (I b) (I w)]:=pspec_run (pol:=pol0) (fuel:=1000) tab_ok mixed names_ok (by kernel_rfl)
theorem valid_spec:PSpec Tryz.prog 41 [catD (.ivl .i64 0 2) (.ivl .i64 1 40)] [I 0]:=pspec_run (pol:=pol1) (fuel:=1000) tab_ok mixed names_ok (by kernel_rfl)
end Go.Proofs.YtccialgeakmmpaaGreatDoor
namespace Go.Proofs.YtccialgeakmmpaaGreatDoor
open Go.TM
variable [KObj]
set_option maxRecDepth 100000
abbrev U6 (n:Int):DV:=.int .u64 n
abbrev Y (n:Int):DV:=.int .u8 n
theorem zigzag_spec (n:Int) (h:InI n):PSpec Tryz.prog 87 [I n] [U6 (zz n)]:=by
 refine pspec_of tab_ok mixed (calls_snd _) (range_snd _) Tryz.func87 rfl (by kernel_rfl) rfl ?_
 refine ⟨fun _=>by decide,fun _=>by decide,DV.Le.of_eq ?_,tv⟩
 exact congrArg U6 (zz_law n h)
theorem byWB:(nth tab (nth tab 90).elem).bytes=1:=rfl
theorem orb (n:Nat):bits .or .u8 (IntKind.u8.wrap (n:Int)) 128=128+((n % 128:Nat):Int):=by
 rw [IntKind.wrap_u8,show ((n:Int) % 256)=((n % 256:Nat):Int) by omega,or128 _ (by omega)]
 omega
theorem wrb {n:Nat} (h:n<128):IntKind.u8.wrap (n:Int)=(n:Int):=by rw [IntKind.wrap_u8]; omega
structure WS where
 dn:List Int
 n:Nat
 f:Nat
 v:Bool
theorem vstep {x:WS} {tot:List Int} (h:x.dn++vbyteN x.f x.n=tot∧x.n<128 ^ (x.f+1)) (hn:¬ x.n<128):(x.dn++[(128+(x.n % 128:Nat):Int)])++vbyteN (x.f - 1) (x.n / 128)=tot∧x.n / 128<128 ^ (x.f - 1+1):=by
 obtain ⟨dn,n,f,v⟩:=x
 obtain ⟨h1,h2⟩:=h
 simp only at h1 h2 hn ⊢
 cases f with
 | zero=>simp at h2; omega
 | succ f =>
  rw [vbyteN_step hn] at h1
  refine ⟨by rw [List.append_assoc]; exact h1,?_⟩
  simp only [Nat.add_sub_cancel]
  rw [Nat.pow_succ] at h2
  omega
def wK (bs:List Int) (v:Nat):Boxes:=[(0,.cells [.own 1 v 0 []]),(1,.tree v 0 (.osl 1 (bs.map Y)))]
def wI (bs:List Int):WS→AState
 | ⟨dn,n,_,false⟩=>⟨2,[(0,.ptr 0 0),(1,.dv (U6 n))],wK (bs++dn) 0⟩
 | ⟨dn,n,_,true⟩=>⟨2,[(0,.ptr 0 0),(1,.dv (U6 n))],wK (bs++dn) 1⟩
set_option maxHeartbeats 4000000 in
theorem wuint_spec (bs:List Int) (hbs:bs.length≤100000) (n:Nat) (hn:n<18446744073709551616):CSpec Tryz.prog 86 [.ptr 0 0,.dv (U6 n)] 2 (wK bs 0) 0 [] (wK (bs++vbytes n) 1):=by
 refine cspec_of tab_ok mixed (calls_snd _) (range_snd _) Tryz.func86 rfl rfl (by kernel_rfl) ?_
 refine ⟨WS,wI bs,fun x=>(x.dn++vbyteN x.f x.n=vbytes n∧x.n<128 ^ (x.f+1))∧x.n<18446744073709551616∧x.f+x.dn.length≤10,fun x=>x.n,⟨[],n,10,false⟩,(fun ⟨_,_,_,v⟩=>by cases v <;> rfl),⟨⟨rfl,rf,tv⟩,⟨⟨rfl,tv⟩,⟨rfl,by simp⟩,tv⟩,rfl,rfl⟩,⟨⟨rfl,by show n<128 ^ 11; omega⟩,hn,by simp⟩,?_⟩
 rintro ⟨dn,n',f,(_ | _)⟩ ⟨h1,h2,h3⟩ <;> (
  dsimp only at h1 h2 h3
  refine ⟨fun h=>?_,fun h=>?_⟩
  ·have h':(128:Int)≤(n':Int):=of_decide_eq_true h
   have hc:¬ n'<128:=by omega
   have hs:=vstep (x:=⟨dn,n',f,true⟩) h1 hc
   have hf:0<f:=by
    cases f with
    | zero=>have:=h1.2; simp at this; omega
    | succ f=>omega
   refine .inl ⟨[Y (128+(n' % 128:Nat))],rfl,⟨le_int (orb n'),tv⟩,(by simp; rfl),?_⟩
   refine .inr ⟨[Y (128+(n' % 128:Nat))],ELes.refl _,(by rw [byWB]; simp; omega),(by simp; omega),?_⟩
   exact ⟨fun _=>by decide,⟨dn++[(128+(n' % 128:Nat):Int)],n' / 128,f - 1,true⟩,⟨⟨rfl,le_int (by show ((n' / 128:Nat):Int)=(n':Int) / 128; omega),tv⟩,⟨⟨rfl,tv⟩,⟨rfl,by simp⟩,tv⟩,rfl,rfl⟩,⟨hs,by show n' / 128<_; omega,by simp; omega⟩,by show n' / 128<n'; omega⟩
  ·have h':¬ (128:Int)≤(n':Int):=of_decide_eq_false h
   have hc:n'<128:=by omega
   have hv:dn++[(n':Int)]=vbytes n:=by have:=h1.1; rw [vbyteN_low hc] at this; exact this
   refine .inl ⟨[Y n'],rfl,⟨le_int (wrb hc),tv⟩,(by simp; rfl),?_⟩
   refine .inr ⟨[Y n'],ELes.refl _,(by rw [byWB]; simp; omega),(by simp; omega),?_⟩
   exact ⟨_,_,⟨rfl,rfl⟩,by kernel_rfl,tv,⟨rfl,tv⟩,⟨rfl,by rw [←hv]; simp⟩,tv⟩)
set_option maxHeartbeats 4000000 in
theorem wuint0_spec (n:Nat) (hn:n<18446744073709551616):CSpec Tryz.prog 86 [.ptr 0 0,.dv (U6 n)] 1 [(0,.cells [.dv .nils])] 1 [] (wK (vbytes n) 0):=by
 refine cspec_of tab_ok mixed (calls_snd _) (range_snd _) Tryz.func86 rfl rfl (by kernel_rfl) ?_
 refine ⟨WS,fun x=>⟨2,[(0,.ptr 0 0),(1,.dv (U6 x.n))],wK x.dn 0⟩,fun x=>(x.dn++vbyteN x.f x.n=vbytes n∧x.n<128 ^ (x.f+1))∧x.n<18446744073709551616∧x.f+x.dn.length≤10,fun x=>x.n,⟨[],n,10,false⟩,fun _=>rfl,⟨⟨rfl,rf,tv⟩,⟨⟨⟨rfl,rfl,rfl,rfl,1,rfl⟩,tv⟩,⟨rfl,rfl,1,rfl⟩,tv⟩,rfl,rfl⟩,⟨⟨rfl,by show n<128 ^ 11; omega⟩,hn,by simp⟩,?_⟩
 rintro ⟨dn,n',f,v⟩ ⟨h1,h2,h3⟩
 dsimp only at h1 h2 h3
 refine ⟨fun h=>?_,fun h=>?_⟩
 ·have h':(128:Int)≤(n':Int):=of_decide_eq_true h
  have hc:¬ n'<128:=by omega
  have hs:=vstep (x:=⟨dn,n',f,true⟩) h1 hc
  have hf:0<f:=by
   cases f with
   | zero=>have:=h1.2; simp at this; omega
   | succ f=>omega
  refine .inl ⟨[Y (128+(n' % 128:Nat))],rfl,⟨le_int (orb n'),tv⟩,(by simp; rfl),?_⟩
  refine .inr ⟨[Y (128+(n' % 128:Nat))],ELes.refl _,(by rw [byWB]; simp; omega),(by simp; omega),?_⟩
  exact ⟨fun _=>by decide,⟨dn++[(128+(n' % 128:Nat):Int)],n' / 128,f - 1,true⟩,⟨⟨rfl,le_int (by show ((n' / 128:Nat):Int)=(n':Int) / 128; omega),tv⟩,⟨⟨rfl,tv⟩,⟨rfl,by simp⟩,tv⟩,rfl,rfl⟩,⟨hs,by show n' / 128<_; omega,by simp; omega⟩,by show n' / 128<n'; omega⟩
 ·have h':¬ (128:Int)≤(n':Int):=of_decide_eq_false h
  have hc:n'<128:=by omega
  have hv:dn++[(n':Int)]=vbytes n:=by have:=h1.1; rw [vbyteN_low hc] at this; exact this
  refine .inl ⟨[Y n'],rfl,⟨le_int (wrb hc),tv⟩,(by simp; rfl),?_⟩
  refine .inr ⟨[Y n'],ELes.refl _,(by rw [byWB]; simp; omega),(by simp; omega),?_⟩
  exact ⟨_,_,⟨rfl,rfl⟩,by kernel_rfl,tv,⟨rfl,tv⟩,⟨rfl,by rw [←hv]; simp⟩,tv⟩
def ibytes (n:Int):List Int:=vbytes (zz n).toNat
theorem zz_nat {n:Int} (h:InI n):((zz n).toNat:Int)=zz n∧(zz n).toNat<18446744073709551616:=by
 have:=zz_bd h
 omega
set_option maxHeartbeats 4000000 in
theorem wint_spec (bs:List Int) (hbs:bs.length≤100000) (n:Int) (h:InI n):CSpec Tryz.prog 55 [.ptr 0 0,.dv (I n)] 2 (wK bs 0) 0 [] (wK (bs++ibytes n) 1):=by
 refine cspec_of tab_ok mixed (calls_snd _) (range_snd _) Tryz.func55 rfl rfl (by kernel_rfl) ?_
 obtain ⟨h1,h2⟩:=zz_nat h
 have hz:=zigzag_spec n h
 rw [←h1] at hz
 refine .inl ⟨_,fun _=>hz.ok,?_⟩
 refine .inr ⟨[0,1],[.ptr 0 0,.dv (U6 ((zz n).toNat:Int))],wK bs 0,0,_,_,wuint_spec bs hbs _ h2,by kernel_rfl,by kernel_rfl,⟨rfl,rf,tv⟩,⟨⟨rfl,tv⟩,⟨rfl,rfl⟩,tv⟩,?_⟩
 exact ⟨_,_,⟨rfl,rfl⟩,by kernel_rfl,tv,⟨rfl,tv⟩,⟨rfl,rfl⟩,tv⟩
set_option maxHeartbeats 4000000 in
theorem wint0_spec (n:Int) (h:InI n):CSpec Tryz.prog 55 [.ptr 0 0,.dv (I n)] 1 [(0,.cells [.dv .nils])] 1 [] (wK (ibytes n) 0):=by
 refine cspec_of tab_ok mixed (calls_snd _) (range_snd _) Tryz.func55 rfl rfl (by kernel_rfl) ?_
 obtain ⟨h1,h2⟩:=zz_nat h
 have hz:=zigzag_spec n h
 rw [←h1] at hz
 refine .inl ⟨_,fun _=>hz.ok,?_⟩
 refine .inr ⟨[0],[.ptr 0 0,.dv (U6 ((zz n).toNat:Int))],[(0,.cells [.dv .nils])],1,_,_,wuint0_spec _ h2,by kernel_rfl,by kernel_rfl,⟨rfl,rf,tv⟩,⟨⟨rf,tv⟩,tv⟩,?_⟩
 exact ⟨_,_,⟨rfl,rfl⟩,by kernel_rfl,tv,⟨rfl,tv⟩,⟨rfl,rfl⟩,tv⟩
theorem closed_Y (bs:List Int):∀x,x∈bs.map Y→x.closedCells:=by
 intro x hx d hd
 obtain ⟨n,_,rfl⟩:=List.mem_map.1 hx
 simp only [DV.cells,List.mem_singleton] at hd
 subst hd; rfl
theorem vbytes_ne (n:Nat):vbytes n ≠ []:=by
 unfold vbytes
 rw [vbyteN]
 split <;> simp
set_option maxHeartbeats 4000000 in
theorem cloneB_spec (bs:List Int) (hne:bs ≠ []) (hl:bs.length≤1000000):CSpec Tryz.prog 88 [.own 0 0 0 []] 1 [(0,.tree 0 0 (.osl 1 (bs.map Y)))] 1 [.own 1 0 0 []] [(0,.tree 0 0 (.osl 1 (bs.map Y))),(1,.tree 0 0 (.osl 1 (bs.map Y)))]:=by
 refine cspec_of tab_ok mixed (calls_snd _) (range_snd _) Tryz.func88 rfl rfl (by kernel_rfl) ?_
 refine .inr ⟨by simpa using hne,fun h=>(by cases h),fun _=>?_⟩
 refine .inr (.inl ⟨[],rfl,tv,(by simp),?_⟩)
 refine .inr (.inl ⟨closed_Y bs,bs.map Y,ELes.refl _,(by rw [byWB]; simp; omega),(by simp; omega),?_⟩)
 exact ⟨_,_,⟨rfl,rfl⟩,by kernel_rfl,⟨rfl,tv⟩,⟨rfl,rfl⟩,⟨rfl,by simp; rfl⟩,tv⟩
set_option maxHeartbeats 4000000 in
theorem done_spec (bs:List Int) (hne:bs ≠ []) (hl:bs.length≤1000000):CSpec Tryz.prog 57 [.ptr 0 0] 2 (wK bs 0) 1 [.own 2 0 0 []] (wK bs 0++[(2,.tree 0 0 (.osl 1 (bs.map Y)))]):=by
 refine cspec_of tab_ok mixed (calls_snd _) (range_snd _) Tryz.func57 rfl rfl (by kernel_rfl) ?_
 refine .inr ⟨[1],[.own 0 0 0 []],[(0,.tree 0 0 (.osl 1 (bs.map Y)))],1,_,_,cloneB_spec bs hne hl,by kernel_rfl,by kernel_rfl,⟨rfl,tv⟩,⟨⟨rfl,rfl⟩,tv⟩,?_⟩
 exact ⟨_,_,⟨rfl,rfl⟩,by kernel_rfl,⟨rfl,tv⟩,⟨rfl,tv⟩,⟨rfl,rfl⟩,⟨rfl,rfl⟩,tv⟩
theorem rzig_spec (n:Int) (h:InI n):PSpec Tryz.prog 90 [I n] [U6 (zz n)]:=by
 refine pspec_of tab_ok mixed (calls_snd _) (range_snd _) Tryz.func90 rfl (by kernel_rfl) rfl ?_
 obtain ⟨h1,h2⟩:=h
 refine ⟨fun hn=>?_,fun hn=>?_⟩
 ·have hn:n<0:=of_decide_eq_true hn
  refine ⟨fun _=>⟨by omega,by omega⟩,fun _=>⟨by omega,by omega⟩,le_int ?_,tv⟩
  simp only [IntKind.wrap_u64]
  unfold zz
  rw [if_pos hn]
  omega
 ·have hn:¬ n<0:=of_decide_eq_false hn
  refine ⟨le_int ?_,tv⟩
  simp only [IntKind.wrap_u64]
  unfold zz
  rw [if_neg hn]
  omega
theorem rb1 (n:Nat):IntKind.u8.wrap (IntKind.u64.wrap (128+(n:Int).tmod 128))=128+((n % 128:Nat):Int):=by
 have:(n:Int).tmod 128=((n % 128:Nat):Int):=by
  rw [show (128:Int)=((128:Nat):Int) from rfl,Int.ofNat_tmod]
 rw [this,IntKind.wrap_u64,IntKind.wrap_u8]
 omega
theorem rb2 (n:Nat) (h:n<18446744073709551616):IntKind.u64.wrap ((n:Int).tdiv 128)=((n / 128:Nat):Int):=by
 have:(n:Int).tdiv 128=((n / 128:Nat):Int):=by
  rw [show (128:Int)=((128:Nat):Int) from rfl,Int.ofNat_tdiv]
 rw [this,IntKind.wrap_u64]
 omega
def rK (bs:List Int):Boxes:=[(0,.tree 0 0 (.osl 1 (bs.map Y)))]
set_option maxHeartbeats 4000000 in
theorem ruint_spec (n:Nat) (hn:n<18446744073709551616):CSpec Tryz.prog 89 [.dv (U6 n)] 0 [] 1 [.own 0 0 0 []] (rK (vbytes n)):=by
 refine cspec_of tab_ok mixed (calls_snd _) (range_snd _) Tryz.func89 rfl rfl (by kernel_rfl) ?_
 refine ⟨WS,fun x=>⟨1,[(0,.dv (U6 x.n)),(3,.own 0 0 0 [])],rK x.dn⟩,fun x=>(x.dn++vbyteN x.f x.n=vbytes n∧x.n<128 ^ (x.f+1))∧x.n<18446744073709551616∧x.f+x.dn.length≤10,fun x=>x.n,⟨[],n,10,false⟩,fun _=>rfl,⟨⟨rf,⟨rfl,rfl,rfl,rfl,1,rfl⟩,tv⟩,⟨⟨rfl,rfl,1,rfl⟩,tv⟩,rfl,rfl⟩,⟨⟨rfl,by show n<128 ^ 11; omega⟩,hn,by simp⟩,?_⟩
 rintro ⟨dn,n',f,v⟩ ⟨h1,h2,h3⟩
 dsimp only at h1 h2 h3
 refine ⟨fun h=>?_,fun h=>?_⟩
 ·have h':(127:Int)<(n':Int):=of_decide_eq_true h
  have hc:¬ n'<128:=by omega
  have hs:=vstep (x:=⟨dn,n',f,true⟩) h1 hc
  have hf:0<f:=by
   cases f with
   | zero=>have:=h1.2; simp at this; omega
   | succ f=>omega
  refine ⟨fun _=>by decide,?_⟩
  refine .inl ⟨[Y (128+(n' % 128:Nat))],rfl,⟨le_int (rb1 n'),tv⟩,(by simp; rfl),?_⟩
  refine .inr ⟨[Y (128+(n' % 128:Nat))],ELes.refl _,(by rw [byWB]; simp; omega),(by simp; omega),?_⟩
  exact ⟨fun _=>by decide,⟨dn++[(128+(n' % 128:Nat):Int)],n' / 128,f - 1,true⟩,⟨⟨le_int (rb2 n' h2),rfl,tv⟩,⟨⟨rfl,by simp⟩,tv⟩,rfl,rfl⟩,⟨hs,by show n' / 128<_; omega,by simp; omega⟩,by show n' / 128<n'; omega⟩
 ·have h':¬ (127:Int)<(n':Int):=of_decide_eq_false h
  have hc:n'<128:=by omega
  have hv:dn++[(n':Int)]=vbytes n:=by have:=h1.1; rw [vbyteN_low hc] at this; exact this
  refine .inl ⟨[Y n'],rfl,⟨le_int (wrb hc),tv⟩,(by simp; rfl),?_⟩
  refine .inr ⟨[Y n'],ELes.refl _,(by rw [byWB]; simp; omega),(by simp; omega),?_⟩
  exact ⟨_,_,⟨rfl,rfl⟩,by kernel_rfl,⟨rfl,tv⟩,⟨rfl,by rw [←hv]; simp⟩,tv⟩
set_option maxHeartbeats 4000000 in
theorem rint_spec (n:Int) (h:InI n):CSpec Tryz.prog 58 [.dv (I n)] 0 [] 1 [.own 0 0 0 []] (rK (ibytes n)):=by
 refine cspec_of tab_ok mixed (calls_snd _) (range_snd _) Tryz.func58 rfl rfl (by kernel_rfl) ?_
 obtain ⟨h1,h2⟩:=zz_nat h
 have hz:=rzig_spec n h
 rw [←h1] at hz
 refine .inl ⟨_,fun _=>hz.ok,?_⟩
 refine .inr ⟨[],[.dv (U6 ((zz n).toNat:Int))],[],1,_,_,ruint_spec _ h2,by kernel_rfl,by kernel_rfl,⟨rf,tv⟩,tv,?_⟩
 exact ⟨_,_,⟨rfl,rfl⟩,by kernel_rfl,⟨rfl,tv⟩,⟨rfl,rfl⟩,tv⟩
end Go.Proofs.YtccialgeakmmpaaGreatDoor
namespace Go.Proofs.YtccialgeakmmpaaGreatDoor
open Go.TM
variable [KObj]
structure Item where
 name:ByteArray
 obj:Bool
 mix:Bool
 coin:Bool
 wear:Int
 bind:Int
 lev:Int
def Item.zero:Item:=⟨⟨#[]⟩,false,false,false,0,0,0⟩
structure Ob where
 item:Int
 owner:Int
 wear:Int
 bound:Bool
def Ob.zero:Ob:=⟨0,0,0,false⟩
abbrev Ky:=Int × Int
def eItem (i:Item):DV:=.agg [.str i.name,B i.obj,B i.mix,B i.coin,I i.wear,I i.bind,I i.lev]
def eOb (x:Ob):DV:=.agg [I x.item,I x.owner,I x.wear,B x.bound]
def eKy (k:Ky):DV:=.agg [I k.1,I k.2]
abbrev OM:=List (Ky × Ob)
def eEnt (p:Ky × Ob):DV:=.ent (eKy p.1) (eOb p.2)
def oget:OM→Ky→Option Ob
 | [],_=>none
 | p::r,k=>if p.1=k then some p.2 else oget r k
def oput:OM→Ky→Ob→OM
 | [],k,x=>[(k,x)]
 | p::r,k,x=>if p.1=k then (k,x)::r else p::oput r k x
theorem keq_ky (a b:Ky):keq (eKy a) (eKy b)=decide (a=b):=by
 obtain ⟨a1,a2⟩:=a
 obtain ⟨b1,b2⟩:=b
 simp only [eKy,keq,keqs,keq1,Prod.mk.injEq]
 simp
 try rw [Bool.eq_iff_iff]; simp
theorem mget_ky (k:Ky):∀m:OM,mget (m.map eEnt) (eKy k)=(oget m k).map eOb
 | []=>rfl
 | p::r=>by
  simp only [List.map_cons,eEnt,mget,keq_ky,oget]
  by_cases h:p.1=k
  ·simp [h]
  ·simp only [h,decide_false,cond_false,if_false]
   exact mget_ky k r
theorem mput_ky (k:Ky) (x:Ob):∀m:OM,mput (m.map eEnt) (eKy k) (eOb x)=(oput m k x).map eEnt
 | []=>rfl
 | p::r=>by
  simp only [List.map_cons,eEnt,mput,keq_ky,oput]
  by_cases h:p.1=k
  ·simp [h,eEnt]
  ·simp only [h,decide_false,cond_false,if_false,List.map_cons]
   have:=mput_ky k x r
   rw [this]
   rfl
def stC (its:List Item):List AV:=[.dv (.sl 7 (its.map eItem)),.dv rulesD,.dv tabsD,.dv taxesD,.own 1 0 0 []]
def stK (its:List Item) (m:OM):Boxes:=[(0,.cells (stC its)),(1,.tree 0 0 (.omap pairK (m.map eEnt)))]
def typeOf (its:List Item) (i:Int):Option Item:=if i<0 then none else match its[i.toNat]? with
 | some x=>if x.obj then some x else none
 | none=>none
def tyI (o:Option Item):Item:=o.getD Item.zero
theorem keyTI:KeyT Tryz.prog 79 pairK:=keyT_pair tab_ok rfl
theorem mget_b (m:OM) (k:Ky):mget (m.map eEnt) (eKy k)=bif (oget m k).isSome then some (eOb ((oget m k).getD Ob.zero)) else none:=by
 rw [mget_ky]; cases oget m k <;> rfl
theorem mget_z {m:OM} {k:Ky} (h:(oget m k).isSome=false):eOb ((oget m k).getD Ob.zero)=eOb Ob.zero:=by
 cases hq:oget m k with
 | none=>rfl
 | some x=>rw [hq] at h; cases h
theorem item_at {its:List Item} {i:Int} (h0:¬ i<0) (h1:¬ (its.length:Int)≤i):(its.map eItem)[i.toNat]?=some (eItem (its.getD i.toNat Item.zero)):=by
 have hlt:i.toNat<its.length:=by omega
 rw [List.getElem?_map,List.getElem?_eq_getElem hlt]
 simp [List.getD,hlt]
set_option maxRecDepth 100000
set_option maxHeartbeats 4000000 in
theorem typeOf_spec (its:List Item) (m:OM) (i:Int):CSpec Tryz.prog 20 [.ptr 0 0,.dv (I i)] 2 (stK its m) 0 [ofD (eItem (tyI (typeOf its i))),.dv (B (typeOf its i).isSome)] (stK its m):=by
 refine cspec_of tab_ok mixed (calls_snd _) (range_snd _) Tryz.func20 rfl rfl (by kernel_rfl) ?_
 repeat first | refine ⟨id,?_⟩ | refine ⟨fun _ h=>bw_f h,?_⟩ | refine ⟨fun _ h=>bw_t h,?_⟩ | refine ⟨fun h=>⟨h,fun h2=>bw_and h h2⟩,?_⟩ | refine ⟨fun h=>⟨h,fun h2=>bw_andf h h2⟩,?_⟩
 have hb:∀{p q:Bool},bw (bif p then true else q) false=true→p=false∧q=false:=fun {p q} h=>by cases p <;> cases q <;> simp_all [bw]
 refine ⟨eItem (its.getD i.toNat Item.zero),fun h=>?_,?_⟩
 ·obtain ⟨h1,h2⟩:=hb h
  have h1:¬ i<0:=by simpa using h1
  have h2:¬ (its.length:Int)≤i:=by simpa using h2
  exact ⟨by omega,item_at h1 h2⟩
 repeat first | refine ⟨id,?_⟩ | refine ⟨fun _ h=>bw_f h,?_⟩ | refine ⟨fun _ h=>bw_t h,?_⟩ | refine ⟨fun h=>⟨h,fun h2=>bw_and h h2⟩,?_⟩ | refine ⟨fun h=>⟨h,fun h2=>bw_andf h h2⟩,?_⟩
 refine ⟨fun h=>?_,fun h=>?_⟩
 ·have e:typeOf its i=none:=by
   unfold typeOf
   split
   ·rfl
   ·rename_i hi
    cases hq:its[i.toNat]? with
    | none=>rfl
    | some x =>
     have hlt:=(List.getElem?_eq_some_iff.1 hq).1
     have h2:¬ (its.length:Int)≤i:=by omega
     simp [hi,h2,List.getD,hq] at h
     simp [h]
  refine ⟨_,_,⟨rfl,rfl⟩,by kernel_rfl,⟨?_,?_,tv⟩,⟨rf,rf,rf,rf,rfl,tv⟩,⟨rfl,rfl⟩,tv⟩
  ·rw [e]; exact ⟨rf,rf,rf,rf,rf,rf,rf,tv⟩
  ·rw [e]; exact rf
 ·have hi:¬ i<0:=fun hi=>by simp [hi] at h
  have h2:¬ (its.length:Int)≤i:=fun h2=>by simp [h2] at h
  have e:typeOf its i=some (its.getD i.toNat Item.zero):=by
   have hlt:i.toNat<its.length:=by omega
   simp only [typeOf,if_neg hi,List.getElem?_eq_getElem hlt]
   simp [hi,h2,List.getD,hlt] at h
   simp [h,List.getD,hlt]
  refine ⟨eItem (its.getD i.toNat Item.zero),fun _=>⟨by omega,item_at hi h2⟩,?_⟩
  refine ⟨_,_,⟨rfl,rfl⟩,by kernel_rfl,⟨?_,?_,tv⟩,⟨rf,rf,rf,rf,rfl,tv⟩,⟨rfl,rfl⟩,tv⟩
  ·rw [e]; exact ⟨rf,rf,rf,rf,rf,rf,rf,tv⟩
  ·rw [e]; exact rf
def ownR (its:List Item) (m:OM) (k:Ky) (ow:Int):Ob × Item × Int:=match oget m k with
 | none=>(Ob.zero,Item.zero,7)
 | some x=>if x.owner=ow then (x,its.getD x.item.toNat Item.zero,0) else (Ob.zero,Item.zero,15)
def OkM (its:List Item) (m:OM):Prop:=∀k x,oget m k=some x→0≤x.item∧x.item<its.length
set_option maxHeartbeats 4000000 in
theorem owned_spec (its:List Item) (m:OM) (k:Ky) (ow:Int) (hm:OkM its m):CSpec Tryz.prog 60 [.ptr 0 0,ofD (eKy k),.dv (I ow)] 2 (stK its m) 0 [ofD (eOb (ownR its m k ow).1),ofD (eItem (ownR its m k ow).2.1),.dv (I (ownR its m k ow).2.2)] (stK its m):=by
 refine cspec_of tab_ok mixed (calls_snd _) (range_snd _) Tryz.func60 rfl rfl (by kernel_rfl) ?_
 refine ⟨keyTI,eKy k,rfl,rfl,eOb ((oget m k).getD Ob.zero),(oget m k).isSome,fun _=>mget_b m k,mget_z,rfl,?_⟩
 refine ⟨by kernel_rfl,fun h=>?_,fun h=>?_⟩
 ·have e:ownR its m k ow=(Ob.zero,Item.zero,7):=by
   unfold ownR
   cases hq:oget m k with
   | none=>rfl
   | some x=>simp [hq] at h
  refine ⟨_,_,⟨rfl,rfl⟩,by kernel_rfl,?_,⟨rf,rf,rf,rf,rfl,tv⟩,⟨rfl,rfl⟩,tv⟩
  rw [e]; exact ⟨⟨rf,rf,rf,rf,tv⟩,⟨rf,rf,rf,rf,rf,rf,rf,tv⟩,rf,tv⟩
 ·obtain ⟨x,hx⟩:∃x,oget m k=some x:=by
   cases hq:oget m k with
   | none=>simp [hq] at h
   | some x=>exact ⟨x,rfl⟩
  rw [hx]
  refine ⟨fun h=>?_,fun h=>?_⟩
  ·have hne:¬ x.owner=ow:=by simpa using h
   have e:ownR its m k ow=(Ob.zero,Item.zero,15):=by simp [ownR,hx,hne]
   refine ⟨_,_,⟨rfl,rfl⟩,by kernel_rfl,?_,⟨rf,rf,rf,rf,rfl,tv⟩,⟨rfl,rfl⟩,tv⟩
   rw [e]; exact ⟨⟨rf,rf,rf,rf,tv⟩,⟨rf,rf,rf,rf,rf,rf,rf,tv⟩,rf,tv⟩
  ·have hne:x.owner=ow:=by simpa using h
   have e:ownR its m k ow=(x,its.getD x.item.toNat Item.zero,0):=by simp [ownR,hx,hne]
   have hi:=hm k x hx
   refine ⟨eItem (its.getD x.item.toNat Item.zero),fun _=>⟨hi.1,item_at (i:=x.item) (by omega) (by omega)⟩,by kernel_rfl,?_⟩
   refine ⟨_,_,⟨rfl,rfl⟩,by kernel_rfl,?_,⟨rf,rf,rf,rf,rfl,tv⟩,⟨rfl,rfl⟩,tv⟩
   rw [e]; exact ⟨⟨rf,rf,rf,rf,tv⟩,⟨rf,rf,rf,rf,rf,rf,rf,tv⟩,rf,tv⟩
end Go.Proofs.YtccialgeakmmpaaGreatDoor
