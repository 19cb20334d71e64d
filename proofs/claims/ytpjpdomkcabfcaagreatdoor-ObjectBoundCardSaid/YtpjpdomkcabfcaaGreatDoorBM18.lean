import Derived.Test.YtpjpdomkcabfcaaGreatDoorBM14
import Derived.Test.YtpjpdomkcabfcaaGreatDoorProg
import Derived.Test.YtpjpdomkcabfcaaGreatDoorChecked
import Derived.KernelRfl
import Derived.Test.YtpjpdomkcabfcaaGreatDoorBM17
import Derived.WalkKit
import Derived.Lib.Mul64
import Derived.Laws.Bits64b
set_option linter.unusedVariables false
set_option linter.unusedSimpArgs false
set_option linter.unusedSectionVars false
namespace Go.Proofs.YtpjpdomkcabfcaaGreatDoor
open Go.TM
def tab:List TI:=[
 ⟨false,1,0,false,[],[],false,false,0,0,0,[],none,false,0,[]⟩,
 ⟨true,1,8,false,[],[.nilf],false,false,0,7,0,[],none,false,0,[]⟩,
 ⟨true,1,8,false,[],[.int .i64 0],false,false,0,2,0,[],some IntKind.i64,false,0,[]⟩,
 ⟨true,1,8,false,[],[.int .i64 0],false,false,0,2,0,[],some IntKind.i64,false,0,[]⟩,
 ⟨true,1,1,false,[],[.bool false],false,false,0,1,0,[],none,false,0,[]⟩,
 ⟨true,1,1,false,[],[.int .u8 0],false,false,0,2,0,[],some IntKind.u8,false,0,[]⟩,
 ⟨true,1,1,false,[],[.int .u8 0],false,false,0,2,0,[],some IntKind.u8,false,0,[]⟩,
 ⟨true,4,24,true,[(0,1),(1,1),(2,1),(3,1)],[.int .i64 0,.int .i64 0,.bool false,.int .u8 0],false,false,0,9,0,[2,3,4,6],none,false,0,[2,2,1,2]⟩,
 ⟨true,4,24,true,[(0,1),(1,1),(2,1),(3,1)],[.int .i64 0,.int .i64 0,.bool false,.int .u8 0],false,false,0,9,0,[2,3,4,6],none,false,0,[2,2,1,2]⟩,
 ⟨true,1,16,false,[],[.str ⟨#[]⟩],false,true,0,3,0,[],none,false,0,[]⟩,
 ⟨true,1,16,false,[],[.str ⟨#[]⟩],false,true,0,3,0,[],none,false,0,[]⟩,
 ⟨true,1,16,false,[],[.str ⟨#[]⟩],false,true,0,3,0,[],none,false,0,[]⟩,
 ⟨true,1,8,false,[],[.int .u64 0],false,false,0,2,0,[],some IntKind.u64,false,0,[]⟩,
 ⟨true,2,24,true,[(0,1),(1,1)],[.str ⟨#[]⟩,.int .u64 0],false,false,0,9,0,[9,12],none,false,0,[]⟩,
 ⟨true,2,24,true,[(0,1),(1,1)],[.str ⟨#[]⟩,.int .u64 0],false,false,0,9,0,[9,12],none,false,0,[]⟩,
 ⟨true,1,8,false,[],[.nilp],false,false,0,5,0,[],none,false,0,[]⟩,
 ⟨true,1,8,false,[],[.nilp],false,false,0,5,0,[],none,false,0,[]⟩,
 ⟨true,1,8,false,[],[.nilp],false,false,0,5,0,[],none,false,0,[]⟩,
 ⟨true,1,8,true,[(0,1)],[.nilp],false,false,0,9,0,[17],none,false,0,[]⟩,
 ⟨true,1,8,true,[(0,1)],[.nilp],false,false,0,9,0,[17],none,false,0,[]⟩,
 ⟨true,1,16,false,[],[.nili],false,false,0,8,0,[],none,false,0,[]⟩,
 ⟨true,1,4,false,[],[.int .i32 0],false,false,0,2,0,[],some IntKind.i32,false,0,[]⟩,
 ⟨true,1,24,false,[],[.nils],true,false,3,4,0,[],none,false,0,[]⟩,
 ⟨true,1,8,false,[],[.nilp],false,false,0,5,0,[],none,false,0,[]⟩,
 ⟨true,1,8,false,[],[.nilp],false,false,0,5,0,[],none,false,0,[]⟩,
 ⟨false,1,0,false,[],[],false,false,0,0,0,[],none,false,0,[]⟩,
 ⟨true,1,8,false,[],[.nilf],false,false,0,7,0,[],none,false,0,[]⟩,
 ⟨true,1,24,false,[],[.nils],true,false,43,4,0,[],none,false,0,[]⟩,
 ⟨true,1,8,false,[],[.nilf],false,false,0,7,0,[],none,false,0,[]⟩,
 ⟨true,1,24,false,[],[.nils],true,false,37,4,0,[],none,false,0,[]⟩,
 ⟨true,1,24,false,[],[.nils],true,false,33,4,0,[],none,false,0,[]⟩,
 ⟨true,1,8,false,[],[.nilf],false,false,0,7,0,[],none,false,0,[]⟩,
 ⟨true,4,32,true,[(0,1),(1,1),(2,1),(3,1)],[.int .i64 0,.int .i64 0,.int .i64 0,.bool false],false,false,0,9,0,[3,3,3,4],none,false,0,[2,2,2,1]⟩,
 ⟨true,4,32,true,[(0,1),(1,1),(2,1),(3,1)],[.int .i64 0,.int .i64 0,.int .i64 0,.bool false],false,false,0,9,0,[3,3,3,4],none,false,0,[2,2,2,1]⟩,
 ⟨false,1,0,false,[],[],false,false,0,0,0,[],none,false,0,[]⟩,
 ⟨true,1,8,false,[],[.nilf],false,false,0,7,0,[],none,false,0,[]⟩,
 ⟨true,2,16,true,[(0,1),(1,1)],[.int .i64 0,.int .i64 0],false,false,0,9,0,[3,3],none,true,0,[2,2]⟩,
 ⟨true,2,16,true,[(0,1),(1,1)],[.int .i64 0,.int .i64 0],false,false,0,9,0,[3,3],none,true,0,[2,2]⟩,
 ⟨true,1,8,false,[],[.int .i64 0],false,false,0,2,0,[],some IntKind.i64,false,0,[]⟩,
 ⟨true,1,8,false,[],[.nilf],false,false,0,7,0,[],none,false,0,[]⟩,
 ⟨true,6,48,true,[(0,1),(1,1),(2,1),(3,1),(4,1),(5,1)],[.int .i64 0,.int .i64 0,.int .i64 0,.int .i64 0,.int .i64 0,.bool false],false,false,0,9,0,[3,3,3,3,3,4],none,false,0,[2,2,2,2,2,1]⟩,
 ⟨true,6,48,true,[(0,1),(1,1),(2,1),(3,1),(4,1),(5,1)],[.int .i64 0,.int .i64 0,.int .i64 0,.int .i64 0,.int .i64 0,.bool false],false,false,0,9,0,[3,3,3,3,3,4],none,false,0,[2,2,2,2,2,1]⟩,
 ⟨true,9,72,true,[(0,1),(1,6),(7,1),(8,1)],[.int .i64 0,.int .i64 0,.int .i64 0,.int .i64 0,.int .i64 0,.int .i64 0,.bool false,.int .i64 0,.int .i64 0],false,false,0,9,0,[3,41,3,3],none,false,0,[]⟩,
 ⟨true,9,72,true,[(0,1),(1,6),(7,1),(8,1)],[.int .i64 0,.int .i64 0,.int .i64 0,.int .i64 0,.int .i64 0,.int .i64 0,.bool false,.int .i64 0,.int .i64 0],false,false,0,9,0,[3,41,3,3],none,false,0,[]⟩,
 ⟨true,1,8,false,[],[.nilf],false,false,0,7,0,[],none,false,0,[]⟩,
 ⟨true,1,8,false,[],[.nilf],false,false,0,7,0,[],none,false,0,[]⟩,
 ⟨true,1,8,false,[],[.nilf],false,false,0,7,0,[],none,false,0,[]⟩,
 ⟨true,1,8,false,[],[.nilf],false,false,0,7,0,[],none,false,0,[]⟩,
 ⟨true,1,8,false,[],[.nilf],false,false,0,7,0,[],none,false,0,[]⟩,
 ⟨true,1,8,false,[],[.nilf],false,false,0,7,0,[],none,false,0,[]⟩,
 ⟨true,1,8,false,[],[.nilf],false,false,0,7,0,[],none,false,0,[]⟩,
 ⟨true,1,8,false,[],[.nilf],false,false,0,7,0,[],none,false,0,[]⟩,
 ⟨true,1,24,false,[],[.nils],true,false,95,4,0,[],none,false,0,[]⟩,
 ⟨true,1,24,false,[],[.nils],true,false,79,4,0,[],none,false,0,[]⟩,
 ⟨true,1,24,false,[],[.nils],true,false,104,4,0,[],none,false,0,[]⟩,
 ⟨true,1,24,false,[],[.nils],true,false,109,4,0,[],none,false,0,[]⟩,
 ⟨true,4,96,true,[(0,1),(1,1),(2,1),(3,1)],[.nils,.nils,.nils,.nils],false,false,0,9,0,[52,53,54,55],none,false,0,[]⟩,
 ⟨true,4,96,true,[(0,1),(1,1),(2,1),(3,1)],[.nils,.nils,.nils,.nils],false,false,0,9,0,[52,53,54,55],none,false,0,[]⟩,
 ⟨true,1,8,false,[],[.nilf],false,false,0,7,0,[],none,false,0,[]⟩,
 ⟨false,1,0,false,[],[],false,false,0,0,0,[],none,false,0,[]⟩,
 ⟨true,1,8,false,[],[.nilf],false,false,0,7,0,[],none,false,0,[]⟩,
 ⟨true,1,8,false,[],[.nilf],false,false,0,7,0,[],none,false,0,[]⟩,
 ⟨true,1,8,false,[],[.nilf],false,false,0,7,0,[],none,false,0,[]⟩,
 ⟨false,1,0,false,[],[],false,false,0,0,0,[],none,false,0,[]⟩,
 ⟨true,1,8,false,[],[.nilf],false,false,0,7,0,[],none,false,0,[]⟩,
 ⟨true,1,8,false,[],[.nilf],false,false,0,7,0,[],none,false,0,[]⟩,
 ⟨true,1,8,false,[],[.nilf],false,false,0,7,0,[],none,false,0,[]⟩,
 ⟨true,1,24,false,[],[.nils],true,false,5,4,0,[],none,false,0,[]⟩,
 ⟨true,1,8,false,[],[.nilf],false,false,0,7,0,[],none,false,0,[]⟩,
 ⟨true,1,8,false,[],[.nilf],false,false,0,7,0,[],none,false,0,[]⟩,
 ⟨true,1,8,false,[],[.nilf],false,false,0,7,0,[],none,false,0,[]⟩,
 ⟨true,1,24,false,[],[.nils],true,false,41,4,0,[],none,false,0,[]⟩,
 ⟨true,5,120,true,[(0,4),(4,1)],[.nils,.nils,.nils,.nils,.nils],false,false,0,9,0,[57,71],none,false,0,[]⟩,
 ⟨true,5,120,true,[(0,4),(4,1)],[.nils,.nils,.nils,.nils,.nils],false,false,0,9,0,[57,71],none,false,0,[]⟩,
 ⟨true,1,24,false,[],[.nils],true,false,67,4,0,[],none,false,0,[]⟩,
 ⟨true,1,8,false,[],[.nilf],false,false,0,7,0,[],none,false,0,[]⟩,
 ⟨true,1,8,false,[],[.nilf],false,false,0,7,0,[],none,false,0,[]⟩,
 ⟨true,1,24,false,[],[.nils],true,false,99,4,0,[],none,false,0,[]⟩,
 ⟨true,9,128,true,[(0,1),(1,1),(2,1),(3,1),(4,1),(5,1),(6,1),(7,1),(8,1)],[.str ⟨#[]⟩,.bool false,.int .i64 0,.int .i64 0,.int .i64 0,.int .i64 0,.nils,.nils,.nils],false,false,0,9,0,[9,4,3,3,3,3,77,77,77],none,false,0,[]⟩,
 ⟨true,9,128,true,[(0,1),(1,1),(2,1),(3,1),(4,1),(5,1),(6,1),(7,1),(8,1)],[.str ⟨#[]⟩,.bool false,.int .i64 0,.int .i64 0,.int .i64 0,.int .i64 0,.nils,.nils,.nils],false,false,0,9,0,[9,4,3,3,3,3,77,77,77],none,false,0,[]⟩,
 ⟨true,1,8,false,[],[.nilf],false,false,0,7,0,[],none,false,0,[]⟩,
 ⟨true,1,8,false,[],[.nilf],false,false,0,7,0,[],none,false,0,[]⟩,
 ⟨false,1,0,false,[],[],false,false,0,0,0,[],none,false,0,[]⟩,
 ⟨true,1,8,false,[],[.nilf],false,false,0,7,0,[],none,false,0,[]⟩,
 ⟨true,1,8,false,[],[.nilf],false,false,0,7,0,[],none,false,0,[]⟩,
 ⟨true,1,8,false,[],[.nilf],false,false,0,7,0,[],none,false,0,[]⟩,
 ⟨true,1,8,false,[],[.nilm],false,false,33,6,37,[],none,false,0,[]⟩,
 ⟨true,5,104,true,[(0,4),(4,1)],[.nils,.nils,.nils,.nils,.nilm],false,false,0,9,0,[57,86],none,false,0,[]⟩,
 ⟨true,5,104,true,[(0,4),(4,1)],[.nils,.nils,.nils,.nils,.nilm],false,false,0,9,0,[57,86],none,false,0,[]⟩,
 ⟨true,1,8,false,[],[.nilf],false,false,0,7,0,[],none,false,0,[]⟩,
 ⟨true,1,8,false,[],[.nilf],false,false,0,7,0,[],none,false,0,[]⟩,
 ⟨true,1,8,false,[],[.nilf],false,false,0,7,0,[],none,false,0,[]⟩,
 ⟨true,1,8,false,[],[.nilf],false,false,0,7,0,[],none,false,0,[]⟩,
 ⟨true,1,8,false,[],[.nilf],false,false,0,7,0,[],none,false,0,[]⟩,
 ⟨true,7,48,true,[(0,1),(1,1),(2,1),(3,1),(4,1),(5,1),(6,1)],[.str ⟨#[]⟩,.bool false,.bool false,.bool false,.int .i64 0,.int .i64 0,.int .i64 0],false,false,0,9,0,[9,4,4,4,3,3,3],none,false,0,[3,1,1,1,2,2,2]⟩,
 ⟨true,7,48,true,[(0,1),(1,1),(2,1),(3,1),(4,1),(5,1),(6,1)],[.str ⟨#[]⟩,.bool false,.bool false,.bool false,.int .i64 0,.int .i64 0,.int .i64 0],false,false,0,9,0,[9,4,4,4,3,3,3],none,false,0,[3,1,1,1,2,2,2]⟩,
 ⟨false,1,0,false,[],[],false,false,0,0,0,[],none,false,0,[]⟩,
 ⟨true,1,8,false,[],[.nilf],false,false,0,7,0,[],none,false,0,[]⟩,
 ⟨true,2,16,true,[(0,1),(1,1)],[.int .i64 0,.int .i64 0],false,false,0,9,0,[3,3],none,true,0,[2,2]⟩,
 ⟨true,2,16,true,[(0,1),(1,1)],[.int .i64 0,.int .i64 0],false,false,0,9,0,[3,3],none,true,0,[2,2]⟩,
 ⟨true,2,32,true,[(0,1),(1,1)],[.int .i64 0,.nils],false,false,0,9,0,[3,77],none,false,0,[]⟩,
 ⟨true,2,32,true,[(0,1),(1,1)],[.int .i64 0,.nils],false,false,0,9,0,[3,77],none,false,0,[]⟩,
 ⟨true,1,24,false,[],[.nils],true,false,101,4,0,[],none,false,0,[]⟩,
 ⟨true,2,40,true,[(0,1),(1,1)],[.str ⟨#[]⟩,.nils],false,false,0,9,0,[9,102],none,false,0,[]⟩,
 ⟨true,2,40,true,[(0,1),(1,1)],[.str ⟨#[]⟩,.nils],false,false,0,9,0,[9,102],none,false,0,[]⟩,
 ⟨true,2,16,true,[(0,1),(1,1)],[.int .i64 0,.int .i64 0],false,false,0,9,0,[3,3],none,true,0,[2,2]⟩,
 ⟨true,2,16,true,[(0,1),(1,1)],[.int .i64 0,.int .i64 0],false,false,0,9,0,[3,3],none,true,0,[2,2]⟩,
 ⟨true,1,24,false,[],[.nils],true,false,106,4,0,[],none,false,0,[]⟩,
 ⟨true,2,40,true,[(0,1),(1,1)],[.str ⟨#[]⟩,.nils],false,false,0,9,0,[9,107],none,false,0,[]⟩,
 ⟨true,2,40,true,[(0,1),(1,1)],[.str ⟨#[]⟩,.nils],false,false,0,9,0,[9,107],none,false,0,[]⟩,
 ⟨true,1,8,false,[],[.nilf],false,false,0,7,0,[],none,false,0,[]⟩,
 ⟨true,1,8,false,[],[.nilf],false,false,0,7,0,[],none,false,0,[]⟩,
 ⟨true,1,8,false,[],[.nilf],false,false,0,7,0,[],none,false,0,[]⟩,
 ⟨false,1,0,false,[],[],false,false,0,0,0,[],none,false,0,[]⟩,
 ⟨true,1,8,false,[],[.nilf],false,false,0,7,0,[],none,false,0,[]⟩,
 ⟨true,1,8,false,[],[.nilf],false,false,0,7,0,[],none,false,0,[]⟩,
 ⟨true,1,8,false,[],[.nilp],false,false,0,5,0,[],none,false,0,[]⟩,
 ⟨true,1,24,true,[(0,1)],[.nils],false,false,0,9,0,[67],none,false,0,[]⟩,
 ⟨true,1,24,true,[(0,1)],[.nils],false,false,0,9,0,[67],none,false,0,[]⟩,
 ⟨true,1,8,false,[],[.nilf],false,false,0,7,0,[],none,false,0,[]⟩,
 ⟨true,1,8,false,[],[.nilf],false,false,0,7,0,[],none,false,0,[]⟩,
 ⟨true,1,8,false,[],[.nilf],false,false,0,7,0,[],none,false,0,[]⟩,
 ⟨true,6,48,true,[(0,2),(2,4)],[.int .i64 0,.int .i64 0,.int .i64 0,.int .i64 0,.int .i64 0,.bool false],false,false,0,9,0,[37,33],none,false,0,[]⟩,
 ⟨true,6,48,true,[(0,2),(2,4)],[.int .i64 0,.int .i64 0,.int .i64 0,.int .i64 0,.int .i64 0,.bool false],false,false,0,9,0,[37,33],none,false,0,[]⟩,
 ⟨true,1,8,false,[],[.nilp],false,false,0,5,0,[],none,false,0,[]⟩,
 ⟨true,1,8,false,[],[.nilf],false,false,0,7,0,[],none,false,0,[]⟩,
 ⟨true,1,8,false,[],[.nilf],false,false,0,7,0,[],none,false,0,[]⟩,
 ⟨true,6,48,true,[],[.int .i64 0,.int .i64 0,.int .i64 0,.int .i64 0,.int .i64 0,.int .i64 0],false,false,3,10,0,[],none,false,6,[]⟩,
 ⟨true,1,8,false,[],[.nilf],false,false,0,7,0,[],none,false,0,[]⟩,
 ⟨false,1,0,false,[],[],false,false,0,0,0,[],none,false,0,[]⟩,
 ⟨true,1,8,false,[],[.nilf],false,false,0,7,0,[],none,false,0,[]⟩,
 ⟨true,1,8,false,[],[.nilf],false,false,0,7,0,[],none,false,0,[]⟩,
 ⟨true,1,8,false,[],[.nilf],false,false,0,7,0,[],none,false,0,[]⟩,
 ⟨true,1,8,false,[],[.int .u64 0],false,false,0,2,0,[],some IntKind.u64,false,0,[]⟩,
 ⟨true,1,8,false,[],[.nilf],false,false,0,7,0,[],none,false,0,[]⟩,
 ⟨false,1,0,false,[],[],false,false,0,0,0,[],none,false,0,[]⟩,
 ⟨true,1,8,false,[],[.nilf],false,false,0,7,0,[],none,false,0,[]⟩,
 ⟨true,1,8,false,[],[.nilf],false,false,0,7,0,[],none,false,0,[]⟩,
 ⟨true,1,8,false,[],[.nilf],false,false,0,7,0,[],none,false,0,[]⟩,
 ⟨true,1,8,false,[],[.nilf],false,false,0,7,0,[],none,false,0,[]⟩,
 ⟨true,1,8,false,[],[.nilf],false,false,0,7,0,[],none,false,0,[]⟩,
 ⟨true,1,8,false,[],[.nilf],false,false,0,7,0,[],none,false,0,[]⟩,
 ⟨true,1,8,false,[],[.nilf],false,false,0,7,0,[],none,false,0,[]⟩,
 ⟨true,1,8,false,[],[.nilf],false,false,0,7,0,[],none,false,0,[]⟩,
 ⟨true,1,8,false,[],[.nilf],false,false,0,7,0,[],none,false,0,[]⟩,
 ⟨true,1,8,false,[],[.nilf],false,false,0,7,0,[],none,false,0,[]⟩,
 ⟨true,1,8,false,[],[.nilf],false,false,0,7,0,[],none,false,0,[]⟩,
 ⟨true,1,8,false,[],[.nilf],false,false,0,7,0,[],none,false,0,[]⟩,
 ⟨true,1,8,false,[],[.int .u64 0],false,false,0,2,0,[],some IntKind.u64,false,0,[]⟩,
 ⟨true,1,8,false,[],[.nilf],false,false,0,7,0,[],none,false,0,[]⟩,
 ⟨true,1,8,false,[],[.nilf],false,false,0,7,0,[],none,false,0,[]⟩,
 ⟨true,1,8,false,[],[.nilf],false,false,0,7,0,[],none,false,0,[]⟩,
 ⟨true,1,8,false,[],[.nilf],false,false,0,7,0,[],none,false,0,[]⟩,
 ⟨true,1,8,false,[],[.nilf],false,false,0,7,0,[],none,false,0,[]⟩,
 ⟨true,1,8,false,[],[.nilf],false,false,0,7,0,[],none,false,0,[]⟩,
 ⟨true,2,32,true,[(0,1),(1,1)],[.nils,.int .i64 0],false,false,0,9,0,[67,38],none,false,0,[]⟩,
 ⟨true,2,32,true,[(0,1),(1,1)],[.nils,.int .i64 0],false,false,0,9,0,[67,38],none,false,0,[]⟩,
 ⟨true,1,8,false,[],[.nilf],false,false,0,7,0,[],none,false,0,[]⟩,
 ⟨true,1,8,false,[],[.nilf],false,false,0,7,0,[],none,false,0,[]⟩,
 ⟨false,1,0,false,[],[],false,false,0,0,0,[],none,false,0,[]⟩,
 ⟨true,1,8,false,[],[.nilf],false,false,0,7,0,[],none,false,0,[]⟩,
 ⟨true,1,24,false,[],[.nils],true,false,163,4,0,[],none,false,0,[]⟩,
 ⟨true,1,8,false,[],[.nilf],false,false,0,7,0,[],none,false,0,[]⟩,
 ⟨true,1,24,false,[],[.nils],true,false,9,4,0,[],none,false,0,[]⟩,
 ⟨true,1,8,false,[],[.nilf],false,false,0,7,0,[],none,false,0,[]⟩,
 ⟨true,1,8,false,[],[.nilf],false,false,0,7,0,[],none,false,0,[]⟩,
 ⟨true,1,8,false,[],[.nilf],false,false,0,7,0,[],none,false,0,[]⟩,
 ⟨false,1,0,false,[],[],false,false,0,0,0,[],none,false,0,[]⟩,
 ⟨true,1,8,false,[],[.nilf],false,false,0,7,0,[],none,false,0,[]⟩,
 ⟨true,1,8,false,[],[.nilf],false,false,0,7,0,[],none,false,0,[]⟩,
 ⟨true,1,8,false,[],[.nilf],false,false,0,7,0,[],none,false,0,[]⟩,
 ⟨true,1,24,false,[],[.nils],true,false,77,4,0,[],none,false,0,[]⟩,
 ⟨true,1,8,false,[],[.nilf],false,false,0,7,0,[],none,false,0,[]⟩,
 ⟨true,1,24,false,[],[.nils],true,false,4,4,0,[],none,false,0,[]⟩,
 ⟨true,1,24,false,[],[.nils],true,false,38,4,0,[],none,false,0,[]⟩,
 ⟨true,1,8,false,[],[.nilf],false,false,0,7,0,[],none,false,0,[]⟩,
 ⟨true,1,8,false,[],[.int .i64 0],false,false,0,2,0,[],some IntKind.i64,false,0,[]⟩,
 ⟨false,1,0,false,[],[],false,false,0,0,0,[],none,false,0,[]⟩,
 ⟨true,1,8,false,[],[.nilf],false,false,0,7,0,[],none,false,0,[]⟩,
 ⟨true,1,8,false,[],[.nilf],false,false,0,7,0,[],none,false,0,[]⟩,
 ⟨true,1,8,false,[],[.nilf],false,false,0,7,0,[],none,false,0,[]⟩,
 ⟨false,1,0,false,[],[],false,false,0,0,0,[],none,false,0,[]⟩,
 ⟨true,1,8,false,[],[.nilf],false,false,0,7,0,[],none,false,0,[]⟩,
 ⟨true,1,8,false,[],[.nilf],false,false,0,7,0,[],none,false,0,[]⟩,
 ⟨true,1,4,false,[],[.int .u32 0],false,false,0,2,0,[],some IntKind.u32,false,0,[]⟩,
 ⟨true,1,8,false,[],[.nilf],false,false,0,7,0,[],none,false,0,[]⟩,
 ⟨true,1,8,false,[],[.nilf],false,false,0,7,0,[],none,false,0,[]⟩,
 ⟨true,1,8,false,[],[.nilf],false,false,0,7,0,[],none,false,0,[]⟩,
 ⟨true,1,8,false,[],[.nilf],false,false,0,7,0,[],none,false,0,[]⟩,
 ⟨true,1,8,false,[],[.nilf],false,false,0,7,0,[],none,false,0,[]⟩,
 ⟨true,1,8,false,[],[.nilf],false,false,0,7,0,[],none,false,0,[]⟩,
 ⟨true,1,8,false,[],[.nilf],false,false,0,7,0,[],none,false,0,[]⟩,
 ⟨true,1,8,false,[],[.nilf],false,false,0,7,0,[],none,false,0,[]⟩,
 ⟨true,1,8,false,[],[.nilf],false,false,0,7,0,[],none,false,0,[]⟩,
 ⟨true,1,8,false,[],[.nilf],false,false,0,7,0,[],none,false,0,[]⟩,
 ⟨true,1,8,false,[],[.nilf],false,false,0,7,0,[],none,false,0,[]⟩,
 ⟨true,1,8,false,[],[.nilf],false,false,0,7,0,[],none,false,0,[]⟩,
 ⟨true,1,8,false,[],[.nilf],false,false,0,7,0,[],none,false,0,[]⟩,
 ⟨true,1,8,false,[],[.nilf],false,false,0,7,0,[],none,false,0,[]⟩,
 ⟨true,1,8,false,[],[.nilf],false,false,0,7,0,[],none,false,0,[]⟩,
 ⟨true,1,8,false,[],[.nilf],false,false,0,7,0,[],none,false,0,[]⟩,
 ⟨true,1,8,false,[],[.nilf],false,false,0,7,0,[],none,false,0,[]⟩,
 ⟨true,1,8,false,[],[.nilf],false,false,0,7,0,[],none,false,0,[]⟩,
 ⟨true,1,8,false,[],[.nilf],false,false,0,7,0,[],none,false,0,[]⟩,
 ⟨true,1,8,false,[],[.nilf],false,false,0,7,0,[],none,false,0,[]⟩,
 ⟨true,1,8,false,[],[.nilf],false,false,0,7,0,[],none,false,0,[]⟩,
 ⟨true,1,8,false,[],[.nilf],false,false,0,7,0,[],none,false,0,[]⟩,
 ⟨true,1,8,false,[],[.nilf],false,false,0,7,0,[],none,false,0,[]⟩,
 ⟨true,1,8,false,[],[.nilf],false,false,0,7,0,[],none,false,0,[]⟩,
 ⟨true,1,8,false,[],[.nilf],false,false,0,7,0,[],none,false,0,[]⟩,
 ⟨true,1,8,false,[],[.nilf],false,false,0,7,0,[],none,false,0,[]⟩,
 ⟨true,1,8,false,[],[.nilf],false,false,0,7,0,[],none,false,0,[]⟩,
 ⟨true,1,8,false,[],[.nilf],false,false,0,7,0,[],none,false,0,[]⟩,
 ⟨true,1,8,false,[],[.nilf],false,false,0,7,0,[],none,false,0,[]⟩,
 ⟨true,1,8,false,[],[.nilf],false,false,0,7,0,[],none,false,0,[]⟩,
 ⟨false,1,0,false,[],[],false,false,0,0,0,[],none,false,0,[]⟩,
 ⟨true,1,8,false,[],[.nilf],false,false,0,7,0,[],none,false,0,[]⟩,
 ⟨true,1,8,false,[],[.nilf],false,false,0,7,0,[],none,false,0,[]⟩,
 ⟨true,1,24,false,[],[.nils],true,false,222,4,0,[],none,false,0,[]⟩,
 ⟨false,1,0,false,[],[],false,false,0,0,0,[],none,false,0,[]⟩,
 ⟨true,1,8,false,[],[.nilf],false,false,0,7,0,[],none,false,0,[]⟩,
 ⟨true,4,40,true,[(0,1),(1,1),(2,1),(3,1)],[.int .i64 0,.str ⟨#[]⟩,.int .i64 0,.int .i64 0],false,false,0,9,0,[3,9,3,3],none,false,0,[2,3,2,2]⟩,
 ⟨true,4,40,true,[(0,1),(1,1),(2,1),(3,1)],[.int .i64 0,.str ⟨#[]⟩,.int .i64 0,.int .i64 0],false,false,0,9,0,[3,9,3,3],none,false,0,[2,3,2,2]⟩,
 ⟨true,1,8,false,[],[.nilf],false,false,0,7,0,[],none,false,0,[]⟩,
 ⟨true,1,8,false,[],[.int .u64 0],false,false,0,2,0,[],some IntKind.u64,false,0,[]⟩,
 ⟨true,1,8,false,[],[.nilf],false,false,0,7,0,[],none,false,0,[]⟩,
 ⟨true,1,8,false,[],[.nilf],false,false,0,7,0,[],none,false,0,[]⟩,
 ⟨true,1,8,false,[],[.nilp],false,false,0,5,0,[],none,false,0,[]⟩,
 ⟨true,1,8,false,[],[.nilf],false,false,0,7,0,[],none,false,0,[]⟩,
 ⟨true,1,24,false,[],[.nils],true,false,232,4,0,[],none,false,0,[]⟩,
 ⟨false,1,0,false,[],[],false,false,0,0,0,[],none,false,0,[]⟩,
 ⟨true,1,8,false,[],[.nilf],false,false,0,7,0,[],none,false,0,[]⟩,
 ⟨true,4,40,true,[(0,1),(1,1),(2,1),(3,1)],[.int .i64 0,.str ⟨#[]⟩,.int .i64 0,.int .i64 0],false,false,0,9,0,[3,9,3,3],none,false,0,[2,3,2,2]⟩,
 ⟨true,1,8,false,[],[.nilm],false,false,4,6,9,[],none,false,0,[]⟩,
 ⟨true,1,8,false,[],[.nilm],false,false,3,6,3,[],none,false,0,[]⟩,
 ⟨true,1,8,false,[],[.nilf],false,false,0,7,0,[],none,false,0,[]⟩,
 ⟨true,1,8,false,[],[.nilf],false,false,0,7,0,[],none,false,0,[]⟩,
 ⟨true,1,8,false,[],[.nilf],false,false,0,7,0,[],none,false,0,[]⟩,
 ⟨true,1,16,false,[],[.nili],false,false,0,8,0,[],none,false,0,[]⟩,
 ⟨true,1,16,false,[],[.nili],false,false,0,8,0,[],none,false,0,[]⟩,
 ⟨true,1,8,false,[],[.nilf],false,false,0,7,0,[],none,false,0,[]⟩,
 ⟨true,1,8,false,[],[.nilf],false,false,0,7,0,[],none,false,0,[]⟩,
 ⟨true,1,8,false,[],[.nilf],false,false,0,7,0,[],none,false,0,[]⟩,
 ⟨true,1,8,false,[],[.nilp],false,false,0,5,0,[],none,false,0,[]⟩,
 ⟨false,1,0,false,[],[],false,false,0,0,0,[],none,false,0,[]⟩,
 ⟨true,1,8,false,[],[.nilf],false,false,0,7,0,[],none,false,0,[]⟩,
 ⟨true,1,8,false,[],[.nilf],false,false,0,7,0,[],none,false,0,[]⟩,
 ⟨true,1,8,false,[],[.nilf],false,false,0,7,0,[],none,false,0,[]⟩,
 ⟨true,1,8,false,[],[.nilf],false,false,0,7,0,[],none,false,0,[]⟩,
 ⟨true,1,8,false,[],[.nilf],false,false,0,7,0,[],none,false,0,[]⟩,
 ⟨false,1,0,false,[],[],false,false,0,0,0,[],none,false,0,[]⟩,
 ⟨true,1,8,false,[],[.nilf],false,false,0,7,0,[],none,false,0,[]⟩,
 ⟨true,1,8,false,[],[.nilf],false,false,0,7,0,[],none,false,0,[]⟩,
 ⟨true,1,8,false,[],[.nilf],false,false,0,7,0,[],none,false,0,[]⟩,
 ⟨true,128,128,true,[],[.int .u8 0,.int .u8 0,.int .u8 0,.int .u8 0,.int .u8 0,.int .u8 0,.int .u8 0,.int .u8 0,.int .u8 0,.int .u8 0,.int .u8 0,.int .u8 0,.int .u8 0,.int .u8 0,.int .u8 0,.int .u8 0,.int .u8 0,.int .u8 0,.int .u8 0,.int .u8 0,.int .u8 0,.int .u8 0,.int .u8 0,.int .u8 0,.int .u8 0,.int .u8 0,.int .u8 0,.int .u8 0,.int .u8 0,.int .u8 0,.int .u8 0,.int .u8 0,.int .u8 0,.int .u8 0,.int .u8 0,.int .u8 0,.int .u8 0,.int .u8 0,.int .u8 0,.int .u8 0,.int .u8 0,.int .u8 0,.int .u8 0,.int .u8 0,.int .u8 0,.int .u8 0,.int .u8 0,.int .u8 0,.int .u8 0,.int .u8 0,.int .u8 0,.int .u8 0,.int .u8 0,.int .u8 0,.int .u8 0,.int .u8 0,.int .u8 0,.int .u8 0,.int .u8 0,.int .u8 0,.int .u8 0,.int .u8 0,.int .u8 0,.int .u8 0,.int .u8 0,.int .u8 0,.int .u8 0,.int .u8 0,.int .u8 0,.int .u8 0,.int .u8 0,.int .u8 0,.int .u8 0,.int .u8 0,.int .u8 0,.int .u8 0,.int .u8 0,.int .u8 0,.int .u8 0,.int .u8 0,.int .u8 0,.int .u8 0,.int .u8 0,.int .u8 0,.int .u8 0,.int .u8 0,.int .u8 0,.int .u8 0,.int .u8 0,.int .u8 0,.int .u8 0,.int .u8 0,.int .u8 0,.int .u8 0,.int .u8 0,.int .u8 0,.int .u8 0,.int .u8 0,.int .u8 0,.int .u8 0,.int .u8 0,.int .u8 0,.int .u8 0,.int .u8 0,.int .u8 0,.int .u8 0,.int .u8 0,.int .u8 0,.int .u8 0,.int .u8 0,.int .u8 0,.int .u8 0,.int .u8 0,.int .u8 0,.int .u8 0,.int .u8 0,.int .u8 0,.int .u8 0,.int .u8 0,.int .u8 0,.int .u8 0,.int .u8 0,.int .u8 0,.int .u8 0,.int .u8 0,.int .u8 0,.int .u8 0,.int .u8 0],false,false,5,10,0,[],none,false,128,[]⟩,
 ⟨true,1,8,false,[],[.nilp],false,false,0,5,0,[],none,false,0,[]⟩,
 ⟨true,1,8,false,[],[.nilf],false,false,0,7,0,[],none,false,0,[]⟩,
 ⟨true,4,40,true,[(0,1),(1,1),(2,1),(3,1)],[.nilp,.nilp,.nilp,.str ⟨#[]⟩],false,false,0,9,0,[17,17,17,9],none,false,0,[]⟩,
 ⟨true,4,40,true,[(0,1),(1,1),(2,1),(3,1)],[.nilp,.nilp,.nilp,.str ⟨#[]⟩],false,false,0,9,0,[17,17,17,9],none,false,0,[]⟩,
 ⟨true,0,0,true,[],[],false,false,16,10,0,[],none,false,0,[]⟩,
 ⟨true,0,0,true,[(0,0)],[],false,false,0,9,0,[259],none,false,0,[]⟩,
 ⟨true,0,0,true,[(0,0)],[],false,false,0,9,0,[259],none,false,0,[]⟩,
 ⟨true,1,1,false,[],[.int .u8 0],false,false,0,2,0,[],some IntKind.u8,false,0,[]⟩,
 ⟨true,1,1,false,[],[.int .u8 0],false,false,0,2,0,[],some IntKind.u8,false,0,[]⟩,
 ⟨true,1,8,false,[],[.nilf],false,false,0,7,0,[],none,false,0,[]⟩,
 ⟨true,1,8,false,[],[.nilp],false,false,0,5,0,[],none,false,0,[]⟩,
 ⟨true,1,4,false,[],[.int .i32 0],false,false,0,2,0,[],some IntKind.i32,false,0,[]⟩,
 ⟨true,1,4,false,[],[.int .i32 0],false,false,0,2,0,[],some IntKind.i32,false,0,[]⟩,
 ⟨true,11,48,true,[(0,1),(1,1),(2,1),(3,1),(4,1),(5,1),(6,1),(7,1),(8,1),(9,1),(10,1)],[.int .u64 0,.int .u64 0,.int .u32 0,.int .u8 0,.int .u8 0,.int .u8 0,.int .u8 0,.nilf,.nilp,.int .i32 0,.int .i32 0],false,false,0,9,0,[12,12,184,262,5,5,263,264,265,266,267],none,false,0,[]⟩,
 ⟨true,11,48,true,[(0,1),(1,1),(2,1),(3,1),(4,1),(5,1),(6,1),(7,1),(8,1),(9,1),(10,1)],[.int .u64 0,.int .u64 0,.int .u32 0,.int .u8 0,.int .u8 0,.int .u8 0,.int .u8 0,.nilf,.nilp,.int .i32 0,.int .i32 0],false,false,0,9,0,[12,12,184,262,5,5,263,264,265,266,267],none,false,0,[]⟩,
 ⟨true,1,8,false,[],[.nilf],false,false,0,7,0,[],none,false,0,[]⟩,
 ⟨true,1,16,true,[(0,1)],[.str ⟨#[]⟩],false,false,0,9,0,[9],none,false,0,[3]⟩,
 ⟨true,1,16,true,[(0,1)],[.str ⟨#[]⟩],false,false,0,9,0,[9],none,false,0,[3]⟩,
 ⟨true,1,8,false,[],[.nilp],false,false,0,0,0,[],none,false,0,[]⟩]
theorem nth_map (f:Nat→TI) (l:List Nat) (t:Nat):nth (l.map f) t=match l[t]? with | some i=>f i | none=>TI.no:=by
 induction l generalizing t with
 | nil=>cases t <;> rfl
 | cons x r ih=>cases t with
  | zero=>rfl
  | succ t=>simpa [nth] using ih t
theorem tab_eq:(List.range 274).map (TI.of Tryz.prog)=tab:=by kernel_rfl
theorem tab_ok:TOk Tryz.prog tab:=by
 intro t h
 rw [←tab_eq,nth_map] at h ⊢
 by_cases ht:t<274
 ·rw [List.getElem?_range ht]
 ·rw [List.getElem?_eq_none (by simp; omega)] at h; cases h
theorem mixed:Tryz.prog.follows .mixedOrders=true:=Checked.mixed Tryz.checked
end Go.Proofs.YtpjpdomkcabfcaaGreatDoor
namespace Go.Proofs.YtpjpdomkcabfcaaGreatDoor
open Go.TM
def kindL:List Nat:=[0,0,0,0,0,0,0,0,0,1,1,0,0,0,0,0,0,0,0,0,0,0,0,0,0,0,0,0,0,0,0,0,1,0,0,2,0,0,0,0,7,7,0,7,7,6,7,0,4,4,4,4,4,4,4,4,4,4,7,7,7,7,7,0,0,0,0,0,0,0,0,0,0,0,0,0,0,0,0,0,0,0,0,0,0,0,0,0,0,0,0,0,0,0,0,5,0,3,3,3,3,3,3,3,3,3,3,3,3,3,3,3,3,3,3,3,3,3,3,3,3,3,3,7,0,7,0,0]
class KObj where
 ty:TypeId
 fr:Nat × Nat
def kArr:Array Value:=(kindL.map fun n=>Value.int .u8 (n:Nat)).toArray
def kObj [KObj]:Nat→Option Obj:=fun i=>bif Nat.beq i 2 then some (.cells kArr KObj.ty KObj.fr) else none
def kDv:Nat→Option DV:=fun i=>bif Nat.beq i 2 then some (.agg (kindL.map fun n=>DV.int .u8 (n:Nat))) else none
theorem kOk [KObj]:∀i x,kDv i=some x→∀M:Mem,(∀j o,kObj j=some o→M j=some o)→DRel M (.at x 0) (.pointer (some ⟨i,0,none⟩)):=by
 intro i x h M hM
 unfold kDv at h
 cases hb:Nat.beq i 2 with
 | false=>rw [hb] at h; cases h
 | true =>
  rw [hb] at h
  have hi:=Nat.eq_of_beq_eq_true hb
  injection h with h; subst h
  have hm:=hM i (.cells kArr KObj.ty KObj.fr) (by unfold kObj; rw [hb]; rfl)
  have ha:∀j,(⟨i,0,none⟩:Addr).add j=⟨i,j,none⟩:=fun j=>by unfold Addr.add; split <;> simp [*]
  have:=DRel.at (M:=M) (.agg (kindL.map fun n=>DV.int .u8 (n:Nat))) 0 ⟨i,0,none⟩ (fun j=>.int .u8 ((kindL.getD j 0:Nat):Int)) (fun d hd=>by
    simp only [DV.cells,List.mem_map] at hd
    obtain ⟨n,_,rfl⟩:=hd
    rfl) (fun j hj=>by
    rw [ha]
    simp only [DV.cells,List.length_map] at hj
    simp [Mem.cell?,hm,kArr,hj]) (fun j d hd=>by
    simp only [DV.cells,List.getElem?_map] at hd
    cases hj:kindL[j]? with
    | none=>rw [hj] at hd; cases hd
    | some n =>
     rw [hj] at hd
     simp only [Option.map_some,Option.some.injEq] at hd
     subst hd
     simp only [List.getD,hj,Option.getD_some]
     exact .int .u8 _)
  rw [ha] at this
  exact this
instance kGlob [KObj]:Glob where
 obj:=kObj
 dv:=kDv
 ok:=kOk
abbrev I (n:Int):DV:=.int .i64 n
abbrev B (b:Bool):DV:=.bool b
abbrev Ints (l:List Int):DV:=.sl 1 (l.map I)
theorem le_int {a b:Int} {k:IntKind} (h:a=b):(DV.int k a).Le (.int k b):=h ▸ DV.Le.refl _
theorem le_ivl {a lo hi:Int} {k:IntKind} (h1:lo≤a) (h2:a≤hi):(DV.int k a).Le (.ivl k lo hi):=fun M v h=>by cases h; exact .ivl k lo hi a h1 h2
abbrev rf {d:DV}:d.Le d:=DV.Le.refl d
theorem names_ok:∀(g:Nat) (fn:Func),Tryz.prog.funcs[g]?=some fn→(fn.name == "runtime.NumGoroutine")=false:=by
 have h:(Tryz.prog.funcs.all fun fn=>!(fn.name == "runtime.NumGoroutine"))=true:=by kernel_rfl
 intro g fn hg
 rw [Array.all_eq_true'] at h
 have:=h fn (Array.mem_of_getElem? hg)
 simpa using this
variable [KObj]
def InI (n:Int):Prop:=-9223372036854775808≤n∧n≤9223372036854775807
theorem fzL_map {α:Type} {e:α→DV} (h:∀x,fzD (e x)=e x) (l:List α):fzL (l.map e)=l.map e:=by
 rw [fzL_eq,List.map_map]
 exact List.map_congr_left fun x _=>h x
theorem bw_t {b:Bool} (h:b=true):bw b true=true:=by subst h; rfl
theorem bw_f {b:Bool} (h:b=false):bw b false=true:=by subst h; rfl
theorem bw_and {a b:Bool} (h:a=true) (h2:b=true):(a && bw b true)=true:=by subst h; subst h2; rfl
theorem bw_andf {a b:Bool} (h:a=true) (h2:b=false):(a && bw b false)=true:=by subst h; subst h2; rfl
theorem bif_t {a b:Bool} (h:(bif a then b else false)=true):a=true∧b=true:=by cases a <;> simp_all
theorem bif_f {a b:Bool} (h:(bif a then b else false)=false):¬ (a=true∧b=true):=by cases a <;> simp_all
def itemsD (b w:DV):List DV:=[.agg [.str ⟨⟨[103,111,108,100]⟩⟩,B false,B true,B true,I 0,I 0,I 0],
 .agg [.str ⟨⟨[111,114,101]⟩⟩,B false,B false,B false,I 0,I 0,I 0],
 .agg [.str ⟨⟨[99,111,97,108]⟩⟩,B false,B true,B false,I 0,I 0,I 0],
 .agg [.str ⟨⟨[98,97,114]⟩⟩,B false,B false,B false,I 0,I 0,I 0],
 .agg [.str ⟨⟨[115,119,111,114,100]⟩⟩,B true,B false,B false,w,b,I 3]]
def rulesD:DV:=.sl 9 [.agg [.str ⟨⟨[100,105,103]⟩⟩,B true,I 0,I 0,I 1,I 1,.nils,.sl 2 [.agg [I 1,I 4],.agg [I 2,I 3]],.nils],
 .agg [.str ⟨⟨[115,109,101,108,116]⟩⟩,B false,I 2,I 5,I 2,I 3,.sl 2 [.agg [I 1,I 2],.agg [I 2,I 1]],.sl 2 [.agg [I 3,I 1]],.sl 2 [.agg [I 1,I 1]]],
 .agg [.str ⟨⟨[102,111,114,103,101]⟩⟩,B false,I 3,I 10,I 1,I 1,.sl 2 [.agg [I 3,I 3]],.sl 2 [.agg [I 4,I 1]],.nils],
 .agg [.str ⟨⟨[115,99,114,97,112]⟩⟩,B false,I 0,I 1,I 1,I 1,.sl 2 [.agg [I 4,I 1]],.sl 2 [.agg [I 3,I 3]],.nils],
 .agg [.str ⟨⟨[115,101,108,108]⟩⟩,B false,I 0,I 1,I 1,I 1,.sl 2 [.agg [I 3,I 1]],.sl 2 [.agg [I 0,I 7]],.nils]]
def tabsD:DV:=.sl 2 [.agg [.str ⟨⟨[99,104,101,115,116]⟩⟩,.sl 2 [.agg [I 5,.sl 2 [.agg [I 0,I 10]]],.agg [I 1,.sl 2 [.agg [I 3,I 2]]]]]]
def taxesD:DV:=.sl 2 [.agg [.str ⟨⟨[115,97,108,101]⟩⟩,.sl 2 [.agg [I 0,I 500],.agg [I 100,I 1000]]]]
def catD (b w:DV):DV:=.agg [.sl 7 (itemsD b w),rulesD,tabsD,taxesD]
end Go.Proofs.YtpjpdomkcabfcaaGreatDoor
namespace Go.Proofs.YtpjpdomkcabfcaaGreatDoor
open Go.TM
variable [KObj]
def pol1 (_:Nat):Bool:=true
def pol0 (_:Nat):Bool:=false
theorem cat_spec:PSpec Tryz.prog 21 [] [catD (I 2) (I 20)]:=pspec_run (pol:=pol1) (fuel:=1000) tab_ok mixed names_ok (by kernel_rfl)
theorem copy_spec (b w:Int):PSpec Tryz.prog 46 [catD (I b) (I w)] [catD (I b) (I w)]:=pspec_run (pol:=pol0) (fuel:=1000) tab_ok mixed names_ok (by kernel_rfl)
theorem valid_spec:PSpec Tryz.prog 45 [catD (.ivl .i64 0 2) (.ivl .i64 1 40)] [I 0]:=pspec_run (pol:=pol1) (fuel:=1000) tab_ok mixed names_ok (by kernel_rfl)
end Go.Proofs.YtpjpdomkcabfcaaGreatDoor
namespace Go.Proofs.YtpjpdomkcabfcaaGreatDoor
open Go.TM
variable [KObj]
structure Item where
 name:ByteArray
 obj:Bool
 mix:Bool
 coin:Bool
 wear:Int
 bind:Int
 lev:Int
def Item.zero:Item:=⟨⟨#[]⟩,false,false,false,0,0,0⟩
structure Ob where
 item:Int
 owner:Int
 wear:Int
 bound:Bool
def Ob.zero:Ob:=⟨0,0,0,false⟩
abbrev Ky:=Int × Int
def eItem (i:Item):DV:=.agg [.str i.name,B i.obj,B i.mix,B i.coin,I i.wear,I i.bind,I i.lev]
def eOb (x:Ob):DV:=.agg [I x.item,I x.owner,I x.wear,B x.bound]
def eKy (k:Ky):DV:=.agg [I k.1,I k.2]
abbrev OM:=List (Ky × Ob)
def eEnt (p:Ky × Ob):DV:=.ent (eKy p.1) (eOb p.2)
def oget:OM→Ky→Option Ob
 | [],_=>none
 | p::r,k=>if p.1=k then some p.2 else oget r k
def oput:OM→Ky→Ob→OM
 | [],k,x=>[(k,x)]
 | p::r,k,x=>if p.1=k then (k,x)::r else p::oput r k x
theorem keq_ky (a b:Ky):keq (eKy a) (eKy b)=decide (a=b):=by
 obtain ⟨a1,a2⟩:=a
 obtain ⟨b1,b2⟩:=b
 simp only [eKy,keq,keqs,keq1,Prod.mk.injEq]
 simp
 try rw [Bool.eq_iff_iff]; simp
theorem mget_ky (k:Ky):∀m:OM,mget (m.map eEnt) (eKy k)=(oget m k).map eOb
 | []=>rfl
 | p::r=>by
  simp only [List.map_cons,eEnt,mget,keq_ky,oget]
  by_cases h:p.1=k
  ·simp [h]
  ·simp only [h,decide_false,cond_false,if_false]
   exact mget_ky k r
theorem mput_ky (k:Ky) (x:Ob):∀m:OM,mput (m.map eEnt) (eKy k) (eOb x)=(oput m k x).map eEnt
 | []=>rfl
 | p::r=>by
  simp only [List.map_cons,eEnt,mput,keq_ky,oput]
  by_cases h:p.1=k
  ·simp [h,eEnt]
  ·simp only [h,decide_false,cond_false,if_false,List.map_cons]
   have:=mput_ky k x r
   rw [this]
   rfl
def stC (its:List Item):List AV:=[.dv (.sl 7 (its.map eItem)),.dv rulesD,.dv tabsD,.dv taxesD,.own 1 0 0 []]
def stK (its:List Item) (m:OM):Boxes:=[(0,.cells (stC its)),(1,.tree 0 0 (.omap pairK (m.map eEnt)))]
def typeOf (its:List Item) (i:Int):Option Item:=if i<0 then none else match its[i.toNat]? with
 | some x=>if x.obj then some x else none
 | none=>none
def tyI (o:Option Item):Item:=o.getD Item.zero
theorem keyTI:KeyT Tryz.prog 37 pairK:=keyT_pair tab_ok rfl
theorem mget_b (m:OM) (k:Ky):mget (m.map eEnt) (eKy k)=bif (oget m k).isSome then some (eOb ((oget m k).getD Ob.zero)) else none:=by
 rw [mget_ky]; cases oget m k <;> rfl
theorem mget_z {m:OM} {k:Ky} (h:(oget m k).isSome=false):eOb ((oget m k).getD Ob.zero)=eOb Ob.zero:=by
 cases hq:oget m k with
 | none=>rfl
 | some x=>rw [hq] at h; cases h
theorem item_at {its:List Item} {i:Int} (h0:¬ i<0) (h1:¬ (its.length:Int)≤i):(its.map eItem)[i.toNat]?=some (eItem (its.getD i.toNat Item.zero)):=by
 have hlt:i.toNat<its.length:=by omega
 rw [List.getElem?_map,List.getElem?_eq_getElem hlt]
 simp [List.getD,hlt]
set_option maxRecDepth 100000
set_option maxHeartbeats 4000000 in
theorem typeOf_spec (its:List Item) (m:OM) (i:Int):CSpec Tryz.prog 41 [.ptr 0 0,.dv (I i)] 2 (stK its m) 0 [ofD (eItem (tyI (typeOf its i))),.dv (B (typeOf its i).isSome)] (stK its m):=by
 refine cspec_of tab_ok mixed (calls_snd _) (range_snd _) Tryz.func41 rfl rfl (by kernel_rfl) ?_
 repeat first | refine ⟨id,?_⟩ | refine ⟨fun _ h=>bw_f h,?_⟩ | refine ⟨fun _ h=>bw_t h,?_⟩ | refine ⟨fun h=>⟨h,fun h2=>bw_and h h2⟩,?_⟩ | refine ⟨fun h=>⟨h,fun h2=>bw_andf h h2⟩,?_⟩
 have hb:∀{p q:Bool},bw (bif p then true else q) false=true→p=false∧q=false:=fun {p q} h=>by cases p <;> cases q <;> simp_all [bw]
 refine ⟨eItem (its.getD i.toNat Item.zero),fun h=>?_,?_⟩
 ·obtain ⟨h1,h2⟩:=hb h
  have h1:¬ i<0:=by simpa using h1
  have h2:¬ (its.length:Int)≤i:=by simpa using h2
  exact ⟨by omega,item_at h1 h2⟩
 repeat first | refine ⟨id,?_⟩ | refine ⟨fun _ h=>bw_f h,?_⟩ | refine ⟨fun _ h=>bw_t h,?_⟩ | refine ⟨fun h=>⟨h,fun h2=>bw_and h h2⟩,?_⟩ | refine ⟨fun h=>⟨h,fun h2=>bw_andf h h2⟩,?_⟩
 refine ⟨fun h=>?_,fun h=>?_⟩
 ·have e:typeOf its i=none:=by
   unfold typeOf
   split
   ·rfl
   ·rename_i hi
    cases hq:its[i.toNat]? with
    | none=>rfl
    | some x =>
     have hlt:=(List.getElem?_eq_some_iff.1 hq).1
     have h2:¬ (its.length:Int)≤i:=by omega
     simp [hi,h2,List.getD,hq] at h
     simp [h]
  refine ⟨_,_,⟨rfl,rfl⟩,by kernel_rfl,⟨?_,?_,tv⟩,⟨rf,rf,rf,rf,rfl,tv⟩,⟨rfl,rfl⟩,tv⟩
  ·rw [e]; exact ⟨rf,rf,rf,rf,rf,rf,rf,tv⟩
  ·rw [e]; exact rf
 ·have hi:¬ i<0:=fun hi=>by simp [hi] at h
  have h2:¬ (its.length:Int)≤i:=fun h2=>by simp [h2] at h
  have e:typeOf its i=some (its.getD i.toNat Item.zero):=by
   have hlt:i.toNat<its.length:=by omega
   simp only [typeOf,if_neg hi,List.getElem?_eq_getElem hlt]
   simp [hi,h2,List.getD,hlt] at h
   simp [h,List.getD,hlt]
  refine ⟨eItem (its.getD i.toNat Item.zero),fun _=>⟨by omega,item_at hi h2⟩,?_⟩
  refine ⟨_,_,⟨rfl,rfl⟩,by kernel_rfl,⟨?_,?_,tv⟩,⟨rf,rf,rf,rf,rfl,tv⟩,⟨rfl,rfl⟩,tv⟩
  ·rw [e]; exact ⟨rf,rf,rf,rf,rf,rf,rf,tv⟩
  ·rw [e]; exact rf
def ownR (its:List Item) (m:OM) (k:Ky) (ow:Int):Ob × Item × Int:=match oget m k with
 | none=>(Ob.zero,Item.zero,7)
 | some x=>if x.owner=ow then (x,its.getD x.item.toNat Item.zero,0) else (Ob.zero,Item.zero,15)
def OkM (its:List Item) (m:OM):Prop:=∀k x,oget m k=some x→0≤x.item∧x.item<its.length
set_option maxHeartbeats 4000000 in
theorem owned_spec (its:List Item) (m:OM) (k:Ky) (ow:Int) (hm:OkM its m):CSpec Tryz.prog 65 [.ptr 0 0,ofD (eKy k),.dv (I ow)] 2 (stK its m) 0 [ofD (eOb (ownR its m k ow).1),ofD (eItem (ownR its m k ow).2.1),.dv (I (ownR its m k ow).2.2)] (stK its m):=by
 refine cspec_of tab_ok mixed (calls_snd _) (range_snd _) Tryz.func65 rfl rfl (by kernel_rfl) ?_
 refine ⟨keyTI,eKy k,rfl,rfl,eOb ((oget m k).getD Ob.zero),(oget m k).isSome,fun _=>mget_b m k,mget_z,rfl,?_⟩
 refine ⟨by kernel_rfl,fun h=>?_,fun h=>?_⟩
 ·have e:ownR its m k ow=(Ob.zero,Item.zero,7):=by
   unfold ownR
   cases hq:oget m k with
   | none=>rfl
   | some x=>simp [hq] at h
  refine ⟨_,_,⟨rfl,rfl⟩,by kernel_rfl,?_,⟨rf,rf,rf,rf,rfl,tv⟩,⟨rfl,rfl⟩,tv⟩
  rw [e]; exact ⟨⟨rf,rf,rf,rf,tv⟩,⟨rf,rf,rf,rf,rf,rf,rf,tv⟩,rf,tv⟩
 ·obtain ⟨x,hx⟩:∃x,oget m k=some x:=by
   cases hq:oget m k with
   | none=>simp [hq] at h
   | some x=>exact ⟨x,rfl⟩
  rw [hx]
  refine ⟨fun h=>?_,fun h=>?_⟩
  ·have hne:¬ x.owner=ow:=by simpa using h
   have e:ownR its m k ow=(Ob.zero,Item.zero,15):=by simp [ownR,hx,hne]
   refine ⟨_,_,⟨rfl,rfl⟩,by kernel_rfl,?_,⟨rf,rf,rf,rf,rfl,tv⟩,⟨rfl,rfl⟩,tv⟩
   rw [e]; exact ⟨⟨rf,rf,rf,rf,tv⟩,⟨rf,rf,rf,rf,rf,rf,rf,tv⟩,rf,tv⟩
  ·have hne:x.owner=ow:=by simpa using h
   have e:ownR its m k ow=(x,its.getD x.item.toNat Item.zero,0):=by simp [ownR,hx,hne]
   have hi:=hm k x hx
   refine ⟨eItem (its.getD x.item.toNat Item.zero),fun _=>⟨hi.1,item_at (i:=x.item) (by omega) (by omega)⟩,by kernel_rfl,?_⟩
   refine ⟨_,_,⟨rfl,rfl⟩,by kernel_rfl,?_,⟨rf,rf,rf,rf,rfl,tv⟩,⟨rfl,rfl⟩,tv⟩
   rw [e]; exact ⟨⟨rf,rf,rf,rf,tv⟩,⟨rf,rf,rf,rf,rf,rf,rf,tv⟩,rf,tv⟩
end Go.Proofs.YtpjpdomkcabfcaaGreatDoor
namespace Go.Proofs.YtpjpdomkcabfcaaGreatDoor
open Go.TM
variable [KObj]
def isOwner (n:Int):Bool:=decide (1≤n) && decide (n≤1073741824)
theorem isOwner_spec (n:Int):PSpec Tryz.prog 40 [I n] [B (isOwner n)]:=by
 refine pspec_of tab_ok mixed (calls_snd _) (range_snd _) Tryz.func40 rfl (by kernel_rfl) rfl ?_
 repeat first | refine ⟨id,?_⟩ | refine ⟨fun _ h=>bw_f h,?_⟩ | refine ⟨fun _ h=>bw_t h,?_⟩ | refine ⟨fun h=>⟨h,fun h2=>bw_and h h2⟩,?_⟩ | refine ⟨fun h=>⟨h,fun h2=>bw_andf h h2⟩,?_⟩
 refine ⟨DV.Le.of_eq ?_,tv⟩
 unfold isOwner
 cases decide (1≤n) <;> rfl
def putE (its:List Item) (m:OM) (k:Ky) (x:Ob):Int :=
 if k.1<0 ∨ k.2<0 ∨ 1099511627776≤k.2 ∨ isOwner x.owner=false then 1
 else match typeOf its x.item with
 | none=>9
 | some t=>if x.wear<0 ∨ t.wear<x.wear then 5 else if (oget m k).isSome then 8 else 0
def putM (its:List Item) (m:OM) (k:Ky) (x:Ob):OM:=if putE its m k x=0 then oput m k x else m
theorem closed_eOb (x:Ob):(eOb x).closedCells:=fun d hd=>by
 simp only [eOb,DV.cells,List.mem_cons,List.not_mem_nil,or_false] at hd
 rcases hd with rfl | rfl | rfl | rfl <;> rfl
theorem old_closed (m:OM) (k:Ky):∀x,mget (m.map eEnt) (eKy k)=some x→x.closedCells:=by
 intro x hx
 rw [mget_ky] at hx
 cases hq:oget m k with
 | none=>rw [hq] at hx; cases hx
 | some y=>rw [hq] at hx; injection hx with hx; subst hx; exact closed_eOb y
set_option maxRecDepth 100000
set_option maxHeartbeats 4000000 in
theorem put_spec (its:List Item) (m:OM) (k:Ky) (x:Ob):CSpec Tryz.prog 16 [.ptr 0 0,ofD (eKy k),ofD (eOb x)] 2 (stK its m) 0 [.dv (I (putE its m k x))] (stK its (putM its m k x)):=by
 refine cspec_of tab_ok mixed (calls_snd _) (range_snd _) Tryz.func16 rfl rfl (by kernel_rfl) ?_
 repeat first | refine ⟨id,?_⟩ | refine ⟨fun _ h=>bw_f h,?_⟩ | refine ⟨fun _ h=>bw_t h,?_⟩ | refine ⟨fun h=>⟨h,fun h2=>bw_and h h2⟩,?_⟩ | refine ⟨fun h=>⟨h,fun h2=>bw_andf h h2⟩,?_⟩
 refine .inl ⟨_,fun _=>(isOwner_spec x.owner).ok,?_⟩
 repeat first | refine ⟨id,?_⟩ | refine ⟨fun _ h=>bw_f h,?_⟩ | refine ⟨fun _ h=>bw_t h,?_⟩ | refine ⟨fun h=>⟨h,fun h2=>bw_and h h2⟩,?_⟩ | refine ⟨fun h=>⟨h,fun h2=>bw_andf h h2⟩,?_⟩
 refine ⟨fun h=>?_,fun h=>?_⟩
 ·have e:putE its m k x=1:=by
   unfold putE
   rw [if_pos]
   simp only [Bool.cond_true_left,Bool.cond_eq_ite] at h
   by_cases h1:k.1<0
   ·exact .inl h1
   by_cases h2:k.2<0
   ·exact .inr (.inl h2)
   by_cases h3:1099511627776≤k.2
   ·exact .inr (.inr (.inl h3))
   simp [h1,h2,h3] at h
   exact .inr (.inr (.inr h))
  refine ⟨_,_,⟨rfl,rfl⟩,by kernel_rfl,⟨?_,tv⟩,⟨rf,rf,rf,rf,rfl,tv⟩,⟨rfl,?_⟩,tv⟩
  ·rw [e]; exact rf
  ·rw [putM,e]; rfl
 ·have hbad:¬ (k.1<0 ∨ k.2<0 ∨ 1099511627776≤k.2 ∨ isOwner x.owner=false):=by
   rintro (h1 | h1 | h1 | h1) <;> simp [h1] at h
  have hty:=typeOf_spec its m x.item
  cases ht:typeOf its x.item with
  | none =>
   rw [ht] at hty
   have e:putE its m k x=9:=by simp only [putE,if_neg hbad,ht]
   refine .inr ⟨[0,1],[.ptr 0 0,.dv (I x.item)],stK its m,0,_,_,hty,by kernel_rfl,by kernel_rfl,⟨rfl,rf,tv⟩,⟨⟨rf,rf,rf,rf,rfl,tv⟩,⟨rfl,rfl⟩,tv⟩,?_⟩
   refine ⟨fun _=>?_,fun h=>by cases h⟩
   refine ⟨_,_,⟨rfl,rfl⟩,by kernel_rfl,⟨?_,tv⟩,⟨rf,rf,rf,rf,rfl,tv⟩,⟨rfl,?_⟩,tv⟩
   ·rw [e]; exact rf
   ·rw [putM,e]; rfl
  | some t =>
   rw [ht] at hty
   refine .inr ⟨[0,1],[.ptr 0 0,.dv (I x.item)],stK its m,0,_,_,hty,by kernel_rfl,by kernel_rfl,⟨rfl,rf,tv⟩,⟨⟨rf,rf,rf,rf,rfl,tv⟩,⟨rfl,rfl⟩,tv⟩,?_⟩
   refine ⟨fun h=>(by cases h),fun _=>?_⟩
   repeat first | refine ⟨id,?_⟩ | refine ⟨fun _ h=>bw_f h,?_⟩ | refine ⟨fun _ h=>bw_t h,?_⟩ | refine ⟨fun h=>⟨h,fun h2=>bw_and h h2⟩,?_⟩ | refine ⟨fun h=>⟨h,fun h2=>bw_andf h h2⟩,?_⟩
   refine ⟨fun h=>?_,fun h=>?_⟩
   ·have hw:x.wear<0 ∨ t.wear<x.wear:=by
     by_cases h1:x.wear<0
     ·exact .inl h1
     ·simp [h1,tyI] at h; exact .inr (of_decide_eq_true h)
    have e:putE its m k x=5:=by simp only [putE,if_neg hbad,ht,if_pos hw]
    refine ⟨_,_,⟨rfl,rfl⟩,by kernel_rfl,⟨?_,tv⟩,⟨rf,rf,rf,rf,rfl,tv⟩,⟨rfl,?_⟩,tv⟩
    ·rw [e]; exact rf
    ·rw [putM,e]; rfl
   ·have hw:¬ (x.wear<0 ∨ t.wear<x.wear):=by
     rintro (h1 | h1) <;> simp [h1,tyI] at h
    refine ⟨keyTI,eKy k,rfl,rfl,eOb ((oget m k).getD Ob.zero),(oget m k).isSome,fun _=>mget_b m k,mget_z,rfl,?_⟩
    refine ⟨by kernel_rfl,fun h=>?_,fun h=>?_⟩
    ·have e:putE its m k x=8:=by simp only [putE,if_neg hbad,ht,if_neg hw,if_pos h]
     refine ⟨_,_,⟨rfl,rfl⟩,by kernel_rfl,⟨?_,tv⟩,⟨rf,rf,rf,rf,rfl,tv⟩,⟨rfl,?_⟩,tv⟩
     ·rw [e]; exact rf
     ·rw [putM,e]; rfl
    ·have h0:¬ (oget m k).isSome=true:=by rw [h]; simp
     have e:putE its m k x=0:=by simp only [putE,if_neg hbad,ht,if_neg hw,if_neg h0]
     refine ⟨keyTI,eKy k,rfl,rfl,eOb x,⟨rf,rf,rf,rf,tv⟩,rfl,false,fun _=>⟨old_closed m k,closed_eOb x⟩,?_⟩
     refine ⟨by kernel_rfl,_,_,⟨rfl,rfl⟩,by kernel_rfl,⟨?_,tv⟩,⟨rf,rf,rf,rf,rfl,tv⟩,⟨rfl,?_⟩,tv⟩
     ·rw [e]; exact rf
     ·rw [putM,e,if_pos rfl,mput_ky]
end Go.Proofs.YtpjpdomkcabfcaaGreatDoor
namespace Go.Proofs.YtpjpdomkcabfcaaGreatDoor
open Go.TM
variable [KObj]
set_option maxRecDepth 100000
def makeX (its:List Item) (i ow:Int):Ob:=⟨i,ow,(tyI (typeOf its i)).wear,decide ((tyI (typeOf its i)).bind=1)⟩
set_option maxHeartbeats 4000000 in
theorem make_spec (its:List Item) (m:OM) (k:Ky) (i ow:Int):CSpec Tryz.prog 18 [.ptr 0 0,ofD (eKy k),.dv (I i),.dv (I ow)] 2 (stK its m) 0 [.dv (I (putE its m k (makeX its i ow)))] (stK its (putM its m k (makeX its i ow))):=by
 refine cspec_of tab_ok mixed (calls_snd _) (range_snd _) Tryz.func18 rfl rfl (by kernel_rfl) ?_
 refine .inr ⟨[0,1],[.ptr 0 0,.dv (I i)],stK its m,0,_,_,typeOf_spec its m i,by kernel_rfl,by kernel_rfl,⟨rfl,rf,tv⟩,⟨⟨rf,rf,rf,rf,rfl,tv⟩,⟨rfl,rfl⟩,tv⟩,?_⟩
 refine .inr ⟨[0,1],[.ptr 0 0,ofD (eKy k),ofD (eOb (makeX its i ow))],stK its m,0,_,_,put_spec its m k (makeX its i ow),by kernel_rfl,by kernel_rfl,⟨rfl,⟨rf,rf,tv⟩,⟨rf,rf,rf,rf,tv⟩,tv⟩,⟨⟨rf,rf,rf,rf,rfl,tv⟩,⟨rfl,rfl⟩,tv⟩,?_⟩
 exact ⟨_,_,⟨rfl,rfl⟩,by kernel_rfl,⟨rf,tv⟩,⟨rf,rf,rf,rf,rfl,tv⟩,⟨rfl,rfl⟩,tv⟩
structure OkO (its:List Item) (x:Ob):Prop where
 lo:0≤x.item
 hi:x.item<its.length
 w0:0≤x.wear
 w1:x.wear≤(its.getD x.item.toNat Item.zero).wear
 w2:(its.getD x.item.toNat Item.zero).wear≤1048576
def OkS (its:List Item) (m:OM):Prop:=∀k x,oget m k=some x→OkO its x
theorem OkS.okM {its:List Item} {m:OM} (h:OkS its m):OkM its m:=fun k x hx=>⟨(h k x hx).lo,(h k x hx).hi⟩
theorem ownR_ok {its:List Item} {m:OM} {k:Ky} {ow:Int} (h:(ownR its m k ow).2.2=0):∃x,oget m k=some x∧x.owner=ow∧ownR its m k ow=(x,its.getD x.item.toNat Item.zero,0):=by
 unfold ownR at h ⊢
 cases hq:oget m k with
 | none=>rw [hq] at h; simp at h
 | some x =>
  rw [hq] at h
  by_cases he:x.owner=ow
  ·exact ⟨x,rfl,he,by simp [he]⟩
  ·simp [he] at h
theorem get_spec (its:List Item) (m:OM) (k:Ky):CSpec Tryz.prog 12 [.ptr 0 0,ofD (eKy k)] 2 (stK its m) 0 [ofD (eOb ((oget m k).getD Ob.zero)),.dv (B (oget m k).isSome)] (stK its m):=by
 refine cspec_of tab_ok mixed (calls_snd _) (range_snd _) Tryz.func12 rfl rfl (by kernel_rfl) ?_
 refine ⟨keyTI,eKy k,rfl,rfl,eOb ((oget m k).getD Ob.zero),(oget m k).isSome,fun _=>mget_b m k,mget_z,rfl,?_⟩
 exact ⟨by kernel_rfl,_,_,⟨rfl,rfl⟩,by kernel_rfl,⟨⟨rf,rf,rf,rf,tv⟩,rf,tv⟩,⟨rf,rf,rf,rf,rfl,tv⟩,⟨rfl,rfl⟩,tv⟩
def useE (its:List Item) (m:OM) (k:Ky) (ac lv w:Int):Int :=
 if (ownR its m k ac).2.2 ≠ 0 then (ownR its m k ac).2.2
 else if w<0 ∨ 1048576<w then 1
 else if lv<(ownR its m k ac).2.1.lev then 12
 else if (ownR its m k ac).1.wear<w then 10
 else 0
def useX (x:Ob) (t:Item) (w:Int):Ob:={ x with wear:=x.wear - w,bound:=bif x.bound then true else decide (t.bind=2) }
def useM (its:List Item) (m:OM) (k:Ky) (ac lv w:Int):OM:=if useE its m k ac lv w=0 then oput m k (useX (ownR its m k ac).1 (ownR its m k ac).2.1 w) else m
set_option maxHeartbeats 4000000 in
theorem use_spec (its:List Item) (m:OM) (k:Ky) (ac lv w:Int) (hm:OkS its m):CSpec Tryz.prog 37 [.ptr 0 0,ofD (eKy k),.dv (I ac),.dv (I lv),.dv (I w)] 2 (stK its m) 0 [.dv (I (useE its m k ac lv w))] (stK its (useM its m k ac lv w)):=by
 refine cspec_of tab_ok mixed (calls_snd _) (range_snd _) Tryz.func37 rfl rfl (by kernel_rfl) ?_
 refine .inr ⟨[0,1],[.ptr 0 0,ofD (eKy k),.dv (I ac)],stK its m,0,_,_,owned_spec its m k ac hm.okM,by kernel_rfl,by kernel_rfl,⟨rfl,⟨rf,rf,tv⟩,rf,tv⟩,⟨⟨rf,rf,rf,rf,rfl,tv⟩,⟨rfl,rfl⟩,tv⟩,?_⟩
 refine ⟨fun h=>?_,fun h=>?_⟩
 ·have e:useE its m k ac lv w=(ownR its m k ac).2.2:=by
   unfold useE; rw [if_pos (by simpa using h)]
  refine ⟨_,_,⟨rfl,rfl⟩,by kernel_rfl,⟨?_,tv⟩,⟨rf,rf,rf,rf,rfl,tv⟩,⟨rfl,?_⟩,tv⟩
  ·rw [e]; exact rf
  ·have h0:¬ (ownR its m k ac).2.2=0:=by simpa using h
   rw [useM,e,if_neg h0]
 ·have h0:(ownR its m k ac).2.2=0:=by simpa using h
  obtain ⟨x,hx,how,he⟩:=ownR_ok h0
  have hok:=hm k x hx
  rw [he]
  unfold useM useE
  rw [he]
  simp only [ne_eq,not_true_eq_false,if_false]
  repeat first | refine ⟨id,?_⟩ | refine ⟨fun _ h=>bw_f h,?_⟩ | refine ⟨fun _ h=>bw_t h,?_⟩ | refine ⟨fun h=>⟨h,fun h2=>bw_and h h2⟩,?_⟩ | refine ⟨fun h=>⟨h,fun h2=>bw_andf h h2⟩,?_⟩
  refine ⟨fun h=>?_,fun h=>?_⟩
  ·have hw:w<0 ∨ 1048576<w:=by
    by_cases h1:w<0
    ·exact .inl h1
    ·simp [h1] at h; exact .inr h
   refine ⟨_,_,⟨rfl,rfl⟩,by kernel_rfl,⟨?_,tv⟩,⟨rf,rf,rf,rf,rfl,tv⟩,⟨rfl,?_⟩,tv⟩
   ·rw [if_pos hw]; exact rf
   ·rw [if_pos hw]; rfl
  ·have hw:¬ (w<0 ∨ 1048576<w):=by
    rintro (h1 | h1) <;> simp [h1] at h
   rw [if_neg hw]
   refine ⟨fun h=>?_,fun h=>?_⟩
   ·have h1:lv<(its.getD x.item.toNat Item.zero).lev:=of_decide_eq_true h
    refine ⟨_,_,⟨rfl,rfl⟩,by kernel_rfl,⟨?_,tv⟩,⟨rf,rf,rf,rf,rfl,tv⟩,⟨rfl,?_⟩,tv⟩
    ·rw [if_pos h1]; exact rf
    ·rw [if_pos h1]; rfl
   ·have h1:¬ lv<(its.getD x.item.toNat Item.zero).lev:=of_decide_eq_false h
    rw [if_neg h1]
    refine ⟨fun h=>?_,fun h=>?_⟩
    ·have h2:x.wear<w:=of_decide_eq_true h
     refine ⟨_,_,⟨rfl,rfl⟩,by kernel_rfl,⟨?_,tv⟩,⟨rf,rf,rf,rf,rfl,tv⟩,⟨rfl,?_⟩,tv⟩
     ·rw [if_pos h2]; exact rf
     ·rw [if_pos h2]; rfl
    ·have h2:¬ x.wear<w:=of_decide_eq_false h
     rw [if_neg h2,if_pos rfl]
     refine ⟨fun _=>⟨by omega,by have:=hok.w1; have:=hok.w2; omega⟩,?_⟩
     repeat first | refine ⟨id,?_⟩ | refine ⟨fun _ h=>bw_f h,?_⟩ | refine ⟨fun _ h=>bw_t h,?_⟩ | refine ⟨fun h=>⟨h,fun h2=>bw_and h h2⟩,?_⟩ | refine ⟨fun h=>⟨h,fun h2=>bw_andf h h2⟩,?_⟩
     refine ⟨keyTI,eKy k,rfl,rfl,eOb (useX x (its.getD x.item.toNat Item.zero) w),⟨rf,rf,rf,rf,tv⟩,rfl,false,fun _=>⟨old_closed m k,closed_eOb _⟩,?_⟩
     refine ⟨by kernel_rfl,?_⟩
     refine ⟨_,_,⟨rfl,rfl⟩,by kernel_rfl,⟨?_,tv⟩,⟨rf,rf,rf,rf,rfl,tv⟩,⟨rfl,?_⟩,tv⟩
     ·exact rf
     ·rw [mput_ky]
def repE (its:List Item) (m:OM) (k:Ky) (ac w:Int):Int :=
 if (ownR its m k ac).2.2 ≠ 0 then (ownR its m k ac).2.2
 else if w<0 ∨ 1048576<w then 1
 else 0
def repX (x:Ob) (t:Item) (w:Int):Ob:={ x with wear:=if t.wear<x.wear+w then t.wear else x.wear+w }
def repM (its:List Item) (m:OM) (k:Ky) (ac w:Int):OM:=if repE its m k ac w=0 then oput m k (repX (ownR its m k ac).1 (ownR its m k ac).2.1 w) else m
set_option maxHeartbeats 4000000 in
theorem rep_spec (its:List Item) (m:OM) (k:Ky) (ac w:Int) (hm:OkS its m):CSpec Tryz.prog 38 [.ptr 0 0,ofD (eKy k),.dv (I ac),.dv (I w)] 2 (stK its m) 0 [.dv (I (repE its m k ac w))] (stK its (repM its m k ac w)):=by
 refine cspec_of tab_ok mixed (calls_snd _) (range_snd _) Tryz.func38 rfl rfl (by kernel_rfl) ?_
 refine .inr ⟨[0,1],[.ptr 0 0,ofD (eKy k),.dv (I ac)],stK its m,0,_,_,owned_spec its m k ac hm.okM,by kernel_rfl,by kernel_rfl,⟨rfl,⟨rf,rf,tv⟩,rf,tv⟩,⟨⟨rf,rf,rf,rf,rfl,tv⟩,⟨rfl,rfl⟩,tv⟩,?_⟩
 refine ⟨fun h=>?_,fun h=>?_⟩
 ·have e:repE its m k ac w=(ownR its m k ac).2.2:=by
   unfold repE; rw [if_pos (by simpa using h)]
  refine ⟨_,_,⟨rfl,rfl⟩,by kernel_rfl,⟨?_,tv⟩,⟨rf,rf,rf,rf,rfl,tv⟩,⟨rfl,?_⟩,tv⟩
  ·rw [e]; exact rf
  ·have h0:¬ (ownR its m k ac).2.2=0:=by simpa using h
   rw [repM,e,if_neg h0]
 ·have h0:(ownR its m k ac).2.2=0:=by simpa using h
  obtain ⟨x,hx,how,he⟩:=ownR_ok h0
  have hok:=hm k x hx
  rw [he]
  unfold repM repE
  rw [he]
  simp only [ne_eq,not_true_eq_false,if_false]
  repeat first | refine ⟨id,?_⟩ | refine ⟨fun _ h=>bw_f h,?_⟩ | refine ⟨fun _ h=>bw_t h,?_⟩ | refine ⟨fun h=>⟨h,fun h2=>bw_and h h2⟩,?_⟩ | refine ⟨fun h=>⟨h,fun h2=>bw_andf h h2⟩,?_⟩
  refine ⟨fun h=>?_,fun h=>?_⟩
  ·have hw:w<0 ∨ 1048576<w:=by
    by_cases h1:w<0
    ·exact .inl h1
    ·simp [h1] at h; exact .inr h
   refine ⟨_,_,⟨rfl,rfl⟩,by kernel_rfl,⟨?_,tv⟩,⟨rf,rf,rf,rf,rfl,tv⟩,⟨rfl,?_⟩,tv⟩
   ·rw [if_pos hw]; exact rf
   ·rw [if_pos hw]; rfl
  ·have hw:¬ (w<0 ∨ 1048576<w):=by
    rintro (h1 | h1) <;> simp [h1] at h
   rw [if_neg hw,if_pos rfl]
   refine ⟨fun _=>⟨by have:=hok.w0; omega,by have:=hok.w1; have:=hok.w2; omega⟩,keyTI,eKy k,rfl,rfl,eOb (repX x (its.getD x.item.toNat Item.zero) w),⟨rf,rf,rf,rf,tv⟩,rfl,false,fun _=>⟨old_closed m k,closed_eOb _⟩,?_⟩
   refine ⟨by kernel_rfl,?_⟩
   refine ⟨_,_,⟨rfl,rfl⟩,by kernel_rfl,⟨?_,tv⟩,⟨rf,rf,rf,rf,rfl,tv⟩,⟨rfl,?_⟩,tv⟩
   ·exact rf
   ·rw [mput_ky]
def givE (its:List Item) (m:OM) (k:Ky) (fr to:Int):Int :=
 if (ownR its m k fr).2.2 ≠ 0 then (ownR its m k fr).2.2
 else if isOwner to=false ∨ to=fr then 1
 else if (ownR its m k fr).1.bound=true then 11
 else 0
def givX (x:Ob) (t:Item) (to:Int):Ob:={ x with owner:=to,bound:=decide (t.bind=1) }
def givM (its:List Item) (m:OM) (k:Ky) (fr to:Int):OM:=if givE its m k fr to=0 then oput m k (givX (ownR its m k fr).1 (ownR its m k fr).2.1 to) else m
set_option maxHeartbeats 4000000 in
theorem giv_spec (its:List Item) (m:OM) (k:Ky) (fr to:Int) (hm:OkS its m):CSpec Tryz.prog 36 [.ptr 0 0,ofD (eKy k),.dv (I fr),.dv (I to)] 2 (stK its m) 0 [.dv (I (givE its m k fr to))] (stK its (givM its m k fr to)):=by
 refine cspec_of tab_ok mixed (calls_snd _) (range_snd _) Tryz.func36 rfl rfl (by kernel_rfl) ?_
 refine .inr ⟨[0,1],[.ptr 0 0,ofD (eKy k),.dv (I fr)],stK its m,0,_,_,owned_spec its m k fr hm.okM,by kernel_rfl,by kernel_rfl,⟨rfl,⟨rf,rf,tv⟩,rf,tv⟩,⟨⟨rf,rf,rf,rf,rfl,tv⟩,⟨rfl,rfl⟩,tv⟩,?_⟩
 refine ⟨fun h=>?_,fun h=>?_⟩
 ·have e:givE its m k fr to=(ownR its m k fr).2.2:=by
   unfold givE; rw [if_pos (by simpa using h)]
  refine ⟨_,_,⟨rfl,rfl⟩,by kernel_rfl,⟨?_,tv⟩,⟨rf,rf,rf,rf,rfl,tv⟩,⟨rfl,?_⟩,tv⟩
  ·rw [e]; exact rf
  ·have h0:¬ (ownR its m k fr).2.2=0:=by simpa using h
   rw [givM,e,if_neg h0]
 ·have h0:(ownR its m k fr).2.2=0:=by simpa using h
  obtain ⟨x,hx,how,he⟩:=ownR_ok h0
  have hok:=hm k x hx
  rw [he]
  unfold givM givE
  rw [he]
  simp only [ne_eq,not_true_eq_false,if_false]
  refine .inl ⟨_,fun _=>(isOwner_spec to).ok,?_⟩
  repeat first | refine ⟨id,?_⟩ | refine ⟨fun _ h=>bw_f h,?_⟩ | refine ⟨fun _ h=>bw_t h,?_⟩ | refine ⟨fun h=>⟨h,fun h2=>bw_and h h2⟩,?_⟩ | refine ⟨fun h=>⟨h,fun h2=>bw_andf h h2⟩,?_⟩
  refine ⟨fun h=>?_,fun h=>?_⟩
  ·have hw:isOwner to=false ∨ to=fr:=by
    cases h1:isOwner to with
    | false=>exact .inl rfl
    | true=>simp [h1] at h; exact .inr h
   refine ⟨_,_,⟨rfl,rfl⟩,by kernel_rfl,⟨?_,tv⟩,⟨rf,rf,rf,rf,rfl,tv⟩,⟨rfl,?_⟩,tv⟩
   ·rw [if_pos hw]; exact rf
   ·rw [if_pos hw]; rfl
  ·have hw:¬ (isOwner to=false ∨ to=fr):=by
    rintro (h1 | h1) <;> simp [h1] at h
   rw [if_neg hw]
   refine ⟨fun h=>?_,fun h=>?_⟩
   ·refine ⟨_,_,⟨rfl,rfl⟩,by kernel_rfl,⟨?_,tv⟩,⟨rf,rf,rf,rf,rfl,tv⟩,⟨rfl,?_⟩,tv⟩
    ·rw [if_pos h]; exact rf
    ·rw [if_pos h]; rfl
   ·have hb:¬ x.bound=true:=by rw [h]; simp
    rw [if_neg hb,if_pos rfl]
    refine ⟨keyTI,eKy k,rfl,rfl,eOb (givX x (its.getD x.item.toNat Item.zero) to),⟨rf,rf,rf,rf,tv⟩,rfl,false,fun _=>⟨old_closed m k,closed_eOb _⟩,?_⟩
    refine ⟨by kernel_rfl,?_⟩
    refine ⟨_,_,⟨rfl,rfl⟩,by kernel_rfl,⟨?_,tv⟩,⟨rf,rf,rf,rf,rfl,tv⟩,⟨rfl,?_⟩,tv⟩
    ·exact rf
    ·rw [mput_ky]
end Go.Proofs.YtpjpdomkcabfcaaGreatDoor
namespace Go.Proofs.YtpjpdomkcabfcaaGreatDoor
open Go.TM
set_option maxRecDepth 100000
def around (n m:Int):Int:=if n.tmod m<0 then n.tmod m+m else n.tmod m
theorem around_bd (n m:Int) (hm:1≤m):0≤around n m∧around n m<m:=by
 unfold around
 have h1:=Int.tmod_lt_of_pos n (show 0<m by omega)
 have h2:=Int.lt_tmod_of_pos n (show 0<m by omega)
 split <;> omega
variable [KObj]
theorem around_spec (n m:Int) (hm:1≤m) (hm2:m≤1000000000000):PSpec Tryz.prog 15 [I n,I m] [I (around n m)]:=by
 refine pspec_of tab_ok mixed (calls_snd _) (range_snd _) Tryz.func15 rfl (by kernel_rfl) rfl ?_
 have h1:=Int.tmod_lt_of_pos n (show 0<m by omega)
 have h2:=Int.lt_tmod_of_pos n (show 0<m by omega)
 refine ⟨fun _=>by omega,fun h=>?_,fun h=>?_⟩
 ·have h':n.tmod m<0:=of_decide_eq_true h
  exact ⟨fun _=>⟨by omega,by omega⟩,le_int (by rw [around,if_pos h']),tv⟩
 ·have h':¬ n.tmod m<0:=of_decide_eq_false h
  exact ⟨le_int (by rw [around,if_neg h']),tv⟩
theorem cat_le {b w:Int} (hb:0≤b∧b≤2) (hw:1≤w∧w≤40):(catD (I b) (I w)).Le (catD (.ivl .i64 0 2) (.ivl .i64 1 40)):=by
 refine DV.agg_le ⟨?_,rf,rf,rf,tv⟩ (fun d hd=>by simp [catD] at hd; rcases hd with rfl | rfl | rfl | rfl <;> rfl)
 refine DV.sl_le rfl fun i x y hx hy=>?_
 match i,hx,hy with
 | 0,hx,hy=>simp [itemsD] at hx hy; subst hx; subst hy; exact ⟨DLes.refl _,fun d hd=>by simp [DV.cells] at hd; rcases hd with rfl | rfl | rfl | rfl | rfl | rfl | rfl <;> rfl⟩
 | 1,hx,hy=>simp [itemsD] at hx hy; subst hx; subst hy; exact ⟨DLes.refl _,fun d hd=>by simp [DV.cells] at hd; rcases hd with rfl | rfl | rfl | rfl | rfl | rfl | rfl <;> rfl⟩
 | 2,hx,hy=>simp [itemsD] at hx hy; subst hx; subst hy; exact ⟨DLes.refl _,fun d hd=>by simp [DV.cells] at hd; rcases hd with rfl | rfl | rfl | rfl | rfl | rfl | rfl <;> rfl⟩
 | 3,hx,hy=>simp [itemsD] at hx hy; subst hx; subst hy; exact ⟨DLes.refl _,fun d hd=>by simp [DV.cells] at hd; rcases hd with rfl | rfl | rfl | rfl | rfl | rfl | rfl <;> rfl⟩
 | 4,hx,hy=>simp [itemsD] at hx hy; subst hx; subst hy; exact ⟨⟨rf,rf,rf,rf,le_ivl hw.1 hw.2,le_ivl hb.1 hb.2,rf,tv⟩,fun d hd=>by simp [DV.cells] at hd; rcases hd with rfl | rfl | rfl | rfl | rfl | rfl | rfl <;> rfl⟩
 | i+5,hx,hy=>simp [itemsD] at hx
theorem binding_spec (b w n k:Int):PSpec Tryz.prog 29 [catD (I b) (I w),I n,I k] [catD (I (around n 3)) (I (1+around k 40))]:=by
 refine pspec_of tab_ok mixed (calls_snd _) (range_snd _) Tryz.func29 rfl (by kernel_rfl) rfl ?_
 refine .inr ⟨itemsD (I b) (I w),ELes.refl _,Nat.le_of_ble_eq_true rfl,Nat.le_of_ble_eq_true rfl,.inl ⟨_,fun _=>(around_spec n 3 (by omega) (by omega)).ok,?_⟩⟩
 refine ⟨fun _=>⟨by decide,by show (4:Int)<5; decide⟩,[I (around n 3)],⟨rf,tv⟩,_,rfl,?_⟩
 refine .inl ⟨_,fun _=>(around_spec k 40 (by omega) (by omega)).ok,?_⟩
 have hk:=around_bd k 40 (by omega)
 refine ⟨fun _=>⟨by omega,by omega⟩,fun _=>⟨by decide,by show (4:Int)<5; decide⟩,[I (1+around k 40)],⟨rf,tv⟩,_,rfl,?_⟩
 exact ⟨rf,tv⟩
def itemsL (b w:Int):List Item:=[⟨⟨⟨[103,111,108,100]⟩⟩,false,true,true,0,0,0⟩,
 ⟨⟨⟨[111,114,101]⟩⟩,false,false,false,0,0,0⟩,
 ⟨⟨⟨[99,111,97,108]⟩⟩,false,true,false,0,0,0⟩,
 ⟨⟨⟨[98,97,114]⟩⟩,false,false,false,0,0,0⟩,
 ⟨⟨⟨[115,119,111,114,100]⟩⟩,true,false,false,w,b,3⟩]
def nwK (b w:Int):Boxes:=[(2,.cells (stC (itemsL b w))),(1,.tree 0 0 (.omap pairK []))]
theorem new_spec {b w:Int} (hb:0≤b∧b≤2) (hw:1≤w∧w≤40):CSpec Tryz.prog 22 [ofD (catD (I b) (I w))] 0 [] 3 [.ptr 2 0,.dv (I 0)] (nwK b w):=by
 refine cspec_of tab_ok mixed (calls_snd _) (range_snd _) Tryz.func22 rfl rfl (by kernel_rfl) ?_
 have hv:CallOk Tryz.prog 45 [catD (I b) (I w)] [I 0]:=⟨[catD (.ivl .i64 0 2) (.ivl .i64 1 40)],⟨cat_le hb hw,tv⟩,valid_spec⟩
 refine .inl ⟨_,fun _=>hv,?_⟩
 refine ⟨fun h=>(by cases h),fun _=>?_⟩
 refine .inl ⟨_,fun _=>(copy_spec b w).ok,?_⟩
 exact ⟨pairK,_,_,⟨rfl,rfl⟩,by kernel_rfl,⟨rfl,rf,tv⟩,⟨rf,rf,rf,rf,rfl,tv⟩,⟨rfl,rfl⟩,tv⟩
end Go.Proofs.YtpjpdomkcabfcaaGreatDoor
namespace Go.Proofs.YtpjpdomkcabfcaaGreatDoor
open Go.TM Go.RowKit
variable [KObj]
end Go.Proofs.YtpjpdomkcabfcaaGreatDoor
