import Derived.Test.YtpbdohkbiklflaaGreatDoorCM16
import Derived.Test.YtpbdohkbiklflaaGreatDoorProg
import Derived.Test.YtpbdohkbiklflaaGreatDoorChecked
import Derived.KernelRfl
import Derived.Test.YtpbdohkbiklflaaGreatDoorCM19
import Derived.Test.YtpbdohkbiklflaaGreatDoorCM20
import Derived.Shelf.Spec.SlicesInsertGrow
import Derived.Deep.RegionLaw
import Derived.Lib.SliceRun
set_option linter.unusedVariables false
set_option linter.unusedSimpArgs false
set_option linter.unusedSectionVars false
namespace Go.Proofs.YtpbdohkbiklflaaGreatDoor
open Go.TM
def tab:List TI:=[
 ⟨false,1,0,false,[],[],false,false,0,0,0,[],none,false,0,[]⟩,
 ⟨true,1,8,false,[],[.aP],false,false,0,7,0,[],none,false,0,[]⟩,
 ⟨true,1,8,false,[],[.int .i64 0],false,false,0,2,0,[],some IntKind.i64,false,0,[]⟩,
 ⟨true,1,8,false,[],[.int .i64 0],false,false,0,2,0,[],some IntKind.i64,false,0,[]⟩,
 ⟨true,1,1,false,[],[.bool false],false,false,0,1,0,[],none,false,0,[]⟩,
 ⟨true,1,1,false,[],[.int .u8 0],false,false,0,2,0,[],some IntKind.u8,false,0,[]⟩,
 ⟨true,1,1,false,[],[.int .u8 0],false,false,0,2,0,[],some IntKind.u8,false,0,[]⟩,
 ⟨true,4,24,true,[(0,1),(1,1),(2,1),(3,1)],[.int .i64 0,.int .i64 0,.bool false,.int .u8 0],false,false,0,9,0,[2,3,4,6],none,false,0,[2,2,1,2]⟩,
 ⟨true,4,24,true,[(0,1),(1,1),(2,1),(3,1)],[.int .i64 0,.int .i64 0,.bool false,.int .u8 0],false,false,0,9,0,[2,3,4,6],none,false,0,[2,2,1,2]⟩,
 ⟨true,1,16,false,[],[.str ⟨#[]⟩],false,true,0,3,0,[],none,false,0,[]⟩,
 ⟨true,1,16,false,[],[.str ⟨#[]⟩],false,true,0,3,0,[],none,false,0,[]⟩,
 ⟨true,1,16,false,[],[.str ⟨#[]⟩],false,true,0,3,0,[],none,false,0,[]⟩,
 ⟨true,1,8,false,[],[.int .u64 0],false,false,0,2,0,[],some IntKind.u64,false,0,[]⟩,
 ⟨true,2,24,true,[(0,1),(1,1)],[.str ⟨#[]⟩,.int .u64 0],false,false,0,9,0,[9,12],none,false,0,[]⟩,
 ⟨true,2,24,true,[(0,1),(1,1)],[.str ⟨#[]⟩,.int .u64 0],false,false,0,9,0,[9,12],none,false,0,[]⟩,
 ⟨true,1,8,false,[],[.dr],false,false,0,5,0,[],none,false,0,[]⟩,
 ⟨true,1,8,false,[],[.dr],false,false,0,5,0,[],none,false,0,[]⟩,
 ⟨true,1,8,false,[],[.dr],false,false,0,5,0,[],none,false,0,[]⟩,
 ⟨true,1,8,true,[(0,1)],[.dr],false,false,0,9,0,[17],none,false,0,[]⟩,
 ⟨true,1,8,true,[(0,1)],[.dr],false,false,0,9,0,[17],none,false,0,[]⟩,
 ⟨true,1,16,false,[],[.kS],false,false,0,8,0,[],none,false,0,[]⟩,
 ⟨true,1,4,false,[],[.int .i32 0],false,false,0,2,0,[],some IntKind.i32,false,0,[]⟩,
 ⟨true,1,24,false,[],[.aG],true,false,39,4,0,[],none,false,0,[]⟩,
 ⟨true,1,24,false,[],[.aG],true,false,124,4,0,[],none,false,0,[]⟩,
 ⟨true,1,24,false,[],[.aG],true,false,128,4,0,[],none,false,0,[]⟩,
 ⟨true,1,24,false,[],[.aG],true,false,132,4,0,[],none,false,0,[]⟩,
 ⟨true,4,96,true,[(0,1),(1,1),(2,1),(3,1)],[.aG,.aG,.aG,.aG],false,false,0,9,0,[22,23,24,25],none,false,0,[]⟩,
 ⟨true,4,96,true,[(0,1),(1,1),(2,1),(3,1)],[.aG,.aG,.aG,.aG],false,false,0,9,0,[22,23,24,25],none,false,0,[]⟩,
 ⟨true,1,8,false,[],[.aP],false,false,0,7,0,[],none,false,0,[]⟩,
 ⟨true,1,8,false,[],[.aP],false,false,0,7,0,[],none,false,0,[]⟩,
 ⟨true,1,24,false,[],[.aG],true,false,3,4,0,[],none,false,0,[]⟩,
 ⟨true,1,8,false,[],[.dr],false,false,0,5,0,[],none,false,0,[]⟩,
 ⟨true,1,8,false,[],[.int .i64 0],false,false,0,2,0,[],some IntKind.i64,false,0,[]⟩,
 ⟨false,1,0,false,[],[],false,false,0,0,0,[],none,false,0,[]⟩,
 ⟨true,1,8,false,[],[.aP],false,false,0,7,0,[],none,false,0,[]⟩,
 ⟨true,1,8,false,[],[.dr],false,false,0,5,0,[],none,false,0,[]⟩,
 ⟨false,1,0,false,[],[],false,false,0,0,0,[],none,false,0,[]⟩,
 ⟨true,1,8,false,[],[.aP],false,false,0,7,0,[],none,false,0,[]⟩,
 ⟨true,7,48,true,[(0,1),(1,1),(2,1),(3,1),(4,1),(5,1),(6,1)],[.str ⟨#[]⟩,.bool false,.bool false,.bool false,.int .i64 0,.int .i64 0,.int .i64 0],false,false,0,9,0,[9,4,4,4,3,3,3],none,false,0,[3,1,1,1,2,2,2]⟩,
 ⟨true,7,48,true,[(0,1),(1,1),(2,1),(3,1),(4,1),(5,1),(6,1)],[.str ⟨#[]⟩,.bool false,.bool false,.bool false,.int .i64 0,.int .i64 0,.int .i64 0],false,false,0,9,0,[9,4,4,4,3,3,3],none,false,0,[3,1,1,1,2,2,2]⟩,
 ⟨true,1,8,false,[],[.aP],false,false,0,7,0,[],none,false,0,[]⟩,
 ⟨true,1,8,false,[],[.aP],false,false,0,7,0,[],none,false,0,[]⟩,
 ⟨true,1,8,false,[],[.aP],false,false,0,7,0,[],none,false,0,[]⟩,
 ⟨false,1,0,false,[],[],false,false,0,0,0,[],none,false,0,[]⟩,
 ⟨true,1,8,false,[],[.aP],false,false,0,7,0,[],none,false,0,[]⟩,
 ⟨true,1,8,false,[],[.aP],false,false,0,7,0,[],none,false,0,[]⟩,
 ⟨true,5,40,true,[(0,1),(1,1),(2,1),(3,1),(4,1)],[.int .i64 0,.int .i64 0,.int .i64 0,.int .i64 0,.int .i64 0],false,false,0,9,0,[3,3,3,3,3],none,false,0,[2,2,2,2,2]⟩,
 ⟨true,5,40,true,[(0,1),(1,1),(2,1),(3,1),(4,1)],[.int .i64 0,.int .i64 0,.int .i64 0,.int .i64 0,.int .i64 0],false,false,0,9,0,[3,3,3,3,3],none,false,0,[2,2,2,2,2]⟩,
 ⟨false,1,0,false,[],[],false,false,0,0,0,[],none,false,0,[]⟩,
 ⟨true,1,8,false,[],[.aP],false,false,0,7,0,[],none,false,0,[]⟩,
 ⟨true,5,40,true,[(0,1),(1,1),(2,1),(3,1),(4,1)],[.int .i64 0,.int .i64 0,.int .i64 0,.int .i64 0,.int .i64 0],false,false,0,9,0,[3,3,3,3,3],none,false,0,[2,2,2,2,2]⟩,
 ⟨false,1,0,false,[],[],false,false,0,0,0,[],none,false,0,[]⟩,
 ⟨true,1,8,false,[],[.aP],false,false,0,7,0,[],none,false,0,[]⟩,
 ⟨true,1,8,false,[],[.aP],false,false,0,7,0,[],none,false,0,[]⟩,
 ⟨true,1,24,false,[],[.aG],true,false,87,4,0,[],none,false,0,[]⟩,
 ⟨true,7,72,true,[(0,1),(1,1),(2,1),(3,1),(4,1),(5,1),(6,1)],[.int .i64 0,.int .i64 0,.int .i64 0,.int .i64 0,.int .i64 0,.int .i64 0,.aG],false,false,0,9,0,[3,3,3,3,3,3,54],none,false,0,[]⟩,
 ⟨true,7,72,true,[(0,1),(1,1),(2,1),(3,1),(4,1),(5,1),(6,1)],[.int .i64 0,.int .i64 0,.int .i64 0,.int .i64 0,.int .i64 0,.int .i64 0,.aG],false,false,0,9,0,[3,3,3,3,3,3,54],none,false,0,[]⟩,
 ⟨true,1,8,false,[],[.aP],false,false,0,7,0,[],none,false,0,[]⟩,
 ⟨true,1,8,false,[],[.aP],false,false,0,7,0,[],none,false,0,[]⟩,
 ⟨false,1,0,false,[],[],false,false,0,0,0,[],none,false,0,[]⟩,
 ⟨true,1,8,false,[],[.aP],false,false,0,7,0,[],none,false,0,[]⟩,
 ⟨true,1,8,false,[],[.aP],false,false,0,7,0,[],none,false,0,[]⟩,
 ⟨true,1,8,false,[],[.aP],false,false,0,7,0,[],none,false,0,[]⟩,
 ⟨true,1,24,false,[],[.aG],true,false,104,4,0,[],none,false,0,[]⟩,
 ⟨true,1,8,false,[],[.aP],false,false,0,7,0,[],none,false,0,[]⟩,
 ⟨true,1,24,false,[],[.aG],true,false,82,4,0,[],none,false,0,[]⟩,
 ⟨true,1,8,false,[],[.aP],false,false,0,7,0,[],none,false,0,[]⟩,
 ⟨true,1,8,false,[],[.aP],false,false,0,7,0,[],none,false,0,[]⟩,
 ⟨true,1,8,false,[],[.aP],false,false,0,7,0,[],none,false,0,[]⟩,
 ⟨true,1,8,false,[],[.aP],false,false,0,7,0,[],none,false,0,[]⟩,
 ⟨true,1,24,false,[],[.aG],true,false,56,4,0,[],none,false,0,[]⟩,
 ⟨true,6,64,true,[(0,1),(1,1),(2,1),(3,1),(4,1),(5,1)],[.int .i64 0,.int .i64 0,.int .i64 0,.int .i64 0,.aG,.int .i64 0],false,false,0,9,0,[3,3,3,3,70,3],none,false,0,[]⟩,
 ⟨true,6,64,true,[(0,1),(1,1),(2,1),(3,1),(4,1),(5,1)],[.int .i64 0,.int .i64 0,.int .i64 0,.int .i64 0,.aG,.int .i64 0],false,false,0,9,0,[3,3,3,3,70,3],none,false,0,[]⟩,
 ⟨true,1,8,false,[],[.aP],false,false,0,7,0,[],none,false,0,[]⟩,
 ⟨true,1,8,false,[],[.iz],false,false,3,6,101,[],none,false,0,[]⟩,
 ⟨true,1,24,false,[],[.aG],true,false,88,4,0,[],none,false,0,[]⟩,
 ⟨true,1,24,false,[],[.aG],true,false,79,4,0,[],none,false,0,[]⟩,
 ⟨true,11,152,true,[(0,1),(1,1),(2,1),(3,1),(4,1),(5,1),(6,1),(7,1),(8,1),(9,1),(10,1)],[.int .i64 0,.int .i64 0,.int .i64 0,.int .i64 0,.int .i64 0,.int .i64 0,.iz,.aG,.aG,.aG,.aG],false,false,0,9,0,[3,3,3,3,3,3,74,30,76,75,30],none,false,0,[]⟩,
 ⟨true,11,152,true,[(0,1),(1,1),(2,1),(3,1),(4,1),(5,1),(6,1),(7,1),(8,1),(9,1),(10,1)],[.int .i64 0,.int .i64 0,.int .i64 0,.int .i64 0,.int .i64 0,.int .i64 0,.iz,.aG,.aG,.aG,.aG],false,false,0,9,0,[3,3,3,3,3,3,74,30,76,75,30],none,false,0,[]⟩,
 ⟨true,1,8,false,[],[.dr],false,false,0,5,0,[],none,false,0,[]⟩,
 ⟨true,1,8,false,[],[.aP],false,false,0,7,0,[],none,false,0,[]⟩,
 ⟨true,2,16,true,[(0,1),(1,1)],[.int .i64 0,.int .i64 0],false,false,0,9,0,[3,3],none,true,0,[2,2]⟩,
 ⟨true,2,16,true,[(0,1),(1,1)],[.int .i64 0,.int .i64 0],false,false,0,9,0,[3,3],none,true,0,[2,2]⟩,
 ⟨true,1,8,false,[],[.aP],false,false,0,7,0,[],none,false,0,[]⟩,
 ⟨true,1,8,false,[],[.aP],false,false,0,7,0,[],none,false,0,[]⟩,
 ⟨true,1,24,false,[],[.aG],true,false,227,4,0,[],none,false,0,[]⟩,
 ⟨true,5,56,true,[(0,1),(1,1),(2,1),(3,1),(4,1)],[.int .i64 0,.int .i64 0,.int .i64 0,.int .i64 0,.aG],false,false,0,9,0,[3,3,3,3,85],none,false,0,[]⟩,
 ⟨true,5,56,true,[(0,1),(1,1),(2,1),(3,1),(4,1)],[.int .i64 0,.int .i64 0,.int .i64 0,.int .i64 0,.aG],false,false,0,9,0,[3,3,3,3,85],none,false,0,[]⟩,
 ⟨true,1,24,false,[],[.aG],true,false,91,4,0,[],none,false,0,[]⟩,
 ⟨true,1,8,false,[],[.aP],false,false,0,7,0,[],none,false,0,[]⟩,
 ⟨true,5,40,true,[(0,1),(1,1),(2,1),(3,1),(4,1)],[.int .i64 0,.int .i64 0,.int .i64 0,.int .i64 0,.int .i64 0],false,false,0,9,0,[3,3,3,3,3],none,false,0,[2,2,2,2,2]⟩,
 ⟨true,5,40,true,[(0,1),(1,1),(2,1),(3,1),(4,1)],[.int .i64 0,.int .i64 0,.int .i64 0,.int .i64 0,.int .i64 0],false,false,0,9,0,[3,3,3,3,3],none,false,0,[2,2,2,2,2]⟩,
 ⟨true,1,8,false,[],[.aP],false,false,0,7,0,[],none,false,0,[]⟩,
 ⟨true,1,8,false,[],[.aP],false,false,0,7,0,[],none,false,0,[]⟩,
 ⟨true,1,8,false,[],[.aP],false,false,0,7,0,[],none,false,0,[]⟩,
 ⟨true,1,8,false,[],[.aP],false,false,0,7,0,[],none,false,0,[]⟩,
 ⟨true,1,8,false,[],[.aP],false,false,0,7,0,[],none,false,0,[]⟩,
 ⟨true,1,8,false,[],[.aP],false,false,0,7,0,[],none,false,0,[]⟩,
 ⟨false,1,0,false,[],[],false,false,0,0,0,[],none,false,0,[]⟩,
 ⟨true,1,8,false,[],[.aP],false,false,0,7,0,[],none,false,0,[]⟩,
 ⟨true,2,16,true,[(0,1),(1,1)],[.int .i64 0,.int .i64 0],false,false,0,9,0,[3,3],none,true,0,[2,2]⟩,
 ⟨true,2,16,true,[(0,1),(1,1)],[.int .i64 0,.int .i64 0],false,false,0,9,0,[3,3],none,true,0,[2,2]⟩,
 ⟨true,1,8,false,[],[.aP],false,false,0,7,0,[],none,false,0,[]⟩,
 ⟨true,1,8,false,[],[.aP],false,false,0,7,0,[],none,false,0,[]⟩,
 ⟨true,2,16,true,[(0,1),(1,1)],[.int .i64 0,.int .i64 0],false,false,0,9,0,[3,3],none,true,0,[2,2]⟩,
 ⟨true,1,8,false,[],[.aP],false,false,0,7,0,[],none,false,0,[]⟩,
 ⟨true,1,8,false,[],[.aP],false,false,0,7,0,[],none,false,0,[]⟩,
 ⟨true,1,8,false,[],[.aP],false,false,0,7,0,[],none,false,0,[]⟩,
 ⟨true,1,8,false,[],[.aP],false,false,0,7,0,[],none,false,0,[]⟩,
 ⟨true,1,8,false,[],[.aP],false,false,0,7,0,[],none,false,0,[]⟩,
 ⟨true,1,8,false,[],[.aP],false,false,0,7,0,[],none,false,0,[]⟩,
 ⟨true,1,24,false,[],[.aG],true,false,65,4,0,[],none,false,0,[]⟩,
 ⟨true,2,32,true,[(0,1),(1,1)],[.aP,.aG],false,false,0,9,0,[83,111],none,false,0,[]⟩,
 ⟨true,2,32,true,[(0,1),(1,1)],[.aP,.aG],false,false,0,9,0,[83,111],none,false,0,[]⟩,
 ⟨true,1,24,false,[],[.aG],true,false,116,4,0,[],none,false,0,[]⟩,
 ⟨true,1,8,false,[],[.aP],false,false,0,7,0,[],none,false,0,[]⟩,
 ⟨true,1,24,false,[],[.aG],true,false,9,4,0,[],none,false,0,[]⟩,
 ⟨true,1,8,false,[],[.aP],false,false,0,7,0,[],none,false,0,[]⟩,
 ⟨true,1,8,false,[],[.aP],false,false,0,7,0,[],none,false,0,[]⟩,
 ⟨true,1,8,false,[],[.aP],false,false,0,7,0,[],none,false,0,[]⟩,
 ⟨false,1,0,false,[],[],false,false,0,0,0,[],none,false,0,[]⟩,
 ⟨true,1,8,false,[],[.aP],false,false,0,7,0,[],none,false,0,[]⟩,
 ⟨true,1,24,false,[],[.aG],true,false,136,4,0,[],none,false,0,[]⟩,
 ⟨true,9,128,true,[(0,1),(1,1),(2,1),(3,1),(4,1),(5,1),(6,1),(7,1),(8,1)],[.str ⟨#[]⟩,.bool false,.int .i64 0,.int .i64 0,.int .i64 0,.int .i64 0,.aG,.aG,.aG],false,false,0,9,0,[9,4,3,3,3,3,122,122,122],none,false,0,[]⟩,
 ⟨true,9,128,true,[(0,1),(1,1),(2,1),(3,1),(4,1),(5,1),(6,1),(7,1),(8,1)],[.str ⟨#[]⟩,.bool false,.int .i64 0,.int .i64 0,.int .i64 0,.int .i64 0,.aG,.aG,.aG],false,false,0,9,0,[9,4,3,3,3,3,122,122,122],none,false,0,[]⟩,
 ⟨true,1,8,false,[],[.aP],false,false,0,7,0,[],none,false,0,[]⟩,
 ⟨true,1,24,false,[],[.aG],true,false,159,4,0,[],none,false,0,[]⟩,
 ⟨true,2,40,true,[(0,1),(1,1)],[.str ⟨#[]⟩,.aG],false,false,0,9,0,[9,126],none,false,0,[]⟩,
 ⟨true,2,40,true,[(0,1),(1,1)],[.str ⟨#[]⟩,.aG],false,false,0,9,0,[9,126],none,false,0,[]⟩,
 ⟨true,1,8,false,[],[.aP],false,false,0,7,0,[],none,false,0,[]⟩,
 ⟨true,1,24,false,[],[.aG],true,false,178,4,0,[],none,false,0,[]⟩,
 ⟨true,2,40,true,[(0,1),(1,1)],[.str ⟨#[]⟩,.aG],false,false,0,9,0,[9,130],none,false,0,[]⟩,
 ⟨true,2,40,true,[(0,1),(1,1)],[.str ⟨#[]⟩,.aG],false,false,0,9,0,[9,130],none,false,0,[]⟩,
 ⟨true,1,24,false,[],[.aG],true,false,122,4,0,[],none,false,0,[]⟩,
 ⟨true,1,8,false,[],[.aP],false,false,0,7,0,[],none,false,0,[]⟩,
 ⟨true,2,16,true,[(0,1),(1,1)],[.int .i64 0,.int .i64 0],false,false,0,9,0,[3,3],none,true,0,[2,2]⟩,
 ⟨true,2,16,true,[(0,1),(1,1)],[.int .i64 0,.int .i64 0],false,false,0,9,0,[3,3],none,true,0,[2,2]⟩,
 ⟨true,1,24,false,[],[.aG],true,false,4,4,0,[],none,false,0,[]⟩,
 ⟨true,1,24,false,[],[.aG],true,false,32,4,0,[],none,false,0,[]⟩,
 ⟨true,1,8,false,[],[.aP],false,false,0,7,0,[],none,false,0,[]⟩,
 ⟨true,1,8,false,[],[.aP],false,false,0,7,0,[],none,false,0,[]⟩,
 ⟨true,1,8,false,[],[.aP],false,false,0,7,0,[],none,false,0,[]⟩,
 ⟨true,1,8,false,[],[.aP],false,false,0,7,0,[],none,false,0,[]⟩,
 ⟨true,1,8,false,[],[.aP],false,false,0,7,0,[],none,false,0,[]⟩,
 ⟨true,1,8,false,[],[.aP],false,false,0,7,0,[],none,false,0,[]⟩,
 ⟨true,1,8,false,[],[.aP],false,false,0,7,0,[],none,false,0,[]⟩,
 ⟨true,1,8,false,[],[.aP],false,false,0,7,0,[],none,false,0,[]⟩,
 ⟨true,1,8,false,[],[.aP],false,false,0,7,0,[],none,false,0,[]⟩,
 ⟨true,1,8,false,[],[.aP],false,false,0,7,0,[],none,false,0,[]⟩,
 ⟨true,1,8,false,[],[.aP],false,false,0,7,0,[],none,false,0,[]⟩,
 ⟨true,1,8,false,[],[.aP],false,false,0,7,0,[],none,false,0,[]⟩,
 ⟨true,1,8,false,[],[.aP],false,false,0,7,0,[],none,false,0,[]⟩,
 ⟨true,1,8,false,[],[.aP],false,false,0,7,0,[],none,false,0,[]⟩,
 ⟨true,1,8,false,[],[.aP],false,false,0,7,0,[],none,false,0,[]⟩,
 ⟨true,1,8,false,[],[.aP],false,false,0,7,0,[],none,false,0,[]⟩,
 ⟨true,1,8,false,[],[.aP],false,false,0,7,0,[],none,false,0,[]⟩,
 ⟨true,1,8,false,[],[.aP],false,false,0,7,0,[],none,false,0,[]⟩,
 ⟨true,1,8,false,[],[.aP],false,false,0,7,0,[],none,false,0,[]⟩,
 ⟨true,2,32,true,[(0,1),(1,1)],[.int .i64 0,.aG],false,false,0,9,0,[3,122],none,false,0,[]⟩,
 ⟨true,2,32,true,[(0,1),(1,1)],[.int .i64 0,.aG],false,false,0,9,0,[3,122],none,false,0,[]⟩,
 ⟨true,1,8,false,[],[.aP],false,false,0,7,0,[],none,false,0,[]⟩,
 ⟨true,1,8,false,[],[.aP],false,false,0,7,0,[],none,false,0,[]⟩,
 ⟨true,1,8,false,[],[.aP],false,false,0,7,0,[],none,false,0,[]⟩,
 ⟨true,1,8,false,[],[.int .u64 0],false,false,0,2,0,[],some IntKind.u64,false,0,[]⟩,
 ⟨true,1,8,false,[],[.aP],false,false,0,7,0,[],none,false,0,[]⟩,
 ⟨false,1,0,false,[],[],false,false,0,0,0,[],none,false,0,[]⟩,
 ⟨true,1,8,false,[],[.aP],false,false,0,7,0,[],none,false,0,[]⟩,
 ⟨true,1,8,false,[],[.iz],false,false,3,6,3,[],none,false,0,[]⟩,
 ⟨true,1,8,false,[],[.aP],false,false,0,7,0,[],none,false,0,[]⟩,
 ⟨true,1,8,false,[],[.aP],false,false,0,7,0,[],none,false,0,[]⟩,
 ⟨true,1,8,false,[],[.aP],false,false,0,7,0,[],none,false,0,[]⟩,
 ⟨true,1,24,false,[],[.aG],true,false,175,4,0,[],none,false,0,[]⟩,
 ⟨false,1,0,false,[],[],false,false,0,0,0,[],none,false,0,[]⟩,
 ⟨true,1,8,false,[],[.aP],false,false,0,7,0,[],none,false,0,[]⟩,
 ⟨true,4,40,true,[(0,1),(1,1),(2,1),(3,1)],[.int .i64 0,.str ⟨#[]⟩,.int .i64 0,.int .i64 0],false,false,0,9,0,[3,9,3,3],none,false,0,[2,3,2,2]⟩,
 ⟨true,4,40,true,[(0,1),(1,1),(2,1),(3,1)],[.int .i64 0,.str ⟨#[]⟩,.int .i64 0,.int .i64 0],false,false,0,9,0,[3,9,3,3],none,false,0,[2,3,2,2]⟩,
 ⟨true,1,8,false,[],[.aP],false,false,0,7,0,[],none,false,0,[]⟩,
 ⟨true,2,16,true,[(0,1),(1,1)],[.int .i64 0,.int .i64 0],false,false,0,9,0,[3,3],none,true,0,[2,2]⟩,
 ⟨true,2,16,true,[(0,1),(1,1)],[.int .i64 0,.int .i64 0],false,false,0,9,0,[3,3],none,true,0,[2,2]⟩,
 ⟨true,1,24,false,[],[.aG],true,false,182,4,0,[],none,false,0,[]⟩,
 ⟨false,1,0,false,[],[],false,false,0,0,0,[],none,false,0,[]⟩,
 ⟨true,1,8,false,[],[.aP],false,false,0,7,0,[],none,false,0,[]⟩,
 ⟨true,4,40,true,[(0,1),(1,1),(2,1),(3,1)],[.int .i64 0,.str ⟨#[]⟩,.int .i64 0,.int .i64 0],false,false,0,9,0,[3,9,3,3],none,false,0,[2,3,2,2]⟩,
 ⟨true,1,8,false,[],[.iz],false,false,4,6,9,[],none,false,0,[]⟩,
 ⟨true,1,8,false,[],[.aP],false,false,0,7,0,[],none,false,0,[]⟩,
 ⟨true,1,8,false,[],[.aP],false,false,0,7,0,[],none,false,0,[]⟩,
 ⟨true,1,8,false,[],[.aP],false,false,0,7,0,[],none,false,0,[]⟩,
 ⟨false,1,0,false,[],[],false,false,0,0,0,[],none,false,0,[]⟩,
 ⟨true,1,8,false,[],[.aP],false,false,0,7,0,[],none,false,0,[]⟩,
 ⟨true,1,8,false,[],[.aP],false,false,0,7,0,[],none,false,0,[]⟩,
 ⟨true,1,8,false,[],[.aP],false,false,0,7,0,[],none,false,0,[]⟩,
 ⟨true,1,8,false,[],[.aP],false,false,0,7,0,[],none,false,0,[]⟩,
 ⟨true,1,8,false,[],[.aP],false,false,0,7,0,[],none,false,0,[]⟩,
 ⟨true,1,8,false,[],[.aP],false,false,0,7,0,[],none,false,0,[]⟩,
 ⟨true,1,8,false,[],[.aP],false,false,0,7,0,[],none,false,0,[]⟩,
 ⟨true,1,8,false,[],[.aP],false,false,0,7,0,[],none,false,0,[]⟩,
 ⟨true,1,8,false,[],[.aP],false,false,0,7,0,[],none,false,0,[]⟩,
 ⟨true,1,8,false,[],[.aP],false,false,0,7,0,[],none,false,0,[]⟩,
 ⟨true,1,8,false,[],[.aP],false,false,0,7,0,[],none,false,0,[]⟩,
 ⟨true,1,8,false,[],[.aP],false,false,0,7,0,[],none,false,0,[]⟩,
 ⟨true,1,8,false,[],[.aP],false,false,0,7,0,[],none,false,0,[]⟩,
 ⟨true,1,8,false,[],[.aP],false,false,0,7,0,[],none,false,0,[]⟩,
 ⟨true,1,8,false,[],[.aP],false,false,0,7,0,[],none,false,0,[]⟩,
 ⟨true,1,8,false,[],[.aP],false,false,0,7,0,[],none,false,0,[]⟩,
 ⟨false,1,0,false,[],[],false,false,0,0,0,[],none,false,0,[]⟩,
 ⟨true,1,8,false,[],[.aP],false,false,0,7,0,[],none,false,0,[]⟩,
 ⟨true,1,8,false,[],[.aP],false,false,0,7,0,[],none,false,0,[]⟩,
 ⟨true,1,8,false,[],[.aP],false,false,0,7,0,[],none,false,0,[]⟩,
 ⟨true,1,8,false,[],[.aP],false,false,0,7,0,[],none,false,0,[]⟩,
 ⟨true,1,8,false,[],[.aP],false,false,0,7,0,[],none,false,0,[]⟩,
 ⟨true,128,128,true,[],[.int .u8 0,.int .u8 0,.int .u8 0,.int .u8 0,.int .u8 0,.int .u8 0,.int .u8 0,.int .u8 0,.int .u8 0,.int .u8 0,.int .u8 0,.int .u8 0,.int .u8 0,.int .u8 0,.int .u8 0,.int .u8 0,.int .u8 0,.int .u8 0,.int .u8 0,.int .u8 0,.int .u8 0,.int .u8 0,.int .u8 0,.int .u8 0,.int .u8 0,.int .u8 0,.int .u8 0,.int .u8 0,.int .u8 0,.int .u8 0,.int .u8 0,.int .u8 0,.int .u8 0,.int .u8 0,.int .u8 0,.int .u8 0,.int .u8 0,.int .u8 0,.int .u8 0,.int .u8 0,.int .u8 0,.int .u8 0,.int .u8 0,.int .u8 0,.int .u8 0,.int .u8 0,.int .u8 0,.int .u8 0,.int .u8 0,.int .u8 0,.int .u8 0,.int .u8 0,.int .u8 0,.int .u8 0,.int .u8 0,.int .u8 0,.int .u8 0,.int .u8 0,.int .u8 0,.int .u8 0,.int .u8 0,.int .u8 0,.int .u8 0,.int .u8 0,.int .u8 0,.int .u8 0,.int .u8 0,.int .u8 0,.int .u8 0,.int .u8 0,.int .u8 0,.int .u8 0,.int .u8 0,.int .u8 0,.int .u8 0,.int .u8 0,.int .u8 0,.int .u8 0,.int .u8 0,.int .u8 0,.int .u8 0,.int .u8 0,.int .u8 0,.int .u8 0,.int .u8 0,.int .u8 0,.int .u8 0,.int .u8 0,.int .u8 0,.int .u8 0,.int .u8 0,.int .u8 0,.int .u8 0,.int .u8 0,.int .u8 0,.int .u8 0,.int .u8 0,.int .u8 0,.int .u8 0,.int .u8 0,.int .u8 0,.int .u8 0,.int .u8 0,.int .u8 0,.int .u8 0,.int .u8 0,.int .u8 0,.int .u8 0,.int .u8 0,.int .u8 0,.int .u8 0,.int .u8 0,.int .u8 0,.int .u8 0,.int .u8 0,.int .u8 0,.int .u8 0,.int .u8 0,.int .u8 0,.int .u8 0,.int .u8 0,.int .u8 0,.int .u8 0,.int .u8 0,.int .u8 0,.int .u8 0,.int .u8 0,.int .u8 0],false,false,5,10,0,[],none,false,128,[]⟩,
 ⟨true,1,8,false,[],[.aP],false,false,0,7,0,[],none,false,0,[]⟩,
 ⟨true,4,40,true,[(0,1),(1,1),(2,1),(3,1)],[.dr,.dr,.dr,.str ⟨#[]⟩],false,false,0,9,0,[17,17,17,9],none,false,0,[]⟩,
 ⟨true,4,40,true,[(0,1),(1,1),(2,1),(3,1)],[.dr,.dr,.dr,.str ⟨#[]⟩],false,false,0,9,0,[17,17,17,9],none,false,0,[]⟩,
 ⟨true,0,0,true,[],[],false,false,16,10,0,[],none,false,0,[]⟩,
 ⟨true,0,0,true,[(0,0)],[],false,false,0,9,0,[214],none,false,0,[]⟩,
 ⟨true,0,0,true,[(0,0)],[],false,false,0,9,0,[214],none,false,0,[]⟩,
 ⟨true,1,4,false,[],[.int .u32 0],false,false,0,2,0,[],some IntKind.u32,false,0,[]⟩,
 ⟨true,1,1,false,[],[.int .u8 0],false,false,0,2,0,[],some IntKind.u8,false,0,[]⟩,
 ⟨true,1,1,false,[],[.int .u8 0],false,false,0,2,0,[],some IntKind.u8,false,0,[]⟩,
 ⟨true,1,8,false,[],[.aP],false,false,0,7,0,[],none,false,0,[]⟩,
 ⟨true,1,8,false,[],[.dr],false,false,0,5,0,[],none,false,0,[]⟩,
 ⟨true,1,4,false,[],[.int .i32 0],false,false,0,2,0,[],some IntKind.i32,false,0,[]⟩,
 ⟨true,1,4,false,[],[.int .i32 0],false,false,0,2,0,[],some IntKind.i32,false,0,[]⟩,
 ⟨true,11,48,true,[(0,1),(1,1),(2,1),(3,1),(4,1),(5,1),(6,1),(7,1),(8,1),(9,1),(10,1)],[.int .u64 0,.int .u64 0,.int .u32 0,.int .u8 0,.int .u8 0,.int .u8 0,.int .u8 0,.aP,.dr,.int .i32 0,.int .i32 0],false,false,0,9,0,[12,12,217,218,5,5,219,220,221,222,223],none,false,0,[]⟩,
 ⟨true,11,48,true,[(0,1),(1,1),(2,1),(3,1),(4,1),(5,1),(6,1),(7,1),(8,1),(9,1),(10,1)],[.int .u64 0,.int .u64 0,.int .u32 0,.int .u8 0,.int .u8 0,.int .u8 0,.int .u8 0,.aP,.dr,.int .i32 0,.int .i32 0],false,false,0,9,0,[12,12,217,218,5,5,219,220,221,222,223],none,false,0,[]⟩,
 ⟨true,3,24,true,[(0,1),(1,1),(2,1)],[.int .i64 0,.int .i64 0,.int .i64 0],false,false,0,9,0,[3,3,3],none,false,0,[2,2,2]⟩,
 ⟨true,3,24,true,[(0,1),(1,1),(2,1)],[.int .i64 0,.int .i64 0,.int .i64 0],false,false,0,9,0,[3,3,3],none,false,0,[2,2,2]⟩,
 ⟨true,1,8,false,[],[.dr],false,false,0,0,0,[],none,false,0,[]⟩]
theorem OO (f:Nat→TI) (l:List Nat) (t:Nat):nth (l.map f) t=match l[t]? with | some i=>f i | none=>TI.no:=by
 induction l generalizing t with
 | nil=>cases t <;> rfl
 | cons x r ih=>cases t with
  | zero=>rfl
  | succ t=>simpa [nth] using ih t
theorem Sd:(List.range 229).map (TI.of Tryz.prog)=tab:=by kernel_rfl
theorem aD:er Tryz.prog tab:=by
 intro t h
 rw [←Sd,OO] at h ⊢
 by_cases ht:t<229
 ·rw [List.getElem?_range ht]
 ·rw [List.getElem?_eq_none (by simp; omega)] at h; cases h
theorem mixed:Tryz.prog.follows .mixedOrders=true:=Checked.mixed Tryz.checked
end Go.Proofs.YtpbdohkbiklflaaGreatDoor
namespace Go.Proofs.YtpbdohkbiklflaaGreatDoor
open Go.TM
def zt:List Nat:=[0,0,0,0,0,0,0,0,0,1,1,0,0,0,0,0,0,0,0,0,0,0,0,0,0,0,0,0,0,0,0,0,1,0,0,2,0,0,0,0,7,7,0,7,7,6,7,0,4,4,4,4,4,4,4,4,4,4,7,7,7,7,7,0,0,0,0,0,0,0,0,0,0,0,0,0,0,0,0,0,0,0,0,0,0,0,0,0,0,0,0,0,0,0,0,5,0,3,3,3,3,3,3,3,3,3,3,3,3,3,3,3,3,3,3,3,3,3,3,3,3,3,3,7,0,7,0,0]
class cG where
 ty:TypeId
 fr:Nat × Nat
def Jv:Array Value:=(zt.map fun n=>Value.int .u8 (n:Nat)).toArray
def Mp [cG]:Nat→Option Obj:=fun i=>bif Nat.beq i 0 then some (.cells Jv cG.ty cG.fr) else none
def Xu:Nat→Option DV:=fun i=>bif Nat.beq i 0 then some (.agg (zt.map fun n=>DV.int .u8 (n:Nat))) else none
theorem kOk [cG]:∀i x,Xu i=some x→∀M:Mem,(∀j o,Mp j=some o→M j=some o)→bo M (.at x 0) (.pointer (some ⟨i,0,none⟩)):=by
 intro i x h M hM
 unfold Xu at h
 cases hb:Nat.beq i 0 with
 | false=>rw [hb] at h; cases h
 | true =>
  rw [hb] at h
  have hi:=Nat.eq_of_beq_eq_true hb
  injection h with h; subst h
  have hm:=hM i (.cells Jv cG.ty cG.fr) (by unfold Mp; rw [hb]; rfl)
  have ha:∀j,(⟨i,0,none⟩:Addr).add j=⟨i,j,none⟩:=fun j=>by unfold Addr.add; split <;> simp [*]
  have:=bo.at (M:=M) (.agg (zt.map fun n=>DV.int .u8 (n:Nat))) 0 ⟨i,0,none⟩ (fun j=>.int .u8 ((zt.getD j 0:Nat):Int)) (fun d hd=>by
    simp only [DV.cells,List.mem_map] at hd
    obtain ⟨n,_,rfl⟩:=hd
    rfl) (fun j hj=>by
    rw [ha]
    simp only [DV.cells,List.length_map] at hj
    simp [Mem.cell?,hm,Jv,hj]) (fun j d hd=>by
    simp only [DV.cells,List.getElem?_map] at hd
    cases hj:zt[j]? with
    | none=>rw [hj] at hd; cases hd
    | some n =>
     rw [hj] at hd
     simp only [Option.map_some,Option.some.injEq] at hd
     subst hd
     simp only [List.getD,hj,Option.getD_some]
     exact .int .u8 _)
  rw [ha] at this
  exact this
instance Y0 [cG]:cu where
 obj:=Mp
 dv:=Xu
 ok:=kOk
abbrev I (n:Int):DV:=.int .i64 n
abbrev B (b:Bool):DV:=.bool b
abbrev eE (l:List Int):DV:=.sl 1 (l.map I)
theorem au {a b:Int} {k:IntKind} (h:a=b):(DV.int k a).Le (.int k b):=h ▸ DV.Le.refl _
theorem Se {a lo hi:Int} {k:IntKind} (h1:lo≤a) (h2:a≤hi):(DV.int k a).Le (.qG k lo hi):=fun M v h=>by cases h; exact .qG k lo hi a h1 h2
abbrev rf {d:DV}:d.Le d:=DV.Le.refl d
theorem w4:∀(g:Nat) (fn:Func),Tryz.prog.funcs[g]?=some fn→(fn.name == "runtime.NumGoroutine")=false:=by
 have h:(Tryz.prog.funcs.all fun fn=>!(fn.name == "runtime.NumGoroutine"))=true:=by kernel_rfl
 intro g fn hg
 rw [Array.all_eq_true'] at h
 have:=h fn (Array.mem_of_getElem? hg)
 simpa using this
variable [cG]
def yw (n:Int):Prop:=-9223372036854775808≤n∧n≤9223372036854775807
theorem oP {α:Type} {e:α→DV} (h:∀x,tE (e x)=e x) (l:List α):FP (l.map e)=l.map e:=by
 rw [wR,List.map_map]
 exact List.map_congr_left fun x _=>h x
theorem ay {b:Bool} (h:b=true):bw b true=true:=by subst h; rfl
theorem bW {b:Bool} (h:b=false):bw b false=true:=by subst h; rfl
theorem aF {a b:Bool} (h:a=true) (h2:b=true):(a && bw b true)=true:=by subst h; subst h2; rfl
theorem tX {a b:Bool} (h:(bif a then b else false)=true):a=true∧b=true:=by cases a <;> simp_all
theorem zu {a b:Bool} (h:(bif a then b else false)=false):¬ (a=true∧b=true):=by cases a <;> simp_all
def eJ:ByteArray:=⟨⟨[105,114,111,110]⟩⟩
def w5 (n:ByteArray):List DV:=[.agg [.str n,B false,B false,B false,I 0,I 0,I 0],
 .agg [.str ⟨⟨[103,111,108,100]⟩⟩,B false,B false,B true,I 0,I 0,I 0],
 .agg [.str ⟨⟨[119,111,111,100]⟩⟩,B false,B false,B false,I 0,I 0,I 0],
 .agg [.str ⟨⟨[103,101,109]⟩⟩,B false,B false,B true,I 0,I 0,I 0]]
def Bn (n:ByteArray):DV:=.agg [.sl 7 (w5 n),.aG,.aG,.aG]
def FZ (_:Nat):Bool:=true
end Go.Proofs.YtpbdohkbiklflaaGreatDoor
namespace Go.Proofs.YtpbdohkbiklflaaGreatDoor
open Go.TM
variable [cG]
abbrev Rk:=Int × Int
def eR (x:Rk):DV:=.agg [I x.1,I x.2]
def kh (a b:Rk):Bool:=decide (b.2<a.2) || (a.2 == b.2 && decide (a.1<b.1))
theorem Dl (a b:Rk):cr Tryz.prog 33 [eR a,eR b] [B (kh a b)]:=by
 refine bq aD mixed (af _) (ai _) Tryz.func33 rfl (by kernel_rfl) rfl ?_
 repeat first | refine ⟨id,?_⟩ | refine ⟨fun _ h=>bW h,?_⟩ | refine ⟨fun _ h=>ay h,?_⟩ | refine ⟨fun h=>⟨h,fun h2=>aF h h2⟩,?_⟩ | refine ⟨fun h=>⟨h,fun h2=>aA h h2⟩,?_⟩
 refine ⟨DV.Le.of_eq ?_,tv⟩
 unfold kh
 cases decide (b.2<a.2) <;> cases (a.2 == b.2) <;> rfl
def bkD:Bool→List Rk→DV
 | true,_=>.aG
 | false,[]=>.aw 1 []
 | false,l=>.aw 1 [.aw 2 (l.map eR)]
def cz (f:Bool) (l:List Rk):DV:=.cB (.agg [.fn 33 [],bkD f l])
theorem OP (x r:Rk) (l:List Rk):aO Tryz.prog 136 [.dv (I 0),.ptr 1 0,.ptr 2 0] 3
  [(0,.tree 0 0 (cz false (r::l))),(1,.cells [.own 0 0 0 []]),(2,.cells [.dv (I x.1),.dv (I x.2)])] 0 [.dv (B (kh x r))]
  [(0,.tree 0 0 (cz false (r::l))),(1,.cells [.own 0 0 0 []]),(2,.cells [.dv (I x.1),.dv (I x.2)])]:=by
 refine aJ aD mixed (af _) (ai _) Tryz.func136 rfl rfl (by kernel_rfl) ?_
 refine ⟨fun _=>⟨by omega,by simp⟩,.aw 2 ((r::l).map eR),fun _=>rfl,?_⟩
 refine ⟨.aw 2 ((r::l).map eR),fun _=>rfl,?_⟩
 refine ⟨fun _=>⟨by omega,by simp⟩,?_⟩
 refine ⟨.aw 2 ((r::l).map eR),fun _=>rfl,?_⟩
 refine ⟨eR r,fun _=>rfl,?_⟩
 refine .inl ⟨_,fun _=>(Dl x r).ok,?_⟩
 refine .inl ⟨by kernel_rfl,?_⟩
 exact ⟨_,_,⟨rfl,rfl⟩,by kernel_rfl,⟨rf,tv⟩,⟨rfl,rfl⟩,⟨rfl,tv⟩,⟨rf,rf,tv⟩,tv⟩
theorem OQ (x y:Rk) (l:List Rk) (i:Nat) (hi:l[i]?=some y):aO Tryz.prog 137 [.dv (I i),.ptr 1 0,.ptr 3 0,.ptr 2 0] 4
  [(0,.tree 0 0 (cz false l)),(1,.cells [.own 0 0 0 []]),(2,.cells [.dv (I x.1),.dv (I x.2)]),(3,.cells [.own 0 0 0 [.el 0 1,.el 0 0]])] 0 [.dv (B (!kh y x))]
  [(0,.tree 0 0 (cz false l)),(1,.cells [.own 0 0 0 []]),(2,.cells [.dv (I x.1),.dv (I x.2)]),(3,.cells [.own 0 0 0 [.el 0 1,.el 0 0]])]:=by
 obtain ⟨r,l',rfl⟩:∃r l',l=r::l':=by
  cases l with
  | nil=>simp at hi
  | cons r l'=>exact ⟨r,l',rfl⟩
 have aK:i<(r::l').length:=(List.getElem?_eq_some_iff.1 hi).1
 refine aJ aD mixed (af _) (ai _) Tryz.func137 rfl rfl (by kernel_rfl) ?_
 refine ⟨.aw 2 ((r::l').map eR),fun _=>rfl,?_⟩
 refine ⟨fun _=>⟨by omega,by simp at aK ⊢; omega⟩,?_⟩
 refine ⟨.aw 2 ((r::l').map eR),fun _=>rfl,?_⟩
 refine ⟨eR y,fun _=>by rw [List.getElem?_map,Int.toNat_natCast,hi]; rfl,?_⟩
 refine .inl ⟨_,fun _=>(Dl y x).ok,?_⟩
 exact ⟨by kernel_rfl,_,_,⟨rfl,rfl⟩,by kernel_rfl,⟨rf,tv⟩,⟨rfl,rfl⟩,⟨rfl,tv⟩,⟨rf,rf,tv⟩,⟨rfl,tv⟩,tv⟩
abbrev kP (x:Rk) (l:List Rk):aj:=[(0,.tree 0 0 (cz false l)),(1,.cells [.own 0 0 0 []]),(2,.cells [.dv (I x.1),.dv (I x.2)]),(3,.cells [.own 0 0 0 [.el 0 1,.el 0 0]])]
structure V6 where
 i:Nat
 j:Nat
theorem mf {i j:Nat} (h:i+j≤4000):IntKind.i64.wrap (IntKind.u64.wrap ((i:Int)+(j:Int)) / 2 ^ min (Int.toNat 1) IntKind.u64.bits)=(((i+j) / 2:Nat):Int):=by
 have e:min (Int.toNat 1) IntKind.u64.bits=1:=rfl
 rw [e,IntKind.wrap_u64,IntKind.wrap_i64]
 omega
def Mq (f:Nat) (bA:List AV) (m:Nat) (K:aj) (q:V6):aY:=⟨m,[(1,.fn f bA),(5,.dv (I q.i)),(6,.dv (I q.j))],K⟩
theorem Bo (x:Rk) (l:List Rk) (k:Nat) (hk:k≤l.length) (hl:l.length≤1000) (h1:∀i y,i<k→l[i]?=some y→kh y x=true) (h2:∀i y,k≤i→l[i]?=some y→kh y x=false) :
  aO Tryz.prog 40 [.dv (I l.length),.fn 137 [.ptr 1 0,.ptr 3 0,.ptr 2 0]] 4 (kP x l) 0 [.dv (I k)] (kP x l):=by
 refine aJ aD mixed (af _) (ai _) Tryz.func40 rfl rfl (by kernel_rfl) ?_
 refine ⟨V6,Mq 137 [.ptr 1 0,.ptr 3 0,.ptr 2 0] 4 (kP x l),fun q=>q.i≤k∧k≤q.j∧q.j≤l.length,fun q=>q.j - q.i,⟨0,l.length⟩,fun _=>rfl,⟨⟨⟨rfl,rfl,rfl,rfl,tv⟩,rf,rf,tv⟩,⟨⟨rfl,rfl⟩,⟨rfl,tv⟩,⟨rf,rf,tv⟩,⟨rfl,tv⟩,tv⟩,rfl,rfl⟩,⟨Nat.zero_le _,hk,Nat.le_refl _⟩,?_⟩
 rintro q ⟨p1,p2,p3⟩
 refine ⟨fun aK=>?_,fun dy=>?_⟩
 ·have aK:q.i<q.j:=by have:=of_decide_eq_true aK; simp only [Int.ofNat_lt] at this; exact this
  refine ⟨fun _=>⟨by omega,by omega⟩,?_⟩
  refine ⟨fun _=>by omega,?_⟩
  have hlen:(q.i+q.j) / 2<l.length:=by omega
  refine .inr ⟨[0,1,2,3],[.dv (I ((q.i+q.j) / 2:Nat)),.ptr 1 0,.ptr 3 0,.ptr 2 0],kP x l,0,_,_,OQ x l[(q.i+q.j) / 2] l ((q.i+q.j) / 2) (List.getElem?_eq_getElem hlen),by kernel_rfl,by kernel_rfl,⟨?_,rfl,rfl,rfl,tv⟩,⟨⟨rfl,rfl⟩,⟨rfl,tv⟩,⟨rf,rf,tv⟩,⟨rfl,tv⟩,tv⟩,?_⟩
  ·rw [mf (by omega)]; exact rf
  ·refine ⟨fun hb=>?_,fun hb=>?_⟩
   ·have cL:kh l[(q.i+q.j) / 2] x=true:=by simpa using hb
    have Sf:(q.i+q.j) / 2<k:=by
     rcases Nat.lt_or_ge ((q.i+q.j) / 2) k with h | h
     ·exact h
     ·have:=h2 _ _ h (List.getElem?_eq_getElem hlen); rw [cL] at this; cases this
    rw [mf (by omega)]
    refine ⟨fun _=>⟨by omega,by omega⟩,?_⟩
    exact ⟨⟨(q.i+q.j) / 2+1,q.j⟩,⟨⟨⟨rfl,rfl,rfl,rfl,tv⟩,au (by simp),rf,tv⟩,⟨⟨rfl,rfl⟩,⟨rfl,tv⟩,⟨rf,rf,tv⟩,⟨rfl,tv⟩,tv⟩,rfl,rfl⟩,⟨Sf,p2,p3⟩,by simp only; omega⟩
   ·have cL:kh l[(q.i+q.j) / 2] x=false:=by simpa using hb
    have Sg:k≤(q.i+q.j) / 2:=by
     rcases Nat.lt_or_ge ((q.i+q.j) / 2) k with h | h
     ·have:=h1 _ _ h (List.getElem?_eq_getElem hlen); rw [cL] at this; cases this
     ·exact h
    rw [mf (by omega)]
    exact ⟨⟨q.i,(q.i+q.j) / 2⟩,⟨⟨⟨rfl,rfl,rfl,rfl,tv⟩,rf,rf,tv⟩,⟨⟨rfl,rfl⟩,⟨rfl,tv⟩,⟨rf,rf,tv⟩,⟨rfl,tv⟩,tv⟩,rfl,rfl⟩,⟨p1,Sg,by simp only; omega⟩,by simp only; omega⟩
 ·have dy:q.i=q.j:=by have:=of_decide_eq_false dy; omega
  have zv:q.i=k:=by omega
  exact ⟨_,_,⟨rfl,rfl⟩,by kernel_rfl,⟨au (by rw [zv]),tv⟩,⟨rfl,rfl⟩,⟨rfl,tv⟩,⟨rf,rf,tv⟩,⟨rfl,tv⟩,tv⟩
theorem Bp (x r:Rk) (l:List Rk):aO Tryz.prog 40 [.dv (I 1),.fn 136 [.ptr 1 0,.ptr 2 0]] 3
  [(0,.tree 0 0 (cz false (r::l))),(1,.cells [.own 0 0 0 []]),(2,.cells [.dv (I x.1),.dv (I x.2)])] 0 [.dv (I (if kh x r then 0 else 1))]
  [(0,.tree 0 0 (cz false (r::l))),(1,.cells [.own 0 0 0 []]),(2,.cells [.dv (I x.1),.dv (I x.2)])]:=by
 refine aJ aD mixed (af _) (ai _) Tryz.func40 rfl rfl (by kernel_rfl) ?_
 refine ⟨V6,Mq 136 [.ptr 1 0,.ptr 2 0] 3 [(0,.tree 0 0 (cz false (r::l))),(1,.cells [.own 0 0 0 []]),(2,.cells [.dv (I x.1),.dv (I x.2)])],fun q=>(q.i=0∧q.j=1) ∨ (q.i=q.j∧q.i=if kh x r then 0 else 1),fun q=>q.j - q.i,⟨0,1⟩,fun _=>rfl,⟨⟨⟨rfl,rfl,rfl,tv⟩,rf,rf,tv⟩,⟨⟨rfl,rfl⟩,⟨rfl,tv⟩,⟨rf,rf,tv⟩,tv⟩,rfl,rfl⟩,.inl ⟨rfl,rfl⟩,?_⟩
 rintro q hp
 refine ⟨fun aK=>?_,fun dy=>?_⟩
 ·have aK:q.i<q.j:=by have:=of_decide_eq_true aK; simp only [Int.ofNat_lt] at this; exact this
  obtain ⟨q0,q1⟩:q.i=0∧q.j=1:=by rcases hp with h | h; exact h; omega
  refine ⟨fun _=>⟨by omega,by omega⟩,?_⟩
  refine ⟨fun _=>by omega,?_⟩
  refine .inr ⟨[0,1,2],[.dv (I 0),.ptr 1 0,.ptr 2 0],_,0,_,_,OP x r l,by kernel_rfl,by kernel_rfl,⟨?_,rfl,rfl,tv⟩,⟨⟨rfl,rfl⟩,⟨rfl,tv⟩,⟨rf,rf,tv⟩,tv⟩,?_⟩
  ·rw [mf (by omega),q0,q1]; exact rf
  ·refine ⟨fun hb=>?_,fun hb=>?_⟩
   ·have cL:kh x r=false:=by simpa using hb
    rw [mf (by omega)]
    refine ⟨fun _=>⟨by omega,by omega⟩,?_⟩
    exact ⟨⟨1,1⟩,⟨⟨⟨rfl,rfl,rfl,tv⟩,au (by rw [q0,q1]; rfl),au (by rw [q1]),tv⟩,⟨⟨rfl,rfl⟩,⟨rfl,tv⟩,⟨rf,rf,tv⟩,tv⟩,rfl,rfl⟩,.inr ⟨rfl,by rw [cL]; rfl⟩,by simp only; omega⟩
   ·have cL:kh x r=true:=by simpa using hb
    rw [mf (by omega)]
    exact ⟨⟨0,0⟩,⟨⟨⟨rfl,rfl,rfl,tv⟩,au (by rw [q0]),au (by rw [q0,q1]),tv⟩,⟨⟨rfl,rfl⟩,⟨rfl,tv⟩,⟨rf,rf,tv⟩,tv⟩,rfl,rfl⟩,.inr ⟨rfl,by rw [cL]; rfl⟩,by simp only; omega⟩
 ·have dy:¬ q.i<q.j:=by have:=of_decide_eq_false dy; omega
  have zv:(q.i:Int)=(if kh x r then 0 else 1):=by
   rcases hp with h | h
   ·omega
   ·rw [h.2]; split <;> rfl
  exact ⟨_,_,⟨rfl,rfl⟩,by kernel_rfl,⟨au zv,tv⟩,⟨rfl,rfl⟩,⟨rfl,tv⟩,⟨rf,rf,tv⟩,tv⟩
abbrev kM (f:Bool) (l:List Rk):aj:=[(0,.tree 0 0 (cz f l))]
theorem Bq (f:Bool) (x:Rk):aO Tryz.prog 40 [.dv (I 0),.fn 136 [.ptr 1 0,.ptr 2 0]] 3
  [(0,.tree 0 0 (cz f [])),(1,.cells [.own 0 0 0 []]),(2,.cells [.dv (I x.1),.dv (I x.2)])] 0 [.dv (I 0)]
  [(0,.tree 0 0 (cz f [])),(1,.cells [.own 0 0 0 []]),(2,.cells [.dv (I x.1),.dv (I x.2)])]:=by
 refine aJ aD mixed (af _) (ai _) Tryz.func40 rfl rfl (by kernel_rfl) ?_
 refine ⟨Unit,fun _=>⟨3,[(5,.dv (I 0)),(6,.dv (I 0))],[(0,.tree 0 0 (cz f [])),(1,.cells [.own 0 0 0 []]),(2,.cells [.dv (I x.1),.dv (I x.2)])]⟩,fun _=>True,fun _=>0,(),fun _=>rfl,⟨⟨rf,rf,tv⟩,⟨⟨rfl,rfl⟩,⟨rfl,tv⟩,⟨rf,rf,tv⟩,tv⟩,rfl,rfl⟩,tv,?_⟩
 rintro _ _
 refine ⟨fun h=>by simp at h,fun _=>?_⟩
 exact ⟨_,_,⟨rfl,rfl⟩,by kernel_rfl,⟨rf,tv⟩,⟨rfl,rfl⟩,⟨rfl,tv⟩,⟨rf,rf,tv⟩,tv⟩
theorem tY (f:Bool) (x:Rk):aO Tryz.prog 126 [.own 0 0 0 [],.agg [.dv (I x.1),.dv (I x.2)]] 1 (kM f []) 0 [.dv (I 0),.dv (I 0)] (kM f []):=by
 cases f
 all_goals
  refine aJ aD mixed (af _) (ai _) Tryz.func126 rfl rfl (by kernel_rfl) ?_
  refine .inr ⟨[0,1,2],[.dv (I 0),.fn 136 [.ptr 1 0,.ptr 2 0]],_,0,_,_,Bq _ x,by kernel_rfl,by kernel_rfl,⟨rf,⟨rfl,rfl,rfl,tv⟩,tv⟩,⟨⟨rfl,rfl⟩,⟨rfl,tv⟩,⟨rf,rf,tv⟩,tv⟩,?_⟩
 all_goals
  refine ⟨fun _=>⟨by omega,by omega⟩,fun _=>?_,fun h=>by simp at h⟩
  exact ⟨_,_,⟨rfl,rfl⟩,by kernel_rfl,⟨rf,rf,tv⟩,⟨rfl,rfl⟩,tv⟩
theorem tZ (x r:Rk) (l:List Rk) (k:Nat) (hk:k≤(r::l).length) (hl:(r::l).length≤1000) (h1:∀i y,i<k→(r::l)[i]?=some y→kh y x=true) (h2:∀i y,k≤i→(r::l)[i]?=some y→kh y x=false) :
  aO Tryz.prog 126 [.own 0 0 0 [],.agg [.dv (I x.1),.dv (I x.2)]] 1 (kM false (r::l)) 0 [.dv (I 0),.dv (I k)] (kM false (r::l)):=by
 have hs:=Bp x r l
 have h2s:=Bo x (r::l) k hk hl h1 h2
 cases hb:kh x r <;> rw [hb] at hs
 all_goals
  refine aJ aD mixed (af _) (ai _) Tryz.func126 rfl rfl (by kernel_rfl) ?_
  refine .inr ⟨[0,1,2],[.dv (I 1),.fn 136 [.ptr 1 0,.ptr 2 0]],_,0,_,_,hs,by kernel_rfl,by kernel_rfl,⟨rf,⟨rfl,rfl,rfl,tv⟩,tv⟩,⟨⟨rfl,rfl⟩,⟨rfl,tv⟩,⟨rf,rf,tv⟩,tv⟩,?_⟩
  refine ⟨fun _=>⟨by decide,by decide⟩,fun h=>by simp at h,fun _=>?_⟩
  refine ⟨fun _=>⟨by decide,by show (0:Int)<1; omega⟩,.aw 2 ((r::l).map eR),fun _=>rfl,?_⟩
  refine ⟨.aw 2 ((r::l).map eR),fun _=>rfl,?_⟩
  refine .inr ⟨[0,1,2,3],[.dv (I (r::l).length),.fn 137 [.ptr 1 0,.ptr 3 0,.ptr 2 0]],_,0,_,_,h2s,by kernel_rfl,by kernel_rfl,⟨au (by rw [List.length_map]),⟨rfl,rfl,rfl,rfl,tv⟩,tv⟩,⟨⟨rfl,rfl⟩,⟨rfl,tv⟩,⟨rf,rf,tv⟩,⟨rfl,tv⟩,tv⟩,?_⟩
  exact ⟨_,_,⟨rfl,rfl⟩,by kernel_rfl,⟨rf,rf,tv⟩,⟨rfl,rfl⟩,tv⟩
def rK (l:List Rk) (k:Nat) (x:Rk):List Rk:=l.take k++x::l.drop k
def yx (l:List Rk) (k:Nat):List Rk:=l.take k++l.drop (k+1)
theorem Br (l:List Rk):∀x,x∈l.map eR→x.bl:=by
 intro x hx d hd
 obtain ⟨y,_,rfl⟩:=List.mem_map.1 hx
 simp only [eR,DV.cells,List.mem_cons,List.not_mem_nil,or_false] at hd
 rcases hd with rfl | rfl <;> rfl
end Go.Proofs.YtpbdohkbiklflaaGreatDoor
namespace Go.Proofs.YtpbdohkbiklflaaGreatDoor
open Go.TM Go.RowKit Go.Lib
variable [cu]
def j3 (cc:Array Value) (o m:Nat):List Value:=(List.range m).map fun k=>cc.getD (o+k) undef
theorem c7 (cc:Array Value) (o m:Nat):(j3 cc o m).length=m:=by simp [j3]
theorem eT (cc:Array Value) (o m k:Nat) (hk:k<m) (hs:o+k<cc.size):(j3 cc o m)[k]?=cc[o+k]?:=by
 simp [j3,hk,Array.getD_eq_getD_getElem?,hs]
def over (cc:Array Value) (o:Nat) (vs:List Value):Array Value:=(cc.toList.take o++vs++cc.toList.drop (o+vs.length)).toArray
theorem gj (cc:Array Value) (o:Nat) (vs:List Value) (h:o+vs.length≤cc.size):(over cc o vs).size=cc.size:=by
 simp [over]; omega
theorem fL (cc:Array Value) (o:Nat) (vs:List Value) (h:o+vs.length≤cc.size) (k:Nat):(over cc o vs)[k]?=if o≤k∧k<o+vs.length then vs[k - o]? else cc[k]?:=by
 have hl:(cc.toList.take o).length=o:=by simp; omega
 simp only [over,List.getElem?_toArray]
 rw [List.getElem?_append,List.getElem?_append]
 simp only [List.length_append,hl]
 by_cases h1:k<o
 ·rw [if_pos (by omega),if_pos h1,if_neg (by omega),List.getElem?_take,if_pos h1]; simp
 ·by_cases h2:k<o+vs.length
  ·rw [if_pos h2,if_neg h1,if_pos (by omega)]
  ·rw [if_neg h2,if_neg (by omega),List.getElem?_drop,show o+vs.length+(k - (o+vs.length))=k by omega]; simp
theorem lq {P:Program} {ops:Array Oper} {o:Oper} {a:Act} {w:World} {K:Act→World→Prop} {Q:Exit→Act→World→Prop} {E:Prop}
  (hg:o.guard=none) (d x:Operand) (dT sT:TypeId) (Xc:o.op=Op.call { callee:=Callee.builtin Builtin.append,args:=#[d,x],argTypes:=#[dT,sT] })
  (v u:Value) (hd:a.eval d=v) (hx:a.eval x=u) {v':Value} {w':World} (hr:(Builtin.append_ #[dT,sT] o.type #[v,u]).run P w=.ok v' w') (hK:K (a.put o.dst v') w') :
  if Region.wanted o (yielded ops a.tmps)=true then Oper.wp P o a w K Q else E:=by
 have hw:Region.wanted o (yielded ops a.tmps)=true:=by simp [Region.wanted,hg]
 rw [if_pos hw]
 unfold Oper.wp
 simp [execOp,Xc,resolve,invoke,builtin,hd,hx,hr,Result.andThen]
 exact hK
theorem iL {w:World} {b:Nat} {cc:Array Value} {tt:TypeId} (hw:w.heap[b]?=some (.cells cc tt (0,0))) (k:Nat):w.cell? ⟨b,k,none⟩=cc[k]?:=by
 simp [World.cell?,hw]
theorem zc2 (a b:Value):(Builtin.zeroCells (Value.agg #[a,b]).cells 1).toList=[a,b]:=by simp [Builtin.zeroCells,Value.cells,List.range,List.range.loop]
theorem zc1 (a:Value) (h:a.cells=#[a]):(Builtin.zeroCells a.cells 1).toList=[a]:=by rw [h]; simp [Builtin.zeroCells,List.range,List.range.loop]
theorem py {P:Program} (w:World) (t e ty:TypeId) (z:Value) (ht:P.underlying t=some (.slice e)) (hv:∀w,(zeroValue e).run P w=.ok z w) (h1:∀v∈z.cells,v.oneCell'=true) (b o c:Nat) (cc:Array Value) (tt:TypeId)
  (hw:w.heap[b]?=some (.cells cc tt (0,0))) (ck:o+z.cells.size≤cc.size) :
  (Builtin.clear_ #[t] ty #[.slice (some ⟨b,o,none⟩) 1 c]).run P w=.ok (.tuple #[]) (w.setRow b (over cc o (Builtin.zeroCells z.cells 1).toList)):=by
 have hl:(Builtin.zeroCells z.cells 1).toList.length=z.cells.size:=by simp [Builtin.zeroCells]
 have ak:=run_storeCells_at P b o tt (Builtin.zeroCells z.cells 1).toList 0 cc w hw (by rw [hl]; simpa using ck) (fun v hv=>by
  simp only [Builtin.zeroCells,Nat.one_mul,Array.toList_map,List.mem_map,Array.toList_range,List.mem_range] at hv
  obtain ⟨k,hk,rfl⟩:=hv
  rw [Nat.mod_eq_of_lt hk,getElem!_pos z.cells k hk]
  exact h1 _ (Array.getElem_mem hk))
 simp only [Nat.add_zero] at ak
 simp only [Builtin.clear_,run_underlying ht,Sem.run_bind,Result.andThen_ok,hv]
 simp [run_underlying ht,hv,ak,over]
theorem run_copy_row {P:Program} (t e ty:TypeId) (ti:TypeInfo) (ht:P.underlying t=some (.slice e)) (hi:P.info? e=some ti) {w:World} {b:Nat} {cc:Array Value} {tt:TypeId} (hw:w.heap[b]?=some (.cells cc tt (0,0)))
  (o Sh Xv:Nat) (a:Addr) (uH Jw m:Nat) (F0:List Value) (hm:Nat.min uH Sh=m) (hv:∀j u,F0[j]?=some u→w.cell? (a.add j)=some u) (hl:F0.length=m * ti.size) (h1:∀v∈F0,v.oneCell'=true) (ck:o+F0.length≤cc.size) :
  (Builtin.copy_ #[t,t] ty #[.slice (some ⟨b,o,none⟩) Sh Xv,.slice (some a) uH Jw]).run P w=.ok (goInt m) (w.setRow b (over cc o F0)):=by
 have hf:=run_firstCells_some (P:=P) w ti.size m a uH Jw F0 hl hv
 have ak:=run_storeCells_at P b o tt F0 0 cc w hw (by simpa using ck) h1
 simp only [Nat.add_zero] at ak
 have hm':min uH Sh=m:=hm
 simp [Builtin.copy_,run_underlying ht,sizeOf,typeInfo,hi,Builtin.lenOf,hm',hf,ak,over]
set_option maxHeartbeats 4000000 in
set_option maxRecDepth 100000 in
theorem F1 (b off n c i:Nat) (cc:Array Value) (tt:TypeId) (w:World) (hw:w.heap[b]?=some (.cells cc tt (0,0))) (UB:n≤c) (hi:i<n) (ck:off+c * 2≤cc.size) (Mr:n<9223372036854775807)
  (h1:∀k v,off≤k→k<off+n * 2→cc[k]?=some v→v.oneCell'=true) :
  Calls Tryz.prog 127 #[.slice (some ⟨b,off,none⟩) n c,.int .i64 (i:Int),.int .i64 ((i:Int)+1)] w fun e w'=>e=.returned (.slice (some ⟨b,off,none⟩) (n - 1) c) ∧
   ∃c':Array Value,w'.heap[b]?=some (.cells c' tt (0,0))∧c'.size=cc.size∧(∀k,k<i * 2→c'[off+k]?=cc[off+k]?)∧(∀k,k<(n - (i+1)) * 2→c'[off+i * 2+k]?=cc[off+(i+1) * 2+k]?)∧w.grownBy w' (some b):=by
 have EK:w.drew.heap[b]?=some (.cells cc tt (0,0)):=hw
 have mixed:=Go.Proofs.YtpbdohkbiklflaaGreatDoor.mixed
 obtain ⟨i0,F2,EL,nW,OR⟩:=info_parts (show (Tryz.prog.info? 82).map (fun i=>(i.zero,i.size,i.bytes))=some (some (.agg #[.int .i64 0,.int .i64 0]),2,16) by kernel_rfl)
 obtain ⟨A,hA,gT⟩:∃A:Addr,(if c=i+1 then some (⟨b,off,none⟩:Addr) else some ⟨b,off+(i+1) * 2,none⟩)=some A∧∀j u,(j3 cc (off+(i+1) * 2) ((n - (i+1)) * 2))[j]?=some u→w.drew.cell? (A.add j)=some u:=by
  by_cases h:c=i+1
  ·refine ⟨⟨b,off,none⟩,by simp [h],fun t u hu=>?_⟩
   have:(n - (i+1)) * 2=0:=by omega
   rw [this] at hu
   simp [j3] at hu
  ·refine ⟨⟨b,off+(i+1) * 2,none⟩,by simp [h],fun t u hu=>?_⟩
   have ht:t<(n - (i+1)) * 2:=by have:=(List.getElem?_eq_some_iff.1 hu).1; rwa [c7] at this
   rw [eT cc _ _ t ht (by omega)] at hu
   rw [cO,iL EK]; exact hu
 obtain ⟨c1,gP⟩:∃c1,c1=over cc (off+i * 2) (j3 cc (off+(i+1) * 2) ((n - (i+1)) * 2)):=⟨_,rfl⟩
 obtain ⟨W1,jr⟩:∃W1,W1=w.drew.setRow b c1:=⟨_,rfl⟩
 have Xw:∀ty,(Builtin.append_ #[65,65] ty #[.slice (some ⟨b,off,none⟩) i c,.slice (some A) (n - (i+1)) (c - (i+1))]).run Tryz.prog w.drew=.ok (.slice (some ⟨b,off,none⟩) (i+(n - (i+1))) c) W1:=fun ty=>by
  have hl:=c7 cc (off+(i+1) * 2) ((n - (i+1)) * 2)
  have:=ic (P:=Tryz.prog) (w:=w.drew) 65 ty 82 i0 Tryz.underlying65 F2 b off i c cc tt EK A (n - (i+1)) (c - (i+1)) (j3 cc (off+(i+1) * 2) ((n - (i+1)) * 2)) (by rw [nW]; exact hl) gT
   (fun u hu=>by
    obtain ⟨k,hk,rfl⟩:=List.getElem_of_mem hu
    have eG:k<(n - (i+1)) * 2:=by rwa [hl] at hk
    have h2:=eT cc (off+(i+1) * 2) ((n - (i+1)) * 2) k eG (by omega)
    rw [List.getElem?_eq_getElem hk] at h2
    exact h1 (off+(i+1) * 2+k) _ (by omega) (by omega) h2.symm) (by omega) (by rw [nW,hl]; omega)
  rw [this,jr,gP,nW]
  rfl
 have fh:c1.size=cc.size:=by rw [gP,gj _ _ _ (by rw [c7]; omega)]
 have uR:W1.heap[b]?=some (.cells c1 tt (0,0)):=by rw [jr]; exact setRow_heap w.drew b cc _ tt _ EK
 obtain ⟨c2,fC⟩:∃c2,c2=over c1 (off+(n - 1) * 2) [.int .i64 0,.int .i64 0]:=⟨_,rfl⟩
 have fM:∀ty cp,(Builtin.clear_ #[65] ty #[.slice (some ⟨b,off+(i+(n - (i+1))) * 2,none⟩) (n - (i+(n - (i+1)))) cp]).run Tryz.prog W1=.ok (.tuple #[]) (W1.setRow b c2):=fun ty cp=>by
  have:=py (P:=Tryz.prog) W1 65 82 ty (.agg #[.int .i64 0,.int .i64 0]) Tryz.underlying65 (fun w=>by simp [zeroValue,typeInfo,F2,EL]) (by simp [Value.cells,Value.oneCell']) b (off+(n - 1) * 2) cp c1 tt uR (by simp [Value.cells]; omega)
  rw [show i+(n - (i+1))=n - 1 by omega,show n - (n - 1)=1 by omega,this,fC,zc2]
 have hic:i≤c:=by omega
 have h0i:(0:Int)≤(i:Int)+1:=by omega
 have hjc:i+1≤c:=by omega
 have YK:i+1≤n:=by omega
 have Dm:(i:Int)≤(n:Int):=by omega
 have He:(i:Int)+1≤(n:Int):=by omega
 have Si:Hid (W1=w.drew.setRow b c1):=jr
 have UC:Hid (c1=over cc (off+i * 2) (j3 cc (off+(i+1) * 2) ((n - (i+1)) * 2))):=gP
 have UD:Hid (c2=over c1 (off+(n - 1) * 2) [.int .i64 0,.int .i64 0]):=fC
 clear jr gP fC uR
 go_enter Tryz.func127,Tryz.ntmps127
 go_wp2_with fail
 go_region_law_o (refine lq rfl (.tmp 22) (.tmp 25) 65 65 rfl (.slice (some ⟨b,off,none⟩) i c) (.slice (some A) (n - (i+1)) (c - (i+1))) (by simp [Act.eval,Act.put]) (by simp [Act.eval,Act.put]) (Xw _) ?_)
 go_wp2
 go_ret
 have jr:=Si.out
 have gP:=UC.out
 have fC:=UD.out
 have uR:W1.heap[b]?=some (.cells c1 tt (0,0)):=by rw [jr]; exact setRow_heap w.drew b cc _ tt _ EK
 have NV:(W1.setRow b c2).heap[b]?=some (.cells c2 tt (0,0)):=setRow_heap W1 b c1 _ tt _ uR
 refine ⟨by rw [show i+(n - (i+1))=n - 1 by omega]; rfl,c2,NV,by rw [fC,gj _ _ _ (by simp; omega),fh],fun k hk=>?_,fun k hk=>?_,⟨by rw [jr]; rfl,by rw [jr]; rfl,by rw [jr]; rfl,by rw [jr]; simp,fun q hq bJ=>?_⟩⟩
 ·rw [fC,fL _ _ _ (by simp; omega),if_neg (by simp; omega),gP,fL _ _ _ (by rw [c7]; omega),if_neg (by rw [c7]; omega)]
 ·rw [fC,fL _ _ _ (by simp; omega),if_neg (by simp; omega),gP,fL _ _ _ (by rw [c7]; omega),if_pos (by rw [c7]; omega),show off+i * 2+k - (off+i * 2)=k by omega,eT _ _ _ _ hk (by omega)]
 ·have Ms:q ≠ b:=fun e=>bJ (by rw [e])
  rw [setRow_other _ _ _ _ Ms,jr,setRow_other _ _ _ _ Ms]
  rfl
set_option maxHeartbeats 4000000 in
set_option maxRecDepth 100000 in
theorem F3 (b off n c i:Nat) (cc:Array Value) (tt:TypeId) (w:World) (hw:w.heap[b]?=some (.cells cc tt (0,0))) (UB:n≤c) (hi:i<n) (ck:off+c≤cc.size) (Mr:n<9223372036854775807)
  (h1:∀k v,off≤k→k<off+n→cc[k]?=some v→v.oneCell'=true) :
  Calls Tryz.prog 128 #[.slice (some ⟨b,off,none⟩) n c,.int .i64 (i:Int),.int .i64 ((i:Int)+1)] w fun e w'=>e=.returned (.slice (some ⟨b,off,none⟩) (n - 1) c) ∧
   ∃c':Array Value,w'.heap[b]?=some (.cells c' tt (0,0))∧c'.size=cc.size∧(∀k,k<i→c'[off+k]?=cc[off+k]?)∧(∀k,k<(n - (i+1))→c'[off+i+k]?=cc[off+(i+1)+k]?)∧w.grownBy w' (some b):=by
 have EK:w.drew.heap[b]?=some (.cells cc tt (0,0)):=hw
 have mixed:=Go.Proofs.YtpbdohkbiklflaaGreatDoor.mixed
 obtain ⟨i0,F2,EL,nW,OR⟩:=info_parts (show (Tryz.prog.info? 65).map (fun i=>(i.zero,i.size,i.bytes))=some (some (.slice none 0 0),1,24) by kernel_rfl)
 obtain ⟨A,hA,gT⟩:∃A:Addr,(if c=i+1 then some (⟨b,off,none⟩:Addr) else some ⟨b,off+(i+1),none⟩)=some A∧∀j u,(j3 cc (off+(i+1)) ((n - (i+1))))[j]?=some u→w.drew.cell? (A.add j)=some u:=by
  by_cases h:c=i+1
  ·refine ⟨⟨b,off,none⟩,by simp [h],fun t u hu=>?_⟩
   have:(n - (i+1))=0:=by omega
   rw [this] at hu
   simp [j3] at hu
  ·refine ⟨⟨b,off+(i+1),none⟩,by simp [h],fun t u hu=>?_⟩
   have ht:t<(n - (i+1)):=by have:=(List.getElem?_eq_some_iff.1 hu).1; rwa [c7] at this
   rw [eT cc _ _ t ht (by omega)] at hu
   rw [cO,iL EK]; exact hu
 obtain ⟨c1,gP⟩:∃c1,c1=over cc (off+i) (j3 cc (off+(i+1)) ((n - (i+1)))):=⟨_,rfl⟩
 obtain ⟨W1,jr⟩:∃W1,W1=w.drew.setRow b c1:=⟨_,rfl⟩
 have Xw:∀ty,(Builtin.append_ #[111,111] ty #[.slice (some ⟨b,off,none⟩) i c,.slice (some A) (n - (i+1)) (c - (i+1))]).run Tryz.prog w.drew=.ok (.slice (some ⟨b,off,none⟩) (i+(n - (i+1))) c) W1:=fun ty=>by
  have hl:=c7 cc (off+(i+1)) ((n - (i+1)))
  have:=ic (P:=Tryz.prog) (w:=w.drew) 111 ty 65 i0 Tryz.underlying111 F2 b off i c cc tt EK A (n - (i+1)) (c - (i+1)) (j3 cc (off+(i+1)) ((n - (i+1)))) (by rw [nW,Nat.mul_one]; exact hl) gT
   (fun u hu=>by
    obtain ⟨k,hk,rfl⟩:=List.getElem_of_mem hu
    have eG:k<(n - (i+1)):=by rwa [hl] at hk
    have h2:=eT cc (off+(i+1)) ((n - (i+1))) k eG (by omega)
    rw [List.getElem?_eq_getElem hk] at h2
    exact h1 (off+(i+1)+k) _ (by omega) (by omega) h2.symm) (by omega) (by rw [nW,Nat.mul_one,hl]; omega)
  rw [this,jr,gP,nW,Nat.mul_one]
  rfl
 have fh:c1.size=cc.size:=by rw [gP,gj _ _ _ (by rw [c7]; omega)]
 have uR:W1.heap[b]?=some (.cells c1 tt (0,0)):=by rw [jr]; exact setRow_heap w.drew b cc _ tt _ EK
 obtain ⟨c2,fC⟩:∃c2,c2=over c1 (off+(n - 1)) [.slice none 0 0]:=⟨_,rfl⟩
 have fM:∀ty cp,(Builtin.clear_ #[111] ty #[.slice (some ⟨b,off+(i+(n - (i+1))),none⟩) (n - (i+(n - (i+1)))) cp]).run Tryz.prog W1=.ok (.tuple #[]) (W1.setRow b c2):=fun ty cp=>by
  have:=py (P:=Tryz.prog) W1 111 65 ty (.slice none 0 0) Tryz.underlying111 (fun w=>by simp [zeroValue,typeInfo,F2,EL]) (by simp [Value.cells,Value.oneCell']) b (off+(n - 1)) cp c1 tt uR (by simp [Value.cells]; omega)
  rw [show i+(n - (i+1))=n - 1 by omega,show n - (n - 1)=1 by omega,this,fC,zc1 _ rfl]
 have hic:i≤c:=by omega
 have h0i:(0:Int)≤(i:Int)+1:=by omega
 have hjc:i+1≤c:=by omega
 have YK:i+1≤n:=by omega
 have Dm:(i:Int)≤(n:Int):=by omega
 have He:(i:Int)+1≤(n:Int):=by omega
 have Si:Hid (W1=w.drew.setRow b c1):=jr
 have UC:Hid (c1=over cc (off+i) (j3 cc (off+(i+1)) ((n - (i+1))))):=gP
 have UD:Hid (c2=over c1 (off+(n - 1)) [.slice none 0 0]):=fC
 clear jr gP fC uR
 go_enter Tryz.func128,Tryz.ntmps128
 go_wp2_with fail
 go_region_law_o (refine lq rfl (.tmp 22) (.tmp 25) 111 111 rfl (.slice (some ⟨b,off,none⟩) i c) (.slice (some A) (n - (i+1)) (c - (i+1))) (by simp [Act.eval,Act.put]) (by simp [Act.eval,Act.put]) (Xw _) ?_)
 go_wp2
 go_ret
 have jr:=Si.out
 have gP:=UC.out
 have fC:=UD.out
 have uR:W1.heap[b]?=some (.cells c1 tt (0,0)):=by rw [jr]; exact setRow_heap w.drew b cc _ tt _ EK
 have NV:(W1.setRow b c2).heap[b]?=some (.cells c2 tt (0,0)):=setRow_heap W1 b c1 _ tt _ uR
 refine ⟨by rw [show i+(n - (i+1))=n - 1 by omega]; rfl,c2,NV,by rw [fC,gj _ _ _ (by simp; omega),fh],fun k hk=>?_,fun k hk=>?_,⟨by rw [jr]; rfl,by rw [jr]; rfl,by rw [jr]; rfl,by rw [jr]; simp,fun q hq bJ=>?_⟩⟩
 ·rw [fC,fL _ _ _ (by simp; omega),if_neg (by simp; omega),gP,fL _ _ _ (by rw [c7]; omega),if_neg (by rw [c7]; omega)]
 ·rw [fC,fL _ _ _ (by simp; omega),if_neg (by simp; omega),gP,fL _ _ _ (by rw [c7]; omega),if_pos (by rw [c7]; omega),show off+i+k - (off+i)=k by omega,eT _ _ _ _ hk (by omega)]
 ·have Ms:q ≠ b:=fun e=>bJ (by rw [e])
  rw [setRow_other _ _ _ _ Ms,jr,setRow_other _ _ _ _ Ms]
  rfl
end Go.Proofs.YtpbdohkbiklflaaGreatDoor
