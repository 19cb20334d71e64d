import Derived.Test.YtpbdohkbiklflaaGreatDoorWM16
import Derived.Test.YtpbdohkbiklflaaGreatDoorProg
import Derived.Test.YtpbdohkbiklflaaGreatDoorChecked
import Derived.KernelRfl
import Derived.Test.YtpbdohkbiklflaaGreatDoorWM19
import Derived.Test.YtpbdohkbiklflaaGreatDoorWM20
import Derived.Shelf.Spec.SlicesInsertGrow
import Derived.Deep.RegionLaw
import Derived.Lib.SliceRun
set_option linter.unusedVariables false
set_option linter.unusedSimpArgs false
set_option linter.unusedSectionVars false
namespace Go.Proofs.YtpbdohkbiklflaaGreatDoor
open Go.TM
def tab:List TI:=[
 ⟨false,1,0,false,[],[],false,false,0,0,0,[],none,false,0,[]⟩,
 ⟨true,1,8,false,[],[.aK],false,false,0,7,0,[],none,false,0,[]⟩,
 ⟨true,1,8,false,[],[.int .i64 0],false,false,0,2,0,[],some IntKind.i64,false,0,[]⟩,
 ⟨true,1,8,false,[],[.int .i64 0],false,false,0,2,0,[],some IntKind.i64,false,0,[]⟩,
 ⟨true,1,1,false,[],[.bool false],false,false,0,1,0,[],none,false,0,[]⟩,
 ⟨true,1,1,false,[],[.int .u8 0],false,false,0,2,0,[],some IntKind.u8,false,0,[]⟩,
 ⟨true,1,1,false,[],[.int .u8 0],false,false,0,2,0,[],some IntKind.u8,false,0,[]⟩,
 ⟨true,4,24,true,[(0,1),(1,1),(2,1),(3,1)],[.int .i64 0,.int .i64 0,.bool false,.int .u8 0],false,false,0,9,0,[2,3,4,6],none,false,0,[2,2,1,2]⟩,
 ⟨true,4,24,true,[(0,1),(1,1),(2,1),(3,1)],[.int .i64 0,.int .i64 0,.bool false,.int .u8 0],false,false,0,9,0,[2,3,4,6],none,false,0,[2,2,1,2]⟩,
 ⟨true,1,16,false,[],[.str ⟨#[]⟩],false,true,0,3,0,[],none,false,0,[]⟩,
 ⟨true,1,16,false,[],[.str ⟨#[]⟩],false,true,0,3,0,[],none,false,0,[]⟩,
 ⟨true,1,16,false,[],[.str ⟨#[]⟩],false,true,0,3,0,[],none,false,0,[]⟩,
 ⟨true,1,8,false,[],[.int .u64 0],false,false,0,2,0,[],some IntKind.u64,false,0,[]⟩,
 ⟨true,2,24,true,[(0,1),(1,1)],[.str ⟨#[]⟩,.int .u64 0],false,false,0,9,0,[9,12],none,false,0,[]⟩,
 ⟨true,2,24,true,[(0,1),(1,1)],[.str ⟨#[]⟩,.int .u64 0],false,false,0,9,0,[9,12],none,false,0,[]⟩,
 ⟨true,1,8,false,[],[.di],false,false,0,5,0,[],none,false,0,[]⟩,
 ⟨true,1,8,false,[],[.di],false,false,0,5,0,[],none,false,0,[]⟩,
 ⟨true,1,8,false,[],[.di],false,false,0,5,0,[],none,false,0,[]⟩,
 ⟨true,1,8,true,[(0,1)],[.di],false,false,0,9,0,[17],none,false,0,[]⟩,
 ⟨true,1,8,true,[(0,1)],[.di],false,false,0,9,0,[17],none,false,0,[]⟩,
 ⟨true,1,16,false,[],[.la],false,false,0,8,0,[],none,false,0,[]⟩,
 ⟨true,1,4,false,[],[.int .i32 0],false,false,0,2,0,[],some IntKind.i32,false,0,[]⟩,
 ⟨true,1,24,false,[],[.aG],true,false,39,4,0,[],none,false,0,[]⟩,
 ⟨true,1,24,false,[],[.aG],true,false,124,4,0,[],none,false,0,[]⟩,
 ⟨true,1,24,false,[],[.aG],true,false,128,4,0,[],none,false,0,[]⟩,
 ⟨true,1,24,false,[],[.aG],true,false,132,4,0,[],none,false,0,[]⟩,
 ⟨true,4,96,true,[(0,1),(1,1),(2,1),(3,1)],[.aG,.aG,.aG,.aG],false,false,0,9,0,[22,23,24,25],none,false,0,[]⟩,
 ⟨true,4,96,true,[(0,1),(1,1),(2,1),(3,1)],[.aG,.aG,.aG,.aG],false,false,0,9,0,[22,23,24,25],none,false,0,[]⟩,
 ⟨true,1,8,false,[],[.aK],false,false,0,7,0,[],none,false,0,[]⟩,
 ⟨true,1,8,false,[],[.aK],false,false,0,7,0,[],none,false,0,[]⟩,
 ⟨true,1,24,false,[],[.aG],true,false,3,4,0,[],none,false,0,[]⟩,
 ⟨true,1,8,false,[],[.di],false,false,0,5,0,[],none,false,0,[]⟩,
 ⟨true,1,8,false,[],[.int .i64 0],false,false,0,2,0,[],some IntKind.i64,false,0,[]⟩,
 ⟨false,1,0,false,[],[],false,false,0,0,0,[],none,false,0,[]⟩,
 ⟨true,1,8,false,[],[.aK],false,false,0,7,0,[],none,false,0,[]⟩,
 ⟨true,1,8,false,[],[.di],false,false,0,5,0,[],none,false,0,[]⟩,
 ⟨false,1,0,false,[],[],false,false,0,0,0,[],none,false,0,[]⟩,
 ⟨true,1,8,false,[],[.aK],false,false,0,7,0,[],none,false,0,[]⟩,
 ⟨true,7,48,true,[(0,1),(1,1),(2,1),(3,1),(4,1),(5,1),(6,1)],[.str ⟨#[]⟩,.bool false,.bool false,.bool false,.int .i64 0,.int .i64 0,.int .i64 0],false,false,0,9,0,[9,4,4,4,3,3,3],none,false,0,[3,1,1,1,2,2,2]⟩,
 ⟨true,7,48,true,[(0,1),(1,1),(2,1),(3,1),(4,1),(5,1),(6,1)],[.str ⟨#[]⟩,.bool false,.bool false,.bool false,.int .i64 0,.int .i64 0,.int .i64 0],false,false,0,9,0,[9,4,4,4,3,3,3],none,false,0,[3,1,1,1,2,2,2]⟩,
 ⟨true,1,8,false,[],[.aK],false,false,0,7,0,[],none,false,0,[]⟩,
 ⟨true,1,8,false,[],[.aK],false,false,0,7,0,[],none,false,0,[]⟩,
 ⟨true,1,8,false,[],[.aK],false,false,0,7,0,[],none,false,0,[]⟩,
 ⟨false,1,0,false,[],[],false,false,0,0,0,[],none,false,0,[]⟩,
 ⟨true,1,8,false,[],[.aK],false,false,0,7,0,[],none,false,0,[]⟩,
 ⟨true,1,8,false,[],[.aK],false,false,0,7,0,[],none,false,0,[]⟩,
 ⟨true,5,40,true,[(0,1),(1,1),(2,1),(3,1),(4,1)],[.int .i64 0,.int .i64 0,.int .i64 0,.int .i64 0,.int .i64 0],false,false,0,9,0,[3,3,3,3,3],none,false,0,[2,2,2,2,2]⟩,
 ⟨true,5,40,true,[(0,1),(1,1),(2,1),(3,1),(4,1)],[.int .i64 0,.int .i64 0,.int .i64 0,.int .i64 0,.int .i64 0],false,false,0,9,0,[3,3,3,3,3],none,false,0,[2,2,2,2,2]⟩,
 ⟨false,1,0,false,[],[],false,false,0,0,0,[],none,false,0,[]⟩,
 ⟨true,1,8,false,[],[.aK],false,false,0,7,0,[],none,false,0,[]⟩,
 ⟨true,5,40,true,[(0,1),(1,1),(2,1),(3,1),(4,1)],[.int .i64 0,.int .i64 0,.int .i64 0,.int .i64 0,.int .i64 0],false,false,0,9,0,[3,3,3,3,3],none,false,0,[2,2,2,2,2]⟩,
 ⟨false,1,0,false,[],[],false,false,0,0,0,[],none,false,0,[]⟩,
 ⟨true,1,8,false,[],[.aK],false,false,0,7,0,[],none,false,0,[]⟩,
 ⟨true,1,8,false,[],[.aK],false,false,0,7,0,[],none,false,0,[]⟩,
 ⟨true,1,24,false,[],[.aG],true,false,87,4,0,[],none,false,0,[]⟩,
 ⟨true,7,72,true,[(0,1),(1,1),(2,1),(3,1),(4,1),(5,1),(6,1)],[.int .i64 0,.int .i64 0,.int .i64 0,.int .i64 0,.int .i64 0,.int .i64 0,.aG],false,false,0,9,0,[3,3,3,3,3,3,54],none,false,0,[]⟩,
 ⟨true,7,72,true,[(0,1),(1,1),(2,1),(3,1),(4,1),(5,1),(6,1)],[.int .i64 0,.int .i64 0,.int .i64 0,.int .i64 0,.int .i64 0,.int .i64 0,.aG],false,false,0,9,0,[3,3,3,3,3,3,54],none,false,0,[]⟩,
 ⟨true,1,8,false,[],[.aK],false,false,0,7,0,[],none,false,0,[]⟩,
 ⟨true,1,8,false,[],[.aK],false,false,0,7,0,[],none,false,0,[]⟩,
 ⟨false,1,0,false,[],[],false,false,0,0,0,[],none,false,0,[]⟩,
 ⟨true,1,8,false,[],[.aK],false,false,0,7,0,[],none,false,0,[]⟩,
 ⟨true,1,8,false,[],[.aK],false,false,0,7,0,[],none,false,0,[]⟩,
 ⟨true,1,8,false,[],[.aK],false,false,0,7,0,[],none,false,0,[]⟩,
 ⟨true,1,24,false,[],[.aG],true,false,104,4,0,[],none,false,0,[]⟩,
 ⟨true,1,8,false,[],[.aK],false,false,0,7,0,[],none,false,0,[]⟩,
 ⟨true,1,24,false,[],[.aG],true,false,82,4,0,[],none,false,0,[]⟩,
 ⟨true,1,8,false,[],[.aK],false,false,0,7,0,[],none,false,0,[]⟩,
 ⟨true,1,8,false,[],[.aK],false,false,0,7,0,[],none,false,0,[]⟩,
 ⟨true,1,8,false,[],[.aK],false,false,0,7,0,[],none,false,0,[]⟩,
 ⟨true,1,8,false,[],[.aK],false,false,0,7,0,[],none,false,0,[]⟩,
 ⟨true,1,24,false,[],[.aG],true,false,56,4,0,[],none,false,0,[]⟩,
 ⟨true,6,64,true,[(0,1),(1,1),(2,1),(3,1),(4,1),(5,1)],[.int .i64 0,.int .i64 0,.int .i64 0,.int .i64 0,.aG,.int .i64 0],false,false,0,9,0,[3,3,3,3,70,3],none,false,0,[]⟩,
 ⟨true,6,64,true,[(0,1),(1,1),(2,1),(3,1),(4,1),(5,1)],[.int .i64 0,.int .i64 0,.int .i64 0,.int .i64 0,.aG,.int .i64 0],false,false,0,9,0,[3,3,3,3,70,3],none,false,0,[]⟩,
 ⟨true,1,8,false,[],[.aK],false,false,0,7,0,[],none,false,0,[]⟩,
 ⟨true,1,8,false,[],[.iz],false,false,3,6,101,[],none,false,0,[]⟩,
 ⟨true,1,24,false,[],[.aG],true,false,88,4,0,[],none,false,0,[]⟩,
 ⟨true,1,24,false,[],[.aG],true,false,79,4,0,[],none,false,0,[]⟩,
 ⟨true,11,152,true,[(0,1),(1,1),(2,1),(3,1),(4,1),(5,1),(6,1),(7,1),(8,1),(9,1),(10,1)],[.int .i64 0,.int .i64 0,.int .i64 0,.int .i64 0,.int .i64 0,.int .i64 0,.iz,.aG,.aG,.aG,.aG],false,false,0,9,0,[3,3,3,3,3,3,74,30,76,75,30],none,false,0,[]⟩,
 ⟨true,11,152,true,[(0,1),(1,1),(2,1),(3,1),(4,1),(5,1),(6,1),(7,1),(8,1),(9,1),(10,1)],[.int .i64 0,.int .i64 0,.int .i64 0,.int .i64 0,.int .i64 0,.int .i64 0,.iz,.aG,.aG,.aG,.aG],false,false,0,9,0,[3,3,3,3,3,3,74,30,76,75,30],none,false,0,[]⟩,
 ⟨true,1,8,false,[],[.di],false,false,0,5,0,[],none,false,0,[]⟩,
 ⟨true,1,8,false,[],[.aK],false,false,0,7,0,[],none,false,0,[]⟩,
 ⟨true,2,16,true,[(0,1),(1,1)],[.int .i64 0,.int .i64 0],false,false,0,9,0,[3,3],none,true,0,[2,2]⟩,
 ⟨true,2,16,true,[(0,1),(1,1)],[.int .i64 0,.int .i64 0],false,false,0,9,0,[3,3],none,true,0,[2,2]⟩,
 ⟨true,1,8,false,[],[.aK],false,false,0,7,0,[],none,false,0,[]⟩,
 ⟨true,1,8,false,[],[.aK],false,false,0,7,0,[],none,false,0,[]⟩,
 ⟨true,1,24,false,[],[.aG],true,false,227,4,0,[],none,false,0,[]⟩,
 ⟨true,5,56,true,[(0,1),(1,1),(2,1),(3,1),(4,1)],[.int .i64 0,.int .i64 0,.int .i64 0,.int .i64 0,.aG],false,false,0,9,0,[3,3,3,3,85],none,false,0,[]⟩,
 ⟨true,5,56,true,[(0,1),(1,1),(2,1),(3,1),(4,1)],[.int .i64 0,.int .i64 0,.int .i64 0,.int .i64 0,.aG],false,false,0,9,0,[3,3,3,3,85],none,false,0,[]⟩,
 ⟨true,1,24,false,[],[.aG],true,false,91,4,0,[],none,false,0,[]⟩,
 ⟨true,1,8,false,[],[.aK],false,false,0,7,0,[],none,false,0,[]⟩,
 ⟨true,5,40,true,[(0,1),(1,1),(2,1),(3,1),(4,1)],[.int .i64 0,.int .i64 0,.int .i64 0,.int .i64 0,.int .i64 0],false,false,0,9,0,[3,3,3,3,3],none,false,0,[2,2,2,2,2]⟩,
 ⟨true,5,40,true,[(0,1),(1,1),(2,1),(3,1),(4,1)],[.int .i64 0,.int .i64 0,.int .i64 0,.int .i64 0,.int .i64 0],false,false,0,9,0,[3,3,3,3,3],none,false,0,[2,2,2,2,2]⟩,
 ⟨true,1,8,false,[],[.aK],false,false,0,7,0,[],none,false,0,[]⟩,
 ⟨true,1,8,false,[],[.aK],false,false,0,7,0,[],none,false,0,[]⟩,
 ⟨true,1,8,false,[],[.aK],false,false,0,7,0,[],none,false,0,[]⟩,
 ⟨true,1,8,false,[],[.aK],false,false,0,7,0,[],none,false,0,[]⟩,
 ⟨true,1,8,false,[],[.aK],false,false,0,7,0,[],none,false,0,[]⟩,
 ⟨true,1,8,false,[],[.aK],false,false,0,7,0,[],none,false,0,[]⟩,
 ⟨false,1,0,false,[],[],false,false,0,0,0,[],none,false,0,[]⟩,
 ⟨true,1,8,false,[],[.aK],false,false,0,7,0,[],none,false,0,[]⟩,
 ⟨true,2,16,true,[(0,1),(1,1)],[.int .i64 0,.int .i64 0],false,false,0,9,0,[3,3],none,true,0,[2,2]⟩,
 ⟨true,2,16,true,[(0,1),(1,1)],[.int .i64 0,.int .i64 0],false,false,0,9,0,[3,3],none,true,0,[2,2]⟩,
 ⟨true,1,8,false,[],[.aK],false,false,0,7,0,[],none,false,0,[]⟩,
 ⟨true,1,8,false,[],[.aK],false,false,0,7,0,[],none,false,0,[]⟩,
 ⟨true,2,16,true,[(0,1),(1,1)],[.int .i64 0,.int .i64 0],false,false,0,9,0,[3,3],none,true,0,[2,2]⟩,
 ⟨true,1,8,false,[],[.aK],false,false,0,7,0,[],none,false,0,[]⟩,
 ⟨true,1,8,false,[],[.aK],false,false,0,7,0,[],none,false,0,[]⟩,
 ⟨true,1,8,false,[],[.aK],false,false,0,7,0,[],none,false,0,[]⟩,
 ⟨true,1,8,false,[],[.aK],false,false,0,7,0,[],none,false,0,[]⟩,
 ⟨true,1,8,false,[],[.aK],false,false,0,7,0,[],none,false,0,[]⟩,
 ⟨true,1,8,false,[],[.aK],false,false,0,7,0,[],none,false,0,[]⟩,
 ⟨true,1,24,false,[],[.aG],true,false,65,4,0,[],none,false,0,[]⟩,
 ⟨true,2,32,true,[(0,1),(1,1)],[.aK,.aG],false,false,0,9,0,[83,111],none,false,0,[]⟩,
 ⟨true,2,32,true,[(0,1),(1,1)],[.aK,.aG],false,false,0,9,0,[83,111],none,false,0,[]⟩,
 ⟨true,1,24,false,[],[.aG],true,false,116,4,0,[],none,false,0,[]⟩,
 ⟨true,1,8,false,[],[.aK],false,false,0,7,0,[],none,false,0,[]⟩,
 ⟨true,1,24,false,[],[.aG],true,false,9,4,0,[],none,false,0,[]⟩,
 ⟨true,1,8,false,[],[.aK],false,false,0,7,0,[],none,false,0,[]⟩,
 ⟨true,1,8,false,[],[.aK],false,false,0,7,0,[],none,false,0,[]⟩,
 ⟨true,1,8,false,[],[.aK],false,false,0,7,0,[],none,false,0,[]⟩,
 ⟨false,1,0,false,[],[],false,false,0,0,0,[],none,false,0,[]⟩,
 ⟨true,1,8,false,[],[.aK],false,false,0,7,0,[],none,false,0,[]⟩,
 ⟨true,1,24,false,[],[.aG],true,false,136,4,0,[],none,false,0,[]⟩,
 ⟨true,9,128,true,[(0,1),(1,1),(2,1),(3,1),(4,1),(5,1),(6,1),(7,1),(8,1)],[.str ⟨#[]⟩,.bool false,.int .i64 0,.int .i64 0,.int .i64 0,.int .i64 0,.aG,.aG,.aG],false,false,0,9,0,[9,4,3,3,3,3,122,122,122],none,false,0,[]⟩,
 ⟨true,9,128,true,[(0,1),(1,1),(2,1),(3,1),(4,1),(5,1),(6,1),(7,1),(8,1)],[.str ⟨#[]⟩,.bool false,.int .i64 0,.int .i64 0,.int .i64 0,.int .i64 0,.aG,.aG,.aG],false,false,0,9,0,[9,4,3,3,3,3,122,122,122],none,false,0,[]⟩,
 ⟨true,1,8,false,[],[.aK],false,false,0,7,0,[],none,false,0,[]⟩,
 ⟨true,1,24,false,[],[.aG],true,false,159,4,0,[],none,false,0,[]⟩,
 ⟨true,2,40,true,[(0,1),(1,1)],[.str ⟨#[]⟩,.aG],false,false,0,9,0,[9,126],none,false,0,[]⟩,
 ⟨true,2,40,true,[(0,1),(1,1)],[.str ⟨#[]⟩,.aG],false,false,0,9,0,[9,126],none,false,0,[]⟩,
 ⟨true,1,8,false,[],[.aK],false,false,0,7,0,[],none,false,0,[]⟩,
 ⟨true,1,24,false,[],[.aG],true,false,178,4,0,[],none,false,0,[]⟩,
 ⟨true,2,40,true,[(0,1),(1,1)],[.str ⟨#[]⟩,.aG],false,false,0,9,0,[9,130],none,false,0,[]⟩,
 ⟨true,2,40,true,[(0,1),(1,1)],[.str ⟨#[]⟩,.aG],false,false,0,9,0,[9,130],none,false,0,[]⟩,
 ⟨true,1,24,false,[],[.aG],true,false,122,4,0,[],none,false,0,[]⟩,
 ⟨true,1,8,false,[],[.aK],false,false,0,7,0,[],none,false,0,[]⟩,
 ⟨true,2,16,true,[(0,1),(1,1)],[.int .i64 0,.int .i64 0],false,false,0,9,0,[3,3],none,true,0,[2,2]⟩,
 ⟨true,2,16,true,[(0,1),(1,1)],[.int .i64 0,.int .i64 0],false,false,0,9,0,[3,3],none,true,0,[2,2]⟩,
 ⟨true,1,24,false,[],[.aG],true,false,4,4,0,[],none,false,0,[]⟩,
 ⟨true,1,24,false,[],[.aG],true,false,32,4,0,[],none,false,0,[]⟩,
 ⟨true,1,8,false,[],[.aK],false,false,0,7,0,[],none,false,0,[]⟩,
 ⟨true,1,8,false,[],[.aK],false,false,0,7,0,[],none,false,0,[]⟩,
 ⟨true,1,8,false,[],[.aK],false,false,0,7,0,[],none,false,0,[]⟩,
 ⟨true,1,8,false,[],[.aK],false,false,0,7,0,[],none,false,0,[]⟩,
 ⟨true,1,8,false,[],[.aK],false,false,0,7,0,[],none,false,0,[]⟩,
 ⟨true,1,8,false,[],[.aK],false,false,0,7,0,[],none,false,0,[]⟩,
 ⟨true,1,8,false,[],[.aK],false,false,0,7,0,[],none,false,0,[]⟩,
 ⟨true,1,8,false,[],[.aK],false,false,0,7,0,[],none,false,0,[]⟩,
 ⟨true,1,8,false,[],[.aK],false,false,0,7,0,[],none,false,0,[]⟩,
 ⟨true,1,8,false,[],[.aK],false,false,0,7,0,[],none,false,0,[]⟩,
 ⟨true,1,8,false,[],[.aK],false,false,0,7,0,[],none,false,0,[]⟩,
 ⟨true,1,8,false,[],[.aK],false,false,0,7,0,[],none,false,0,[]⟩,
 ⟨true,1,8,false,[],[.aK],false,false,0,7,0,[],none,false,0,[]⟩,
 ⟨true,1,8,false,[],[.aK],false,false,0,7,0,[],none,false,0,[]⟩,
 ⟨true,1,8,false,[],[.aK],false,false,0,7,0,[],none,false,0,[]⟩,
 ⟨true,1,8,false,[],[.aK],false,false,0,7,0,[],none,false,0,[]⟩,
 ⟨true,1,8,false,[],[.aK],false,false,0,7,0,[],none,false,0,[]⟩,
 ⟨true,1,8,false,[],[.aK],false,false,0,7,0,[],none,false,0,[]⟩,
 ⟨true,1,8,false,[],[.aK],false,false,0,7,0,[],none,false,0,[]⟩,
 ⟨true,2,32,true,[(0,1),(1,1)],[.int .i64 0,.aG],false,false,0,9,0,[3,122],none,false,0,[]⟩,
 ⟨true,2,32,true,[(0,1),(1,1)],[.int .i64 0,.aG],false,false,0,9,0,[3,122],none,false,0,[]⟩,
 ⟨true,1,8,false,[],[.aK],false,false,0,7,0,[],none,false,0,[]⟩,
 ⟨true,1,8,false,[],[.aK],false,false,0,7,0,[],none,false,0,[]⟩,
 ⟨true,1,8,false,[],[.aK],false,false,0,7,0,[],none,false,0,[]⟩,
 ⟨true,1,8,false,[],[.int .u64 0],false,false,0,2,0,[],some IntKind.u64,false,0,[]⟩,
 ⟨true,1,8,false,[],[.aK],false,false,0,7,0,[],none,false,0,[]⟩,
 ⟨false,1,0,false,[],[],false,false,0,0,0,[],none,false,0,[]⟩,
 ⟨true,1,8,false,[],[.aK],false,false,0,7,0,[],none,false,0,[]⟩,
 ⟨true,1,8,false,[],[.iz],false,false,3,6,3,[],none,false,0,[]⟩,
 ⟨true,1,8,false,[],[.aK],false,false,0,7,0,[],none,false,0,[]⟩,
 ⟨true,1,8,false,[],[.aK],false,false,0,7,0,[],none,false,0,[]⟩,
 ⟨true,1,8,false,[],[.aK],false,false,0,7,0,[],none,false,0,[]⟩,
 ⟨true,1,24,false,[],[.aG],true,false,175,4,0,[],none,false,0,[]⟩,
 ⟨false,1,0,false,[],[],false,false,0,0,0,[],none,false,0,[]⟩,
 ⟨true,1,8,false,[],[.aK],false,false,0,7,0,[],none,false,0,[]⟩,
 ⟨true,4,40,true,[(0,1),(1,1),(2,1),(3,1)],[.int .i64 0,.str ⟨#[]⟩,.int .i64 0,.int .i64 0],false,false,0,9,0,[3,9,3,3],none,false,0,[2,3,2,2]⟩,
 ⟨true,4,40,true,[(0,1),(1,1),(2,1),(3,1)],[.int .i64 0,.str ⟨#[]⟩,.int .i64 0,.int .i64 0],false,false,0,9,0,[3,9,3,3],none,false,0,[2,3,2,2]⟩,
 ⟨true,1,8,false,[],[.aK],false,false,0,7,0,[],none,false,0,[]⟩,
 ⟨true,2,16,true,[(0,1),(1,1)],[.int .i64 0,.int .i64 0],false,false,0,9,0,[3,3],none,true,0,[2,2]⟩,
 ⟨true,2,16,true,[(0,1),(1,1)],[.int .i64 0,.int .i64 0],false,false,0,9,0,[3,3],none,true,0,[2,2]⟩,
 ⟨true,1,24,false,[],[.aG],true,false,182,4,0,[],none,false,0,[]⟩,
 ⟨false,1,0,false,[],[],false,false,0,0,0,[],none,false,0,[]⟩,
 ⟨true,1,8,false,[],[.aK],false,false,0,7,0,[],none,false,0,[]⟩,
 ⟨true,4,40,true,[(0,1),(1,1),(2,1),(3,1)],[.int .i64 0,.str ⟨#[]⟩,.int .i64 0,.int .i64 0],false,false,0,9,0,[3,9,3,3],none,false,0,[2,3,2,2]⟩,
 ⟨true,1,8,false,[],[.iz],false,false,4,6,9,[],none,false,0,[]⟩,
 ⟨true,1,8,false,[],[.aK],false,false,0,7,0,[],none,false,0,[]⟩,
 ⟨true,1,8,false,[],[.aK],false,false,0,7,0,[],none,false,0,[]⟩,
 ⟨true,1,8,false,[],[.aK],false,false,0,7,0,[],none,false,0,[]⟩,
 ⟨false,1,0,false,[],[],false,false,0,0,0,[],none,false,0,[]⟩,
 ⟨true,1,8,false,[],[.aK],false,false,0,7,0,[],none,false,0,[]⟩,
 ⟨true,1,8,false,[],[.aK],false,false,0,7,0,[],none,false,0,[]⟩,
 ⟨true,1,8,false,[],[.aK],false,false,0,7,0,[],none,false,0,[]⟩,
 ⟨true,1,8,false,[],[.aK],false,false,0,7,0,[],none,false,0,[]⟩,
 ⟨true,1,8,false,[],[.aK],false,false,0,7,0,[],none,false,0,[]⟩,
 ⟨true,1,8,false,[],[.aK],false,false,0,7,0,[],none,false,0,[]⟩,
 ⟨true,1,8,false,[],[.aK],false,false,0,7,0,[],none,false,0,[]⟩,
 ⟨true,1,8,false,[],[.aK],false,false,0,7,0,[],none,false,0,[]⟩,
 ⟨true,1,8,false,[],[.aK],false,false,0,7,0,[],none,false,0,[]⟩,
 ⟨true,1,8,false,[],[.aK],false,false,0,7,0,[],none,false,0,[]⟩,
 ⟨true,1,8,false,[],[.aK],false,false,0,7,0,[],none,false,0,[]⟩,
 ⟨true,1,8,false,[],[.aK],false,false,0,7,0,[],none,false,0,[]⟩,
 ⟨true,1,8,false,[],[.aK],false,false,0,7,0,[],none,false,0,[]⟩,
 ⟨true,1,8,false,[],[.aK],false,false,0,7,0,[],none,false,0,[]⟩,
 ⟨true,1,8,false,[],[.aK],false,false,0,7,0,[],none,false,0,[]⟩,
 ⟨true,1,8,false,[],[.aK],false,false,0,7,0,[],none,false,0,[]⟩,
 ⟨false,1,0,false,[],[],false,false,0,0,0,[],none,false,0,[]⟩,
 ⟨true,1,8,false,[],[.aK],false,false,0,7,0,[],none,false,0,[]⟩,
 ⟨true,1,8,false,[],[.aK],false,false,0,7,0,[],none,false,0,[]⟩,
 ⟨true,1,8,false,[],[.aK],false,false,0,7,0,[],none,false,0,[]⟩,
 ⟨true,1,8,false,[],[.aK],false,false,0,7,0,[],none,false,0,[]⟩,
 ⟨true,1,8,false,[],[.aK],false,false,0,7,0,[],none,false,0,[]⟩,
 ⟨true,128,128,true,[],[.int .u8 0,.int .u8 0,.int .u8 0,.int .u8 0,.int .u8 0,.int .u8 0,.int .u8 0,.int .u8 0,.int .u8 0,.int .u8 0,.int .u8 0,.int .u8 0,.int .u8 0,.int .u8 0,.int .u8 0,.int .u8 0,.int .u8 0,.int .u8 0,.int .u8 0,.int .u8 0,.int .u8 0,.int .u8 0,.int .u8 0,.int .u8 0,.int .u8 0,.int .u8 0,.int .u8 0,.int .u8 0,.int .u8 0,.int .u8 0,.int .u8 0,.int .u8 0,.int .u8 0,.int .u8 0,.int .u8 0,.int .u8 0,.int .u8 0,.int .u8 0,.int .u8 0,.int .u8 0,.int .u8 0,.int .u8 0,.int .u8 0,.int .u8 0,.int .u8 0,.int .u8 0,.int .u8 0,.int .u8 0,.int .u8 0,.int .u8 0,.int .u8 0,.int .u8 0,.int .u8 0,.int .u8 0,.int .u8 0,.int .u8 0,.int .u8 0,.int .u8 0,.int .u8 0,.int .u8 0,.int .u8 0,.int .u8 0,.int .u8 0,.int .u8 0,.int .u8 0,.int .u8 0,.int .u8 0,.int .u8 0,.int .u8 0,.int .u8 0,.int .u8 0,.int .u8 0,.int .u8 0,.int .u8 0,.int .u8 0,.int .u8 0,.int .u8 0,.int .u8 0,.int .u8 0,.int .u8 0,.int .u8 0,.int .u8 0,.int .u8 0,.int .u8 0,.int .u8 0,.int .u8 0,.int .u8 0,.int .u8 0,.int .u8 0,.int .u8 0,.int .u8 0,.int .u8 0,.int .u8 0,.int .u8 0,.int .u8 0,.int .u8 0,.int .u8 0,.int .u8 0,.int .u8 0,.int .u8 0,.int .u8 0,.int .u8 0,.int .u8 0,.int .u8 0,.int .u8 0,.int .u8 0,.int .u8 0,.int .u8 0,.int .u8 0,.int .u8 0,.int .u8 0,.int .u8 0,.int .u8 0,.int .u8 0,.int .u8 0,.int .u8 0,.int .u8 0,.int .u8 0,.int .u8 0,.int .u8 0,.int .u8 0,.int .u8 0,.int .u8 0,.int .u8 0,.int .u8 0,.int .u8 0,.int .u8 0,.int .u8 0],false,false,5,10,0,[],none,false,128,[]⟩,
 ⟨true,1,8,false,[],[.aK],false,false,0,7,0,[],none,false,0,[]⟩,
 ⟨true,4,40,true,[(0,1),(1,1),(2,1),(3,1)],[.di,.di,.di,.str ⟨#[]⟩],false,false,0,9,0,[17,17,17,9],none,false,0,[]⟩,
 ⟨true,4,40,true,[(0,1),(1,1),(2,1),(3,1)],[.di,.di,.di,.str ⟨#[]⟩],false,false,0,9,0,[17,17,17,9],none,false,0,[]⟩,
 ⟨true,0,0,true,[],[],false,false,16,10,0,[],none,false,0,[]⟩,
 ⟨true,0,0,true,[(0,0)],[],false,false,0,9,0,[214],none,false,0,[]⟩,
 ⟨true,0,0,true,[(0,0)],[],false,false,0,9,0,[214],none,false,0,[]⟩,
 ⟨true,1,4,false,[],[.int .u32 0],false,false,0,2,0,[],some IntKind.u32,false,0,[]⟩,
 ⟨true,1,1,false,[],[.int .u8 0],false,false,0,2,0,[],some IntKind.u8,false,0,[]⟩,
 ⟨true,1,1,false,[],[.int .u8 0],false,false,0,2,0,[],some IntKind.u8,false,0,[]⟩,
 ⟨true,1,8,false,[],[.aK],false,false,0,7,0,[],none,false,0,[]⟩,
 ⟨true,1,8,false,[],[.di],false,false,0,5,0,[],none,false,0,[]⟩,
 ⟨true,1,4,false,[],[.int .i32 0],false,false,0,2,0,[],some IntKind.i32,false,0,[]⟩,
 ⟨true,1,4,false,[],[.int .i32 0],false,false,0,2,0,[],some IntKind.i32,false,0,[]⟩,
 ⟨true,11,48,true,[(0,1),(1,1),(2,1),(3,1),(4,1),(5,1),(6,1),(7,1),(8,1),(9,1),(10,1)],[.int .u64 0,.int .u64 0,.int .u32 0,.int .u8 0,.int .u8 0,.int .u8 0,.int .u8 0,.aK,.di,.int .i32 0,.int .i32 0],false,false,0,9,0,[12,12,217,218,5,5,219,220,221,222,223],none,false,0,[]⟩,
 ⟨true,11,48,true,[(0,1),(1,1),(2,1),(3,1),(4,1),(5,1),(6,1),(7,1),(8,1),(9,1),(10,1)],[.int .u64 0,.int .u64 0,.int .u32 0,.int .u8 0,.int .u8 0,.int .u8 0,.int .u8 0,.aK,.di,.int .i32 0,.int .i32 0],false,false,0,9,0,[12,12,217,218,5,5,219,220,221,222,223],none,false,0,[]⟩,
 ⟨true,3,24,true,[(0,1),(1,1),(2,1)],[.int .i64 0,.int .i64 0,.int .i64 0],false,false,0,9,0,[3,3,3],none,false,0,[2,2,2]⟩,
 ⟨true,3,24,true,[(0,1),(1,1),(2,1)],[.int .i64 0,.int .i64 0,.int .i64 0],false,false,0,9,0,[3,3,3],none,false,0,[2,2,2]⟩,
 ⟨true,1,8,false,[],[.di],false,false,0,0,0,[],none,false,0,[]⟩]
theorem Mr (f:Nat→TI) (l:List Nat) (t:Nat):nth (l.map f) t=match l[t]? with | some i=>f i | none=>TI.no:=by
 induction l generalizing t with
 | nil=>cases t <;> rfl
 | cons x r ih=>cases t with
  | zero=>rfl
  | succ t=>simpa [nth] using ih t
theorem PJ:(List.range 229).map (TI.of Tryz.prog)=tab:=by kernel_rfl
theorem aO:ec Tryz.prog tab:=by
 intro t h
 rw [←PJ,Mr] at h ⊢
 by_cases ht:t<229
 ·rw [List.getElem?_range ht]
 ·rw [List.getElem?_eq_none (by simp; omega)] at h; cases h
theorem mixed:Tryz.prog.follows .mixedOrders=true:=Checked.mixed Tryz.checked
end Go.Proofs.YtpbdohkbiklflaaGreatDoor
namespace Go.Proofs.YtpbdohkbiklflaaGreatDoor
open Go.TM
def yd:List Nat:=[0,0,0,0,0,0,0,0,0,1,1,0,0,0,0,0,0,0,0,0,0,0,0,0,0,0,0,0,0,0,0,0,1,0,0,2,0,0,0,0,7,7,0,7,7,6,7,0,4,4,4,4,4,4,4,4,4,4,7,7,7,7,7,0,0,0,0,0,0,0,0,0,0,0,0,0,0,0,0,0,0,0,0,0,0,0,0,0,0,0,0,0,0,0,0,5,0,3,3,3,3,3,3,3,3,3,3,3,3,3,3,3,3,3,3,3,3,3,3,3,3,3,3,7,0,7,0,0]
class cZ where
 ty:TypeId
 fr:Nat × Nat
def Hp:Array Value:=(yd.map fun n=>Value.int .u8 (n:Nat)).toArray
def J9 [cZ]:Nat→Option Obj:=fun i=>bif Nat.beq i 0 then some (.cells Hp cZ.ty cZ.fr) else none
def UI:Nat→Option DV:=fun i=>bif Nat.beq i 0 then some (.agg (yd.map fun n=>DV.int .u8 (n:Nat))) else none
theorem Xs [cZ]:∀i x,UI i=some x→∀M:Mem,(∀j o,J9 j=some o→M j=some o)→bj M (.at x 0) (.pointer (some ⟨i,0,none⟩)):=by
 intro i x h M hM
 unfold UI at h
 cases hb:Nat.beq i 0 with
 | false=>rw [hb] at h; cases h
 | true =>
  rw [hb] at h
  have hi:=Nat.eq_of_beq_eq_true hb
  injection h with h; subst h
  have hm:=hM i (.cells Hp cZ.ty cZ.fr) (by unfold J9; rw [hb]; rfl)
  have ha:∀j,(⟨i,0,none⟩:Addr).add j=⟨i,j,none⟩:=fun j=>by unfold Addr.add; split <;> simp [*]
  have:=bj.at (M:=M) (.agg (yd.map fun n=>DV.int .u8 (n:Nat))) 0 ⟨i,0,none⟩ (fun j=>.int .u8 ((yd.getD j 0:Nat):Int)) (fun d hd=>by
    simp only [DV.cells,List.mem_map] at hd
    obtain ⟨n,_,rfl⟩:=hd
    rfl) (fun j hj=>by
    rw [ha]
    simp only [DV.cells,List.length_map] at hj
    simp [Mem.cell?,hm,Hp,hj]) (fun j d hd=>by
    simp only [DV.cells,List.getElem?_map] at hd
    cases hj:yd[j]? with
    | none=>rw [hj] at hd; cases hd
    | some n =>
     rw [hj] at hd
     simp only [Option.map_some,Option.some.injEq] at hd
     subst hd
     simp only [List.getD,hj,Option.getD_some]
     exact .int .u8 _)
  rw [ha] at this
  exact this
instance V8 [cZ]:ct where
 obj:=J9
 dv:=UI
 ok:=Xs
abbrev I (n:Int):DV:=.int .i64 n
abbrev B (b:Bool):DV:=.bool b
abbrev gD (l:List Int):DV:=.sl 1 (l.map I)
theorem aB {a b:Int} {k:IntKind} (h:a=b):(DV.int k a).Le (.int k b):=h ▸ DV.Le.refl _
abbrev rf {d:DV}:d.Le d:=DV.Le.refl d
theorem vU:∀(g:Nat) (fn:Func),Tryz.prog.funcs[g]?=some fn→(fn.name == "runtime.NumGoroutine")=false:=by
 have h:(Tryz.prog.funcs.all fun fn=>!(fn.name == "runtime.NumGoroutine"))=true:=by kernel_rfl
 intro g fn hg
 rw [Array.all_eq_true'] at h
 have:=h fn (Array.mem_of_getElem? hg)
 simpa using this
variable [cZ]
def AM (n:Int):Prop:=-9223372036854775808≤n∧n≤9223372036854775807
theorem tS {α:Type} {e:α→DV} (h:∀x,sG (e x)=e x) (l:List α):Ho (l.map e)=l.map e:=by
 rw [vJ,List.map_map]
 exact List.map_congr_left fun x _=>h x
theorem ay {b:Bool} (h:b=true):bw b true=true:=by subst h; rfl
theorem cx {b:Bool} (h:b=false):bw b false=true:=by subst h; rfl
theorem aQ {a b:Bool} (h:a=true) (h2:b=true):(a && bw b true)=true:=by subst h; subst h2; rfl
theorem BZ {a b:Bool} (h:(bif a then b else false)=true):a=true∧b=true:=by cases a <;> simp_all
theorem B0 {a b:Bool} (h:(bif a then b else false)=false):¬ (a=true∧b=true):=by cases a <;> simp_all
def ez:ByteArray:=⟨⟨[105,114,111,110]⟩⟩
def vV (n:ByteArray):List DV:=[.agg [.str n,B false,B false,B false,I 0,I 0,I 0],
 .agg [.str ⟨⟨[103,111,108,100]⟩⟩,B false,B false,B true,I 0,I 0,I 0],
 .agg [.str ⟨⟨[119,111,111,100]⟩⟩,B false,B false,B false,I 0,I 0,I 0],
 .agg [.str ⟨⟨[103,101,109]⟩⟩,B false,B false,B true,I 0,I 0,I 0]]
def z5 (n:ByteArray):DV:=.agg [.sl 7 (vV n),.aG,.aG,.aG]
def Ei (_:Nat):Bool:=true
end Go.Proofs.YtpbdohkbiklflaaGreatDoor
namespace Go.Proofs.YtpbdohkbiklflaaGreatDoor
open Go.TM
variable [cZ]
abbrev Rk:=Int × Int
def eR (x:Rk):DV:=.agg [I x.1,I x.2]
def km (a b:Rk):Bool:=decide (b.2<a.2) || (a.2 == b.2 && decide (a.1<b.1))
theorem B1 (a b:Rk):cP Tryz.prog 33 [eR a,eR b] [B (km a b)]:=by
 refine bI aO mixed (aq _) (ar _) Tryz.func33 rfl (by kernel_rfl) rfl ?_
 repeat first | refine ⟨id,?_⟩ | refine ⟨fun _ h=>cx h,?_⟩ | refine ⟨fun _ h=>ay h,?_⟩ | refine ⟨fun h=>⟨h,fun h2=>aQ h h2⟩,?_⟩ | refine ⟨fun h=>⟨h,fun h2=>aF h h2⟩,?_⟩
 refine ⟨DV.Le.of_eq ?_,tv⟩
 unfold km
 cases decide (b.2<a.2) <;> cases (a.2 == b.2) <;> rfl
def Xt:Bool→List Rk→DV
 | true,_=>.aG
 | false,[]=>.ax 1 []
 | false,l=>.ax 1 [.ax 2 (l.map eR)]
def dX (f:Bool) (l:List Rk):DV:=.cQ (.agg [.fn 33 [],Xt f l])
theorem Ms (x r:Rk) (l:List Rk):bl Tryz.prog 136 [.dv (I 0),.ptr 1 0,.ptr 2 0] 3
  [(0,.tree 0 0 (dX false (r::l))),(1,.cells [.own 0 0 0 []]),(2,.cells [.dv (I x.1),.dv (I x.2)])] 0 [.dv (B (km x r))]
  [(0,.tree 0 0 (dX false (r::l))),(1,.cells [.own 0 0 0 []]),(2,.cells [.dv (I x.1),.dv (I x.2)])]:=by
 refine bn aO mixed (aq _) (ar _) Tryz.func136 rfl rfl (by kernel_rfl) ?_
 refine ⟨fun _=>⟨by omega,by simp⟩,.ax 2 ((r::l).map eR),fun _=>rfl,?_⟩
 refine ⟨.ax 2 ((r::l).map eR),fun _=>rfl,?_⟩
 refine ⟨fun _=>⟨by omega,by simp⟩,?_⟩
 refine ⟨.ax 2 ((r::l).map eR),fun _=>rfl,?_⟩
 refine ⟨eR r,fun _=>rfl,?_⟩
 refine .inl ⟨_,fun _=>(B1 x r).ok,?_⟩
 refine .inl ⟨by kernel_rfl,?_⟩
 exact ⟨_,_,⟨rfl,rfl⟩,by kernel_rfl,⟨rf,tv⟩,⟨rfl,rfl⟩,⟨rfl,tv⟩,⟨rf,rf,tv⟩,tv⟩
theorem Mt (x y:Rk) (l:List Rk) (i:Nat) (hi:l[i]?=some y):bl Tryz.prog 137 [.dv (I i),.ptr 1 0,.ptr 3 0,.ptr 2 0] 4
  [(0,.tree 0 0 (dX false l)),(1,.cells [.own 0 0 0 []]),(2,.cells [.dv (I x.1),.dv (I x.2)]),(3,.cells [.own 0 0 0 [.el 0 1,.el 0 0]])] 0 [.dv (B (!km y x))]
  [(0,.tree 0 0 (dX false l)),(1,.cells [.own 0 0 0 []]),(2,.cells [.dv (I x.1),.dv (I x.2)]),(3,.cells [.own 0 0 0 [.el 0 1,.el 0 0]])]:=by
 obtain ⟨r,l',rfl⟩:∃r l',l=r::l':=by
  cases l with
  | nil=>simp at hi
  | cons r l'=>exact ⟨r,l',rfl⟩
 have aJ:i<(r::l').length:=(List.getElem?_eq_some_iff.1 hi).1
 refine bn aO mixed (aq _) (ar _) Tryz.func137 rfl rfl (by kernel_rfl) ?_
 refine ⟨.ax 2 ((r::l').map eR),fun _=>rfl,?_⟩
 refine ⟨fun _=>⟨by omega,by simp at aJ ⊢; omega⟩,?_⟩
 refine ⟨.ax 2 ((r::l').map eR),fun _=>rfl,?_⟩
 refine ⟨eR y,fun _=>by rw [List.getElem?_map,Int.toNat_natCast,hi]; rfl,?_⟩
 refine .inl ⟨_,fun _=>(B1 y x).ok,?_⟩
 exact ⟨by kernel_rfl,_,_,⟨rfl,rfl⟩,by kernel_rfl,⟨rf,tv⟩,⟨rfl,rfl⟩,⟨rfl,tv⟩,⟨rf,rf,tv⟩,⟨rfl,tv⟩,tv⟩
abbrev kP (x:Rk) (l:List Rk):ah:=[(0,.tree 0 0 (dX false l)),(1,.cells [.own 0 0 0 []]),(2,.cells [.dv (I x.1),.dv (I x.2)]),(3,.cells [.own 0 0 0 [.el 0 1,.el 0 0]])]
structure Tl where
 i:Nat
 j:Nat
theorem lH {i j:Nat} (h:i+j≤4000):IntKind.i64.wrap (IntKind.u64.wrap ((i:Int)+(j:Int)) / 2 ^ min (Int.toNat 1) IntKind.u64.bits)=(((i+j) / 2:Nat):Int):=by
 have e:min (Int.toNat 1) IntKind.u64.bits=1:=rfl
 rw [e,IntKind.wrap_u64,IntKind.wrap_i64]
 omega
def Ka (f:Nat) (bo:List AV) (m:Nat) (K:ah) (q:Tl):br:=⟨m,[(1,.fn f bo),(5,.dv (I q.i)),(6,.dv (I q.j))],K⟩
theorem z7 (x:Rk) (l:List Rk) (k:Nat) (hk:k≤l.length) (hl:l.length≤1000) (h1:∀i y,i<k→l[i]?=some y→km y x=true) (h2:∀i y,k≤i→l[i]?=some y→km y x=false) :
  bl Tryz.prog 40 [.dv (I l.length),.fn 137 [.ptr 1 0,.ptr 3 0,.ptr 2 0]] 4 (kP x l) 0 [.dv (I k)] (kP x l):=by
 refine bn aO mixed (aq _) (ar _) Tryz.func40 rfl rfl (by kernel_rfl) ?_
 refine ⟨Tl,Ka 137 [.ptr 1 0,.ptr 3 0,.ptr 2 0] 4 (kP x l),fun q=>q.i≤k∧k≤q.j∧q.j≤l.length,fun q=>q.j - q.i,⟨0,l.length⟩,fun _=>rfl,⟨⟨⟨rfl,rfl,rfl,rfl,tv⟩,rf,rf,tv⟩,⟨⟨rfl,rfl⟩,⟨rfl,tv⟩,⟨rf,rf,tv⟩,⟨rfl,tv⟩,tv⟩,rfl,rfl⟩,⟨Nat.zero_le _,hk,Nat.le_refl _⟩,?_⟩
 rintro q ⟨p1,p2,p3⟩
 refine ⟨fun aJ=>?_,fun du=>?_⟩
 ·have aJ:q.i<q.j:=by have:=of_decide_eq_true aJ; simp only [Int.ofNat_lt] at this; exact this
  refine ⟨fun _=>⟨by omega,by omega⟩,?_⟩
  refine ⟨fun _=>by omega,?_⟩
  have hlen:(q.i+q.j) / 2<l.length:=by omega
  refine .inr ⟨[0,1,2,3],[.dv (I ((q.i+q.j) / 2:Nat)),.ptr 1 0,.ptr 3 0,.ptr 2 0],kP x l,0,_,_,Mt x l[(q.i+q.j) / 2] l ((q.i+q.j) / 2) (List.getElem?_eq_getElem hlen),by kernel_rfl,by kernel_rfl,⟨?_,rfl,rfl,rfl,tv⟩,⟨⟨rfl,rfl⟩,⟨rfl,tv⟩,⟨rf,rf,tv⟩,⟨rfl,tv⟩,tv⟩,?_⟩
  ·rw [lH (by omega)]; exact rf
  ·refine ⟨fun hb=>?_,fun hb=>?_⟩
   ·have cM:km l[(q.i+q.j) / 2] x=true:=by simpa using hb
    have PK:(q.i+q.j) / 2<k:=by
     rcases Nat.lt_or_ge ((q.i+q.j) / 2) k with h | h
     ·exact h
     ·have:=h2 _ _ h (List.getElem?_eq_getElem hlen); rw [cM] at this; cases this
    rw [lH (by omega)]
    refine ⟨fun _=>⟨by omega,by omega⟩,?_⟩
    exact ⟨⟨(q.i+q.j) / 2+1,q.j⟩,⟨⟨⟨rfl,rfl,rfl,rfl,tv⟩,aB (by simp),rf,tv⟩,⟨⟨rfl,rfl⟩,⟨rfl,tv⟩,⟨rf,rf,tv⟩,⟨rfl,tv⟩,tv⟩,rfl,rfl⟩,⟨PK,p2,p3⟩,by simp only; omega⟩
   ·have cM:km l[(q.i+q.j) / 2] x=false:=by simpa using hb
    have PL:k≤(q.i+q.j) / 2:=by
     rcases Nat.lt_or_ge ((q.i+q.j) / 2) k with h | h
     ·have:=h1 _ _ h (List.getElem?_eq_getElem hlen); rw [cM] at this; cases this
     ·exact h
    rw [lH (by omega)]
    exact ⟨⟨q.i,(q.i+q.j) / 2⟩,⟨⟨⟨rfl,rfl,rfl,rfl,tv⟩,rf,rf,tv⟩,⟨⟨rfl,rfl⟩,⟨rfl,tv⟩,⟨rf,rf,tv⟩,⟨rfl,tv⟩,tv⟩,rfl,rfl⟩,⟨p1,PL,by simp only; omega⟩,by simp only; omega⟩
 ·have du:q.i=q.j:=by have:=of_decide_eq_false du; omega
  have ye:q.i=k:=by omega
  exact ⟨_,_,⟨rfl,rfl⟩,by kernel_rfl,⟨aB (by rw [ye]),tv⟩,⟨rfl,rfl⟩,⟨rfl,tv⟩,⟨rf,rf,tv⟩,⟨rfl,tv⟩,tv⟩
theorem z8 (x r:Rk) (l:List Rk):bl Tryz.prog 40 [.dv (I 1),.fn 136 [.ptr 1 0,.ptr 2 0]] 3
  [(0,.tree 0 0 (dX false (r::l))),(1,.cells [.own 0 0 0 []]),(2,.cells [.dv (I x.1),.dv (I x.2)])] 0 [.dv (I (if km x r then 0 else 1))]
  [(0,.tree 0 0 (dX false (r::l))),(1,.cells [.own 0 0 0 []]),(2,.cells [.dv (I x.1),.dv (I x.2)])]:=by
 refine bn aO mixed (aq _) (ar _) Tryz.func40 rfl rfl (by kernel_rfl) ?_
 refine ⟨Tl,Ka 136 [.ptr 1 0,.ptr 2 0] 3 [(0,.tree 0 0 (dX false (r::l))),(1,.cells [.own 0 0 0 []]),(2,.cells [.dv (I x.1),.dv (I x.2)])],fun q=>(q.i=0∧q.j=1) ∨ (q.i=q.j∧q.i=if km x r then 0 else 1),fun q=>q.j - q.i,⟨0,1⟩,fun _=>rfl,⟨⟨⟨rfl,rfl,rfl,tv⟩,rf,rf,tv⟩,⟨⟨rfl,rfl⟩,⟨rfl,tv⟩,⟨rf,rf,tv⟩,tv⟩,rfl,rfl⟩,.inl ⟨rfl,rfl⟩,?_⟩
 rintro q hp
 refine ⟨fun aJ=>?_,fun du=>?_⟩
 ·have aJ:q.i<q.j:=by have:=of_decide_eq_true aJ; simp only [Int.ofNat_lt] at this; exact this
  obtain ⟨q0,q1⟩:q.i=0∧q.j=1:=by rcases hp with h | h; exact h; omega
  refine ⟨fun _=>⟨by omega,by omega⟩,?_⟩
  refine ⟨fun _=>by omega,?_⟩
  refine .inr ⟨[0,1,2],[.dv (I 0),.ptr 1 0,.ptr 2 0],_,0,_,_,Ms x r l,by kernel_rfl,by kernel_rfl,⟨?_,rfl,rfl,tv⟩,⟨⟨rfl,rfl⟩,⟨rfl,tv⟩,⟨rf,rf,tv⟩,tv⟩,?_⟩
  ·rw [lH (by omega),q0,q1]; exact rf
  ·refine ⟨fun hb=>?_,fun hb=>?_⟩
   ·have cM:km x r=false:=by simpa using hb
    rw [lH (by omega)]
    refine ⟨fun _=>⟨by omega,by omega⟩,?_⟩
    exact ⟨⟨1,1⟩,⟨⟨⟨rfl,rfl,rfl,tv⟩,aB (by rw [q0,q1]; rfl),aB (by rw [q1]),tv⟩,⟨⟨rfl,rfl⟩,⟨rfl,tv⟩,⟨rf,rf,tv⟩,tv⟩,rfl,rfl⟩,.inr ⟨rfl,by rw [cM]; rfl⟩,by simp only; omega⟩
   ·have cM:km x r=true:=by simpa using hb
    rw [lH (by omega)]
    exact ⟨⟨0,0⟩,⟨⟨⟨rfl,rfl,rfl,tv⟩,aB (by rw [q0]),aB (by rw [q0,q1]),tv⟩,⟨⟨rfl,rfl⟩,⟨rfl,tv⟩,⟨rf,rf,tv⟩,tv⟩,rfl,rfl⟩,.inr ⟨rfl,by rw [cM]; rfl⟩,by simp only; omega⟩
 ·have du:¬ q.i<q.j:=by have:=of_decide_eq_false du; omega
  have ye:(q.i:Int)=(if km x r then 0 else 1):=by
   rcases hp with h | h
   ·omega
   ·rw [h.2]; split <;> rfl
  exact ⟨_,_,⟨rfl,rfl⟩,by kernel_rfl,⟨aB ye,tv⟩,⟨rfl,rfl⟩,⟨rfl,tv⟩,⟨rf,rf,tv⟩,tv⟩
abbrev kM (f:Bool) (l:List Rk):ah:=[(0,.tree 0 0 (dX f l))]
theorem Aa (f:Bool) (x:Rk):bl Tryz.prog 40 [.dv (I 0),.fn 136 [.ptr 1 0,.ptr 2 0]] 3
  [(0,.tree 0 0 (dX f [])),(1,.cells [.own 0 0 0 []]),(2,.cells [.dv (I x.1),.dv (I x.2)])] 0 [.dv (I 0)]
  [(0,.tree 0 0 (dX f [])),(1,.cells [.own 0 0 0 []]),(2,.cells [.dv (I x.1),.dv (I x.2)])]:=by
 refine bn aO mixed (aq _) (ar _) Tryz.func40 rfl rfl (by kernel_rfl) ?_
 refine ⟨Unit,fun _=>⟨3,[(5,.dv (I 0)),(6,.dv (I 0))],[(0,.tree 0 0 (dX f [])),(1,.cells [.own 0 0 0 []]),(2,.cells [.dv (I x.1),.dv (I x.2)])]⟩,fun _=>True,fun _=>0,(),fun _=>rfl,⟨⟨rf,rf,tv⟩,⟨⟨rfl,rfl⟩,⟨rfl,tv⟩,⟨rf,rf,tv⟩,tv⟩,rfl,rfl⟩,tv,?_⟩
 rintro _ _
 refine ⟨fun h=>by simp at h,fun _=>?_⟩
 exact ⟨_,_,⟨rfl,rfl⟩,by kernel_rfl,⟨rf,tv⟩,⟨rfl,rfl⟩,⟨rfl,tv⟩,⟨rf,rf,tv⟩,tv⟩
theorem s7 (f:Bool) (x:Rk):bl Tryz.prog 126 [.own 0 0 0 [],.agg [.dv (I x.1),.dv (I x.2)]] 1 (kM f []) 0 [.dv (I 0),.dv (I 0)] (kM f []):=by
 cases f
 all_goals
  refine bn aO mixed (aq _) (ar _) Tryz.func126 rfl rfl (by kernel_rfl) ?_
  refine .inr ⟨[0,1,2],[.dv (I 0),.fn 136 [.ptr 1 0,.ptr 2 0]],_,0,_,_,Aa _ x,by kernel_rfl,by kernel_rfl,⟨rf,⟨rfl,rfl,rfl,tv⟩,tv⟩,⟨⟨rfl,rfl⟩,⟨rfl,tv⟩,⟨rf,rf,tv⟩,tv⟩,?_⟩
 all_goals
  refine ⟨fun _=>⟨by omega,by omega⟩,fun _=>?_,fun h=>by simp at h⟩
  exact ⟨_,_,⟨rfl,rfl⟩,by kernel_rfl,⟨rf,rf,tv⟩,⟨rfl,rfl⟩,tv⟩
theorem s8 (x r:Rk) (l:List Rk) (k:Nat) (hk:k≤(r::l).length) (hl:(r::l).length≤1000) (h1:∀i y,i<k→(r::l)[i]?=some y→km y x=true) (h2:∀i y,k≤i→(r::l)[i]?=some y→km y x=false) :
  bl Tryz.prog 126 [.own 0 0 0 [],.agg [.dv (I x.1),.dv (I x.2)]] 1 (kM false (r::l)) 0 [.dv (I 0),.dv (I k)] (kM false (r::l)):=by
 have hs:=z8 x r l
 have Xu:=z7 x (r::l) k hk hl h1 h2
 cases hb:km x r <;> rw [hb] at hs
 all_goals
  refine bn aO mixed (aq _) (ar _) Tryz.func126 rfl rfl (by kernel_rfl) ?_
  refine .inr ⟨[0,1,2],[.dv (I 1),.fn 136 [.ptr 1 0,.ptr 2 0]],_,0,_,_,hs,by kernel_rfl,by kernel_rfl,⟨rf,⟨rfl,rfl,rfl,tv⟩,tv⟩,⟨⟨rfl,rfl⟩,⟨rfl,tv⟩,⟨rf,rf,tv⟩,tv⟩,?_⟩
  refine ⟨fun _=>⟨by decide,by decide⟩,fun h=>by simp at h,fun _=>?_⟩
  refine ⟨fun _=>⟨by decide,by show (0:Int)<1; omega⟩,.ax 2 ((r::l).map eR),fun _=>rfl,?_⟩
  refine ⟨.ax 2 ((r::l).map eR),fun _=>rfl,?_⟩
  refine .inr ⟨[0,1,2,3],[.dv (I (r::l).length),.fn 137 [.ptr 1 0,.ptr 3 0,.ptr 2 0]],_,0,_,_,Xu,by kernel_rfl,by kernel_rfl,⟨aB (by rw [List.length_map]),⟨rfl,rfl,rfl,rfl,tv⟩,tv⟩,⟨⟨rfl,rfl⟩,⟨rfl,tv⟩,⟨rf,rf,tv⟩,⟨rfl,tv⟩,tv⟩,?_⟩
  exact ⟨_,_,⟨rfl,rfl⟩,by kernel_rfl,⟨rf,rf,tv⟩,⟨rfl,rfl⟩,tv⟩
def qC (l:List Rk) (k:Nat) (x:Rk):List Rk:=l.take k++x::l.drop k
def xi (l:List Rk) (k:Nat):List Rk:=l.take k++l.drop (k+1)
theorem Ab (l:List Rk):∀x,x∈l.map eR→x.bC:=by
 intro x hx d hd
 obtain ⟨y,_,rfl⟩:=List.mem_map.1 hx
 simp only [eR,DV.cells,List.mem_cons,List.not_mem_nil,or_false] at hd
 rcases hd with rfl | rfl <;> rfl
end Go.Proofs.YtpbdohkbiklflaaGreatDoor
namespace Go.Proofs.YtpbdohkbiklflaaGreatDoor
open Go.TM Go.RowKit Go.Lib
variable [ct]
def jE (cc:Array Value) (o m:Nat):List Value:=(List.range m).map fun k=>cc.getD (o+k) undef
theorem cW (cc:Array Value) (o m:Nat):(jE cc o m).length=m:=by simp [jE]
theorem eH (cc:Array Value) (o m k:Nat) (hk:k<m) (hs:o+k<cc.size):(jE cc o m)[k]?=cc[o+k]?:=by
 simp [jE,hk,Array.getD_eq_getD_getElem?,hs]
def over (cc:Array Value) (o:Nat) (vs:List Value):Array Value:=(cc.toList.take o++vs++cc.toList.drop (o+vs.length)).toArray
theorem fM (cc:Array Value) (o:Nat) (vs:List Value) (h:o+vs.length≤cc.size):(over cc o vs).size=cc.size:=by
 simp [over]; omega
theorem fp (cc:Array Value) (o:Nat) (vs:List Value) (h:o+vs.length≤cc.size) (k:Nat):(over cc o vs)[k]?=if o≤k∧k<o+vs.length then vs[k - o]? else cc[k]?:=by
 have hl:(cc.toList.take o).length=o:=by simp; omega
 simp only [over,List.getElem?_toArray]
 rw [List.getElem?_append,List.getElem?_append]
 simp only [List.length_append,hl]
 by_cases h1:k<o
 ·rw [if_pos (by omega),if_pos h1,if_neg (by omega),List.getElem?_take,if_pos h1]; simp
 ·by_cases h2:k<o+vs.length
  ·rw [if_pos h2,if_neg h1,if_pos (by omega)]
  ·rw [if_neg h2,if_neg (by omega),List.getElem?_drop,show o+vs.length+(k - (o+vs.length))=k by omega]; simp
theorem kK {P:Program} {ops:Array Oper} {o:Oper} {a:Act} {w:World} {K:Act→World→Prop} {Q:Exit→Act→World→Prop} {E:Prop}
  (hg:o.guard=none) (d x:Operand) (dT sT:TypeId) (Uq:o.op=Op.call { callee:=Callee.builtin Builtin.append,args:=#[d,x],argTypes:=#[dT,sT] })
  (v u:Value) (hd:a.eval d=v) (hx:a.eval x=u) {v':Value} {w':World} (hr:(Builtin.append_ #[dT,sT] o.type #[v,u]).run P w=.ok v' w') (hK:K (a.put o.dst v') w') :
  if Region.wanted o (yielded ops a.tmps)=true then Oper.wp P o a w K Q else E:=by
 have hw:Region.wanted o (yielded ops a.tmps)=true:=by simp [Region.wanted,hg]
 rw [if_pos hw]
 unfold Oper.wp
 simp [execOp,Uq,resolve,invoke,builtin,hd,hx,hr,Result.andThen]
 exact hK
theorem ig {w:World} {b:Nat} {cc:Array Value} {tt:TypeId} (hw:w.heap[b]?=some (.cells cc tt (0,0))) (k:Nat):w.cell? ⟨b,k,none⟩=cc[k]?:=by
 simp [World.cell?,hw]
theorem Xv (a b:Value):(Builtin.zeroCells (Value.agg #[a,b]).cells 1).toList=[a,b]:=by simp [Builtin.zeroCells,Value.cells,List.range,List.range.loop]
theorem Xw (a:Value) (h:a.cells=#[a]):(Builtin.zeroCells a.cells 1).toList=[a]:=by rw [h]; simp [Builtin.zeroCells,List.range,List.range.loop]
theorem oE {P:Program} (w:World) (t e ty:TypeId) (z:Value) (ht:P.underlying t=some (.slice e)) (hv:∀w,(zeroValue e).run P w=.ok z w) (h1:∀v∈z.cells,v.oneCell'=true) (b o c:Nat) (cc:Array Value) (tt:TypeId)
  (hw:w.heap[b]?=some (.cells cc tt (0,0))) (cB:o+z.cells.size≤cc.size) :
  (Builtin.clear_ #[t] ty #[.slice (some ⟨b,o,none⟩) 1 c]).run P w=.ok (.tuple #[]) (w.setRow b (over cc o (Builtin.zeroCells z.cells 1).toList)):=by
 have hl:(Builtin.zeroCells z.cells 1).toList.length=z.cells.size:=by simp [Builtin.zeroCells]
 have aj:=run_storeCells_at P b o tt (Builtin.zeroCells z.cells 1).toList 0 cc w hw (by rw [hl]; simpa using cB) (fun v hv=>by
  simp only [Builtin.zeroCells,Nat.one_mul,Array.toList_map,List.mem_map,Array.toList_range,List.mem_range] at hv
  obtain ⟨k,hk,rfl⟩:=hv
  rw [Nat.mod_eq_of_lt hk,getElem!_pos z.cells k hk]
  exact h1 _ (Array.getElem_mem hk))
 simp only [Nat.add_zero] at aj
 simp only [Builtin.clear_,run_underlying ht,Sem.run_bind,Result.andThen_ok,hv]
 simp [run_underlying ht,hv,aj,over]
theorem run_copy_row {P:Program} (t e ty:TypeId) (ti:TypeInfo) (ht:P.underlying t=some (.slice e)) (hi:P.info? e=some ti) {w:World} {b:Nat} {cc:Array Value} {tt:TypeId} (hw:w.heap[b]?=some (.cells cc tt (0,0)))
  (o PM UJ:Nat) (a:Addr) (tB Hq m:Nat) (Ej:List Value) (hm:Nat.min tB PM=m) (hv:∀j u,Ej[j]?=some u→w.cell? (a.add j)=some u) (hl:Ej.length=m * ti.size) (h1:∀v∈Ej,v.oneCell'=true) (cB:o+Ej.length≤cc.size) :
  (Builtin.copy_ #[t,t] ty #[.slice (some ⟨b,o,none⟩) PM UJ,.slice (some a) tB Hq]).run P w=.ok (goInt m) (w.setRow b (over cc o Ej)):=by
 have hf:=run_firstCells_some (P:=P) w ti.size m a tB Hq Ej hl hv
 have aj:=run_storeCells_at P b o tt Ej 0 cc w hw (by simpa using cB) h1
 simp only [Nat.add_zero] at aj
 have Xx:min tB PM=m:=hm
 simp [Builtin.copy_,run_underlying ht,sizeOf,typeInfo,hi,Builtin.lenOf,Xx,hf,aj,over]
set_option maxHeartbeats 4000000 in
set_option maxRecDepth 100000 in
theorem Ek (b off n c i:Nat) (cc:Array Value) (tt:TypeId) (w:World) (hw:w.heap[b]?=some (.cells cc tt (0,0))) (RZ:n≤c) (hi:i<n) (cB:off+c * 2≤cc.size) (Kb:n<9223372036854775807)
  (h1:∀k v,off≤k→k<off+n * 2→cc[k]?=some v→v.oneCell'=true) :
  Calls Tryz.prog 127 #[.slice (some ⟨b,off,none⟩) n c,.int .i64 (i:Int),.int .i64 ((i:Int)+1)] w fun e w'=>e=.returned (.slice (some ⟨b,off,none⟩) (n - 1) c) ∧
   ∃c':Array Value,w'.heap[b]?=some (.cells c' tt (0,0))∧c'.size=cc.size∧(∀k,k<i * 2→c'[off+k]?=cc[off+k]?)∧(∀k,k<(n - (i+1)) * 2→c'[off+i * 2+k]?=cc[off+(i+1) * 2+k]?)∧w.grownBy w' (some b):=by
 have Da:w.drew.heap[b]?=some (.cells cc tt (0,0)):=hw
 have mixed:=Go.Proofs.YtpbdohkbiklflaaGreatDoor.mixed
 obtain ⟨i0,El,Db,np,Mu⟩:=info_parts (show (Tryz.prog.info? 82).map (fun i=>(i.zero,i.size,i.bytes))=some (some (.agg #[.int .i64 0,.int .i64 0]),2,16) by kernel_rfl)
 obtain ⟨A,hA,gA⟩:∃A:Addr,(if c=i+1 then some (⟨b,off,none⟩:Addr) else some ⟨b,off+(i+1) * 2,none⟩)=some A∧∀j u,(jE cc (off+(i+1) * 2) ((n - (i+1)) * 2))[j]?=some u→w.drew.cell? (A.add j)=some u:=by
  by_cases h:c=i+1
  ·refine ⟨⟨b,off,none⟩,by simp [h],fun t u hu=>?_⟩
   have:(n - (i+1)) * 2=0:=by omega
   rw [this] at hu
   simp [jE] at hu
  ·refine ⟨⟨b,off+(i+1) * 2,none⟩,by simp [h],fun t u hu=>?_⟩
   have ht:t<(n - (i+1)) * 2:=by have:=(List.getElem?_eq_some_iff.1 hu).1; rwa [cW] at this
   rw [eH cc _ _ t ht (by omega)] at hu
   rw [cD,ig Da]; exact hu
 obtain ⟨c1,gw⟩:∃c1,c1=over cc (off+i * 2) (jE cc (off+(i+1) * 2) ((n - (i+1)) * 2)):=⟨_,rfl⟩
 obtain ⟨W1,iU⟩:∃W1,W1=w.drew.setRow b c1:=⟨_,rfl⟩
 have UL:∀ty,(Builtin.append_ #[65,65] ty #[.slice (some ⟨b,off,none⟩) i c,.slice (some A) (n - (i+1)) (c - (i+1))]).run Tryz.prog w.drew=.ok (.slice (some ⟨b,off,none⟩) (i+(n - (i+1))) c) W1:=fun ty=>by
  have hl:=cW cc (off+(i+1) * 2) ((n - (i+1)) * 2)
  have:=gO (P:=Tryz.prog) (w:=w.drew) 65 ty 82 i0 Tryz.underlying65 El b off i c cc tt Da A (n - (i+1)) (c - (i+1)) (jE cc (off+(i+1) * 2) ((n - (i+1)) * 2)) (by rw [np]; exact hl) gA
   (fun u hu=>by
    obtain ⟨k,hk,rfl⟩:=List.getElem_of_mem hu
    have er:k<(n - (i+1)) * 2:=by rwa [hl] at hk
    have h2:=eH cc (off+(i+1) * 2) ((n - (i+1)) * 2) k er (by omega)
    rw [List.getElem?_eq_getElem hk] at h2
    exact h1 (off+(i+1) * 2+k) _ (by omega) (by omega) h2.symm) (by omega) (by rw [np,hl]; omega)
  rw [this,iU,gw,np]
  rfl
 have eT:c1.size=cc.size:=by rw [gw,fM _ _ _ (by rw [cW]; omega)]
 have wQ:W1.heap[b]?=some (.cells c1 tt (0,0)):=by rw [iU]; exact setRow_heap w.drew b cc _ tt _ Da
 obtain ⟨c2,gC⟩:∃c2,c2=over c1 (off+(n - 1) * 2) [.int .i64 0,.int .i64 0]:=⟨_,rfl⟩
 have j7:∀ty cp,(Builtin.clear_ #[65] ty #[.slice (some ⟨b,off+(i+(n - (i+1))) * 2,none⟩) (n - (i+(n - (i+1)))) cp]).run Tryz.prog W1=.ok (.tuple #[]) (W1.setRow b c2):=fun ty cp=>by
  have:=oE (P:=Tryz.prog) W1 65 82 ty (.agg #[.int .i64 0,.int .i64 0]) Tryz.underlying65 (fun w=>by simp [zeroValue,typeInfo,El,Db]) (by simp [Value.cells,Value.oneCell']) b (off+(n - 1) * 2) cp c1 tt wQ (by simp [Value.cells]; omega)
  rw [show i+(n - (i+1))=n - 1 by omega,show n - (n - 1)=1 by omega,this,gC,Xv]
 have Xy:i≤c:=by omega
 have Xz:(0:Int)≤(i:Int)+1:=by omega
 have XA:i+1≤c:=by omega
 have VS:i+1≤n:=by omega
 have B2:(i:Int)≤(n:Int):=by omega
 have Fi:(i:Int)+1≤(n:Int):=by omega
 have PN:Hid (W1=w.drew.setRow b c1):=iU
 have R1:Hid (c1=over cc (off+i * 2) (jE cc (off+(i+1) * 2) ((n - (i+1)) * 2))):=gw
 have R2:Hid (c2=over c1 (off+(n - 1) * 2) [.int .i64 0,.int .i64 0]):=gC
 clear iU gw gC wQ
 go_enter Tryz.func127,Tryz.ntmps127
 go_wp2_with fail
 go_region_law_o (refine kK rfl (.tmp 22) (.tmp 25) 65 65 rfl (.slice (some ⟨b,off,none⟩) i c) (.slice (some A) (n - (i+1)) (c - (i+1))) (by simp [Act.eval,Act.put]) (by simp [Act.eval,Act.put]) (UL _) ?_)
 go_wp2
 go_ret
 have iU:=PN.out
 have gw:=R1.out
 have gC:=R2.out
 have wQ:W1.heap[b]?=some (.cells c1 tt (0,0)):=by rw [iU]; exact setRow_heap w.drew b cc _ tt _ Da
 have PD:(W1.setRow b c2).heap[b]?=some (.cells c2 tt (0,0)):=setRow_heap W1 b c1 _ tt _ wQ
 refine ⟨by rw [show i+(n - (i+1))=n - 1 by omega]; rfl,c2,PD,by rw [gC,fM _ _ _ (by simp; omega),eT],fun k hk=>?_,fun k hk=>?_,⟨by rw [iU]; rfl,by rw [iU]; rfl,by rw [iU]; rfl,by rw [iU]; simp,fun q hq bB=>?_⟩⟩
 ·rw [gC,fp _ _ _ (by simp; omega),if_neg (by simp; omega),gw,fp _ _ _ (by rw [cW]; omega),if_neg (by rw [cW]; omega)]
 ·rw [gC,fp _ _ _ (by simp; omega),if_neg (by simp; omega),gw,fp _ _ _ (by rw [cW]; omega),if_pos (by rw [cW]; omega),show off+i * 2+k - (off+i * 2)=k by omega,eH _ _ _ _ hk (by omega)]
 ·have Kc:q ≠ b:=fun e=>bB (by rw [e])
  rw [setRow_other _ _ _ _ Kc,iU,setRow_other _ _ _ _ Kc]
  rfl
set_option maxHeartbeats 4000000 in
set_option maxRecDepth 100000 in
theorem Em (b off n c i:Nat) (cc:Array Value) (tt:TypeId) (w:World) (hw:w.heap[b]?=some (.cells cc tt (0,0))) (RZ:n≤c) (hi:i<n) (cB:off+c≤cc.size) (Kb:n<9223372036854775807)
  (h1:∀k v,off≤k→k<off+n→cc[k]?=some v→v.oneCell'=true) :
  Calls Tryz.prog 128 #[.slice (some ⟨b,off,none⟩) n c,.int .i64 (i:Int),.int .i64 ((i:Int)+1)] w fun e w'=>e=.returned (.slice (some ⟨b,off,none⟩) (n - 1) c) ∧
   ∃c':Array Value,w'.heap[b]?=some (.cells c' tt (0,0))∧c'.size=cc.size∧(∀k,k<i→c'[off+k]?=cc[off+k]?)∧(∀k,k<(n - (i+1))→c'[off+i+k]?=cc[off+(i+1)+k]?)∧w.grownBy w' (some b):=by
 have Da:w.drew.heap[b]?=some (.cells cc tt (0,0)):=hw
 have mixed:=Go.Proofs.YtpbdohkbiklflaaGreatDoor.mixed
 obtain ⟨i0,El,Db,np,Mu⟩:=info_parts (show (Tryz.prog.info? 65).map (fun i=>(i.zero,i.size,i.bytes))=some (some (.slice none 0 0),1,24) by kernel_rfl)
 obtain ⟨A,hA,gA⟩:∃A:Addr,(if c=i+1 then some (⟨b,off,none⟩:Addr) else some ⟨b,off+(i+1),none⟩)=some A∧∀j u,(jE cc (off+(i+1)) ((n - (i+1))))[j]?=some u→w.drew.cell? (A.add j)=some u:=by
  by_cases h:c=i+1
  ·refine ⟨⟨b,off,none⟩,by simp [h],fun t u hu=>?_⟩
   have:(n - (i+1))=0:=by omega
   rw [this] at hu
   simp [jE] at hu
  ·refine ⟨⟨b,off+(i+1),none⟩,by simp [h],fun t u hu=>?_⟩
   have ht:t<(n - (i+1)):=by have:=(List.getElem?_eq_some_iff.1 hu).1; rwa [cW] at this
   rw [eH cc _ _ t ht (by omega)] at hu
   rw [cD,ig Da]; exact hu
 obtain ⟨c1,gw⟩:∃c1,c1=over cc (off+i) (jE cc (off+(i+1)) ((n - (i+1)))):=⟨_,rfl⟩
 obtain ⟨W1,iU⟩:∃W1,W1=w.drew.setRow b c1:=⟨_,rfl⟩
 have UL:∀ty,(Builtin.append_ #[111,111] ty #[.slice (some ⟨b,off,none⟩) i c,.slice (some A) (n - (i+1)) (c - (i+1))]).run Tryz.prog w.drew=.ok (.slice (some ⟨b,off,none⟩) (i+(n - (i+1))) c) W1:=fun ty=>by
  have hl:=cW cc (off+(i+1)) ((n - (i+1)))
  have:=gO (P:=Tryz.prog) (w:=w.drew) 111 ty 65 i0 Tryz.underlying111 El b off i c cc tt Da A (n - (i+1)) (c - (i+1)) (jE cc (off+(i+1)) ((n - (i+1)))) (by rw [np,Nat.mul_one]; exact hl) gA
   (fun u hu=>by
    obtain ⟨k,hk,rfl⟩:=List.getElem_of_mem hu
    have er:k<(n - (i+1)):=by rwa [hl] at hk
    have h2:=eH cc (off+(i+1)) ((n - (i+1))) k er (by omega)
    rw [List.getElem?_eq_getElem hk] at h2
    exact h1 (off+(i+1)+k) _ (by omega) (by omega) h2.symm) (by omega) (by rw [np,Nat.mul_one,hl]; omega)
  rw [this,iU,gw,np,Nat.mul_one]
  rfl
 have eT:c1.size=cc.size:=by rw [gw,fM _ _ _ (by rw [cW]; omega)]
 have wQ:W1.heap[b]?=some (.cells c1 tt (0,0)):=by rw [iU]; exact setRow_heap w.drew b cc _ tt _ Da
 obtain ⟨c2,gC⟩:∃c2,c2=over c1 (off+(n - 1)) [.slice none 0 0]:=⟨_,rfl⟩
 have j7:∀ty cp,(Builtin.clear_ #[111] ty #[.slice (some ⟨b,off+(i+(n - (i+1))),none⟩) (n - (i+(n - (i+1)))) cp]).run Tryz.prog W1=.ok (.tuple #[]) (W1.setRow b c2):=fun ty cp=>by
  have:=oE (P:=Tryz.prog) W1 111 65 ty (.slice none 0 0) Tryz.underlying111 (fun w=>by simp [zeroValue,typeInfo,El,Db]) (by simp [Value.cells,Value.oneCell']) b (off+(n - 1)) cp c1 tt wQ (by simp [Value.cells]; omega)
  rw [show i+(n - (i+1))=n - 1 by omega,show n - (n - 1)=1 by omega,this,gC,Xw _ rfl]
 have Xy:i≤c:=by omega
 have Xz:(0:Int)≤(i:Int)+1:=by omega
 have XA:i+1≤c:=by omega
 have VS:i+1≤n:=by omega
 have B2:(i:Int)≤(n:Int):=by omega
 have Fi:(i:Int)+1≤(n:Int):=by omega
 have PN:Hid (W1=w.drew.setRow b c1):=iU
 have R1:Hid (c1=over cc (off+i) (jE cc (off+(i+1)) ((n - (i+1))))):=gw
 have R2:Hid (c2=over c1 (off+(n - 1)) [.slice none 0 0]):=gC
 clear iU gw gC wQ
 go_enter Tryz.func128,Tryz.ntmps128
 go_wp2_with fail
 go_region_law_o (refine kK rfl (.tmp 22) (.tmp 25) 111 111 rfl (.slice (some ⟨b,off,none⟩) i c) (.slice (some A) (n - (i+1)) (c - (i+1))) (by simp [Act.eval,Act.put]) (by simp [Act.eval,Act.put]) (UL _) ?_)
 go_wp2
 go_ret
 have iU:=PN.out
 have gw:=R1.out
 have gC:=R2.out
 have wQ:W1.heap[b]?=some (.cells c1 tt (0,0)):=by rw [iU]; exact setRow_heap w.drew b cc _ tt _ Da
 have PD:(W1.setRow b c2).heap[b]?=some (.cells c2 tt (0,0)):=setRow_heap W1 b c1 _ tt _ wQ
 refine ⟨by rw [show i+(n - (i+1))=n - 1 by omega]; rfl,c2,PD,by rw [gC,fM _ _ _ (by simp; omega),eT],fun k hk=>?_,fun k hk=>?_,⟨by rw [iU]; rfl,by rw [iU]; rfl,by rw [iU]; rfl,by rw [iU]; simp,fun q hq bB=>?_⟩⟩
 ·rw [gC,fp _ _ _ (by simp; omega),if_neg (by simp; omega),gw,fp _ _ _ (by rw [cW]; omega),if_neg (by rw [cW]; omega)]
 ·rw [gC,fp _ _ _ (by simp; omega),if_neg (by simp; omega),gw,fp _ _ _ (by rw [cW]; omega),if_pos (by rw [cW]; omega),show off+i+k - (off+i)=k by omega,eH _ _ _ _ hk (by omega)]
 ·have Kc:q ≠ b:=fun e=>bB (by rw [e])
  rw [setRow_other _ _ _ _ Kc,iU,setRow_other _ _ _ _ Kc]
  rfl
end Go.Proofs.YtpbdohkbiklflaaGreatDoor
