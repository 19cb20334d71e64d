import Derived.Test.YtknnpcfhekkjjaaGreatDoorFM16
import Derived.Test.YtknnpcfhekkjjaaGreatDoorProg
import Derived.Test.YtknnpcfhekkjjaaGreatDoorChecked
import Derived.KernelRfl
import Derived.Test.YtknnpcfhekkjjaaGreatDoorFM19
import Derived.Test.YtknnpcfhekkjjaaGreatDoorFM20
import Derived.Test.YtknnpcfhekkjjaaGreatDoorFM21
set_option linter.all false
namespace Go.Proofs.YtknnpcfhekkjjaaGreatDoor
set_option maxRecDepth 100000
set_option maxHeartbeats 2000000
section
open Go.TM
def zS:TI:=⟨false,1,0,false,[],[],false,false,0,0,0,[],none,false,0,[]⟩
def bR:TI:=⟨true,1,8,false,[],[.jw],false,false,0,7,0,[],none,false,0,[]⟩
def ty2:TI:=⟨true,1,8,false,[],[.int .i64 0],false,false,0,2,0,[],some .i64,false,0,[]⟩
def ty3:TI:=⟨true,1,1,false,[],[.int .u8 0],false,false,0,2,0,[],some .u8,false,0,[]⟩
def ty4:TI:=⟨true,4,24,true,[(0,1),(1,1),(2,1),(3,1)],[.int .i64 0,.int .i64 0,.bool false,.int .u8 0],false,false,0,9,0,[2,3,4,6],none,false,0,[2,2,1,2]⟩
def ty5:TI:=⟨true,1,16,false,[],[.str ⟨#[]⟩],false,true,0,3,0,[],none,false,0,[]⟩
def ty6:TI:=⟨true,1,8,false,[],[.int .u64 0],false,false,0,2,0,[],some .u64,false,0,[]⟩
def ty7:TI:=⟨true,2,24,true,[(0,1),(1,1)],[.str ⟨#[]⟩,.int .u64 0],false,false,0,9,0,[9,12],none,false,0,[]⟩
def O3:TI:=⟨true,1,8,false,[],[.eL],false,false,0,5,0,[],none,false,0,[]⟩
def ty9:TI:=⟨true,1,8,true,[(0,1)],[.eL],false,false,0,9,0,[17],none,false,0,[]⟩
def VQ:TI:=⟨true,1,16,false,[],[.ni],false,false,0,8,0,[],none,false,0,[]⟩
def VR:TI:=⟨true,1,4,false,[],[.int .i32 0],false,false,0,2,0,[],some .i32,false,0,[]⟩
def YK:TI:=⟨true,4,96,true,[(0,1),(1,1),(2,1),(3,1)],[.az,.az,.az,.az],false,false,0,9,0,[22,23,24,25],none,false,0,[]⟩
def YL:TI:=⟨true,7,48,true,[(0,1),(1,1),(2,1),(3,1),(4,1),(5,1),(6,1)],[.str ⟨#[]⟩,.bool false,.bool false,.bool false,.int .i64 0,.int .i64 0,.int .i64 0],false,false,0,9,0,[9,4,4,4,3,3,3],none,false,0,[3,1,1,1,2,2,2]⟩
def YM:TI:=⟨true,7,72,true,[(0,1),(1,1),(2,1),(3,1),(4,1),(5,1),(6,1)],[.int .i64 0,.int .i64 0,.int .i64 0,.int .i64 0,.int .i64 0,.int .i64 0,.az],false,false,0,9,0,[3,3,3,3,3,3,44],none,false,0,[]⟩
def YN:TI:=⟨true,5,56,true,[(0,1),(1,1),(2,1),(3,1),(4,1)],[.int .i64 0,.int .i64 0,.int .i64 0,.int .i64 0,.az],false,false,0,9,0,[3,3,3,3,53],none,false,0,[]⟩
def Ls:TI:=⟨true,2,16,true,[(0,1),(1,1)],[.int .i64 0,.int .i64 0],false,false,0,9,0,[3,3],none,true,0,[2,2]⟩
def YO:TI:=⟨true,9,128,true,[(0,1),(1,1),(2,1),(3,1),(4,1),(5,1),(6,1),(7,1),(8,1)],[.str ⟨#[]⟩,.bool false,.int .i64 0,.int .i64 0,.int .i64 0,.int .i64 0,.az,.az,.az],false,false,0,9,0,[9,4,3,3,3,3,58,58,58],none,false,0,[]⟩
def YP:TI:=⟨true,2,32,true,[(0,1),(1,1)],[.int .i64 0,.az],false,false,0,9,0,[3,58],none,false,0,[]⟩
def YQ:TI:=⟨true,2,40,true,[(0,1),(1,1)],[.str ⟨#[]⟩,.az],false,false,0,9,0,[9,65],none,false,0,[]⟩
def YR:TI:=⟨true,2,40,true,[(0,1),(1,1)],[.str ⟨#[]⟩,.az],false,false,0,9,0,[9,70],none,false,0,[]⟩
def YS:TI:=⟨true,11,184,true,[(0,1),(1,4),(5,1),(6,1),(7,1),(8,1),(9,1),(10,1)],[.int .i64 0,.az,.az,.az,.az,.ij,.ij,.az,.az,.ij,.ij],false,false,0,9,0,[3,27,88,89,91,92,90,90],none,false,0,[]⟩
def YT:TI:=⟨true,3,24,true,[(0,1),(1,1),(2,1)],[.int .i64 0,.int .i64 0,.int .i64 0],false,false,0,9,0,[3,3,3],none,false,0,[2,2,2]⟩
def YU:TI:=⟨true,8,176,true,[(0,1),(1,4),(5,1),(6,1),(7,1)],[.int .i64 0,.az,.az,.az,.az,.az,.az,.az],false,false,0,9,0,[3,27,113,92,91],none,false,0,[]⟩
def YV:TI:=⟨true,14,160,true,[(0,1),(1,7),(8,1),(9,1),(10,1),(11,1),(12,1),(13,1)],[.eL,.int .i64 0,.int .i64 0,.int .i64 0,.int .i64 0,.int .i64 0,.int .i64 0,.az,.ij,.ij,.ij,.ij,.az,.az],false,false,0,9,0,[34,46,88,89,90,90,92,40],none,false,0,[]⟩
def VS:TI:=⟨true,4,40,true,[(0,1),(1,1),(2,1),(3,1)],[.int .i64 0,.str ⟨#[]⟩,.int .i64 0,.int .i64 0],false,false,0,9,0,[3,9,3,3],none,false,0,[2,3,2,2]⟩
def YW:TI:=⟨true,11,120,true,[(0,1),(1,1),(2,1),(3,1),(4,1),(5,1),(6,1),(7,1),(8,1),(9,1),(10,1)],[.int .i64 0,.int .i64 0,.int .i64 0,.int .i64 0,.int .i64 0,.int .i64 0,.int .i64 0,.int .i64 0,.int .i64 0,.az,.az],false,false,0,9,0,[3,3,3,3,3,3,3,3,3,53,40],none,false,0,[]⟩
def YX:TI:=⟨true,3,40,true,[(0,1),(1,1),(2,1)],[.int .i64 0,.int .i64 0,.az],false,false,0,9,0,[3,3,53],none,false,0,[]⟩
def YY:TI:=⟨true,4,32,true,[(0,1),(1,1),(2,1),(3,1)],[.jw,.jw,.bool false,.jw],false,false,0,9,0,[153,153,4,194],none,false,0,[]⟩
def YZ:TI:=⟨true,4,40,true,[(0,1),(1,1),(2,1),(3,1)],[.eL,.eL,.eL,.str ⟨#[]⟩],false,false,0,9,0,[17,17,17,9],none,false,0,[]⟩
def Y0:TI:=⟨true,0,0,true,[(0,0)],[],false,false,0,9,0,[294],none,false,0,[]⟩
def Y1:TI:=⟨true,11,48,true,[(0,1),(1,1),(2,1),(3,1),(4,1),(5,1),(6,1),(7,1),(8,1),(9,1),(10,1)],[.int .u64 0,.int .u64 0,.int .u32 0,.int .u8 0,.int .u8 0,.int .u8 0,.int .u8 0,.jw,.eL,.int .i32 0,.int .i32 0],false,false,0,9,0,[12,12,254,297,5,5,298,299,300,301,302],none,false,0,[]⟩
def Y2:TI:=⟨true,1,16,true,[(0,1)],[.str ⟨#[]⟩],false,false,0,9,0,[9],none,false,0,[3]⟩
def lR:List TI:=[
 zS,bR,ty2,ty2,⟨true,1,1,false,[],[.bool false],false,false,0,1,0,[],none,false,0,[]⟩,ty3,ty3,ty4,ty4,ty5,ty5,ty5,ty6,ty7,ty7,O3,O3,O3,ty9,ty9,VQ,VR,⟨true,1,24,false,[],[.az],true,false,31,4,0,[],none,false,0,[]⟩,⟨true,1,24,false,[],[.az],true,false,62,4,0,[],none,false,0,[]⟩,⟨true,1,24,false,[],[.az],true,false,67,4,0,[],none,false,0,[]⟩,⟨true,1,24,false,[],[.az],true,false,72,4,0,[],none,false,0,[]⟩,YK,YK,bR,bR,YL,YL,ty2,bR,O3,zS,bR,bR,bR,bR,⟨true,1,24,false,[],[.az],true,false,3,4,0,[],none,false,0,[]⟩,O3,zS,bR,⟨true,1,24,false,[],[.az],true,false,55,4,0,[],none,false,0,[]⟩,YM,YM,bR,zS,bR,⟨true,1,24,false,[],[.az],true,false,40,4,0,[],none,false,0,[]⟩,zS,bR,
 ⟨true,1,24,false,[],[.az],true,false,109,4,0,[],none,false,0,[]⟩,YN,YN,Ls,Ls,⟨true,1,24,false,[],[.az],true,false,57,4,0,[],none,false,0,[]⟩,bR,bR,YO,YO,YP,YP,⟨true,1,24,false,[],[.az],true,false,64,4,0,[],none,false,0,[]⟩,YQ,YQ,Ls,Ls,⟨true,1,24,false,[],[.az],true,false,69,4,0,[],none,false,0,[]⟩,YR,YR,⟨true,1,24,false,[],[.az],true,false,75,4,0,[],none,false,0,[]⟩,bR,⟨true,1,24,false,[],[.az],true,false,9,4,0,[],none,false,0,[]⟩,bR,bR,bR,zS,bR,bR,bR,⟨true,1,24,false,[],[.az],true,false,58,4,0,[],none,false,0,[]⟩,bR,⟨true,1,24,false,[],[.az],true,false,4,4,0,[],none,false,0,[]⟩,⟨true,1,24,false,[],[.az],true,false,32,4,0,[],none,false,0,[]⟩,bR,
 ⟨true,1,8,false,[],[.ij],false,false,53,6,124,[],none,false,0,[]⟩,⟨true,1,8,false,[],[.ij],false,false,3,6,3,[],none,false,0,[]⟩,⟨true,1,8,false,[],[.ij],false,false,53,6,3,[],none,false,0,[]⟩,⟨true,1,24,false,[],[.az],true,false,46,4,0,[],none,false,0,[]⟩,⟨true,1,24,false,[],[.az],true,false,157,4,0,[],none,false,0,[]⟩,YS,YS,bR,bR,bR,bR,bR,bR,bR,bR,bR,bR,bR,bR,bR,YT,YT,bR,zS,bR,⟨true,1,24,false,[],[.az],true,false,193,4,0,[],none,false,0,[]⟩,YU,YU,bR,bR,O3,zS,bR,YV,YV,Ls,Ls,bR,bR,bR,bR,bR,bR,bR,bR,bR,bR,⟨true,1,24,false,[],[.az],true,false,139,4,0,[],none,false,0,[]⟩,zS,bR,VS,VS,bR,bR,bR,bR,bR,bR,bR,bR,bR,bR,bR,bR,bR,bR,bR,bR,YW,
 YW,zS,bR,bR,bR,bR,bR,bR,bR,bR,bR,bR,bR,bR,bR,bR,bR,bR,bR,bR,bR,bR,bR,bR,bR,bR,bR,bR,bR,bR,bR,bR,bR,bR,bR,YX,YX,bR,YY,YY,zS,bR,bR,bR,bR,bR,zS,bR,bR,zS,bR,bR,⟨true,1,24,false,[],[.az],true,false,212,4,0,[],none,false,0,[]⟩,zS,bR,VS,⟨true,1,8,false,[],[.ij],false,false,4,6,9,[],none,false,0,[]⟩,bR,bR,bR,zS,bR,bR,bR,bR,bR,bR,bR,O3,bR,zS,bR,bR,bR,bR,zS,bR,bR,bR,ty6,bR,bR,bR,bR,bR,zS,bR,bR,bR,bR,ty2,zS,bR,bR,bR,bR,bR,⟨true,1,4,false,[],[.int .u32 0],false,false,0,2,0,[],some .u32,false,0,[]⟩,bR,ty6,⟨true,1,24,false,[],[.az],true,false,256,4,0,[],none,false,0,[]⟩,zS,bR,bR,bR,bR,bR,bR,
 ⟨true,128,128,true,[],[.int .u8 0,.int .u8 0,.int .u8 0,.int .u8 0,.int .u8 0,.int .u8 0,.int .u8 0,.int .u8 0,.int .u8 0,.int .u8 0,.int .u8 0,.int .u8 0,.int .u8 0,.int .u8 0,.int .u8 0,.int .u8 0,.int .u8 0,.int .u8 0,.int .u8 0,.int .u8 0,.int .u8 0,.int .u8 0,.int .u8 0,.int .u8 0,.int .u8 0,.int .u8 0,.int .u8 0,.int .u8 0,.int .u8 0,.int .u8 0,.int .u8 0,.int .u8 0,.int .u8 0,.int .u8 0,.int .u8 0,.int .u8 0,.int .u8 0,.int .u8 0,.int .u8 0,.int .u8 0,.int .u8 0,.int .u8 0,.int .u8 0,.int .u8 0,.int .u8 0,.int .u8 0,.int .u8 0,.int .u8 0,.int .u8 0,.int .u8 0,.int .u8 0,.int .u8 0,.int .u8 0,.int .u8 0,.int .u8 0,.int .u8 0,.int .u8 0,.int .u8 0,.int .u8 0,.int .u8 0,.int .u8 0,.int .u8 0,.int .u8 0,.int .u8 0,.int .u8 0,.int .u8 0,.int .u8 0,.int .u8 0,.int .u8 0,.int .u8 0,.int .u8 0,.int .u8 0,.int .u8 0,.int .u8 0,.int .u8 0,.int .u8 0,.int .u8 0,.int .u8 0,.int .u8 0,.int .u8 0,.int .u8 0,.int .u8 0,.int .u8 0,.int .u8 0,.int .u8 0,.int .u8 0,.int .u8 0,.int .u8 0,.int .u8 0,.int .u8 0,.int .u8 0,.int .u8 0,.int .u8 0,.int .u8 0,.int .u8 0,.int .u8 0,.int .u8 0,.int .u8 0,.int .u8 0,.int .u8 0,.int .u8 0,.int .u8 0,.int .u8 0,.int .u8 0,.int .u8 0,.int .u8 0,.int .u8 0,.int .u8 0,.int .u8 0,.int .u8 0,.int .u8 0,.int .u8 0,.int .u8 0,.int .u8 0,.int .u8 0,.int .u8 0,.int .u8 0,.int .u8 0,.int .u8 0,.int .u8 0,.int .u8 0,.int .u8 0,.int .u8 0,.int .u8 0,.int .u8 0,.int .u8 0,.int .u8 0,.int .u8 0],false,false,5,10,0,[],none,false,128,[]⟩,
 ty6,bR,bR,bR,O3,bR,zS,bR,bR,bR,bR,O3,zS,bR,VQ,VQ,bR,bR,bR,bR,bR,bR,bR,bR,O3,bR,YZ,YZ,⟨true,0,0,true,[],[],false,false,16,10,0,[],none,false,0,[]⟩,Y0,Y0,ty3,ty3,bR,O3,VR,VR,Y1,Y1,Y2,Y2,⟨true,1,8,false,[],[.eL],false,false,0,0,0,[],none,false,0,[]⟩]
theorem Sl(f:Nat->TI)(l:List Nat)(t:Nat):nth (l.map f) t=match l[t]? with|some i=>f i|none=>TI.no:=by
 induction l generalizing t with
 |nil=>cases t<;>rfl
 |cons x r ih=>cases t with
  |zero=>rfl
  |succ t=>simpa[nth]using ih t
theorem VT:(List.range 308).map (TI.of Tryz.prog)=lR:=by kernel_rfl
theorem gy:fb Tryz.prog lR:=by
 intro t h
 rw[<-VT,Sl]at h⊢
 by_cases ht:t<308
 ·rw[List.getElem?_range ht]
 ·rw[List.getElem?_eq_none (by simp;omega)]at h;cases h
theorem mixed:Tryz.prog.follows .mixedOrders=true:=Checked.mixed Tryz.checked
end
section
open Go.TM
def Bm:List Nat:=[0,0,0,0,0,0,0,0,0,1,1,0,0,0,0,0,0,0,0,0,0,0,0,0,0,0,0,0,0,0,0,0,1,0,0,2,0,0,0,0,7,7,0,7,7,6,7,0,4,4,4,4,4,4,4,4,4,4,7,7,7,7,7,0,0,0,0,0,0,0,0,0,0,0,0,0,0,0,0,0,0,0,0,0,0,0,0,0,0,0,0,0,0,0,0,5,0,3,3,3,3,3,3,3,3,3,3,3,3,3,3,3,3,3,3,3,3,3,3,3,3,3,3,7,0,7,0,0]
class bG where
 ty:TypeId
 fr:Nat×Nat
def Lu:Array Value:=(Bm.map fun n=>Value.int .u8 (n:Nat)).toArray
def O4[bG]:Nat->Option Obj:=fun i=>bif Nat.beq i 0 then some (.cells Lu bG.ty bG.fr)else none
def kDv:Nat->Option DV:=fun i=>bif Nat.beq i 0 then some (.agg (Bm.map fun n=>DV.int .u8 (n:Nat)))else none
theorem kOk[bG]:∀i x,kDv i=some x->∀M:Mem,(∀j o,O4 j=some o->M j=some o)->bu M (.at x 0) (.pointer (some ⟨i,0,none⟩)):=by
 intro i x h M hM
 unfold kDv at h
 cases hb:Nat.beq i 0 with
 |false=>rw[hb]at h;cases h
 |true=>
  rw[hb]at h
  have hi:=abL hb
  injection h with h;subst h
  have hm:=hM i (.cells Lu bG.ty bG.fr) (by unfold O4;rw[hb];rfl)
  have ha:∀j,(⟨i,0,none⟩:Addr).add j=⟨i,j,none⟩:=fun j=>by unfold Addr.add;split<;>simp[*]
  have:=bu.at (M:=M) (.agg (Bm.map fun n=>DV.int .u8 (n:Nat))) 0 ⟨i,0,none⟩ (fun j=>.int .u8 ((Bm.getD j 0:Nat):Int)) (fun d hd=>by
   simp only[DV.cells,ab9]at hd
   obtain⟨n,_,rfl⟩:=hd
   rfl) (fun j hj=>by
   rw[ha]
   simp only[DV.cells,abH]at hj
   simp[Mem.cell?,hm,Lu,hj]) (fun j d hd=>by
   simp only[DV.cells,abJ]at hd
   cases hj:Bm[j]? with
   |none=>rw[hj]at hd;cases hd
   |some n=>
    rw[hj]at hd
    simp only[Option.map_some,Option.some.injEq]at hd
    subst hd
    simp only[List.getD,hj,Option.getD_some]
    exact .int .u8 _)
  rw[ha]at this
  exact this
instance abm[bG]:cn where
 obj:=O4
 dv:=kDv
 ok:=kOk
abbrev I(n:Int):DV:=.int .i64 n
abbrev B(b:Bool):DV:=.bool b
abbrev Ints(l:List Int):DV:=.sl 1 (l.map I)
theorem aF{a b:Int}{k:IntKind}(h:a=b):(DV.int k a).Le (.int k b):=h▸DV.Le.refl _
abbrev rf{d:DV}:d.Le d:=DV.Le.refl d
theorem s7:∀(g:Nat) (fn:Func),Tryz.prog.funcs[g]?=some fn->(fn.name== "runtime.NumGoroutine")=false:=by
 have h:(Tryz.prog.funcs.all fun fn=>!(fn.name== "runtime.NumGoroutine"))=true:=by kernel_rfl
 intro g fn hg
 rw[Array.all_eq_true']at h
 have:=h fn (Array.mem_of_getElem? hg)
 simpa using this
variable [bG]
def vU(n:Int):Prop:=-9223372036854775808<=n/\n<=9223372036854775807
theorem gK{α:Type}{e:α->DV}(h:∀x,qt (e x)=e x)(l:List α):zQ (l.map e)=l.map e:=by
 rw[yz,List.map_map]
 exact List.map_congr_left fun x _=>h x
theorem uV{b:Bool}(h:b=true):bw b true=true:=by subst h;rfl
theorem aaE{b:Bool}(h:b=false):bw b false=true:=by subst h;rfl
theorem VU{a b:Bool}(h:a=true)(h2:b=true):(a&&bw b true)=true:=by subst h;subst h2;rfl
theorem Sm{a b:Bool}(h:a=true)(h2:b=false):(a&&bw b false)=true:=by subst h;subst h2;rfl
theorem eh{a b:Bool}(h:(bif a then b else false)=true):a=true/\b=true:=by cases a<;>simp_all
theorem mQ{a b:Bool}(h:(bif a then b else false)=false):¬(a=true/\b=true):=by cases a<;>simp_all
def CV(b w:DV):List DV:=[.agg [.str ⟨⟨[103,111,108,100]⟩⟩,B false,B true,B true,I 0,I 0,I 0],
 .agg [.str ⟨⟨[111,114,101]⟩⟩,B false,B false,B false,I 0,I 0,I 0],
 .agg [.str ⟨⟨[99,111,97,108]⟩⟩,B false,B true,B false,I 0,I 0,I 0],
 .agg [.str ⟨⟨[98,97,114]⟩⟩,B false,B false,B false,I 0,I 0,I 0],
 .agg [.str ⟨⟨[115,119,111,114,100]⟩⟩,B true,B false,B false,w,b,I 3]]
def O5:DV:=.sl 9 [.agg [.str ⟨⟨[100,105,103]⟩⟩,B true,I 0,I 0,I 1,I 1,.az,.sl 2 [.agg [I 1,I 4],.agg [I 2,I 3]],.az],
 .agg [.str ⟨⟨[115,109,101,108,116]⟩⟩,B false,I 2,I 5,I 2,I 3,.sl 2 [.agg [I 1,I 2],.agg [I 2,I 1]],.sl 2 [.agg [I 3,I 1]],.sl 2 [.agg [I 1,I 1]]],
 .agg [.str ⟨⟨[102,111,114,103,101]⟩⟩,B false,I 3,I 10,I 1,I 1,.sl 2 [.agg [I 3,I 3]],.sl 2 [.agg [I 4,I 1]],.az],
 .agg [.str ⟨⟨[115,99,114,97,112]⟩⟩,B false,I 0,I 1,I 1,I 1,.sl 2 [.agg [I 4,I 1]],.sl 2 [.agg [I 3,I 3]],.az],
 .agg [.str ⟨⟨[115,101,108,108]⟩⟩,B false,I 0,I 1,I 1,I 1,.sl 2 [.agg [I 3,I 1]],.sl 2 [.agg [I 0,I 7]],.az]]
def T6:DV:=.sl 2 [.agg [.str ⟨⟨[99,104,101,115,116]⟩⟩,.sl 2 [.agg [I 5,.sl 2 [.agg [I 0,I 10]]],.agg [I 1,.sl 2 [.agg [I 3,I 2]]]]]]
def O6:DV:=.sl 2 [.agg [.str ⟨⟨[115,97,108,101]⟩⟩,.sl 2 [.agg [I 0,I 500],.agg [I 100,I 1000]]]]
def aaF(b w:DV):DV:=.agg [.sl 7 (CV b w),O5,T6,O6]
def VV(_:Nat):Bool:=true
def aaG(_:Nat):Bool:=false
theorem pO{f:Nat}{fn:Func}{c:Code}{args rs:List DV}(hf:Tryz.prog.funcs[f]?=some fn)(hb:fn.body=some c)(hn:(fn.name== "runtime.NumGoroutine")=false)
 (ha:Nat.ble args.length fn.ntmps=true) (h:fm Tryz.prog lR .fn fn.ntmps 0 c (TD lR fn rs) 0 (rn 0 args) []):aI Tryz.prog f args rs:=Ez gy mixed (eW _) (fB _) hf hb hn ha h
theorem cO{f:Nat}{fn:Func}{c:Code}{args:List AV}{m ex:Nat}{K:ae}{rs:List AV}{K':ae}(hf:Tryz.prog.funcs[f]?=some fn)(hb:fn.body=some c)
 (ha:((!(fn.name== "runtime.NumGoroutine"))&&(Nat.ble args.length fn.ntmps&&cG.wf ⟨m,di 0 args,K⟩))=true) (h:fm Tryz.prog lR .fn fn.ntmps m c (pb lR fn m ex fun r k=>r=rs/\k=K') m (di 0 args) K):ar Tryz.prog f args m K ex rs K':=by
 rw[acj,acm]at ha
 exact Ny gy mixed (eW _) (fB _) hf hb ha.1 ha.2 h
theorem g1{a p:Prop}(h:p):(a->a)/\p:=⟨id,h⟩
theorem g2{b:Bool}{a p:Prop}(h:p):(a->b=false->bw b false=true)/\p:=⟨fun _ h=>aaE h,h⟩
theorem g3{b:Bool}{a p:Prop}(h:p):(a->b=true->bw b true=true)/\p:=⟨fun _ h=>uV h,h⟩
theorem g4{a b:Bool}{p:Prop}(h:p):(a=true->a=true/\(b=true->(a&&bw b true)=true))/\p:=⟨fun h=>⟨h,fun h2=>VU h h2⟩,h⟩
theorem g5{a b:Bool}{p:Prop}(h:p):(a=true->a=true/\(b=false->(a&&bw b false)=true))/\p:=⟨fun h=>⟨h,fun h2=>Sm h h2⟩,h⟩
def aC(x:Lt):DV:=.agg [I x.f,I x.a,I x.n]
abbrev aU(l:List Lt):DV:=.sl 3 (l.map aC)
end
section
open Go.TM
variable [bG]
abbrev Fl:DV:=aaF (I 2) (I 20)
theorem yM:aI Tryz.prog 5 [] [Fl]:=qe (pol:=VV) (fuel:=1000) gy mixed s7 (by kernel_rfl)
theorem Bn:aI Tryz.prog 30 [Fl] [Fl]:=qe (pol:=aaG) (fuel:=1000) gy mixed s7 (by kernel_rfl)
theorem yN:aI Tryz.prog 29 [Fl] [I 0]:=qe (pol:=VV) (fuel:=1000) gy mixed s7 (by kernel_rfl)
theorem Fm:aI Tryz.prog 7 [Fl] [I 0]:=qe (pol:=VV) (fuel:=1000) gy mixed s7 (by kernel_rfl)
end
section
open Go.TM
def aO(x:Lt):Bool:=decide (0<=x.f/\0<=x.a/\1<=x.n/\x.a+x.n<=1099511627776)
def cg(l:List Lt):Bool:=l.all aO&&decide (l.length<=4096)
def b9(l:List Lt):Int:=bif cg l then dD l else 0
theorem ax{x:Lt}:aO x=true↔0<=x.f/\0<=x.a/\1<=x.n/\x.a+x.n<=1099511627776:=by simp[aO]
theorem Fo{p:Lt->Bool}{l:List Lt}{j:Nat}{x:Lt}(hx:l[j]?=some x):(l.take (j+1)).all p=((l.take j).all p&&p x):=by
 rw[abR,hx,List.all_append];simp
theorem O7{p:Lt->Bool}{l:List Lt}{x:Lt}(hx:x∈l)(h:p x=false):l.all p=false:=by
 rw[List.all_eq_false];exact⟨x,hx,by rw[h];simp⟩
theorem uW{l:List Lt}{j:Nat}{x:Lt}(hx:l[j]?=some x):dD (l.take (j+1))=dD (l.take j)+x.n:=by
 rw[abR,hx,sZ];simp[dD]
theorem HY:∀{l:List Lt},(∀x∈l,0<=x.n/\x.n<=1099511627776)->0<=dD l/\dD l<=1099511627776*l.length
 |[],_=>by simp[dD]
 |x::l,h=>by
  have h1:=h x abT
  have h2:=HY fun y hy=>h y (abP x hy)
  simp only[dD,List.map_cons,List.sum_cons,List.length_cons]at*
  omega
theorem J5{l:List Lt}(h:∀x∈l,0<=x.n/\x.n<=1099511627776)(j:Nat)(hj:l.length<=1000000):0<=dD (l.take j)/\dD (l.take j)<=1099511627776000000:=by
 have:=HY fun x hx=>h x (List.mem_of_mem_take (i:=j) hx)
 have h2:(l.take j).length<=1000000:=by rw[ab2];omega
 omega
theorem hU{l:List Lt}(h:cg l=true):l.length<=4096/\∀x∈l,aO x=true:=by
 simp only[cg,acj,ab6,decide_eq_true_eq]at h
 exact⟨h.2,h.1⟩
theorem mR{x:Lt}(h:aO x=true):0<=x.n/\x.n<=1099511627776:=by have:=ax.1 h;omega
theorem mlt{i n:Nat}(h:i<n):n-(i+1)<n-i:=by omega
variable [bG]
theorem Lv(x:Lt):aI Tryz.prog 161 [aC x] [B (aO x)]:=by
 refine pO Tryz.func161 rfl (by kernel_rfl) rfl ?_
 repeat first|apply g1|apply g2|apply g3|apply g4|apply g5
 refine⟨fun h=>?_,?_⟩
 ·simp[bw]at h;omega
 repeat first|apply g1|apply g2|apply g3|apply g4|apply g5
 refine⟨DV.Le.of_eq ?_,tv⟩
 congr 1
 rw[ace,ax];simp;omega
theorem Bo(x:Lt):aI Tryz.prog 174 [aC x] [B (aO x)]:=by
 refine pO Tryz.func174 rfl (by kernel_rfl) rfl ?_
 repeat first|apply g1|apply g2|apply g3|apply g4|apply g5
 refine⟨fun h=>?_,?_⟩
 ·simp[bw]at h;omega
 repeat first|apply g1|apply g2|apply g3|apply g4|apply g5
 refine⟨DV.Le.of_eq ?_,tv⟩
 congr 1
 rw[ace,ax];simp;omega
theorem gj(l:List Lt)(hl:l.length<=1000000):aI Tryz.prog 139 [aU l] [B (cg l)]:=by
 refine pO Tryz.func139 rfl (by kernel_rfl) rfl ?_
 refine⟨Nat,fun i=>⟨0,[(0,.dv (aU l)),(3,.dv (I i))],[]⟩,fun i=>i<=l.length/\(l.take i).all aO=true,fun i=>l.length-i,0,fun _=>rfl,jn rfl rfl rfl rfl,⟨abW _,rfl⟩,?_⟩
 rintro i ⟨hi,hv⟩
 refine⟨fun h=>?_,fun h=>?_⟩
 ·have au:i<l.length:=by have:=abY h;rw[abH]at this;omega
  have hx:=aaj au
  generalize l[i]=x at hx
  refine⟨aC x,fun _=>⟨by omega,by rw[abJ];simp[hx]⟩,?_⟩
  refine .inl ⟨_,fun _=>(Lv x).ok,?_⟩
  refine⟨fun h=>?_,fun h=>?_⟩
  ·have h:aO x=false:=by simpa using h
   refine⟨DV.Le.of_eq ?_,tv⟩
   rw[cg,O7 (abK hx) h];rfl
  ·have h:aO x=true:=by simpa using h
   exact⟨fun _=>⟨by omega,by omega⟩,i+1,jn rfl rfl rfl rfl,⟨by omega,by rw[Fo hx,hv,h];rfl⟩,mlt au⟩
 ·have he:i=l.length:=by have:=abZ h;rw[abH]at this;omega
  subst he
  rw[abX]at hv
  refine⟨DV.Le.of_eq ?_,tv⟩
  rw[cg,hv,abH]
  congr 1
  simp only[Bool.true_and]
  congr 1
  simp only[eq_iff_iff];omega
theorem kI(l:List Lt)(hl:l.length<=1000000):aI Tryz.prog 168 [aU l] [B (cg l)]:=by
 refine pO Tryz.func168 rfl (by kernel_rfl) rfl ?_
 refine⟨fun h=>?_,fun h=>?_⟩
 ·have:4096<l.length:=by have:=abY h;rw[abH]at this;omega
  refine⟨DV.Le.of_eq ?_,tv⟩
  rw[cg,ab5 (by omega),Bool.and_false]
 have hle:l.length<=4096:=by have:=abZ h;rw[abH]at this;omega
 refine⟨Nat,fun i=>⟨0,[(8,.dv (aU l)),(9,.dv (I l.length)),(10,.dv (I i))],[]⟩,fun i=>i<=l.length/\(l.take i).all aO=true,fun i=>l.length-i,0,fun _=>rfl,jn (by simp;rfl) rfl rfl rfl,⟨abW _,rfl⟩,?_⟩
 rintro i ⟨hi,hv⟩
 refine⟨fun h=>?_,fun h=>?_⟩
 ·have au:i<l.length:=by have:=abY h;omega
  have hx:=aaj au
  generalize l[i]=x at hx
  refine⟨aC x,fun _=>⟨by omega,by rw[abJ];simp[hx]⟩,?_⟩
  refine .inl ⟨_,fun _=>(Bo x).ok,?_⟩
  refine⟨fun h=>?_,fun h=>?_⟩
  ·have h:aO x=false:=by simpa using h
   refine⟨DV.Le.of_eq ?_,tv⟩
   rw[cg,O7 (abK hx) h];rfl
  ·have h:aO x=true:=by simpa using h
   exact⟨fun _=>⟨by omega,by omega⟩,i+1,jn rfl rfl rfl rfl,⟨by omega,by rw[Fo hx,hv,h];rfl⟩,mlt au⟩
 ·have he:i=l.length:=by have:=abZ h;omega
  subst he
  rw[abX]at hv
  exact⟨DV.Le.of_eq (by rw[cg,hv,ab4 hle];rfl),tv⟩
theorem qg(l:List Lt)(hl:l.length<=1000000)(hn:∀x∈l,0<=x.n/\x.n<=1099511627776):aI Tryz.prog 55 [aU l] [I (dD l)]:=by
 refine pO Tryz.func55 rfl (by kernel_rfl) rfl ?_
 refine⟨Nat,fun i=>⟨0,[(3,.dv (I (dD (l.take i)))),(6,.dv (aU l)),(7,.dv (I l.length)),(8,.dv (I i))],[]⟩,fun i=>i<=l.length,fun i=>l.length-i,0,fun _=>rfl,jn (by simp;rfl) rfl rfl rfl,abW _,?_⟩
 rintro i hi
 refine⟨fun h=>?_,fun h=>?_⟩
 ·have au:i<l.length:=by have:=abY h;omega
  have hx:=aaj au
  generalize l[i]=x at hx
  have b1:=J5 hn i hl
  have b2:=hn x (abK hx)
  refine⟨aC x,fun _=>⟨by omega,by rw[abJ];simp[hx]⟩,?_⟩
  exact⟨fun _=>⟨by omega,by omega⟩,fun _=>⟨by omega,by omega⟩,i+1,jn (by simp only[uW hx];rfl) rfl rfl rfl,by omega,mlt au⟩
 ·have he:i=l.length:=by have:=abZ h;omega
  subst he
  exact⟨aF (by rw[abX]),tv⟩
theorem qh(l:List Lt)(hl:l.length<=1000000):aI Tryz.prog 169 [aU l] [I (b9 l)]:=by
 refine pO Tryz.func169 rfl (by kernel_rfl) rfl ?_
 refine .inl ⟨_,fun _=>(kI l hl).ok,?_⟩
 refine⟨fun h=>?_,fun h=>?_⟩
 ·have h:cg l=false:=by simpa using h
  exact⟨aF (by rw[b9,h];rfl),tv⟩
 ·have h:cg l=true:=by simpa using h
  refine .inl ⟨_,fun _=>(qg l hl fun x hx=>mR ((hU h).2 x hx)).ok,?_⟩
  exact⟨aF (by rw[b9,h];rfl),tv⟩
theorem mS(l:List Lt)(hl:l.length<=1000000):aI Tryz.prog 77 [aU l] [I (b9 l)]:=by
 refine pO Tryz.func77 rfl (by kernel_rfl) rfl ?_
 refine .inl ⟨_,fun _=>(gj l hl).ok,?_⟩
 have hb:=fun h=>@hU l h
 have ht:b9 l=bif cg l then dD l else 0:=rfl
 generalize cg l=v at hb ht
 refine⟨Nat,fun i=>⟨0,[(0,.dv (aU l)),(3,.dv (I (dD (l.take i)))),(4,.dv (B v)),(5,.dv (I i))],[]⟩,fun i=>i<=l.length/\(v=false->i=0),fun i=>l.length-i,0,fun _=>rfl,jn rfl rfl rfl rfl,⟨abW _,fun _=>rfl⟩,?_⟩
 rintro i ⟨hi,hv⟩
 repeat first|apply g1|apply g2|apply g3|apply g4|apply g5
 refine⟨fun h=>?_,fun h=>?_⟩
 ·have h:=eh h
  have au:i<l.length:=by have:=abY h.1;rw[abH]at this;omega
  have VW:v=true:=h.2
  have hx:=aaj au
  generalize l[i]=x at hx
  have hn:∀x∈l,0<=x.n/\x.n<=1099511627776:=fun x hx=>mR ((hb VW).2 x hx)
  have b1:=J5 hn i hl
  have b2:=hn x (abK hx)
  refine⟨aC x,fun _=>⟨by omega,by rw[abJ];simp[hx]⟩,?_⟩
  exact⟨fun _=>⟨by omega,by omega⟩,fun _=>⟨by omega,by omega⟩,i+1,jn (by simp only[uW hx];rfl) rfl rfl rfl,⟨by omega,by simp[VW]⟩,mlt au⟩
 ·have h:=mQ h
  refine⟨aF ?_,tv⟩
  rw[ht]
  cases v with
  |true=>
   have:i=l.length:=by
    have:¬(i:Int)<(l.map aC).length:=fun hh=>h ⟨ab4 hh,rfl⟩
    rw[abH]at this;omega
   subst this
   rw[abX];rfl
  |false=>rw[hv rfl];rfl
end
section
open Go.TM
theorem O8{x:Lt}(h:x.n≠0):bj [] x=[x]:=by unfold bj;rw[if_neg h];rfl
theorem Lw{r:List Lt}{x y:Lt}(h:x.n≠0)(hc:y.f=x.f/\y.a+y.n=x.a):bj (r++[y]) x=r++[⟨y.f,y.a,y.n+x.n⟩]:=by
 unfold bj;rw[if_neg h];simp[hc]
theorem Lx{r:List Lt}{x y:Lt}(h:x.n≠0)(hc:¬(y.f=x.f/\y.a+y.n=x.a)):bj (r++[y]) x=r++[y]++[x]:=by
 unfold bj;rw[if_neg h];simp[hc]
variable [bG]
theorem bL{n:Nat}(h:n<=1000000):n*(nth lR (nth lR 53).elem).bytes<=140737488355328:=by
 rw[show(nth lR (nth lR 53).elem).bytes=24 by kernel_rfl];omega
theorem aaH(l:List Lt):zQ (l.map aC)=l.map aC:=gK (fun _=>rfl) l
theorem qi(l:List Lt):(qt (.aB 3 (l.map aC))).Le (aU l):=DV.Le.of_eq (by show DV.sl 3 (zQ (l.map aC))=_;rw[aaH])
theorem pC(s:List Lt)(x:Lt)(hs:s.length<=100000)(hb:∀y∈s,0<=y.a/\y.a<=1099511627776/\0<=y.n/\y.n<=1099511627776)(hx:0<=x.n/\x.n<=1099511627776):aI Tryz.prog 89 [aU s,aC x] [aU (bj s x)]:=by
 refine pO Tryz.func89 rfl (by kernel_rfl) rfl ?_
 refine .inr ⟨s.map aC,cd.refl _,bL (by rw[abH];omega),by rw[abH];omega,?_⟩
 refine⟨fun h=>?_,fun h=>?_⟩
 ·have h0:x.n=0:=abY h
  rw[show bj s x=s from if_pos h0]
  exact⟨qi s,tv⟩
 have h0:x.n≠0:=abZ h
 rcases List.eq_nil_or_concat s with rfl|⟨r,y,rfl⟩
 ·have cW:∀{p:Prop},bw (decide (0<((List.map aC []).length:Int))) true=true->p:=fun h=>by simp[bw]at h
  repeat first|refine g1 ?_|refine g3 ?_|refine⟨cW,?_⟩|refine⟨aC x,cW,?_⟩
  refine⟨by kernel_rfl,fun h=>by simp at h,fun _=>?_⟩
  refine .inl ⟨[aC x],rfl,⟨rf,rf,rf,tv⟩,(by simp;rfl),?_⟩
  refine .inr ⟨[aC x],cd.refl _,bL (by simp),by simp,?_⟩
  rw[O8 h0]
  exact⟨qi [x],tv⟩
 ·rw[List.concat_eq_append]at*
  have e1:((r++[y]).map aC).length=r.length+1:=by simp
  have hy:((r++[y]).map aC)[((((r++[y]).map aC).length:Int)-1).toNat]?=some (aC y):=by rw[e1,show(((r.length+1:Nat):Int)-1).toNat=r.length by omega];simp
  have Bp:=hb y (by simp)
  have iw:r.length+1<=100000:=by simpa using hs
  repeat first|refine g1 ?_|refine g3 ?_|refine⟨aC y,fun _=>hy,?_⟩|refine⟨fun _=>⟨by omega,by omega⟩,?_⟩
  refine⟨by kernel_rfl,fun h=>?_,fun h=>?_⟩
  ·repeat first|refine g1 ?_|refine g3 ?_|refine⟨aC y,fun _=>hy,?_⟩|refine⟨fun _=>⟨by omega,by omega⟩,?_⟩
   refine⟨[I (y.n+x.n)],⟨rf,tv⟩,aC y,hy,?_⟩
   rw[Lw h0 (by simpa using h)]
   have e3:((r++[y]).map aC).set ((((r++[y]).map aC).length:Int)-1).toNat (DV.agg [I y.f,I y.a,I (y.n+x.n)])=(r++[(⟨y.f,y.a,y.n+x.n⟩:Lt)]).map aC:=by
    rw[e1,show(((r.length+1:Nat):Int)-1).toNat=r.length by omega];simp[aC]
   have:=qi (r++[(⟨y.f,y.a,y.n+x.n⟩:Lt)])
   rw[<-e3]at this
   exact⟨by kernel_rfl,this,tv⟩
  ·refine .inl ⟨[aC x],rfl,⟨rf,rf,rf,tv⟩,(by simp;rfl),?_⟩
   refine .inr ⟨[aC x],cd.refl _,bL (by simp;omega),by simp;omega,?_⟩
   rw[Lx h0 (by simpa using h)]
   refine⟨?_,tv⟩
   have:=qi (r++[y]++[x])
   rw[ab0 (l₂:=[x])]at this
   exact this
end
section
open Go.TM
structure DS where
 a:Int
 q:Int
 r:Int
def dH(d:Int)(q r:Int):Int×Int:=if d<=r then(q+1,r-d)else(q,r)
def vV(b d bit:Int)(s:DS):DS:=
 if bit<=s.a then⟨s.a-bit,(dH d ((dH d (2*s.q) (2*s.r)).1+b.tdiv d) ((dH d (2*s.q) (2*s.r)).2+b.tmod d)).1,(dH d ((dH d (2*s.q) (2*s.r)).1+b.tdiv d) ((dH d (2*s.q) (2*s.r)).2+b.tmod d)).2⟩
 else⟨s.a,(dH d (2*s.q) (2*s.r)).1,(dH d (2*s.q) (2*s.r)).2⟩
def uX(k:Nat):Int:=1152921504606846976/2^k
def MH(a b d:Int):Nat->DS
 |0=>⟨a,0,0⟩
 |k+1=>vV b d (uX k) (MH a b d k)
theorem T7{d q r X:Int}(h:q*d+r=X)(h0:0<=r)(h1:r<2*d):(dH d q r).1*d+(dH d q r).2=X/\0<=(dH d q r).2/\(dH d q r).2<d/\q<=(dH d q r).1/\(dH d q r).1<=q+1:=by
 unfold dH
 split
 ·simp only;rw[Int.add_mul];omega
 ·simp only;omega
structure Xj(a b d:Int)(k:Nat)(s:DS):Prop where
 ex:∃A,0<=A/\a=A*2^(61-k)+s.a/\s.q*d+s.r=A*b
 a0:0<=s.a
 a1:s.a<2^(61-k)
 r0:0<=s.r
 r1:s.r<d
 q0:0<=s.q
theorem Fp{k:Nat}(hk:k<=60):uX k=2^(60-k)/\(2:Int)^(61-k)=2*2^(60-k):=by
 refine⟨?_,by rw[show 61-k=(60-k)+1 by omega,Int.pow_succ];omega⟩
 unfold uX
 rw[show(1152921504606846976:Int)=2^(60-k)*2^k by rw[<-Int.pow_add,show 60-k+k=60 by omega];rfl]
 exact Int.mul_ediv_cancel _ (Int.ne_of_gt (Int.pow_pos (by omega)))
theorem HZ{a b d:Int}(ha:0<=a/\a<2^61)(hb:0<=b)(hd:0<d):∀k,k<=61->Xj a b d k (MH a b d k)
 |0,_=>⟨⟨0,by omega,by show a=0*_+a;omega,by show(0:Int)*d+0=0*b;omega⟩,ha.1,ha.2,Int.le_refl _,hd,Int.le_refl _⟩
 |k+1,hk=>by
  obtain⟨⟨A,hA,e1,e2⟩,a0,a1,r0,r1,q0⟩:=HZ ha hb hd k (by omega)
  obtain⟨b1,b2⟩:=Fp (k:=k) (by omega)
  show Xj a b d (k+1) (vV b d (uX k) (MH a b d k))
  generalize MH a b d k=s at*
  rw[b1]
  rw[b2]at e1 a1
  have e61:61-(k+1)=60-k:=by omega
  have hp:(0:Int)<2^(60-k):=Int.pow_pos (by omega)
  have h2:(2*s.q)*d+2*s.r=2*A*b:=by rw[Int.mul_assoc,Int.mul_assoc,<-e2];omega
  have hh:=T7 h2 (by omega) (by omega)
  unfold vV
  generalize dH d (2*s.q) (2*s.r)=z at hh⊢
  have hAA:A*(2*2^(60-k))=2*A*2^(60-k):=by rw[<-Int.mul_assoc,Int.mul_comm A 2]
  split
  ·rename_i hc
   have hm:=Int.tmod_nonneg d hb
   have J6:=Int.tmod_lt_of_pos b hd
   have hq:=Int.tdiv_nonneg hb (Int.le_of_lt hd)
   have hmd:=Int.mul_tdiv_add_tmod b d
   have h3:(z.1+b.tdiv d)*d+(z.2+b.tmod d)=(2*A+1)*b:=by
    have hX:(2*A+1)*b=2*A*b+b:=by rw[Int.add_mul];omega
    have hY:(z.1+b.tdiv d)*d=z.1*d+d*b.tdiv d:=by rw[Int.add_mul,Int.mul_comm (b.tdiv d) d]
    omega
   have h4:=T7 h3 (by omega) (by omega)
   refine⟨⟨2*A+1,by omega,?_,h4.1⟩,by show 0<=s.a-2^(60-k);omega,by show s.a-2^(60-k)<_;rw[e61];omega,h4.2.1,h4.2.2.1,by have:=h4.2.2.2.1;simp only;omega⟩
   rw[e61]
   show a=(2*A+1)*2^(60-k)+(s.a-2^(60-k))
   rw[Int.add_mul];omega
  ·rename_i hc
   refine⟨⟨2*A,by omega,?_,hh.1⟩,a0,by rw[e61];show s.a<_;omega,hh.2.1,hh.2.2.1,by show 0<=z.1;omega⟩
   rw[e61]
   show a=2*A*2^(60-k)+s.a
   omega
theorem Xj.q1{a b d:Int}{k:Nat}{s:DS}(h:Xj a b d k s)(hk:k<=61)(hb:b<=d)(lC:0<=b)(hd:0<d)(ha:a<=1152921504606846976):s.q<=1152921504606846976:=by
 obtain⟨⟨A,hA,e1,e2⟩,a0,a1,r0,r1,q0⟩:=h
 have h1:A*b<=A*d:=Int.mul_le_mul_of_nonneg_left hb hA
 have h2:s.q*d<=A*d:=by omega
 have h3:s.q<=A:=Int.le_of_mul_le_mul_right h2 hd
 have h4:(1:Int)<=2^(61-k):=by have:(0:Int)<2^(61-k):=Int.pow_pos (by omega);omega
 have h5:A*1<=A*2^(61-k):=Int.mul_le_mul_of_nonneg_left h4 hA
 omega
theorem Xj.a9{a b d:Int}{k:Nat}{s:DS}(h:Xj a b d k s):s.a<=a:=by
 obtain⟨⟨A,hA,e1,e2⟩,a0,a1,r0,r1,q0⟩:=h
 have h4:(0:Int)<2^(61-k):=Int.pow_pos (by omega)
 have:=Int.mul_nonneg hA (Int.le_of_lt h4)
 omega
theorem Sn{a b d:Int}(ha:0<=a/\a<2^61)(hb:0<=b)(hd:0<d):(MH a b d 61).q=a*b/d/\(MH a b d 61).r=a*b%d:=by
 obtain⟨⟨A,hA,e1,e2⟩,a0,a1,r0,r1,q0⟩:=HZ ha hb hd 61 (by omega)
 generalize MH a b d 61=s at*
 have:s.a=0:=by have:s.a<1:=a1;omega
 have eA:a=A:=by have e1:a=A*1+s.a:=e1;omega
 subst eA
 have:=Int.ediv_emod_unique (a:=a*b) (b:=d) (q:=s.q) (r:=s.r) hd
 have h6:=this.2 ⟨by rw[Int.mul_comm d];omega,r0,r1⟩
 exact⟨h6.1.symm,h6.2.symm⟩
theorem H0(k:Nat):0<=uX k/\uX k<=1152921504606846976:=by
 unfold uX
 have:(0:Int)<2^k:=Int.pow_pos (by omega)
 exact⟨Int.ediv_nonneg (by omega) (by omega),Int.ediv_le_self _ (by omega)⟩
theorem Ly(k:Nat):(uX k).tdiv 2=uX (k+1):=by
 rw[Int.tdiv_eq_ediv_of_nonneg (H0 k).1]
 unfold uX
 rw[Int.pow_succ,Int.ediv_ediv_of_nonneg (Int.le_of_lt (Int.pow_pos (by omega)))]
theorem O9{k:Nat}(h:k<=61):0<uX k↔k<61:=by
 rcases ab1 k 61 with hl|hg
 ·have:=(Fp (k:=k) (by omega)).1
  rw[this]
  exact⟨fun _=>hl,fun _=>Int.pow_pos (by omega)⟩
 ·have:k=61:=by omega
  subst this
  exact⟨fun h=>absurd h (by decide),fun h=>by omega⟩
variable [bG]
theorem Lz(a b d:Int)(ha:0<=a/\a<=1152921504606846976)(hb:0<=b/\b<=d)(hd:0<d/\d<=1152921504606846976):aI Tryz.prog 209 [I a,I b,I d] [I (a*b/d),I (a*b%d),B true]:=by
 refine pO Tryz.func209 rfl (by kernel_rfl) rfl ?_
 have cr:=HZ (a:=a) (b:=b) (d:=d) ⟨ha.1,by omega⟩ hb.1 hd.1
 refine⟨Nat,fun k=>⟨0,[(0,.dv (I (MH a b d k).a)),(1,.dv (I b)),(2,.dv (I d)),(9,.dv (I (MH a b d k).q)),(10,.dv (I (MH a b d k).r)),(11,.dv (I (uX k)))],[]⟩,fun k=>k<=61,fun k=>61-k,0,fun _=>rfl,jn (by rfl) rfl rfl rfl,abW _,?_⟩
 rintro k hk
 have ph:=cr k hk
 have hq1:=ph.q1 hk hb.2 hb.1 hd.1 ha.2
 have ca:=H0 k
 have Hl:=Ly k
 have hbp:=O9 hk
 have q0:=ph.q0
 have r0:=ph.r0
 have r1:=ph.r1
 have a0:=ph.a0
 have a9:=ph.a9
 have m0:=Int.tmod_nonneg d hb.1
 have m1:=Int.tmod_lt_of_pos b hd.1
 have t0:=Int.tdiv_nonneg hb.1 (Int.le_of_lt hd.1)
 have t1:b.tdiv d<=b:=Int.tdiv_le_self d hb.1
 refine abG ?_ ?_
 ·intro h
  have au:k<61:=hbp.1 (abY h)
  have CO:=(cr (k+1) (by omega)).q1 (by omega) hb.2 hb.1 hd.1 ha.2
  have T8:=(cr (k+1) (by omega)).q0
  have b3:=H0 (k+1)
  have hn:MH a b d (k+1)=vV b d (uX k) (MH a b d k):=rfl
  refine⟨fun _=>⟨by omega,by omega⟩,fun _=>⟨by omega,by omega⟩,?_⟩
  refine abG ?_ ?_
  all_goals intro h1
  all_goals first|have h1:=abY h1|have h1:=abZ h1
  all_goals repeat first|refine⟨fun _=>⟨by omega,by omega⟩,?_⟩
  all_goals refine abG ?_ ?_
  all_goals intro h2
  all_goals first|have h2:=abY h2|have h2:=abZ h2
  all_goals repeat first|refine⟨fun _=>⟨by omega,by omega⟩,?_⟩|refine⟨fun _ _=>by omega,?_⟩
  ·refine abG ?_ ?_
   all_goals intro h3
   all_goals first|have h3:=abY h3|have h3:=abZ h3
   all_goals repeat first|refine⟨fun _=>⟨by omega,by omega⟩,?_⟩
   all_goals simp only[vV,dH,h1,h2,h3,if_true,if_false]at hn
   all_goals rw[hn]at CO T8
   all_goals simp only at CO T8
   all_goals refine abG (fun h4=>absurd (abY h4) (by omega)) ?_
   all_goals intro _
   all_goals refine⟨fun _ h=>by omega,fun _=>⟨by omega,by omega⟩,k+1,jn ?_ rfl rfl rfl,by omega,by show 61-(k+1)<61-k;omega⟩
   all_goals simp only[hn,<-Hl]
   all_goals rfl
  ·simp only[vV,dH,h1,h2,if_true,if_false]at hn
   rw[hn]at CO T8
   simp only at CO T8
   refine abG (fun h4=>absurd (abY h4) (by omega)) ?_
   intro _
   refine⟨fun _ h=>by omega,fun _=>⟨by omega,by omega⟩,k+1,jn ?_ rfl rfl rfl,by omega,by show 61-(k+1)<61-k;omega⟩
   simp only[hn,<-Hl]
   rfl
  ·refine abG ?_ ?_
   all_goals intro h3
   all_goals first|have h3:=abY h3|have h3:=abZ h3
   all_goals repeat first|refine⟨fun _=>⟨by omega,by omega⟩,?_⟩
   all_goals simp only[vV,dH,h1,h2,h3,if_true,if_false]at hn
   all_goals rw[hn]at CO T8
   all_goals simp only at CO T8
   all_goals refine abG (fun h4=>absurd (abY h4) (by omega)) ?_
   all_goals intro _
   all_goals refine⟨fun _ h=>by omega,fun _=>⟨by omega,by omega⟩,k+1,jn ?_ rfl rfl rfl,by omega,by show 61-(k+1)<61-k;omega⟩
   all_goals simp only[hn,<-Hl]
   all_goals rfl
  ·simp only[vV,dH,h1,h2,if_true,if_false]at hn
   rw[hn]at CO T8
   simp only at CO T8
   refine abG (fun h4=>absurd (abY h4) (by omega)) ?_
   intro _
   refine⟨fun _ h=>by omega,fun _=>⟨by omega,by omega⟩,k+1,jn ?_ rfl rfl rfl,by omega,by show 61-(k+1)<61-k;omega⟩
   simp only[hn,<-Hl]
   rfl
 ·intro h
  have aaI:k=61:=by
   have:=abZ h
   rw[hbp]at this;omega
  subst aaI
  obtain⟨e1,e2⟩:=Sn (a:=a) (b:=b) (d:=d) ⟨ha.1,by omega⟩ hb.1 hd.1
  exact⟨aF e1,aF e2,rf,tv⟩
end
section
open Go.TM
theorem yO{l:List Int}{j:Nat}{x:Int}(hx:l[j]?=some x):(l.take (j+1)).sum=(l.take j).sum+x:=by
 rw[abR,hx,List.sum_append];simp
theorem T9:∀{l:List Int},(∀x∈l,0<=x/\x<=1099511627776)->0<=l.sum/\l.sum<=1099511627776*l.length
 |[],_=>by simp
 |x::l,h=>by
  have h1:=h x abT
  have h2:=T9 fun y hy=>h y (abP x hy)
  simp only[List.sum_cons,List.length_cons]at*
  omega
theorem VX{l:List Int}(h:∀x∈l,0<=x/\x<=1099511627776)(hl:l.length<=5000)(j:Nat):0<=(l.take j).sum/\(l.take j).sum<=5497558138880000:=by
 have h1:=T9 fun x hx=>h x (List.mem_of_mem_take (i:=j) hx)
 have h2:(l.take j).length<=l.length:=by rw[ab2];omega
 omega
theorem H3:∀{l:List Int},(∀x∈l,0<=x)->∀x∈l,x<=l.sum
 |y::l,h,x,hx=>by
  have h1:=h y abT
  have h3:=yK fun z hz=>h z (abP y hz)
  rw[List.sum_cons]
  rcases abO.1 hx with rfl|hx
  ·omega
  ·have h2:=H3 (fun z hz=>h z (abP y hz)) x hx
   omega
theorem s8:∀{l:List Int} (j:Nat),(∀x∈l,0<=x)->0<=(l.take j).sum/\(l.take j).sum<=l.sum
 |l,0,h=>by simpa using yK h
 |[],j+1,_=>by simp
 |x::l,j+1,h=>by
  have h1:=h x abT
  have h2:=s8 (l:=l) j fun y hy=>h y (abP x hy)
  simp only[List.take_succ_cons,List.sum_cons];omega
def rM(rs:List Int)(i:Nat):Nat:=(List.range' 1 (i-1)).foldl (Am rs) 0
theorem LA(rs:List Int){i:Nat}(h:1<=i):rM rs (i+1)=Am rs (rM rs i) i:=by
 unfold rM
 rw[show i+1-1=(i-1)+1 by omega,List.range'_1_concat,ab7]
 rw[show 1+(i-1)=i by omega];rfl
theorem Sp(rs:List Int){i:Nat}(h:1<=i):rM rs i<i:=by
 have:=(yJ rs (i-1) 1 0 (by omega) fun j hj=>by
  have:j=0:=by omega
  subst this;simp[fe]).1
 unfold rM;omega
variable [bG]
theorem bI{n:Nat}(h:n<=1000000):n*(nth lR (nth lR 40).elem).bytes<=140737488355328:=by
 rw[show(nth lR (nth lR 40).elem).bytes=8 by kernel_rfl];omega
theorem Bq(n:Int):aI Tryz.prog 208 [I n] [B (decide (0<=n/\n<=1099511627776))]:=by
 refine pO Tryz.func208 rfl (by kernel_rfl) rfl ?_
 repeat first|apply g1|apply g2|apply g3|apply g4|apply g5
 refine⟨DV.Le.of_eq ?_,tv⟩
 congr 1
 rw[ace];simp
theorem Fq(t:Int)(ws:List Int)(ht:0<=t/\t<=1099511627776)(hw:∀w∈ws,0<=w/\w<=1099511627776)(hl:ws.length<=5000)(hs:0<ws.sum)(GK:t<=ws.sum):aI Tryz.prog 194 [I t,Ints ws] [Ints (zR t ws),I 0]:=by
 refine pO Tryz.func194 rfl (by kernel_rfl) rfl ?_
 have ai:=VX hw hl
 have hsm:=ai ws.length
 rw[abX]at hsm
 refine⟨Nat,fun i=>⟨0,[(0,.dv (I t)),(1,.dv (Ints ws)),(6,.dv (I (ws.take i).sum)),(7,.dv (I i))],[]⟩,fun i=>i<=ws.length,fun i=>ws.length-i,0,fun _=>rfl,jn rfl rfl rfl rfl,abW _,?_⟩
 rintro i hi
 have b1:=ai i
 refine abG ?_ ?_
 ·intro h
  have au:i<ws.length:=by have:=abY h;rw[abH]at this;omega
  have hx:=aaj au
  generalize ws[i]=x at hx
  have LC:=hw x (abK hx)
  refine⟨I x,fun _=>⟨by omega,by rw[abJ];simp[hx]⟩,?_⟩
  refine .inl ⟨_,fun _=>(Bq x).ok,?_⟩
  rw[ab4 LC]
  repeat first|apply g1|apply g2|apply g3|apply g4|apply g5
  refine abG (fun h=>by simp at h;omega) fun _=>?_
  refine⟨I x,fun _=>⟨by omega,by rw[abJ];simp[hx]⟩,?_⟩
  exact⟨fun _=>⟨by omega,by omega⟩,fun _=>⟨by omega,by omega⟩,i+1,jn (by simp only[yO hx];rfl) rfl rfl rfl,by omega,mlt au⟩
 intro h
 have he:i=ws.length:=by have:=abZ h;rw[abH]at this;omega
 subst he
 simp only[abX]
 refine .inl ⟨_,fun _=>(Bq t).ok,?_⟩
 rw[ab4 ht]
 repeat first|apply g1|apply g2|apply g3|apply g4|apply g5
 refine abG (fun h=>by simp at h;omega) fun _=>?_
 have Hg:(qL t ws.sum ws).length=ws.length:=by simp[qL]
 have hrl:(rL t ws.sum ws).length=ws.length:=by simp[rL]
 have YJ:∀x∈qL t ws.sum ws,0<=x:=fun x hx=>by
  obtain⟨w,KR,rfl⟩:=ab9.1 hx
  exact Int.ediv_nonneg (Int.mul_nonneg ht.1 (hw w KR).1) (by omega)
 have Yg:=VP (t:=t) hs (ws:=ws)
 obtain⟨l1,l2,l3⟩:=xb (t:=t) hs
 have VY:(qL t ws.sum ws).sum<=t:=by unfold fV at l1;omega
 have hw0:∀w∈ws,0<=w:=fun w KR=>(hw w KR).1
 have hqe:∀{i:Nat} {x:Int},ws[i]?=some x->(qL t ws.sum ws)[i]?=some (t*x/ws.sum)/\(rL t ws.sum ws)[i]?=some (t*x%ws.sum):=fun h=>by simp[qL,rL,h]
 have Sq:zR t ws=plus (rL t ws.sum ws) (qL t ws.sum ws) (fV t ws.sum ws).toNat:=rfl
 have hLd:fV t ws.sum ws=t-(qL t ws.sum ws).sum:=rfl
 have hLl:(fV t ws.sum ws).toNat<=ws.length:=by
  have:(rL t ws.sum ws).countP (fun x=>decide (0<x))<=(rL t ws.sum ws).length:=List.countP_le_length
  omega
 generalize zR t ws=res at*
 generalize fV t ws.sum ws=L at*
 generalize qL t ws.sum ws=Q at*
 generalize rL t ws.sum ws=R at*
 refine⟨Nat,fun i=>⟨2,[(0,.dv (I t)),(1,.dv (Ints ws)),(6,.dv (I ws.sum)),(10,.own 0 0 0 []),(11,.own 1 0 0 []),(12,.dv (I (t-(Q.take i).sum))),(13,.dv (I i))],[(0,.tree 0 0 (.aB 1 ((Q.take i).map I))),(1,.tree 0 0 (.aB 1 ((R.take i).map I)))]⟩,fun i=>i<=ws.length,fun i=>ws.length-i,0,fun _=>rfl,⟨⟨rf,rf,rf,⟨rfl,rfl,rfl,rfl,1,rfl⟩,⟨rfl,rfl,rfl,rfl,1,rfl⟩,aF (by simp),rf,tv⟩,⟨⟨rfl,rfl,1,rfl⟩,⟨rfl,rfl,1,rfl⟩,tv⟩,rfl,rfl⟩,abW _,?_⟩
 rintro i hi
 have c1:=s8 i YJ
 refine abG ?_ ?_
 ·intro h
  have au:i<ws.length:=by have:=abY h;rw[abH]at this;omega
  have hx:=aaj au
  generalize ws[i]=x at hx
  have hxm:=abK hx
  have LC:=hw x hxm
  have DR:=H3 hw0 x hxm
  obtain⟨e1,e2⟩:=hqe hx
  have c2:=s8 (i+1) YJ
  have e3:=yO e1
  rw[e3]at c2
  refine⟨I x,fun _=>⟨by omega,by rw[abJ];simp[hx]⟩,?_⟩
  refine .inl ⟨_,fun _=>(Lz t x ws.sum ⟨by omega,by omega⟩ ⟨by omega,DR⟩ ⟨by omega,by omega⟩).ok,?_⟩
  generalize t*x/ws.sum=q at*
  generalize t*x%ws.sum=r at*
  have f1:(Q.take (i+1)).map I=(Q.take i).map I++[I q]:=by rw[abR,e1];simp
  have f2:(R.take (i+1)).map I=(R.take i).map I++[I r]:=by rw[abR,e2];simp
  have g1':((Q.take i).map I).length<=5000:=by rw[abH,ab2];omega
  have g2':((R.take i).map I).length<=5000:=by rw[abH,ab2];omega
  refine .inl ⟨[I q],rfl,⟨rf,tv⟩,(by simp;rfl),?_⟩
  refine .inr ⟨[I q],cd.refl _,bI (by simp only[List.length_cons,List.length_nil];omega),by simp only[List.length_cons,List.length_nil];omega,?_⟩
  refine .inl ⟨[I r],rfl,⟨rf,tv⟩,(by simp;rfl),?_⟩
  refine .inr ⟨[I r],cd.refl _,bI (by simp only[List.length_cons,List.length_nil];omega),by simp only[List.length_cons,List.length_nil];omega,?_⟩
  exact⟨fun _=>⟨by omega,by omega⟩,fun _=>⟨by omega,by omega⟩,i+1,jn (by simp only[e3,<-Int.sub_sub];rfl) (by simp only[f1,f2];rfl) rfl rfl,by omega,mlt au⟩
 intro h
 have he:i=ws.length:=by have:=abZ h;rw[abH]at this;omega
 subst he
 have eQ:Q.take ws.length=Q:=List.take_of_length_le (by omega)
 have eR:R.take ws.length=R:=List.take_of_length_le (by omega)
 have hRn:∀r∈R,0<=r:=fun r hr=>(Yg r hr).1
 have hon:=fun k=>@OZ R Q hRn (by omega) k
 have VZ:∀k,(An (Q,R) k).1.length=ws.length/\(An (Q,R) k).2.length=ws.length:=fun k=>by
  induction k with
  |zero=>exact⟨Hg,hrl⟩
  |succ k ih=>exact⟨(xa _ _).trans ih.1,(List.length_set ..).trans ih.2⟩
 refine⟨Nat,fun k=>⟨2,[(10,.own 0 0 0 []),(11,.own 1 0 0 []),(12,.dv (I (L-k)))],[(0,.tree 0 0 (.aB 1 ((An (Q,R) k).1.map I))),(1,.tree 0 0 (.aB 1 ((An (Q,R) k).2.map I)))]⟩,fun k=>k<=L.toNat,fun k=>L.toNat-k,0,fun _=>rfl,⟨⟨rfl,rfl,aF (by rw[eQ,<-hLd];simp),tv⟩,⟨⟨rfl,by rw[eQ];rfl⟩,⟨rfl,by rw[eR];rfl⟩,tv⟩,rfl,rfl⟩,abW _,?_⟩
 rintro k hk
 refine abG ?_ ?_
 ·intro h
  have au:k<L.toNat:=by have:=abY h;omega
  obtain⟨n1,n2⟩:=VZ k
  have dZ:An (Q,R) (k+1)=onR (An (Q,R) k):=rfl
  have KP:=hon (k+1) (by omega)
  have MI:=hon k (by omega)
  generalize CW:An (Q,R) k=o at*
  obtain⟨o1,o2⟩:=o
  simp only at n1 n2
  refine⟨Nat,fun i=>⟨2,[(10,.own 0 0 0 []),(11,.own 1 0 0 []),(12,.dv (I (L-k))),(17,.dv (I (rM o2 i))),(18,.dv (I i))],[(0,.tree 0 0 (.aB 1 (o1.map I))),(1,.tree 0 0 (.aB 1 (o2.map I)))]⟩,fun i=>1<=i/\i<=ws.length,fun i=>ws.length-i,1,fun _=>rfl,jn (by simp only[CW];rfl) (by simp only[CW];rfl) rfl rfl,⟨by omega,by omega⟩,?_⟩
  rintro i ⟨MJ,uY⟩
  have UD:=Sp o2 MJ
  have Hl:=LA o2 MJ
  refine abG ?_ ?_
  ·intro h
   have Fs:i<ws.length:=by have:=abY h;rw[abH]at this;omega
   have hx:=aaj (show i<o2.length by omega)
   have hy:=aaj (show rM o2 i<o2.length by omega)
   have dx:o2.getD i 0=o2[i]:=by rw[abM,hx];rfl
   have dy:o2.getD (rM o2 i) 0=o2[rM o2 i]:=by rw[abM,hy];rfl
   generalize o2[i]=x at hx dx
   generalize o2[rM o2 i]=y at hy dy
   refine⟨fun _=>⟨by omega,by rw[abH];omega⟩,I x,fun _=>by rw[abJ];simp[hx],?_⟩
   refine⟨fun _=>⟨by omega,by rw[abH];omega⟩,I y,fun _=>by rw[abJ];simp[hy],?_⟩
   refine abG (by kernel_rfl) (abG ?_ ?_)
   ·intro h
    have h:=abY h
    have hb:rM o2 (i+1)=i:=by rw[Hl];unfold Am;rw[dx,dy,if_pos h]
    exact⟨fun _=>⟨by omega,by omega⟩,i+1,jn (by simp only[hb];rfl) rfl rfl rfl,⟨by omega,by omega⟩,mlt Fs⟩
   ·intro h
    have h:=abZ h
    have hb:rM o2 (i+1)=rM o2 i:=by rw[Hl];unfold Am;rw[dx,dy,if_neg h]
    exact⟨fun _=>⟨by omega,by omega⟩,i+1,jn (by simp only[hb];rfl) rfl rfl rfl,⟨by omega,by omega⟩,mlt Fs⟩
  ·intro h
   have Fs:i=ws.length:=by have:=abZ h;rw[abH]at this;omega
   subst Fs
   have Bk:rM o2 ws.length=yI o2:=by unfold rM yI;rw[n2]
   simp only[Bk]
   rw[Bk]at UD
   simp only at MI
   have Y3:An (Q,R) (k+1)=(kp o1 (yI o2),o2.set (yI o2) (-1)):=dZ
   clear dZ KP
   generalize yI o2=b at*
   have hx:=aaj (show b<o1.length by omega)
   have hy:=aaj (show b<o2.length by omega)
   have dx:o1.getD b 0=o1[b]:=by rw[abM,hx];rfl
   have LC:0<=o1[b]/\o1[b]<=t+1:=by
    rw[<-dx,MI,yG (by omega)]
    have hq:Q.getD b 0∈Q:=by rw[abM,aaj (by omega)];exact acf _
    have h1:=H3 YJ _ hq
    have h2:=YJ _ hq
    split<;>omega
   generalize o1[b]=x at hx dx LC
   generalize o2[b]=y at hy
   refine⟨fun _=>⟨by omega,by rw[abH];omega⟩,I x,fun _=>by rw[abJ];simp[hx],?_⟩
   refine⟨fun _=>⟨by omega,by omega⟩,fun _=>⟨by omega,by rw[abH];omega⟩,?_⟩
   refine⟨[I (x+1)],⟨rf,tv⟩,I x,by rw[abJ];simp[hx],?_⟩
   refine⟨fun _=>⟨by omega,by rw[abH];omega⟩,?_⟩
   refine⟨[I (-1)],⟨rf,tv⟩,I y,by rw[abJ];simp[hy],?_⟩
   have f1:(o1.map I).set (b:Int).toNat (I (x+1))=(kp o1 b).map I:=by
    rw[Int.toNat_natCast];unfold kp;rw[dx,List.map_set]
   have f2:(o2.map I).set (b:Int).toNat (I (-1))=(o2.set b (-1)).map I:=by
    rw[Int.toNat_natCast,List.map_set]
   exact⟨fun _=>⟨by omega,by omega⟩,k+1,⟨⟨rfl,rfl,aF (by omega),tv⟩,⟨⟨rfl,by rw[Y3];exact congrArg (DV.aB 1) f1⟩,⟨rfl,by rw[Y3];exact congrArg (DV.aB 1) f2⟩,tv⟩,rfl,rfl⟩,by omega,mlt au⟩
 ·intro h
  have hkL:k=L.toNat:=by have:=abZ h;omega
  subst hkL
  refine⟨?_,rf,tv⟩
  rw[hon _ (by omega),<-Sq]
  exact DV.Le.of_eq (by show DV.sl 1 (zQ (res.map I))=_;rw[gK (fun _=>rfl)])
end
end Go.Proofs.YtknnpcfhekkjjaaGreatDoor
