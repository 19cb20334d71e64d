import Derived.Test.YtmojfblpbcficaaGreatDoorUM13
import Derived.Test.YtmojfblpbcficaaGreatDoorProg
import Derived.Test.YtmojfblpbcficaaGreatDoorChecked
import Derived.KernelRfl
import Derived.Test.YtmojfblpbcficaaGreatDoorUM15
import Derived.Test.YtmojfblpbcficaaGreatDoorUM16
import Derived.Test.YtmojfblpbcficaaGreatDoorUM17
set_option linter.all false
open Go.TM.oA Go.TM.oB Go.TM.oC Go.TM.oD Go.TM.oE
namespace Go.Proofs.YtmojfblpbcficaaGreatDoor
set_option maxRecDepth 100000
set_option maxHeartbeats 2000000
section
open Go.TM
def xw:TI:=⟨false,1,0,false,[],[],false,false,0,0,0,[],none,false,0,[]⟩
def bC:TI:=⟨true,1,8,false,[],[.jN],false,false,0,7,0,[],none,false,0,[]⟩
def ty2:TI:=⟨true,1,8,false,[],[.int .i64 0],false,false,0,2,0,[],some .i64,false,0,[]⟩
def ty3:TI:=⟨true,1,1,false,[],[.int .u8 0],false,false,0,2,0,[],some .u8,false,0,[]⟩
def ty4:TI:=⟨true,4,24,true,[(0,1),(1,1),(2,1),(3,1)],[.int .i64 0,.int .i64 0,.bool false,.int .u8 0],false,false,0,9,0,[2,3,4,6],none,false,0,[2,2,1,2]⟩
def ty5:TI:=⟨true,1,16,false,[],[.str ⟨#[]⟩],false,true,0,3,0,[],none,false,0,[]⟩
def ty6:TI:=⟨true,1,8,false,[],[.int .u64 0],false,false,0,2,0,[],some .u64,false,0,[]⟩
def ty7:TI:=⟨true,2,24,true,[(0,1),(1,1)],[.str ⟨#[]⟩,.int .u64 0],false,false,0,9,0,[9,12],none,false,0,[]⟩
def Oa:TI:=⟨true,1,8,false,[],[.eY],false,false,0,5,0,[],none,false,0,[]⟩
def ty9:TI:=⟨true,1,8,true,[(0,1)],[.eY],false,false,0,9,0,[17],none,false,0,[]⟩
def Xz:TI:=⟨true,1,16,false,[],[.nR],false,false,0,8,0,[],none,false,0,[]⟩
def XA:TI:=⟨true,1,4,false,[],[.int .i32 0],false,false,0,2,0,[],some .i32,false,0,[]⟩
def aaB:TI:=⟨true,11,120,true,[(0,1),(1,1),(2,1),(3,1),(4,1),(5,1),(6,1),(7,1),(8,1),(9,1),(10,1)],[.int .i64 0,.int .i64 0,.int .i64 0,.int .i64 0,.int .i64 0,.int .i64 0,.int .i64 0,.int .i64 0,.int .i64 0,.ax,.ax],false,false,0,9,0,[3,3,3,3,3,3,3,3,3,27,22],none,false,0,[]⟩
def TU:TI:=⟨true,3,24,true,[(0,1),(1,1),(2,1)],[.int .i64 0,.int .i64 0,.int .i64 0],false,false,0,9,0,[3,3,3],none,false,0,[2,2,2]⟩
def aaC:TI:=⟨true,7,72,true,[(0,1),(1,1),(2,1),(3,1),(4,1),(5,1),(6,1)],[.int .i64 0,.int .i64 0,.int .i64 0,.int .i64 0,.int .i64 0,.int .i64 0,.ax],false,false,0,9,0,[3,3,3,3,3,3,40],none,false,0,[]⟩
def aaD:TI:=⟨true,4,96,true,[(0,1),(1,1),(2,1),(3,1)],[.ax,.ax,.ax,.ax],false,false,0,9,0,[59,60,61,62],none,false,0,[]⟩
def aaE:TI:=⟨true,5,56,true,[(0,1),(1,1),(2,1),(3,1),(4,1)],[.int .i64 0,.int .i64 0,.int .i64 0,.int .i64 0,.ax],false,false,0,9,0,[3,3,3,3,27],none,false,0,[]⟩
def aaF:TI:=⟨true,11,184,true,[(0,1),(1,4),(5,1),(6,1),(7,1),(8,1),(9,1),(10,1)],[.int .i64 0,.ax,.ax,.ax,.ax,.gZ,.gZ,.ax,.ax,.gZ,.gZ],false,false,0,9,0,[3,64,82,83,55,25,84,84],none,false,0,[]⟩
def MP:TI:=⟨true,2,16,true,[(0,1),(1,1)],[.int .i64 0,.int .i64 0],false,false,0,9,0,[3,3],none,true,0,[2,2]⟩
def aaG:TI:=⟨true,8,176,true,[(0,1),(1,4),(5,1),(6,1),(7,1)],[.int .i64 0,.ax,.ax,.ax,.ax,.ax,.ax,.ax],false,false,0,9,0,[3,64,96,25,55],none,false,0,[]⟩
def aaH:TI:=⟨true,14,160,true,[(0,1),(1,7),(8,1),(9,1),(10,1),(11,1),(12,1),(13,1)],[.eY,.int .i64 0,.int .i64 0,.int .i64 0,.int .i64 0,.int .i64 0,.int .i64 0,.ax,.gZ,.gZ,.gZ,.gZ,.ax,.ax],false,false,0,9,0,[23,42,82,83,84,84,25,22],none,false,0,[]⟩
def aaI:TI:=⟨true,3,40,true,[(0,1),(1,1),(2,1)],[.int .i64 0,.int .i64 0,.ax],false,false,0,9,0,[3,3,27],none,false,0,[]⟩
def aaJ:TI:=⟨true,7,48,true,[(0,1),(1,1),(2,1),(3,1),(4,1),(5,1),(6,1)],[.str ⟨#[]⟩,.bool false,.bool false,.bool false,.int .i64 0,.int .i64 0,.int .i64 0],false,false,0,9,0,[9,4,4,4,3,3,3],none,false,0,[3,1,1,1,2,2,2]⟩
def aaK:TI:=⟨true,9,128,true,[(0,1),(1,1),(2,1),(3,1),(4,1),(5,1),(6,1),(7,1),(8,1)],[.str ⟨#[]⟩,.bool false,.int .i64 0,.int .i64 0,.int .i64 0,.int .i64 0,.ax,.ax,.ax],false,false,0,9,0,[9,4,3,3,3,3,122,122,122],none,false,0,[]⟩
def aaL:TI:=⟨true,2,32,true,[(0,1),(1,1)],[.int .i64 0,.ax],false,false,0,9,0,[3,122],none,false,0,[]⟩
def aaM:TI:=⟨true,2,40,true,[(0,1),(1,1)],[.str ⟨#[]⟩,.ax],false,false,0,9,0,[9,127],none,false,0,[]⟩
def aaN:TI:=⟨true,2,40,true,[(0,1),(1,1)],[.str ⟨#[]⟩,.ax],false,false,0,9,0,[9,132],none,false,0,[]⟩
def aaO:TI:=⟨true,5,104,true,[(0,1),(1,1),(2,1),(3,1),(4,1)],[.ax,.ax,.gZ,.ax,.ax],false,false,0,9,0,[25,142,83,22,143],none,false,0,[]⟩
def aaP:TI:=⟨true,4,32,true,[(0,1),(1,1),(2,1),(3,1)],[.jN,.jN,.bool false,.jN],false,false,0,9,0,[156,156,4,210],none,false,0,[]⟩
def XB:TI:=⟨true,4,40,true,[(0,1),(1,1),(2,1),(3,1)],[.int .i64 0,.str ⟨#[]⟩,.int .i64 0,.int .i64 0],false,false,0,9,0,[3,9,3,3],none,false,0,[2,3,2,2]⟩
def aaQ:TI:=⟨true,4,40,true,[(0,1),(1,1),(2,1),(3,1)],[.eY,.eY,.eY,.str ⟨#[]⟩],false,false,0,9,0,[17,17,17,9],none,false,0,[]⟩
def aaR:TI:=⟨true,0,0,true,[(0,0)],[],false,false,0,9,0,[329],none,false,0,[]⟩
def aaS:TI:=⟨true,11,48,true,[(0,1),(1,1),(2,1),(3,1),(4,1),(5,1),(6,1),(7,1),(8,1),(9,1),(10,1)],[.int .u64 0,.int .u64 0,.int .u32 0,.int .u8 0,.int .u8 0,.int .u8 0,.int .u8 0,.jN,.eY,.int .i32 0,.int .i32 0],false,false,0,9,0,[12,12,185,332,5,5,333,334,335,336,337],none,false,0,[]⟩
def aaT:TI:=⟨true,1,16,true,[(0,1)],[.str ⟨#[]⟩],false,false,0,9,0,[9],none,false,0,[3]⟩
def kp:List TI:=[
 xw,bC,ty2,ty2,⟨true,1,1,false,[],[.bool false],false,false,0,1,0,[],none,false,0,[]⟩,ty3,ty3,ty4,ty4,ty5,ty5,ty5,ty6,ty7,ty7,Oa,Oa,Oa,ty9,ty9,Xz,XA,⟨true,1,24,false,[],[.ax],true,false,3,4,0,[],none,false,0,[]⟩,Oa,bC,⟨true,1,24,false,[],[.ax],true,false,29,4,0,[],none,false,0,[]⟩,bC,⟨true,1,24,false,[],[.ax],true,false,53,4,0,[],none,false,0,[]⟩,aaB,aaB,⟨true,1,24,false,[],[.ax],true,false,33,4,0,[],none,false,0,[]⟩,bC,TU,TU,bC,bC,bC,Oa,xw,bC,⟨true,1,24,false,[],[.ax],true,false,72,4,0,[],none,false,0,[]⟩,aaC,aaC,bC,ty2,xw,bC,bC,bC,bC,bC,bC,TU,TU,bC,⟨true,1,24,false,[],[.ax],true,false,42,4,0,[],none,false,0,[]⟩,bC,xw,bC,
 ⟨true,1,24,false,[],[.ax],true,false,119,4,0,[],none,false,0,[]⟩,⟨true,1,24,false,[],[.ax],true,false,124,4,0,[],none,false,0,[]⟩,⟨true,1,24,false,[],[.ax],true,false,129,4,0,[],none,false,0,[]⟩,⟨true,1,24,false,[],[.ax],true,false,134,4,0,[],none,false,0,[]⟩,aaD,aaD,bC,bC,bC,bC,bC,bC,aaE,aaE,bC,Oa,xw,bC,bC,xw,bC,bC,bC,⟨true,1,8,false,[],[.gZ],false,false,27,6,89,[],none,false,0,[]⟩,⟨true,1,8,false,[],[.gZ],false,false,3,6,3,[],none,false,0,[]⟩,⟨true,1,8,false,[],[.gZ],false,false,27,6,3,[],none,false,0,[]⟩,aaF,aaF,bC,MP,MP,bC,bC,bC,bC,xw,bC,⟨true,1,24,false,[],[.ax],true,false,111,4,0,[],none,false,0,[]⟩,aaG,aaG,bC,Oa,xw,bC,aaH,aaH,bC,bC,bC,bC,bC,aaI,aaI,
 bC,bC,bC,bC,bC,bC,aaJ,aaJ,MP,MP,⟨true,1,24,false,[],[.ax],true,false,121,4,0,[],none,false,0,[]⟩,aaK,aaK,aaL,aaL,⟨true,1,24,false,[],[.ax],true,false,126,4,0,[],none,false,0,[]⟩,aaM,aaM,MP,MP,⟨true,1,24,false,[],[.ax],true,false,131,4,0,[],none,false,0,[]⟩,aaN,aaN,bC,bC,bC,bC,bC,bC,bC,⟨true,1,24,false,[],[.ax],true,false,22,4,0,[],none,false,0,[]⟩,⟨true,1,24,false,[],[.ax],true,false,187,4,0,[],none,false,0,[]⟩,aaO,aaO,bC,xw,bC,bC,bC,bC,bC,bC,bC,ty6,bC,bC,bC,bC,bC,bC,xw,bC,bC,bC,bC,Oa,⟨true,1,24,false,[],[.ax],true,false,27,4,0,[],none,false,0,[]⟩,bC,bC,bC,bC,bC,bC,bC,bC,bC,ty2,xw,bC,bC,bC,bC,bC,
 ⟨true,1,4,false,[],[.int .u32 0],false,false,0,2,0,[],some .u32,false,0,[]⟩,bC,ty6,bC,bC,bC,bC,bC,bC,bC,bC,⟨true,1,24,false,[],[.ax],true,false,198,4,0,[],none,false,0,[]⟩,bC,⟨true,1,24,false,[],[.ax],true,false,9,4,0,[],none,false,0,[]⟩,bC,bC,bC,xw,bC,bC,bC,⟨true,1,24,false,[],[.ax],true,false,122,4,0,[],none,false,0,[]⟩,bC,⟨true,1,24,false,[],[.ax],true,false,4,4,0,[],none,false,0,[]⟩,⟨true,1,24,false,[],[.ax],true,false,44,4,0,[],none,false,0,[]⟩,bC,aaP,aaP,xw,bC,bC,bC,xw,bC,bC,bC,ty6,bC,bC,bC,Oa,bC,bC,bC,bC,bC,bC,bC,bC,bC,bC,bC,bC,bC,bC,bC,bC,bC,bC,bC,bC,bC,bC,bC,bC,bC,bC,bC,⟨true,1,24,false,[],[.ax],true,false,257,4,0,[],none,false,0,[]⟩,xw,
 bC,XB,XB,bC,xw,bC,bC,bC,bC,bC,bC,Oa,xw,bC,⟨true,1,24,false,[],[.ax],true,false,272,4,0,[],none,false,0,[]⟩,xw,bC,XB,⟨true,1,8,false,[],[.gZ],false,false,4,6,9,[],none,false,0,[]⟩,bC,bC,bC,bC,bC,bC,xw,bC,bC,xw,bC,bC,bC,bC,bC,bC,bC,bC,bC,bC,bC,xw,bC,bC,bC,xw,bC,xw,bC,bC,bC,bC,bC,bC,bC,xw,bC,bC,bC,bC,
 ⟨true,128,128,true,[],[.int .u8 0,.int .u8 0,.int .u8 0,.int .u8 0,.int .u8 0,.int .u8 0,.int .u8 0,.int .u8 0,.int .u8 0,.int .u8 0,.int .u8 0,.int .u8 0,.int .u8 0,.int .u8 0,.int .u8 0,.int .u8 0,.int .u8 0,.int .u8 0,.int .u8 0,.int .u8 0,.int .u8 0,.int .u8 0,.int .u8 0,.int .u8 0,.int .u8 0,.int .u8 0,.int .u8 0,.int .u8 0,.int .u8 0,.int .u8 0,.int .u8 0,.int .u8 0,.int .u8 0,.int .u8 0,.int .u8 0,.int .u8 0,.int .u8 0,.int .u8 0,.int .u8 0,.int .u8 0,.int .u8 0,.int .u8 0,.int .u8 0,.int .u8 0,.int .u8 0,.int .u8 0,.int .u8 0,.int .u8 0,.int .u8 0,.int .u8 0,.int .u8 0,.int .u8 0,.int .u8 0,.int .u8 0,.int .u8 0,.int .u8 0,.int .u8 0,.int .u8 0,.int .u8 0,.int .u8 0,.int .u8 0,.int .u8 0,.int .u8 0,.int .u8 0,.int .u8 0,.int .u8 0,.int .u8 0,.int .u8 0,.int .u8 0,.int .u8 0,.int .u8 0,.int .u8 0,.int .u8 0,.int .u8 0,.int .u8 0,.int .u8 0,.int .u8 0,.int .u8 0,.int .u8 0,.int .u8 0,.int .u8 0,.int .u8 0,.int .u8 0,.int .u8 0,.int .u8 0,.int .u8 0,.int .u8 0,.int .u8 0,.int .u8 0,.int .u8 0,.int .u8 0,.int .u8 0,.int .u8 0,.int .u8 0,.int .u8 0,.int .u8 0,.int .u8 0,.int .u8 0,.int .u8 0,.int .u8 0,.int .u8 0,.int .u8 0,.int .u8 0,.int .u8 0,.int .u8 0,.int .u8 0,.int .u8 0,.int .u8 0,.int .u8 0,.int .u8 0,.int .u8 0,.int .u8 0,.int .u8 0,.int .u8 0,.int .u8 0,.int .u8 0,.int .u8 0,.int .u8 0,.int .u8 0,.int .u8 0,.int .u8 0,.int .u8 0,.int .u8 0,.int .u8 0,.int .u8 0,.int .u8 0,.int .u8 0,.int .u8 0],false,false,5,10,0,[],none,false,128,[]⟩,
 Xz,Xz,bC,bC,bC,bC,bC,bC,bC,bC,Oa,bC,aaQ,aaQ,⟨true,0,0,true,[],[],false,false,16,10,0,[],none,false,0,[]⟩,aaR,aaR,ty3,ty3,bC,Oa,XA,XA,aaS,aaS,aaT,aaT,⟨true,1,8,false,[],[.eY],false,false,0,0,0,[],none,false,0,[]⟩]
theorem TV(f:Nat->TI)(l:List Nat)(t:Nat):nth (l.map f) t=match l[t]? with|some i=>f i|none=>TI.no:=by
 induction l generalizing t with
 |nil=>cases t<;>rfl
 |cons x r ih=>cases t with
  |zero=>rfl
  |succ t=>simpa[nth]using ih t
theorem XD:(List.range 343).map (TI.of Tryz.prog)=kp:=by kernel_rfl
theorem gi:fD Tryz.prog kp:=by
 intro t h
 rw[<-XD,TV]at h⊢
 by_cases ht:t<343
 ·rw[List.getElem?_range ht]
 ·rw[List.getElem?_eq_none (by simp;omega)]at h;cases h
theorem mixed:Tryz.prog.follows .mixedOrders=true:=Checked.mixed Tryz.checked
end
section
open Go.TM
def BH:List Nat:=[0,0,0,0,0,0,0,0,0,1,1,0,0,0,0,0,0,0,0,0,0,0,0,0,0,0,0,0,0,0,0,0,1,0,0,2,0,0,0,0,7,7,0,7,7,6,7,0,4,4,4,4,4,4,4,4,4,4,7,7,7,7,7,0,0,0,0,0,0,0,0,0,0,0,0,0,0,0,0,0,0,0,0,0,0,0,0,0,0,0,0,0,0,0,0,5,0,3,3,3,3,3,3,3,3,3,3,3,3,3,3,3,3,3,3,3,3,3,3,3,3,3,3,7,0,7,0,0]
class bp where
 ty:TypeId
 fr:Nat×Nat
def MQ:Array Value:=(BH.map fun n=>Value.int .u8 (n:Nat)).toArray
def I1[bp]:Nat->Option Obj:=fun i=>bif Nat.beq i 0 then some (.cells MQ bp.ty bp.fr)else none
def kDv:Nat->Option DV:=fun i=>bif Nat.beq i 0 then some (.agg (BH.map fun n=>DV.int .u8 (n:Nat)))else none
theorem kOk[bp]:∀i x,kDv i=some x->∀M:Mem,(∀j o,I1 j=some o->M j=some o)->bz M (.at x 0) (.pointer (some ⟨i,0,none⟩)):=by
 intro i x h M hM
 unfold kDv at h
 cases hb:Nat.beq i 0 with
 |false=>rw[hb]at h;cases h
 |true=>
  rw[hb]at h
  have hi:=ab9 hb
  injection h with h;subst h
  have hm:=hM i (.cells MQ bp.ty bp.fr) (by unfold I1;rw[hb];rfl)
  have ha:∀j,(⟨i,0,none⟩:Addr).add j=⟨i,j,none⟩:=fun j=>by unfold Addr.add;split<;>simp[*]
  have:=bz.at (M:=M) (.agg (BH.map fun n=>DV.int .u8 (n:Nat))) 0 ⟨i,0,none⟩ (fun j=>.int .u8 ((BH.getD j 0:Nat):Int)) (fun d hd=>by
   simp only[DV.cells,adK]at hd
   obtain⟨n,_,rfl⟩:=hd
   rfl) (fun j hj=>by
   rw[ha]
   simp only[DV.cells,WY]at hj
   simp[Mem.cell?,hm,MQ,hj]) (fun j d hd=>by
   simp only[DV.cells,abW]at hd
   cases hj:BH[j]? with
   |none=>rw[hj]at hd;cases hd
   |some n=>
    rw[hj]at hd
    simp only[Option.map_some,Option.some.injEq]at hd
    subst hd
    simp only[List.getD,hj,Option.getD_some]
    exact .int .u8 _)
  rw[ha]at this
  exact this
instance ac1[bp]:cj where
 obj:=I1
 dv:=kDv
 ok:=kOk
abbrev I(n:Int):DV:=.int .i64 n
abbrev B(b:Bool):DV:=.bool b
abbrev Ints(l:List Int):DV:=.sl 1 (l.map I)
theorem aJ{a b:Int}{k:IntKind}(h:a=b):(DV.int k a).Le (.int k b):=h▸DV.Le.refl _
abbrev rf{d:DV}:d.Le d:=DV.Le.refl d
theorem tu:∀(g:Nat) (fn:Func),Tryz.prog.funcs[g]?=some fn->(fn.name== "runtime.NumGoroutine")=false:=by
 have h:(Tryz.prog.funcs.all fun fn=>!(fn.name== "runtime.NumGoroutine"))=true:=by kernel_rfl
 intro g fn hg
 rw[Array.all_eq_true']at h
 have:=h fn (Array.mem_of_getElem? hg)
 simpa using this
variable [bp]
def tw(n:Int):Prop:=-9223372036854775808<=n/\n<=9223372036854775807
theorem fT{α:Type}{e:α->DV}(h:∀x,pk (e x)=e x)(l:List α):xx (l.map e)=l.map e:=by
 rw[y6,List.map_map]
 exact List.map_congr_left fun x _=>h x
theorem rl{b:Bool}(h:b=true):bw b true=true:=by subst h;rfl
theorem acf{b:Bool}(h:b=false):bw b false=true:=by subst h;rfl
theorem XE{a b:Bool}(h:a=true)(h2:b=true):(a&&bw b true)=true:=by subst h;subst h2;rfl
theorem TW{a b:Bool}(h:a=true)(h2:b=false):(a&&bw b false)=true:=by subst h;subst h2;rfl
theorem c6{a b:Bool}(h:(bif a then b else false)=true):a=true/\b=true:=by cases a<;>simp_all
theorem lM{a b:Bool}(h:(bif a then b else false)=false):¬(a=true/\b=true):=by cases a<;>simp_all
def y7(b w:DV):List DV:=[.agg [.str ⟨⟨[103,111,108,100]⟩⟩,B false,B true,B true,I 0,I 0,I 0],
 .agg [.str ⟨⟨[111,114,101]⟩⟩,B false,B false,B false,I 0,I 0,I 0],
 .agg [.str ⟨⟨[99,111,97,108]⟩⟩,B false,B true,B false,I 0,I 0,I 0],
 .agg [.str ⟨⟨[98,97,114]⟩⟩,B false,B false,B false,I 0,I 0,I 0],
 .agg [.str ⟨⟨[115,119,111,114,100]⟩⟩,B true,B false,B false,w,b,I 3]]
def Qe:DV:=.sl 9 [.agg [.str ⟨⟨[100,105,103]⟩⟩,B true,I 0,I 0,I 1,I 1,.ax,.sl 2 [.agg [I 1,I 4],.agg [I 2,I 3]],.ax],
 .agg [.str ⟨⟨[115,109,101,108,116]⟩⟩,B false,I 2,I 5,I 2,I 3,.sl 2 [.agg [I 1,I 2],.agg [I 2,I 1]],.sl 2 [.agg [I 3,I 1]],.sl 2 [.agg [I 1,I 1]]],
 .agg [.str ⟨⟨[102,111,114,103,101]⟩⟩,B false,I 3,I 10,I 1,I 1,.sl 2 [.agg [I 3,I 3]],.sl 2 [.agg [I 4,I 1]],.ax],
 .agg [.str ⟨⟨[115,99,114,97,112]⟩⟩,B false,I 0,I 1,I 1,I 1,.sl 2 [.agg [I 4,I 1]],.sl 2 [.agg [I 3,I 3]],.ax],
 .agg [.str ⟨⟨[115,101,108,108]⟩⟩,B false,I 0,I 1,I 1,I 1,.sl 2 [.agg [I 3,I 1]],.sl 2 [.agg [I 0,I 7]],.ax]]
def VQ:DV:=.sl 2 [.agg [.str ⟨⟨[99,104,101,115,116]⟩⟩,.sl 2 [.agg [I 5,.sl 2 [.agg [I 0,I 10]]],.agg [I 1,.sl 2 [.agg [I 3,I 2]]]]]]
def Qf:DV:=.sl 2 [.agg [.str ⟨⟨[115,97,108,101]⟩⟩,.sl 2 [.agg [I 0,I 500],.agg [I 100,I 1000]]]]
def acg(b w:DV):DV:=.agg [.sl 7 (y7 b w),Qe,VQ,Qf]
def XF(_:Nat):Bool:=true
def ach(_:Nat):Bool:=false
theorem pO{f:Nat}{fn:Func}{c:Code}{args rs:List DV}(hf:Tryz.prog.funcs[f]?=some fn)(hb:fn.body=some c)(hn:(fn.name== "runtime.NumGoroutine")=false)
 (ha:Nat.ble args.length fn.ntmps=true) (h:fH Tryz.prog kp .fn fn.ntmps 0 c (Vo kp fn rs) 0 (rV 0 args) []):aN Tryz.prog f args rs:=Fk gi mixed (fg _) (fM _) hf hb hn ha h
theorem cO{f:Nat}{fn:Func}{c:Code}{args:List AV}{m ex:Nat}{K:ae}{rs:List AV}{K':ae}(hf:Tryz.prog.funcs[f]?=some fn)(hb:fn.body=some c)
 (ha:((!(fn.name== "runtime.NumGoroutine"))&&(Nat.ble args.length fn.ntmps&&cQ.wf ⟨m,dt 0 args,K⟩))=true) (h:fH Tryz.prog kp .fn fn.ntmps m c (pL kp fn m ex fun r k=>r=rs/\k=K') m (dt 0 args) K):aj Tryz.prog f args m K ex rs K':=by
 rw[adT,adV]at ha
 exact O1 gi mixed (fg _) (fM _) hf hb ha.1 ha.2 h
theorem g1{a p:Prop}(h:p):(a->a)/\p:=⟨id,h⟩
theorem g2{b:Bool}{a p:Prop}(h:p):(a->b=false->bw b false=true)/\p:=⟨fun _ h=>acf h,h⟩
theorem g3{b:Bool}{a p:Prop}(h:p):(a->b=true->bw b true=true)/\p:=⟨fun _ h=>rl h,h⟩
theorem g4{a b:Bool}{p:Prop}(h:p):(a=true->a=true/\(b=true->(a&&bw b true)=true))/\p:=⟨fun h=>⟨h,fun h2=>XE h h2⟩,h⟩
theorem g5{a b:Bool}{p:Prop}(h:p):(a=true->a=true/\(b=false->(a&&bw b false)=true))/\p:=⟨fun h=>⟨h,fun h2=>TW h h2⟩,h⟩
def aA(x:Lt):DV:=.agg [I x.f,I x.a,I x.n]
abbrev aM(l:List Lt):DV:=.sl 3 (l.map aA)
end
section
open Go.TM
variable [bp]
abbrev F3:DV:=acg (I 2) (I 20)
theorem y8:aN Tryz.prog 25 [] [F3]:=qQ (pol:=XF) (fuel:=1000) gi mixed tu (by kernel_rfl)
theorem BI:aN Tryz.prog 83 [F3] [F3]:=qQ (pol:=ach) (fuel:=1000) gi mixed tu (by kernel_rfl)
theorem y9:aN Tryz.prog 82 [F3] [I 0]:=qQ (pol:=XF) (fuel:=1000) gi mixed tu (by kernel_rfl)
theorem F4:aN Tryz.prog 84 [F3] [I 0]:=qQ (pol:=XF) (fuel:=1000) gi mixed tu (by kernel_rfl)
end
section
open Go.TM
def az(x:Lt):Bool:=decide (0<=x.f/\0<=x.a/\1<=x.n/\x.a+x.n<=1099511627776)
def bB(l:List Lt):Bool:=l.all az&&decide (l.length<=4096)
def br(l:List Lt):Int:=bif bB l then b8 l else 0
theorem ai{x:Lt}:az x=true↔0<=x.f/\0<=x.a/\1<=x.n/\x.a+x.n<=1099511627776:=by simp[az]
theorem F5{p:Lt->Bool}{l:List Lt}{j:Nat}{x:Lt}(hx:l[j]?=some x):(l.take (j+1)).all p=((l.take j).all p&&p x):=by
 rw[ads,hx,List.all_append];simp
theorem Qg{p:Lt->Bool}{l:List Lt}{x:Lt}(hx:x∈l)(h:p x=false):l.all p=false:=by
 rw[List.all_eq_false];exact⟨x,hx,by rw[h];simp⟩
theorem vd{l:List Lt}{j:Nat}{x:Lt}(hx:l[j]?=some x):b8 (l.take (j+1))=b8 (l.take j)+x.n:=by
 rw[ads,hx,gS];simp[b8]
theorem za:∀{l:List Lt},(∀x∈l,0<=x.n/\x.n<=1099511627776)->0<=b8 l/\b8 l<=1099511627776*l.length
 |[],_=>by simp[b8]
 |x::l,h=>by
  have h1:=h x adu
  have h2:=za fun y hy=>h y (adq x hy)
  simp only[b8,List.map_cons,List.sum_cons,List.length_cons]at*
  omega
theorem Ln{l:List Lt}(h:∀x∈l,0<=x.n/\x.n<=1099511627776)(j:Nat)(hj:l.length<=1000000):0<=b8 (l.take j)/\b8 (l.take j)<=1099511627776000000:=by
 have:=za fun x hx=>h x (List.mem_of_mem_take (i:=j) hx)
 have h2:(l.take j).length<=1000000:=by rw[adD];omega
 omega
theorem eU{l:List Lt}(h:bB l=true):l.length<=4096/\∀x∈l,az x=true:=by
 simp only[bB,adT,adH,decide_eq_true_eq]at h
 exact⟨h.2,h.1⟩
theorem j5{x:Lt}(h:az x=true):0<=x.n/\x.n<=1099511627776:=by have:=ai.1 h;omega
theorem mlt{i n:Nat}(h:i<n):n-(i+1)<n-i:=by omega
variable [bp]
theorem MR(x:Lt):aN Tryz.prog 202 [aA x] [B (az x)]:=by
 refine pO Tryz.func202 rfl (by kernel_rfl) rfl ?_
 repeat refine gG ?_
 refine⟨fun h=>?_,?_⟩
 ·simp[bw]at h;omega
 repeat refine gG ?_
 refine⟨DV.Le.of_eq ?_,tv⟩
 congr 1
 rw[adO,ai];simp;omega
theorem BJ(x:Lt):aN Tryz.prog 96 [aA x] [B (az x)]:=by
 refine pO Tryz.func96 rfl (by kernel_rfl) rfl ?_
 repeat refine gG ?_
 refine⟨fun h=>?_,?_⟩
 ·simp[bw]at h;omega
 repeat refine gG ?_
 refine⟨DV.Le.of_eq ?_,tv⟩
 congr 1
 rw[adO,ai];simp;omega
theorem gB(l:List Lt)(hl:l.length<=1000000):aN Tryz.prog 138 [aM l] [B (bB l)]:=by
 refine pO Tryz.func138 rfl (by kernel_rfl) rfl ?_
 refine⟨Nat,fun i=>⟨0,[(0,.dv (aM l)),(3,.dv (I i))],[]⟩,fun i=>i<=l.length/\(l.take i).all az=true,fun i=>l.length-i,0,fun _=>rfl,jn rfl rfl rfl rfl,⟨adx _,rfl⟩,?_⟩
 rintro i ⟨hi,hv⟩
 refine⟨fun h=>?_,fun h=>?_⟩
 ·have au:i<l.length:=by have:=adz h;rw[WY]at this;omega
  have hx:=IF au
  generalize l[i]=x at hx
  refine⟨aA x,fun _=>⟨by omega,by rw[abW];simp[hx]⟩,?_⟩
  refine .inl ⟨_,fun _=>(MR x).ok,?_⟩
  refine⟨fun h=>?_,fun h=>?_⟩
  ·have h:az x=false:=by simpa using h
   refine⟨DV.Le.of_eq ?_,tv⟩
   rw[bB,Qg (ab6 hx) h];rfl
  ·have h:az x=true:=by simpa using h
   exact⟨fun _=>by omega,i+1,jn rfl rfl rfl rfl,⟨by omega,by rw[F5 hx,hv,h];rfl⟩,mlt au⟩
 ·have he:i=l.length:=by have:=adA h;rw[WY]at this;omega
  subst he
  rw[ady]at hv
  refine⟨DV.Le.of_eq ?_,tv⟩
  rw[bB,hv,WY]
  congr 1
  simp only[Bool.true_and]
  congr 1
  simp only[eq_iff_iff];omega
theorem ey(l:List Lt)(hl:l.length<=1000000):aN Tryz.prog 59 [aM l] [B (bB l)]:=by
 refine pO Tryz.func59 rfl (by kernel_rfl) rfl ?_
 refine⟨fun h=>?_,fun h=>?_⟩
 ·have:4096<l.length:=by have:=adz h;rw[WY]at this;omega
  refine⟨DV.Le.of_eq ?_,tv⟩
  rw[bB,adG (by omega),Bool.and_false]
 have hle:l.length<=4096:=by have:=adA h;rw[WY]at this;omega
 refine⟨Nat,fun i=>⟨0,[(8,.dv (aM l)),(9,.dv (I l.length)),(10,.dv (I i))],[]⟩,fun i=>i<=l.length/\(l.take i).all az=true,fun i=>l.length-i,0,fun _=>rfl,jn (by simp;rfl) rfl rfl rfl,⟨adx _,rfl⟩,?_⟩
 rintro i ⟨hi,hv⟩
 refine⟨fun h=>?_,fun h=>?_⟩
 ·have au:i<l.length:=by have:=adz h;omega
  have hx:=IF au
  generalize l[i]=x at hx
  refine⟨aA x,fun _=>⟨by omega,by rw[abW];simp[hx]⟩,?_⟩
  refine .inl ⟨_,fun _=>(BJ x).ok,?_⟩
  refine⟨fun h=>?_,fun h=>?_⟩
  ·have h:az x=false:=by simpa using h
   refine⟨DV.Le.of_eq ?_,tv⟩
   rw[bB,Qg (ab6 hx) h];rfl
  ·have h:az x=true:=by simpa using h
   exact⟨fun _=>by omega,i+1,jn rfl rfl rfl rfl,⟨by omega,by rw[F5 hx,hv,h];rfl⟩,mlt au⟩
 ·have he:i=l.length:=by have:=adA h;omega
  subst he
  rw[ady]at hv
  exact⟨DV.Le.of_eq (by rw[bB,hv,adF hle];rfl),tv⟩
theorem nz(l:List Lt)(hl:l.length<=1000000)(hn:∀x∈l,0<=x.n/\x.n<=1099511627776):aN Tryz.prog 37 [aM l] [I (b8 l)]:=by
 refine pO Tryz.func37 rfl (by kernel_rfl) rfl ?_
 refine⟨Nat,fun i=>⟨0,[(3,.dv (I (b8 (l.take i)))),(6,.dv (aM l)),(7,.dv (I l.length)),(8,.dv (I i))],[]⟩,fun i=>i<=l.length,fun i=>l.length-i,0,fun _=>rfl,jn (by simp;rfl) rfl rfl rfl,adx _,?_⟩
 rintro i hi
 refine⟨fun h=>?_,fun h=>?_⟩
 ·have au:i<l.length:=by have:=adz h;omega
  have hx:=IF au
  generalize l[i]=x at hx
  have b1:=Ln hn i hl
  have b2:=hn x (ab6 hx)
  refine⟨aA x,fun _=>⟨by omega,by rw[abW];simp[hx]⟩,?_⟩
  exact⟨fun _=>by omega,fun _=>by omega,i+1,jn (by simp only[vd hx];rfl) rfl rfl rfl,by omega,mlt au⟩
 ·have he:i=l.length:=by have:=adA h;omega
  subst he
  exact⟨aJ (by rw[ady]),tv⟩
theorem jF(l:List Lt)(hl:l.length<=1000000):aN Tryz.prog 21 [aM l] [I (br l)]:=by
 refine pO Tryz.func21 rfl (by kernel_rfl) rfl ?_
 refine .inl ⟨_,fun _=>(ey l hl).ok,?_⟩
 refine⟨fun h=>?_,fun h=>?_⟩
 ·have h:bB l=false:=by simpa using h
  exact⟨aJ (by rw[br,h];rfl),tv⟩
 ·have h:bB l=true:=by simpa using h
  refine .inl ⟨_,fun _=>(nz l hl fun x hx=>j5 ((eU h).2 x hx)).ok,?_⟩
  exact⟨aJ (by rw[br,h];rfl),tv⟩
theorem kV(l:List Lt)(hl:l.length<=1000000):aN Tryz.prog 85 [aM l] [I (br l)]:=by
 refine pO Tryz.func85 rfl (by kernel_rfl) rfl ?_
 refine .inl ⟨_,fun _=>(gB l hl).ok,?_⟩
 have hb:=fun h=>@eU l h
 have ht:br l=bif bB l then b8 l else 0:=rfl
 generalize bB l=v at hb ht
 refine⟨Nat,fun i=>⟨0,[(0,.dv (aM l)),(3,.dv (I (b8 (l.take i)))),(4,.dv (B v)),(5,.dv (I i))],[]⟩,fun i=>i<=l.length/\(v=false->i=0),fun i=>l.length-i,0,fun _=>rfl,jn rfl rfl rfl rfl,⟨adx _,fun _=>rfl⟩,?_⟩
 rintro i ⟨hi,hv⟩
 repeat refine gG ?_
 refine⟨fun h=>?_,fun h=>?_⟩
 ·have h:=c6 h
  have au:i<l.length:=by have:=adz h.1;rw[WY]at this;omega
  have TX:v=true:=h.2
  have hx:=IF au
  generalize l[i]=x at hx
  have hn:∀x∈l,0<=x.n/\x.n<=1099511627776:=fun x hx=>j5 ((hb TX).2 x hx)
  have b1:=Ln hn i hl
  have b2:=hn x (ab6 hx)
  refine⟨aA x,fun _=>⟨by omega,by rw[abW];simp[hx]⟩,?_⟩
  exact⟨fun _=>by omega,fun _=>by omega,i+1,jn (by simp only[vd hx];rfl) rfl rfl rfl,⟨by omega,by simp[TX]⟩,mlt au⟩
 ·have h:=lM h
  refine⟨aJ ?_,tv⟩
  rw[ht]
  cases v with
  |true=>
   have:i=l.length:=by
    have:¬(i:Int)<(l.map aA).length:=fun hh=>h ⟨adF hh,rfl⟩
    rw[WY]at this;omega
   subst this
   rw[ady];rfl
  |false=>rw[hv rfl];rfl
end
section
open Go.TM
theorem Qh{x:Lt}(h:x.n≠0):aR [] x=[x]:=by unfold aR;rw[if_neg h];rfl
theorem MS{r:List Lt}{x y:Lt}(h:x.n≠0)(hc:y.f=x.f/\y.a+y.n=x.a):aR (r++[y]) x=r++[⟨y.f,y.a,y.n+x.n⟩]:=by
 unfold aR;rw[if_neg h];simp[hc]
theorem MT{r:List Lt}{x y:Lt}(h:x.n≠0)(hc:¬(y.f=x.f/\y.a+y.n=x.a)):aR (r++[y]) x=r++[y]++[x]:=by
 unfold aR;rw[if_neg h];simp[hc]
variable [bp]
theorem bL{n:Nat}(h:n<=1000000):n*(nth kp (nth kp 27).elem).bytes<=140737488355328:=by
 rw[show(nth kp (nth kp 27).elem).bytes=24 by kernel_rfl];omega
theorem aci(l:List Lt):xx (l.map aA)=l.map aA:=fT (fun _=>rfl) l
theorem qT(l:List Lt):(pk (.aD 3 (l.map aA))).Le (aM l):=DV.Le.of_eq (by show DV.sl 3 (xx (l.map aA))=_;rw[aci])
theorem qa(s:List Lt)(x:Lt)(hs:s.length<=100000)(hb:∀y∈s,0<=y.a/\y.a<=1099511627776/\0<=y.n/\y.n<=1099511627776)(hx:0<=x.n/\x.n<=1099511627776):aN Tryz.prog 93 [aM s,aA x] [aM (aR s x)]:=by
 refine pO Tryz.func93 rfl (by kernel_rfl) rfl ?_
 refine .inr ⟨s.map aA,b7.refl _,bL (by rw[WY];omega),by rw[WY];omega,?_⟩
 refine⟨fun h=>?_,fun h=>?_⟩
 ·have h0:x.n=0:=adz h
  rw[show aR s x=s from if_pos h0]
  exact⟨qT s,tv⟩
 have h0:x.n≠0:=adA h
 rcases List.eq_nil_or_concat s with rfl|⟨r,y,rfl⟩
 ·have dI:∀{p:Prop},bw (decide (0<((List.map aA []).length:Int))) true=true->p:=fun h=>by simp[bw]at h
  repeat first|refine g1 ?_|refine g3 ?_|refine⟨dI,?_⟩|refine⟨aA x,dI,?_⟩
  refine⟨by kernel_rfl,fun h=>by simp at h,fun _=>?_⟩
  refine .inl ⟨[aA x],rfl,⟨rf,rf,rf,tv⟩,(by simp;rfl),?_⟩
  refine .inr ⟨[aA x],b7.refl _,bL (by simp),by simp,?_⟩
  rw[Qh h0]
  exact⟨qT [x],tv⟩
 ·rw[List.concat_eq_append]at*
  have e1:((r++[y]).map aA).length=r.length+1:=by simp
  have hy:((r++[y]).map aA)[((((r++[y]).map aA).length:Int)-1).toNat]?=some (aA y):=by rw[e1,show(((r.length+1:Nat):Int)-1).toNat=r.length by omega];simp
  have As:=hb y (by simp)
  have gM:r.length+1<=100000:=by simpa using hs
  repeat first|refine g1 ?_|refine g3 ?_|refine⟨aA y,fun _=>hy,?_⟩|refine⟨fun _=>by omega,?_⟩
  refine⟨by kernel_rfl,fun h=>?_,fun h=>?_⟩
  ·repeat first|refine g1 ?_|refine g3 ?_|refine⟨aA y,fun _=>hy,?_⟩|refine⟨fun _=>by omega,?_⟩
   refine⟨[I (y.n+x.n)],⟨rf,tv⟩,aA y,hy,?_⟩
   rw[MS h0 (by simpa using h)]
   have e3:((r++[y]).map aA).set ((((r++[y]).map aA).length:Int)-1).toNat (DV.agg [I y.f,I y.a,I (y.n+x.n)])=(r++[(⟨y.f,y.a,y.n+x.n⟩:Lt)]).map aA:=by
    rw[e1,show(((r.length+1:Nat):Int)-1).toNat=r.length by omega];simp[aA]
   have:=qT (r++[(⟨y.f,y.a,y.n+x.n⟩:Lt)])
   rw[<-e3]at this
   exact⟨by kernel_rfl,this,tv⟩
  ·refine .inl ⟨[aA x],rfl,⟨rf,rf,rf,tv⟩,(by simp;rfl),?_⟩
   refine .inr ⟨[aA x],b7.refl _,bL (by simp;omega),by simp;omega,?_⟩
   rw[MT h0 (by simpa using h)]
   refine⟨?_,tv⟩
   have:=qT (r++[y]++[x])
   rw[adB (l₂:=[x])]at this
   exact this
end
section
open Go.TM
structure DS where
 a:Int
 q:Int
 r:Int
def dH(d:Int)(q r:Int):Int×Int:=if d<=r then(q+1,r-d)else(q,r)
def we(b d bit:Int)(s:DS):DS:=
 if bit<=s.a then⟨s.a-bit,(dH d ((dH d (2*s.q) (2*s.r)).1+b.tdiv d) ((dH d (2*s.q) (2*s.r)).2+b.tmod d)).1,(dH d ((dH d (2*s.q) (2*s.r)).1+b.tdiv d) ((dH d (2*s.q) (2*s.r)).2+b.tmod d)).2⟩
 else⟨s.a,(dH d (2*s.q) (2*s.r)).1,(dH d (2*s.q) (2*s.r)).2⟩
def vf(k:Nat):Int:=1152921504606846976/2^k
def Ob(a b d:Int):Nat->DS
 |0=>⟨a,0,0⟩
 |k+1=>we b d (vf k) (Ob a b d k)
theorem VR{d q r X:Int}(h:q*d+r=X)(h0:0<=r)(h1:r<2*d):(dH d q r).1*d+(dH d q r).2=X/\0<=(dH d q r).2/\(dH d q r).2<d/\q<=(dH d q r).1/\(dH d q r).1<=q+1:=by
 unfold dH
 split
 ·simp only;rw[Int.add_mul];omega
 ·simp only;omega
structure Zt(a b d:Int)(k:Nat)(s:DS):Prop where
 ex:∃A,0<=A/\a=A*2^(61-k)+s.a/\s.q*d+s.r=A*b
 a0:0<=s.a
 a1:s.a<2^(61-k)
 r0:0<=s.r
 r1:s.r<d
 q0:0<=s.q
theorem F6{k:Nat}(hk:k<=60):vf k=2^(60-k)/\(2:Int)^(61-k)=2*2^(60-k):=by
 refine⟨?_,by rw[show 61-k=(60-k)+1 by omega,Int.pow_succ];omega⟩
 unfold vf
 rw[show(1152921504606846976:Int)=2^(60-k)*2^k by rw[<-Int.pow_add,show 60-k+k=60 by omega];rfl]
 exact Int.mul_ediv_cancel _ (Int.ne_of_gt (Int.pow_pos (by omega)))
theorem I2{a b d:Int}(ha:0<=a/\a<2^61)(hb:0<=b)(hd:0<d):∀k,k<=61->Zt a b d k (Ob a b d k)
 |0,_=>⟨⟨0,by omega,by show a=0*_+a;omega,by show(0:Int)*d+0=0*b;omega⟩,ha.1,ha.2,Int.le_refl _,hd,Int.le_refl _⟩
 |k+1,hk=>by
  obtain⟨⟨A,hA,e1,e2⟩,a0,a1,r0,r1,q0⟩:=I2 ha hb hd k (by omega)
  obtain⟨b1,b2⟩:=F6 (k:=k) (by omega)
  show Zt a b d (k+1) (we b d (vf k) (Ob a b d k))
  generalize Ob a b d k=s at*
  rw[b1]
  rw[b2]at e1 a1
  have e61:61-(k+1)=60-k:=by omega
  have hp:(0:Int)<2^(60-k):=Int.pow_pos (by omega)
  have h2:(2*s.q)*d+2*s.r=2*A*b:=by rw[Int.mul_assoc,Int.mul_assoc,<-e2];omega
  have hh:=VR h2 (by omega) (by omega)
  unfold we
  generalize dH d (2*s.q) (2*s.r)=z at hh⊢
  have hAA:A*(2*2^(60-k))=2*A*2^(60-k):=by rw[<-Int.mul_assoc,Int.mul_comm A 2]
  split
  ·rename_i hc
   have hm:=Int.tmod_nonneg d hb
   have SO:=Int.tmod_lt_of_pos b hd
   have hq:=Int.tdiv_nonneg hb (Int.le_of_lt hd)
   have hmd:=Int.mul_tdiv_add_tmod b d
   have h3:(z.1+b.tdiv d)*d+(z.2+b.tmod d)=(2*A+1)*b:=by
    have hX:(2*A+1)*b=2*A*b+b:=by rw[Int.add_mul];omega
    have hY:(z.1+b.tdiv d)*d=z.1*d+d*b.tdiv d:=by rw[Int.add_mul,Int.mul_comm (b.tdiv d) d]
    omega
   have h4:=VR h3 (by omega) (by omega)
   refine⟨⟨2*A+1,by omega,?_,h4.1⟩,by show 0<=s.a-2^(60-k);omega,by show s.a-2^(60-k)<_;rw[e61];omega,h4.2.1,h4.2.2.1,by have:=h4.2.2.2.1;simp only;omega⟩
   rw[e61]
   show a=(2*A+1)*2^(60-k)+(s.a-2^(60-k))
   rw[Int.add_mul];omega
  ·rename_i hc
   refine⟨⟨2*A,by omega,?_,hh.1⟩,a0,by rw[e61];show s.a<_;omega,hh.2.1,hh.2.2.1,by show 0<=z.1;omega⟩
   rw[e61]
   show a=2*A*2^(60-k)+s.a
   omega
theorem Zt.q1{a b d:Int}{k:Nat}{s:DS}(h:Zt a b d k s)(hk:k<=61)(hb:b<=d)(o9:0<=b)(hd:0<d)(ha:a<=1152921504606846976):s.q<=1152921504606846976:=by
 obtain⟨⟨A,hA,e1,e2⟩,a0,a1,r0,r1,q0⟩:=h
 have h1:A*b<=A*d:=Int.mul_le_mul_of_nonneg_left hb hA
 have h2:s.q*d<=A*d:=by omega
 have h3:s.q<=A:=Int.le_of_mul_le_mul_right h2 hd
 have h4:(1:Int)<=2^(61-k):=by have:(0:Int)<2^(61-k):=Int.pow_pos (by omega);omega
 have h5:A*1<=A*2^(61-k):=Int.mul_le_mul_of_nonneg_left h4 hA
 omega
theorem Zt.a9{a b d:Int}{k:Nat}{s:DS}(h:Zt a b d k s):s.a<=a:=by
 obtain⟨⟨A,hA,e1,e2⟩,a0,a1,r0,r1,q0⟩:=h
 have h4:(0:Int)<2^(61-k):=Int.pow_pos (by omega)
 have:=Int.mul_nonneg hA (Int.le_of_lt h4)
 omega
theorem TY{a b d:Int}(ha:0<=a/\a<2^61)(hb:0<=b)(hd:0<d):(Ob a b d 61).q=a*b/d/\(Ob a b d 61).r=a*b%d:=by
 obtain⟨⟨A,hA,e1,e2⟩,a0,a1,r0,r1,q0⟩:=I2 ha hb hd 61 (by omega)
 generalize Ob a b d 61=s at*
 have:s.a=0:=by have:s.a<1:=a1;omega
 have eA:a=A:=by have e1:a=A*1+s.a:=e1;omega
 subst eA
 have:=Int.ediv_emod_unique (a:=a*b) (b:=d) (q:=s.q) (r:=s.r) hd
 have h6:=this.2 ⟨by rw[Int.mul_comm d];omega,r0,r1⟩
 exact⟨h6.1.symm,h6.2.symm⟩
theorem I3(k:Nat):0<=vf k/\vf k<=1152921504606846976:=by
 unfold vf
 have:(0:Int)<2^k:=Int.pow_pos (by omega)
 exact⟨Int.ediv_nonneg (by omega) (by omega),Int.ediv_le_self _ (by omega)⟩
theorem MU(k:Nat):(vf k).tdiv 2=vf (k+1):=by
 rw[Int.tdiv_eq_ediv_of_nonneg (I3 k).1]
 unfold vf
 rw[Int.pow_succ,Int.ediv_ediv_of_nonneg (Int.le_of_lt (Int.pow_pos (by omega)))]
theorem Qi{k:Nat}(h:k<=61):0<vf k↔k<61:=by
 rcases adC k 61 with hl|hg
 ·have:=(F6 (k:=k) (by omega)).1
  rw[this]
  exact⟨fun _=>hl,fun _=>Int.pow_pos (by omega)⟩
 ·have:k=61:=by omega
  subst this
  exact⟨fun h=>absurd h (by decide),fun h=>by omega⟩
variable [bp]
theorem MV(a b d:Int)(ha:0<=a/\a<=1152921504606846976)(hb:0<=b/\b<=d)(hd:0<d/\d<=1152921504606846976):aN Tryz.prog 255 [I a,I b,I d] [I (a*b/d),I (a*b%d),B true]:=by
 refine pO Tryz.func255 rfl (by kernel_rfl) rfl ?_
 have cC:=I2 (a:=a) (b:=b) (d:=d) ⟨ha.1,by omega⟩ hb.1 hd.1
 refine⟨Nat,fun k=>⟨0,[(0,.dv (I (Ob a b d k).a)),(1,.dv (I b)),(2,.dv (I d)),(9,.dv (I (Ob a b d k).q)),(10,.dv (I (Ob a b d k).r)),(11,.dv (I (vf k)))],[]⟩,fun k=>k<=61,fun k=>61-k,0,fun _=>rfl,jn (by rfl) rfl rfl rfl,adx _,?_⟩
 rintro k hk
 have qM:=cC k hk
 have hq1:=qM.q1 hk hb.2 hb.1 hd.1 ha.2
 have cx:=I3 k
 have Ip:=MU k
 have hbp:=Qi hk
 have q0:=qM.q0
 have r0:=qM.r0
 have r1:=qM.r1
 have a0:=qM.a0
 have a9:=qM.a9
 have m0:=Int.tmod_nonneg d hb.1
 have m1:=Int.tmod_lt_of_pos b hd.1
 have t0:=Int.tdiv_nonneg hb.1 (Int.le_of_lt hd.1)
 have t1:b.tdiv d<=b:=Int.tdiv_le_self d hb.1
 refine T5 ?_ ?_
 ·intro h
  have au:k<61:=hbp.1 (adz h)
  have Di:=(cC (k+1) (by omega)).q1 (by omega) hb.2 hb.1 hd.1 ha.2
  have VS:=(cC (k+1) (by omega)).q0
  have b3:=I3 (k+1)
  have hn:Ob a b d (k+1)=we b d (vf k) (Ob a b d k):=rfl
  refine⟨fun _=>by omega,fun _=>by omega,?_⟩
  refine T5 ?_ ?_
  all_goals intro h1
  all_goals first|have h1:=adz h1|have h1:=adA h1
  all_goals repeat first|refine⟨fun _=>by omega,?_⟩
  all_goals refine T5 ?_ ?_
  all_goals intro h2
  all_goals first|have h2:=adz h2|have h2:=adA h2
  all_goals repeat first|refine⟨fun _=>by omega,?_⟩|refine⟨fun _ _=>by omega,?_⟩
  ·refine T5 ?_ ?_
   all_goals intro h3
   all_goals first|have h3:=adz h3|have h3:=adA h3
   all_goals repeat first|refine⟨fun _=>by omega,?_⟩
   all_goals simp only[we,dH,h1,h2,h3,if_true,if_false]at hn
   all_goals rw[hn]at Di VS
   all_goals simp only at Di VS
   all_goals refine T5 (fun h4=>absurd (adz h4) (by omega)) ?_
   all_goals intro _
   all_goals refine⟨fun _ h=>by omega,fun _=>by omega,k+1,jn ?_ rfl rfl rfl,by omega,by show 61-(k+1)<61-k;omega⟩
   all_goals simp only[hn,<-Ip]
   all_goals rfl
  ·simp only[we,dH,h1,h2,if_true,if_false]at hn
   rw[hn]at Di VS
   simp only at Di VS
   refine T5 (fun h4=>absurd (adz h4) (by omega)) ?_
   intro _
   refine⟨fun _ h=>by omega,fun _=>by omega,k+1,jn ?_ rfl rfl rfl,by omega,by show 61-(k+1)<61-k;omega⟩
   simp only[hn,<-Ip]
   rfl
  ·refine T5 ?_ ?_
   all_goals intro h3
   all_goals first|have h3:=adz h3|have h3:=adA h3
   all_goals repeat first|refine⟨fun _=>by omega,?_⟩
   all_goals simp only[we,dH,h1,h2,h3,if_true,if_false]at hn
   all_goals rw[hn]at Di VS
   all_goals simp only at Di VS
   all_goals refine T5 (fun h4=>absurd (adz h4) (by omega)) ?_
   all_goals intro _
   all_goals refine⟨fun _ h=>by omega,fun _=>by omega,k+1,jn ?_ rfl rfl rfl,by omega,by show 61-(k+1)<61-k;omega⟩
   all_goals simp only[hn,<-Ip]
   all_goals rfl
  ·simp only[we,dH,h1,h2,if_true,if_false]at hn
   rw[hn]at Di VS
   simp only at Di VS
   refine T5 (fun h4=>absurd (adz h4) (by omega)) ?_
   intro _
   refine⟨fun _ h=>by omega,fun _=>by omega,k+1,jn ?_ rfl rfl rfl,by omega,by show 61-(k+1)<61-k;omega⟩
   simp only[hn,<-Ip]
   rfl
 ·intro h
  have acj:k=61:=by
   have:=adA h
   rw[hbp]at this;omega
  subst acj
  obtain⟨e1,e2⟩:=TY (a:=a) (b:=b) (d:=d) ⟨ha.1,by omega⟩ hb.1 hd.1
  exact⟨aJ e1,aJ e2,rf,tv⟩
end
section
open Go.TM
theorem zb{l:List Int}{j:Nat}{x:Int}(hx:l[j]?=some x):(l.take (j+1)).sum=(l.take j).sum+x:=by
 rw[ads,hx,List.sum_append];simp
theorem VT:∀{l:List Int},(∀x∈l,0<=x/\x<=1099511627776)->0<=l.sum/\l.sum<=1099511627776*l.length
 |[],_=>by simp
 |x::l,h=>by
  have h1:=h x adu
  have h2:=VT fun y hy=>h y (adq x hy)
  simp only[List.sum_cons,List.length_cons]at*
  omega
theorem XG{l:List Int}(h:∀x∈l,0<=x/\x<=1099511627776)(hl:l.length<=5000)(j:Nat):0<=(l.take j).sum/\(l.take j).sum<=5497558138880000:=by
 have h1:=VT fun x hx=>h x (List.mem_of_mem_take (i:=j) hx)
 have h2:(l.take j).length<=l.length:=by rw[adD];omega
 omega
theorem I4:∀{l:List Int},(∀x∈l,0<=x)->∀x∈l,x<=l.sum
 |y::l,h,x,hx=>by
  have h1:=h y adu
  have h3:=y4 fun z hz=>h z (adq y hz)
  rw[List.sum_cons]
  rcases adp.1 hx with rfl|hx
  ·omega
  ·have h2:=I4 (fun z hz=>h z (adq y hz)) x hx
   omega
theorem tx:∀{l:List Int} (j:Nat),(∀x∈l,0<=x)->0<=(l.take j).sum/\(l.take j).sum<=l.sum
 |l,0,h=>by simpa using y4 h
 |[],j+1,_=>by simp
 |x::l,j+1,h=>by
  have h1:=h x adu
  have h2:=tx (l:=l) j fun y hy=>h y (adq x hy)
  simp only[List.take_succ_cons,List.sum_cons];omega
def se(rs:List Int)(i:Nat):Nat:=(List.range' 1 (i-1)).foldl (AJ rs) 0
theorem MW(rs:List Int){i:Nat}(h:1<=i):se rs (i+1)=AJ rs (se rs i) i:=by
 unfold se
 rw[show i+1-1=(i-1)+1 by omega,List.range'_1_concat,adI]
 rw[show 1+(i-1)=i by omega];rfl
theorem TZ(rs:List Int){i:Nat}(h:1<=i):se rs i<i:=by
 have:=(y3 rs (i-1) 1 0 (by omega) fun j hj=>by
  have:j=0:=by omega
  subst this;simp[fm]).1
 unfold se;omega
variable [bp]
theorem bI{n:Nat}(h:n<=1000000):n*(nth kp (nth kp 22).elem).bytes<=140737488355328:=by
 rw[show(nth kp (nth kp 22).elem).bytes=8 by kernel_rfl];omega
theorem BK(n:Int):aN Tryz.prog 254 [I n] [B (decide (0<=n/\n<=1099511627776))]:=by
 refine pO Tryz.func254 rfl (by kernel_rfl) rfl ?_
 repeat refine gG ?_
 refine⟨DV.Le.of_eq ?_,tv⟩
 congr 1
 rw[adO];simp
theorem F7(t:Int)(ws:List Int)(ht:0<=t/\t<=1099511627776)(hw:∀w∈ws,0<=w/\w<=1099511627776)(hl:ws.length<=5000)(hs:0<ws.sum)(HV:t<=ws.sum):aN Tryz.prog 243 [I t,Ints ws] [Ints (Ar t ws),I 0]:=by
 refine pO Tryz.func243 rfl (by kernel_rfl) rfl ?_
 have ak:=XG hw hl
 have hsm:=ak ws.length
 rw[ady]at hsm
 refine⟨Nat,fun i=>⟨0,[(0,.dv (I t)),(1,.dv (Ints ws)),(6,.dv (I (ws.take i).sum)),(7,.dv (I i))],[]⟩,fun i=>i<=ws.length,fun i=>ws.length-i,0,fun _=>rfl,jn rfl rfl rfl rfl,adx _,?_⟩
 rintro i hi
 have b1:=ak i
 refine T5 ?_ ?_
 ·intro h
  have au:i<ws.length:=by have:=adz h;rw[WY]at this;omega
  have hx:=IF au
  generalize ws[i]=x at hx
  have Dn:=hw x (ab6 hx)
  refine⟨I x,fun _=>⟨by omega,by rw[abW];simp[hx]⟩,?_⟩
  refine .inl ⟨_,fun _=>(BK x).ok,?_⟩
  rw[adF Dn]
  repeat refine gG ?_
  refine T5 (fun h=>by simp at h;omega) fun _=>?_
  refine⟨I x,fun _=>⟨by omega,by rw[abW];simp[hx]⟩,?_⟩
  exact⟨fun _=>by omega,fun _=>by omega,i+1,jn (by simp only[zb hx];rfl) rfl rfl rfl,by omega,mlt au⟩
 intro h
 have he:i=ws.length:=by have:=adA h;rw[WY]at this;omega
 subst he
 simp only[ady]
 refine .inl ⟨_,fun _=>(BK t).ok,?_⟩
 rw[adF ht]
 repeat refine gG ?_
 refine T5 (fun h=>by simp at h;omega) fun _=>?_
 have hql:(qL t ws.sum ws).length=ws.length:=by simp[qL]
 have hrl:(rL t ws.sum ws).length=ws.length:=by simp[rL]
 have hq0:∀x∈qL t ws.sum ws,0<=x:=fun x hx=>by
  obtain⟨w,Mk,rfl⟩:=adK.1 hx
  exact Int.ediv_nonneg (Int.mul_nonneg ht.1 (hw w Mk).1) (by omega)
 have hr0:=Xy (t:=t) hs (ws:=ws)
 obtain⟨l1,l2,l3⟩:=xu (t:=t) hs
 have XH:(qL t ws.sum ws).sum<=t:=by unfold gh at l1;omega
 have hw0:∀w∈ws,0<=w:=fun w Mk=>(hw w Mk).1
 have hqe:∀{i:Nat} {x:Int},ws[i]?=some x->(qL t ws.sum ws)[i]?=some (t*x/ws.sum)/\(rL t ws.sum ws)[i]?=some (t*x%ws.sum):=fun h=>by simp[qL,rL,h]
 have T0:Ar t ws=plus (rL t ws.sum ws) (qL t ws.sum ws) (gh t ws.sum ws).toNat:=rfl
 have hLd:gh t ws.sum ws=t-(qL t ws.sum ws).sum:=rfl
 have hLl:(gh t ws.sum ws).toNat<=ws.length:=by
  have:(rL t ws.sum ws).countP (fun x=>decide (0<x))<=(rL t ws.sum ws).length:=List.countP_le_length
  omega
 generalize Ar t ws=res at*
 generalize gh t ws.sum ws=L at*
 generalize qL t ws.sum ws=Q at*
 generalize rL t ws.sum ws=R at*
 refine⟨Nat,fun i=>⟨2,[(0,.dv (I t)),(1,.dv (Ints ws)),(6,.dv (I ws.sum)),(10,.own 0 0 0 []),(11,.own 1 0 0 []),(12,.dv (I (t-(Q.take i).sum))),(13,.dv (I i))],[(0,.tree 0 0 (.aD 1 ((Q.take i).map I))),(1,.tree 0 0 (.aD 1 ((R.take i).map I)))]⟩,fun i=>i<=ws.length,fun i=>ws.length-i,0,fun _=>rfl,⟨⟨rf,rf,rf,⟨rfl,rfl,rfl,rfl,1,rfl⟩,⟨rfl,rfl,rfl,rfl,1,rfl⟩,aJ (by simp),rf,tv⟩,⟨⟨rfl,rfl,1,rfl⟩,⟨rfl,rfl,1,rfl⟩,tv⟩,rfl,rfl⟩,adx _,?_⟩
 rintro i hi
 have c1:=tx i hq0
 refine T5 ?_ ?_
 ·intro h
  have au:i<ws.length:=by have:=adz h;rw[WY]at this;omega
  have hx:=IF au
  generalize ws[i]=x at hx
  have hxm:=ab6 hx
  have Dn:=hw x hxm
  have ED:=I4 hw0 x hxm
  obtain⟨e1,e2⟩:=hqe hx
  have c2:=tx (i+1) hq0
  have e3:=zb e1
  rw[e3]at c2
  refine⟨I x,fun _=>⟨by omega,by rw[abW];simp[hx]⟩,?_⟩
  refine .inl ⟨_,fun _=>(MV t x ws.sum (by omega) ⟨by omega,ED⟩ (by omega)).ok,?_⟩
  generalize t*x/ws.sum=q at*
  generalize t*x%ws.sum=r at*
  have f1:(Q.take (i+1)).map I=(Q.take i).map I++[I q]:=by rw[ads,e1];simp
  have f2:(R.take (i+1)).map I=(R.take i).map I++[I r]:=by rw[ads,e2];simp
  have g1':((Q.take i).map I).length<=5000:=by rw[WY,adD];omega
  have g2':((R.take i).map I).length<=5000:=by rw[WY,adD];omega
  refine .inl ⟨[I q],rfl,⟨rf,tv⟩,(by simp;rfl),?_⟩
  refine .inr ⟨[I q],b7.refl _,bI (by simp only[List.length_cons,List.length_nil];omega),by simp only[List.length_cons,List.length_nil];omega,?_⟩
  refine .inl ⟨[I r],rfl,⟨rf,tv⟩,(by simp;rfl),?_⟩
  refine .inr ⟨[I r],b7.refl _,bI (by simp only[List.length_cons,List.length_nil];omega),by simp only[List.length_cons,List.length_nil];omega,?_⟩
  exact⟨fun _=>by omega,fun _=>by omega,i+1,jn (by simp only[e3,<-Int.sub_sub];rfl) (by simp only[f1,f2];rfl) rfl rfl,by omega,mlt au⟩
 intro h
 have he:i=ws.length:=by have:=adA h;rw[WY]at this;omega
 subst he
 have eQ:Q.take ws.length=Q:=List.take_of_length_le (by omega)
 have eR:R.take ws.length=R:=List.take_of_length_le (by omega)
 have hRn:∀r∈R,0<=r:=fun r hr=>(hr0 r hr).1
 have hon:=fun k=>@Qa R Q hRn (by omega) k
 have XI:∀k,(AK (Q,R) k).1.length=ws.length/\(AK (Q,R) k).2.length=ws.length:=fun k=>by
  induction k with
  |zero=>exact⟨hql,hrl⟩
  |succ k ih=>exact⟨(xt _ _).trans ih.1,(List.length_set ..).trans ih.2⟩
 refine⟨Nat,fun k=>⟨2,[(10,.own 0 0 0 []),(11,.own 1 0 0 []),(12,.dv (I (L-k)))],[(0,.tree 0 0 (.aD 1 ((AK (Q,R) k).1.map I))),(1,.tree 0 0 (.aD 1 ((AK (Q,R) k).2.map I)))]⟩,fun k=>k<=L.toNat,fun k=>L.toNat-k,0,fun _=>rfl,⟨⟨rfl,rfl,aJ (by rw[eQ,<-hLd];simp),tv⟩,⟨⟨rfl,by rw[eQ];rfl⟩,⟨rfl,by rw[eR];rfl⟩,tv⟩,rfl,rfl⟩,adx _,?_⟩
 rintro k hk
 refine T5 ?_ ?_
 ·intro h
  have au:k<L.toNat:=by have:=adz h;omega
  obtain⟨n1,n2⟩:=XI k
  have eG:AK (Q,R) (k+1)=onR (AK (Q,R) k):=rfl
  have Io:=hon (k+1) (by omega)
  have MX:=hon k (by omega)
  generalize Dp:AK (Q,R) k=o at*
  obtain⟨o1,o2⟩:=o
  simp only at n1 n2
  refine⟨Nat,fun i=>⟨2,[(10,.own 0 0 0 []),(11,.own 1 0 0 []),(12,.dv (I (L-k))),(17,.dv (I (se o2 i))),(18,.dv (I i))],[(0,.tree 0 0 (.aD 1 (o1.map I))),(1,.tree 0 0 (.aD 1 (o2.map I)))]⟩,fun i=>1<=i/\i<=ws.length,fun i=>ws.length-i,1,fun _=>rfl,jn (by simp only[Dp];rfl) (by simp only[Dp];rfl) rfl rfl,by omega,?_⟩
  rintro i ⟨Oc,uo⟩
  have VM:=TZ o2 Oc
  have Ip:=MW o2 Oc
  refine T5 ?_ ?_
  ·intro h
   have BL:i<ws.length:=by have:=adz h;rw[WY]at this;omega
   have hx:=IF (show i<o2.length by omega)
   have hy:=IF (show se o2 i<o2.length by omega)
   have dx:o2.getD i 0=o2[i]:=by rw[acb,hx];rfl
   have dy:o2.getD (se o2 i) 0=o2[se o2 i]:=by rw[acb,hy];rfl
   generalize o2[i]=x at hx dx
   generalize o2[se o2 i]=y at hy dy
   refine⟨fun _=>⟨by omega,by rw[WY];omega⟩,I x,fun _=>by rw[abW];simp[hx],?_⟩
   refine⟨fun _=>⟨by omega,by rw[WY];omega⟩,I y,fun _=>by rw[abW];simp[hy],?_⟩
   refine T5 (by kernel_rfl) (T5 ?_ ?_)
   ·intro h
    have h:=adz h
    have hb:se o2 (i+1)=i:=by rw[Ip];unfold AJ;rw[dx,dy,if_pos h]
    exact⟨fun _=>by omega,i+1,jn (by simp only[hb];rfl) rfl rfl rfl,by omega,mlt BL⟩
   ·intro h
    have h:=adA h
    have hb:se o2 (i+1)=se o2 i:=by rw[Ip];unfold AJ;rw[dx,dy,if_neg h]
    exact⟨fun _=>by omega,i+1,jn (by simp only[hb];rfl) rfl rfl rfl,by omega,mlt BL⟩
  ·intro h
   have BL:i=ws.length:=by have:=adA h;rw[WY]at this;omega
   subst BL
   have Xw:se o2 ws.length=y2 o2:=by unfold se y2;rw[n2]
   simp only[Xw]
   rw[Xw]at VM
   simp only at MX
   have aaU:AK (Q,R) (k+1)=(kH o1 (y2 o2),o2.set (y2 o2) (-1)):=eG
   clear eG Io
   generalize y2 o2=b at*
   have hx:=IF (show b<o1.length by omega)
   have hy:=IF (show b<o2.length by omega)
   have dx:o1.getD b 0=o1[b]:=by rw[acb,hx];rfl
   have Dn:0<=o1[b]/\o1[b]<=t+1:=by
    rw[<-dx,MX,yZ (by omega)]
    have hq:Q.getD b 0∈Q:=by rw[acb,IF (by omega)];exact adP _
    have h1:=I4 hq0 _ hq
    have h2:=hq0 _ hq
    split<;>omega
   generalize o1[b]=x at hx dx Dn
   generalize o2[b]=y at hy
   refine⟨fun _=>⟨by omega,by rw[WY];omega⟩,I x,fun _=>by rw[abW];simp[hx],?_⟩
   refine⟨fun _=>by omega,fun _=>⟨by omega,by rw[WY];omega⟩,?_⟩
   refine⟨[I (x+1)],⟨rf,tv⟩,I x,by rw[abW];simp[hx],?_⟩
   refine⟨fun _=>⟨by omega,by rw[WY];omega⟩,?_⟩
   refine⟨[I (-1)],⟨rf,tv⟩,I y,by rw[abW];simp[hy],?_⟩
   have f1:(o1.map I).set (b:Int).toNat (I (x+1))=(kH o1 b).map I:=by
    rw[Int.toNat_natCast];unfold kH;rw[dx,List.map_set]
   have f2:(o2.map I).set (b:Int).toNat (I (-1))=(o2.set b (-1)).map I:=by
    rw[Int.toNat_natCast,List.map_set]
   exact⟨fun _=>by omega,k+1,⟨⟨rfl,rfl,aJ (by omega),tv⟩,⟨⟨rfl,by rw[aaU];exact congrArg (DV.aD 1) f1⟩,⟨rfl,by rw[aaU];exact congrArg (DV.aD 1) f2⟩,tv⟩,rfl,rfl⟩,by omega,mlt au⟩
 ·intro h
  have hkL:k=L.toNat:=by have:=adA h;omega
  subst hkL
  refine⟨?_,rf,tv⟩
  rw[hon _ (by omega),<-T0]
  exact DV.Le.of_eq (by show DV.sl 1 (xx (res.map I))=_;rw[fT (fun _=>rfl)])
end
end Go.Proofs.YtmojfblpbcficaaGreatDoor
