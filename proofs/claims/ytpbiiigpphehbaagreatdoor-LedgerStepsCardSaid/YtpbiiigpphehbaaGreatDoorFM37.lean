import Derived.Test.YtpbiiigpphehbaaGreatDoorFM28
import Derived.Test.YtpbiiigpphehbaaGreatDoorFM36
import Derived.WalkKit
import Derived.Deep.LoopGhost
import Derived.LoopTactic
import Derived.StillTailTactics
import Derived.Shelf.SlSortCmp.QuietGrown
import Derived.Test.YtpbiiigpphehbaaGreatDoorFM32
import Derived.Shelf.SlSortCmp.NoneTotal
set_option linter.all false
namespace Go.Proofs.YtpbiiigpphehbaaGreatDoor
set_option maxRecDepth 100000
set_option maxHeartbeats 4000000
section
open Go.Proofs
def Is:Go.Shelf.Ren:=⟨fun|6=>191|15=>105|14=>207|28=>180|29=>181|20=>221|21=>222|22=>223|23=>224|24=>225|25=>226|26=>227|27=>228|46=>241|47=>202|48=>203|49=>242|50=>243|57=>251|n=>n,fun|22=>58|24=>63|25=>234|3=>3|39=>176|0=>0|53=>220|55=>222|4=>4|46=>214|45=>213|50=>168|5=>5|9=>9|66=>242|70=>246|76=>259|77=>260|n=>n,fun|n=>n⟩
theorem V3:Go.Proofs.SlLaysF0.n6 Tryz.prog Is where
 mixed:=by kernel_rfl
 f6:=⟨Tryz.f191.name,by kernel_rfl,Tryz.func191.trans (congrArg some (by kernel_rfl))⟩
 f14:=⟨Tryz.f207.name,by kernel_rfl,Tryz.func207.trans (congrArg some (by kernel_rfl))⟩
 f15:=Tryz.func105.trans (congrArg some (by kernel_rfl))
 f20:=⟨Tryz.f221.name,by kernel_rfl,Tryz.func221.trans (congrArg some (by kernel_rfl))⟩
 f21:=⟨Tryz.f222.name,by kernel_rfl,Tryz.func222.trans (congrArg some (by kernel_rfl))⟩
 f22:=⟨Tryz.f223.name,by kernel_rfl,Tryz.func223.trans (congrArg some (by kernel_rfl))⟩
 f23:=⟨Tryz.f224.name,by kernel_rfl,Tryz.func224.trans (congrArg some (by kernel_rfl))⟩
 f24:=⟨Tryz.f225.name,by kernel_rfl,Tryz.func225.trans (congrArg some (by kernel_rfl))⟩
 f25:=⟨Tryz.f226.name,by kernel_rfl,Tryz.func226.trans (congrArg some (by kernel_rfl))⟩
 f26:=⟨Tryz.f227.name,by kernel_rfl,Tryz.func227.trans (congrArg some (by kernel_rfl))⟩
 f27:=⟨Tryz.f228.name,by kernel_rfl,Tryz.func228.trans (congrArg some (by kernel_rfl))⟩
 f28:=Tryz.func180.trans (congrArg some (by kernel_rfl))
 f29:=Tryz.func181.trans (congrArg some (by kernel_rfl))
 f46:=⟨Tryz.f241.name,by kernel_rfl,Tryz.func241.trans (congrArg some (by kernel_rfl))⟩
 f47:=Tryz.func202.trans (congrArg some (by kernel_rfl))
 f48:=Tryz.func203.trans (congrArg some (by kernel_rfl))
 f49:=⟨Tryz.f242.name,by kernel_rfl,Tryz.func242.trans (congrArg some (by kernel_rfl))⟩
 f50:=⟨Tryz.f243.name,by kernel_rfl,Tryz.func243.trans (congrArg some (by kernel_rfl))⟩
 f57:=⟨Tryz.f251.name,by kernel_rfl,Tryz.func251.trans (congrArg some (by kernel_rfl))⟩
 t0:=Tryz.underlying0
 a0:=Tryz.isAgg0
 z0:=Tryz.sizeOf0
 v0:=Tryz.zeroValue0
 t3:=Tryz.underlying3
 a3:=Tryz.isAgg3
 z3:=Tryz.sizeOf3
 v3:=Tryz.zeroValue3
 t4:=Tryz.underlying4
 a4:=Tryz.isAgg4
 z4:=Tryz.sizeOf4
 v4:=Tryz.zeroValue4
 t5:=Tryz.underlying5
 a5:=Tryz.isAgg5
 z5:=Tryz.sizeOf5
 v5:=Tryz.zeroValue5
 t9:=Tryz.underlying9
 a9:=Tryz.isAgg9
 z9:=Tryz.sizeOf9
 v9:=Tryz.zeroValue9
 t22:=Tryz.underlying58
 a22:=Tryz.isAgg58
 z22:=Tryz.sizeOf58
 v22:=Tryz.zeroValue58
 t25:=Tryz.underlying234
 a25:=Tryz.isAgg234
 z25:=Tryz.sizeOf234
 v25:=Tryz.zeroValue234
 t39:=Tryz.underlying176
 a39:=Tryz.isAgg176
 z39:=Tryz.sizeOf176
 v39:=Tryz.zeroValue176
 t45:=Tryz.underlying213
 a45:=Tryz.isAgg213
 z45:=Tryz.sizeOf213
 v45:=Tryz.zeroValue213
 t46:=Tryz.underlying214
 a46:=Tryz.isAgg214
 z46:=Tryz.sizeOf214
 v46:=Tryz.zeroValue214
 t50:=Tryz.underlying168
 a50:=Tryz.isAgg168
 z50:=Tryz.sizeOf168
 v50:=Tryz.zeroValue168
 t53:=Tryz.underlying220
 a53:=Tryz.isAgg220
 z53:=Tryz.sizeOf220
 v53:=Tryz.zeroValue220
 t55:=Tryz.underlying222
 a55:=Tryz.isAgg222
 z55:=Tryz.sizeOf222
 v55:=Tryz.zeroValue222
 t66:=Tryz.underlying242
 a66:=Tryz.isAgg242
 z66:=Tryz.sizeOf242
 v66:=Tryz.zeroValue242
 t70:=Tryz.underlying246
 a70:=Tryz.isAgg246
 z70:=Tryz.sizeOf246
 v70:=Tryz.zeroValue246
 t76:=Tryz.underlying259
 a76:=Tryz.isAgg259
 z76:=Tryz.sizeOf259
 v76:=Tryz.zeroValue259
 t77:=Tryz.underlying260
 a77:=Tryz.isAgg260
 z77:=Tryz.sizeOf260
 v77:=Tryz.zeroValue260
def It:Go.Shelf.Ren:=⟨fun|6=>62|15=>105|14=>104|28=>180|29=>181|20=>172|21=>173|22=>174|23=>175|24=>176|25=>177|26=>178|27=>179|46=>201|47=>202|48=>203|49=>204|50=>205|57=>217|n=>n,fun|22=>91|24=>131|25=>134|3=>3|39=>176|0=>0|53=>220|55=>222|4=>4|46=>214|45=>213|50=>168|5=>5|9=>9|66=>242|70=>246|76=>259|77=>260|n=>n,fun|n=>n⟩
theorem V4:Go.Proofs.SlLaysF0.n6 Tryz.prog It where
 mixed:=by kernel_rfl
 f6:=⟨Tryz.f62.name,by kernel_rfl,Tryz.func62.trans (congrArg some (by kernel_rfl))⟩
 f14:=⟨Tryz.f104.name,by kernel_rfl,Tryz.func104.trans (congrArg some (by kernel_rfl))⟩
 f15:=Tryz.func105.trans (congrArg some (by kernel_rfl))
 f20:=⟨Tryz.f172.name,by kernel_rfl,Tryz.func172.trans (congrArg some (by kernel_rfl))⟩
 f21:=⟨Tryz.f173.name,by kernel_rfl,Tryz.func173.trans (congrArg some (by kernel_rfl))⟩
 f22:=⟨Tryz.f174.name,by kernel_rfl,Tryz.func174.trans (congrArg some (by kernel_rfl))⟩
 f23:=⟨Tryz.f175.name,by kernel_rfl,Tryz.func175.trans (congrArg some (by kernel_rfl))⟩
 f24:=⟨Tryz.f176.name,by kernel_rfl,Tryz.func176.trans (congrArg some (by kernel_rfl))⟩
 f25:=⟨Tryz.f177.name,by kernel_rfl,Tryz.func177.trans (congrArg some (by kernel_rfl))⟩
 f26:=⟨Tryz.f178.name,by kernel_rfl,Tryz.func178.trans (congrArg some (by kernel_rfl))⟩
 f27:=⟨Tryz.f179.name,by kernel_rfl,Tryz.func179.trans (congrArg some (by kernel_rfl))⟩
 f28:=Tryz.func180.trans (congrArg some (by kernel_rfl))
 f29:=Tryz.func181.trans (congrArg some (by kernel_rfl))
 f46:=⟨Tryz.f201.name,by kernel_rfl,Tryz.func201.trans (congrArg some (by kernel_rfl))⟩
 f47:=Tryz.func202.trans (congrArg some (by kernel_rfl))
 f48:=Tryz.func203.trans (congrArg some (by kernel_rfl))
 f49:=⟨Tryz.f204.name,by kernel_rfl,Tryz.func204.trans (congrArg some (by kernel_rfl))⟩
 f50:=⟨Tryz.f205.name,by kernel_rfl,Tryz.func205.trans (congrArg some (by kernel_rfl))⟩
 f57:=⟨Tryz.f217.name,by kernel_rfl,Tryz.func217.trans (congrArg some (by kernel_rfl))⟩
 t0:=Tryz.underlying0
 a0:=Tryz.isAgg0
 z0:=Tryz.sizeOf0
 v0:=Tryz.zeroValue0
 t3:=Tryz.underlying3
 a3:=Tryz.isAgg3
 z3:=Tryz.sizeOf3
 v3:=Tryz.zeroValue3
 t4:=Tryz.underlying4
 a4:=Tryz.isAgg4
 z4:=Tryz.sizeOf4
 v4:=Tryz.zeroValue4
 t5:=Tryz.underlying5
 a5:=Tryz.isAgg5
 z5:=Tryz.sizeOf5
 v5:=Tryz.zeroValue5
 t9:=Tryz.underlying9
 a9:=Tryz.isAgg9
 z9:=Tryz.sizeOf9
 v9:=Tryz.zeroValue9
 t22:=Tryz.underlying91
 a22:=Tryz.isAgg91
 z22:=Tryz.sizeOf91
 v22:=Tryz.zeroValue91
 t25:=Tryz.underlying134
 a25:=Tryz.isAgg134
 z25:=Tryz.sizeOf134
 v25:=Tryz.zeroValue134
 t39:=Tryz.underlying176
 a39:=Tryz.isAgg176
 z39:=Tryz.sizeOf176
 v39:=Tryz.zeroValue176
 t45:=Tryz.underlying213
 a45:=Tryz.isAgg213
 z45:=Tryz.sizeOf213
 v45:=Tryz.zeroValue213
 t46:=Tryz.underlying214
 a46:=Tryz.isAgg214
 z46:=Tryz.sizeOf214
 v46:=Tryz.zeroValue214
 t50:=Tryz.underlying168
 a50:=Tryz.isAgg168
 z50:=Tryz.sizeOf168
 v50:=Tryz.zeroValue168
 t53:=Tryz.underlying220
 a53:=Tryz.isAgg220
 z53:=Tryz.sizeOf220
 v53:=Tryz.zeroValue220
 t55:=Tryz.underlying222
 a55:=Tryz.isAgg222
 z55:=Tryz.sizeOf222
 v55:=Tryz.zeroValue222
 t66:=Tryz.underlying242
 a66:=Tryz.isAgg242
 z66:=Tryz.sizeOf242
 v66:=Tryz.zeroValue242
 t70:=Tryz.underlying246
 a70:=Tryz.isAgg246
 z70:=Tryz.sizeOf246
 v70:=Tryz.zeroValue246
 t76:=Tryz.underlying259
 a76:=Tryz.isAgg259
 z76:=Tryz.sizeOf259
 v76:=Tryz.zeroValue259
 t77:=Tryz.underlying260
 a77:=Tryz.isAgg260
 z77:=Tryz.sizeOf260
 v77:=Tryz.zeroValue260
def rQ:Go.Shelf.Ren:=⟨fun|6=>232|15=>105|14=>247|28=>180|29=>181|20=>253|21=>254|22=>255|23=>256|24=>257|25=>258|26=>259|27=>260|46=>262|47=>202|48=>203|49=>263|50=>264|57=>265|n=>n,fun|22=>22|24=>3|25=>41|3=>3|39=>176|0=>0|53=>220|55=>222|4=>4|46=>214|45=>213|50=>168|5=>5|9=>9|66=>242|70=>246|76=>259|77=>260|n=>n,fun|n=>n⟩
theorem PN:Go.Proofs.SlLaysF.n6 Tryz.prog rQ where
 mixed:=by kernel_rfl
 f6:=⟨Tryz.f232.name,by kernel_rfl,Tryz.func232.trans (congrArg some (by kernel_rfl))⟩
 f14:=⟨Tryz.f247.name,by kernel_rfl,Tryz.func247.trans (congrArg some (by kernel_rfl))⟩
 f15:=Tryz.func105.trans (congrArg some (by kernel_rfl))
 f20:=⟨Tryz.f253.name,by kernel_rfl,Tryz.func253.trans (congrArg some (by kernel_rfl))⟩
 f21:=⟨Tryz.f254.name,by kernel_rfl,Tryz.func254.trans (congrArg some (by kernel_rfl))⟩
 f22:=⟨Tryz.f255.name,by kernel_rfl,Tryz.func255.trans (congrArg some (by kernel_rfl))⟩
 f23:=⟨Tryz.f256.name,by kernel_rfl,Tryz.func256.trans (congrArg some (by kernel_rfl))⟩
 f24:=⟨Tryz.f257.name,by kernel_rfl,Tryz.func257.trans (congrArg some (by kernel_rfl))⟩
 f25:=⟨Tryz.f258.name,by kernel_rfl,Tryz.func258.trans (congrArg some (by kernel_rfl))⟩
 f26:=⟨Tryz.f259.name,by kernel_rfl,Tryz.func259.trans (congrArg some (by kernel_rfl))⟩
 f27:=⟨Tryz.f260.name,by kernel_rfl,Tryz.func260.trans (congrArg some (by kernel_rfl))⟩
 f28:=Tryz.func180.trans (congrArg some (by kernel_rfl))
 f29:=Tryz.func181.trans (congrArg some (by kernel_rfl))
 f46:=⟨Tryz.f262.name,by kernel_rfl,Tryz.func262.trans (congrArg some (by kernel_rfl))⟩
 f47:=Tryz.func202.trans (congrArg some (by kernel_rfl))
 f48:=Tryz.func203.trans (congrArg some (by kernel_rfl))
 f49:=⟨Tryz.f263.name,by kernel_rfl,Tryz.func263.trans (congrArg some (by kernel_rfl))⟩
 f50:=⟨Tryz.f264.name,by kernel_rfl,Tryz.func264.trans (congrArg some (by kernel_rfl))⟩
 f57:=⟨Tryz.f265.name,by kernel_rfl,Tryz.func265.trans (congrArg some (by kernel_rfl))⟩
 t0:=Tryz.underlying0
 a0:=Tryz.isAgg0
 z0:=Tryz.sizeOf0
 v0:=Tryz.zeroValue0
 t3:=Tryz.underlying3
 a3:=Tryz.isAgg3
 z3:=Tryz.sizeOf3
 v3:=Tryz.zeroValue3
 t4:=Tryz.underlying4
 a4:=Tryz.isAgg4
 z4:=Tryz.sizeOf4
 v4:=Tryz.zeroValue4
 t5:=Tryz.underlying5
 a5:=Tryz.isAgg5
 z5:=Tryz.sizeOf5
 v5:=Tryz.zeroValue5
 t9:=Tryz.underlying9
 a9:=Tryz.isAgg9
 z9:=Tryz.sizeOf9
 v9:=Tryz.zeroValue9
 t22:=Tryz.underlying22
 a22:=Tryz.isAgg22
 z22:=Tryz.sizeOf22
 v22:=Tryz.zeroValue22
 a24:=Tryz.isAgg3
 z24:=Tryz.sizeOf3
 t25:=Tryz.underlying41
 a25:=Tryz.isAgg41
 z25:=Tryz.sizeOf41
 v25:=Tryz.zeroValue41
 t39:=Tryz.underlying176
 a39:=Tryz.isAgg176
 z39:=Tryz.sizeOf176
 v39:=Tryz.zeroValue176
 t45:=Tryz.underlying213
 a45:=Tryz.isAgg213
 z45:=Tryz.sizeOf213
 v45:=Tryz.zeroValue213
 t46:=Tryz.underlying214
 a46:=Tryz.isAgg214
 z46:=Tryz.sizeOf214
 v46:=Tryz.zeroValue214
 t50:=Tryz.underlying168
 a50:=Tryz.isAgg168
 z50:=Tryz.sizeOf168
 v50:=Tryz.zeroValue168
 t53:=Tryz.underlying220
 a53:=Tryz.isAgg220
 z53:=Tryz.sizeOf220
 v53:=Tryz.zeroValue220
 t55:=Tryz.underlying222
 a55:=Tryz.isAgg222
 z55:=Tryz.sizeOf222
 v55:=Tryz.zeroValue222
 t66:=Tryz.underlying242
 a66:=Tryz.isAgg242
 z66:=Tryz.sizeOf242
 v66:=Tryz.zeroValue242
 t70:=Tryz.underlying246
 a70:=Tryz.isAgg246
 z70:=Tryz.sizeOf246
 v70:=Tryz.zeroValue246
 t76:=Tryz.underlying259
 a76:=Tryz.isAgg259
 z76:=Tryz.sizeOf259
 v76:=Tryz.zeroValue259
 t77:=Tryz.underlying260
 a77:=Tryz.isAgg260
 z77:=Tryz.sizeOf260
 v77:=Tryz.zeroValue260
end
section
open Go.Proofs Go.Sort Go.RowKit
theorem aaO(x:Int)(w:World):Calls Tryz.prog 106 #[.int .i64 x] w fun e w'=>e=.returned (.bool false)/\w'=w:=by
 go_enter Tryz.func106,Tryz.ntmps106
 go_wp2
 go_ret
 exact⟨by simp,rfl⟩
theorem aaP(x:Int)(w:World):Calls Tryz.prog 248 #[.int .u64 x] w fun e w'=>e=.returned (.bool false)/\w'=w:=by
 go_enter Tryz.func248,Tryz.ntmps248
 go_wp2
 go_ret
 exact⟨by simp,rfl⟩
def lD(x y:Int):Int:=if x<y then -1 else if y<x then 1 else 0
theorem kY(x y:Int)(w:World):Calls Tryz.prog 65 #[.int .i64 x,.int .i64 y] w fun e w'=>e=.returned (.int .i64 (lD x y))/\w'=w:=by
 go_enter Tryz.func65,Tryz.ntmps65
 go_wp2_with (go_at_call 106;refine(aaO _ _).mono ?_;rintro e w' ⟨rfl,hw⟩;rw[hw])
 all_goals(go_ret;refine⟨?_,rfl⟩;unfold lD;(repeat' split)<;>first|rfl|(exfalso;omega))
theorem Iu(x y:Int)(w:World):Calls Tryz.prog 234 #[.int .u64 x,.int .u64 y] w fun e w'=>e=.returned (.int .i64 (lD x y))/\w'=w:=by
 go_enter Tryz.func234,Tryz.ntmps234
 go_wp2_with (go_at_call 248;refine(aaP _ _).mono ?_;rintro e w' ⟨rfl,hw⟩;rw[hw])
 all_goals(go_ret;refine⟨?_,rfl⟩;unfold lD;(repeat' split)<;>first|rfl|(exfalso;omega))
theorem uX(a b:Int)(cS:Nat)(W:World)(h0:W.cell? ⟨cS,0,none⟩=some (.int .i64 a))(h1:W.cell? ⟨cS,1,none⟩=some (.int .i64 b)):Calls Tryz.prog 64 #[.slice (some ⟨cS,0,none⟩) 2 2] W fun e w'=>e=.returned (.int .i64 (if a=0 then b else a))/\w'=W:=by
 obtain⟨r,hr⟩:∃r,r=if a=0 then b else a:=⟨_,rfl⟩
 rw[<-hr]
 go_enter Tryz.func64,Tryz.ntmps64
 go_wp2
 go_loop [5,8] (fun _ i=>∃k:Nat,k<=2/\i=.int .i64 k/\(0<k->a=0)/\(1<k->b=0)) (fun _ i=>2-(intOf i).toNat)
 case atStart=>exact⟨0,by omega,rfl,fun h=>by omega,fun h=>by omega⟩
 case round=>
  obtain⟨k,hk,rfl,k1,k2⟩:=hrel
  by_cases au:k<2
  ·obtain⟨v,hv,dF⟩:∃v:Int,W.cell? ⟨cS,k,none⟩=some (.int .i64 v)/\((k=0->v=a)/\(k=1->v=b)):=by
    rcases(by omega:k=0\/k=1)with rfl|rfl
    ·exact⟨a,h0,fun _=>rfl,fun h=>by omega⟩
    ·exact⟨b,h1,fun h=>by omega,fun _=>rfl⟩
   have hlz:(k:Int)<2:=by omega
   have UD:v≠0->v=r:=fun h=>by
    rcases(by omega:k=0\/k=1)with rfl|rfl
    ·rw[dF.1 rfl]at h⊢;rw[hr,if_neg h]
    ·rw[dF.2 rfl,hr,if_pos (k1 (by omega))]
   have GL:v=0->(0<k+1->a=0)/\(1<k+1->b=0):=fun h=>by
    rcases(by omega:k=0\/k=1)with rfl|rfl
    ·exact⟨fun _=>by rw[<-dF.1 rfl];exact h,fun h=>by omega⟩
    ·exact⟨fun _=>k1 (by omega),fun _=>by rw[<-dF.2 rfl];exact h⟩
   clear h0 h1 hr dF k1 k2
   go_wp2
   ·go_ret
    refine⟨?_,rfl⟩
    rw[UD (by simp_all)]
    rfl
   ·refine⟨⟨k+1,by omega,by go_num,(GL (by simp_all)).1,(GL (by simp_all)).2⟩,?_⟩
    simp[intOf];omega
  ·have hlz:¬(k:Int)<2:=by omega
   have Yo:r=0:=by rw[hr,if_pos (k1 (by omega)),k2 (by omega)]
   clear h0 h1 hr k1 k2
   subst Yo
   go_wp2
   go_ret
   exact⟨rfl,rfl⟩
theorem Kp(W:World)(A B:Array Value)(t:TypeId)(j:Nat):((W.alloc (.cells A t)).alloc (.cells B t)).drew.cell? ⟨W.heap.size,j,none⟩=A[j]?:=by
 have:((W.alloc (.cells A t)).alloc (.cells B t)).drew.heap[W.heap.size]?=some (.cells A t):=by
  show((W.heap.push _).push _)[W.heap.size]?=_
  rw[Array.getElem?_push,if_neg (by simp),Array.getElem?_push,if_pos rfl]
 unfold World.cell?
 rw[this];rfl
theorem Kq(W:World)(A B:Array Value)(t:TypeId)(j:Nat):((W.alloc (.cells A t)).alloc (.cells B t)).drew.cell? ⟨W.heap.size+1,j,none⟩=B[j]?:=by
 have:((W.alloc (.cells A t)).alloc (.cells B t)).drew.heap[W.heap.size+1]?=some (.cells B t):=by
  show((W.heap.push _).push _)[W.heap.size+1]?=_
  rw[Array.getElem?_push,if_pos (by simp)]
 unfold World.cell?
 rw[this];rfl
theorem PO(W:World)(A:Array Value)(t:TypeId)(j:Nat):(W.alloc (.cells A t)).cell? ⟨W.heap.size,j,none⟩=A[j]?:=by
 have:(W.alloc (.cells A t)).heap[W.heap.size]?=some (.cells A t):=by
  show(W.heap.push _)[W.heap.size]?=_
  rw[Array.getElem?_push,if_pos rfl]
 unfold World.cell?
 rw[this];rfl
def PQ(x:Lt):List Value:=[.int .i64 x.f,.int .i64 x.a,.int .i64 x.n]
def Iv(x y:Lt):Int:=if lD x.f y.f=0 then lD x.a y.a else lD x.f y.f
theorem Zo(x y:Lt)(W:World):Calls Tryz.prog 192 #[.agg (PQ x).toArray,.agg (PQ y).toArray] W fun e w'=>e=.returned (.int .i64 (Iv x y))/\∃q wH,w'=grow (W.drewN q) wH:=by
 unfold PQ
 obtain⟨r,hr⟩:∃r,r=Iv x y:=⟨_,rfl⟩
 rw[<-hr]
 have mixed:Tryz.prog.follows .mixedOrders=true:=mixed
 have tJ:=fun W'=>kY x.f y.f W'
 have yx:=fun W'=>kY x.a y.a W'
 go_enter Tryz.func192,Tryz.ntmps192
 go_wp2
 have f0:((W.alloc (.cells #[.int .i64 x.f,.int .i64 x.a,.int .i64 x.n] 63)).alloc (.cells #[.int .i64 y.f,.int .i64 y.a,.int .i64 y.n] 63)).drew.cell? ⟨W.heap.size,0,none⟩=some (.int .i64 x.f):=Kp ..
 have f1:((W.alloc (.cells #[.int .i64 x.f,.int .i64 x.a,.int .i64 x.n] 63)).alloc (.cells #[.int .i64 y.f,.int .i64 y.a,.int .i64 y.n] 63)).drew.cell? ⟨W.heap.size,1,none⟩=some (.int .i64 x.a):=Kp ..
 have g0:((W.alloc (.cells #[.int .i64 x.f,.int .i64 x.a,.int .i64 x.n] 63)).alloc (.cells #[.int .i64 y.f,.int .i64 y.a,.int .i64 y.n] 63)).drew.cell? ⟨W.heap.size+1,0,none⟩=some (.int .i64 y.f):=Kq ..
 have g1:((W.alloc (.cells #[.int .i64 x.f,.int .i64 x.a,.int .i64 x.n] 63)).alloc (.cells #[.int .i64 y.f,.int .i64 y.a,.int .i64 y.n] 63)).drew.cell? ⟨W.heap.size+1,1,none⟩=some (.int .i64 y.a):=Kq ..
 have hg:∃q wH,((W.alloc (.cells #[.int .i64 x.f,.int .i64 x.a,.int .i64 x.n] 63)).alloc (.cells #[.int .i64 y.f,.int .i64 y.a,.int .i64 y.n] 63)).drew=grow (W.drewN q) wH:=⟨1,_,by rw[alloc_eq_grow,alloc_eq_grow,grow_grow];rfl⟩
 generalize (W.alloc (.cells #[.int .i64 x.f,.int .i64 x.a,.int .i64 x.n] 63)).alloc (.cells #[.int .i64 y.f,.int .i64 y.a,.int .i64 y.n] 63)=W2 at*
 refine wp_region_still_tail 10 mixed (by kernel_rfl) ?_
 simp only[List.take_succ_cons,List.take_zero,List.drop_succ_cons,List.drop_zero]
 change wpStill _ _ (World.drew W2) _ _ _
 generalize Zp:World.drew W2=W3 at*
 repeat still_step
 still_call (tJ _)
 repeat still_step
 still_call (yx _)
 refine wpStill_nil ?_
 clear f0 f1 g0 g1 tJ yx
 unfold Iv at hr
 generalize lD x.f y.f=r1 at*
 generalize lD x.a y.a=r2 at*
 have HG:Hid (∃q wH,W3=grow (W.drewN q) wH):=hg
 have HR:Hid (r=if r1=0 then r2 else r1):=hr
 clear hg hr mixed
 refine wpList_step (fun K hK=>?_)
 go_simp
 refine hK _ _ ?_
 clear hK K
 have hc:∀j,(W3.alloc (Obj.cells #[Value.int .i64 r1,Value.int .i64 r2] 3)).cell? ⟨W3.heap.size,j,none⟩=(#[Value.int .i64 r1,Value.int .i64 r2]:Array Value)[j]?:=fun j=>PO W3 _ _ j
 have Zq:Hid (∃q wH,W3.alloc (Obj.cells #[Value.int .i64 r1,Value.int .i64 r2] 3)=grow (W.drewN q) wH):=by
  obtain⟨q,os,h⟩:=HG.out
  exact⟨q,_,by rw[h,alloc_eq_grow,grow_grow]⟩
 generalize W3.alloc (Obj.cells #[Value.int .i64 r1,Value.int .i64 r2] 3)=W4 at*
 generalize W3.heap.size=sz at*
 have c0:=hc 0
 have c1:=hc 1
 clear hc HG Zp
 refine wpList_step (fun K hK=>?_)
 go_simp
 refine(uX r1 r2 sz W4 c0 c1).mono ?_
 rintro e w' ⟨rfl,rfl⟩
 refine hK _ _ ?_
 clear hK K
 refine wpList_step (fun K hK=>?_)
 go_simp
 refine hK _ _ ?_
 clear hK K c0 c1
 rw[show(if r1=0 then r2 else r1)=r from HR.out.symm]
 clear HR
 go_wp2
 go_ret
 exact⟨rfl,Zq.out⟩
def PR(x:(Int×Int)×Int):List Value:=[.int .i64 x.1.1,.int .i64 x.1.2,.int .i64 x.2]
def Iw(x y:(Int×Int)×Int):Int:=if lD x.1.1 y.1.1=0 then lD x.1.2 y.1.2 else lD x.1.1 y.1.1
theorem Zr(x y:(Int×Int)×Int)(W:World):Calls Tryz.prog 63 #[.agg (PR x).toArray,.agg (PR y).toArray] W fun e w'=>e=.returned (.int .i64 (Iw x y))/\∃q wH,w'=grow (W.drewN q) wH:=by
 unfold PR
 obtain⟨r,hr⟩:∃r,r=Iw x y:=⟨_,rfl⟩
 rw[<-hr]
 have mixed:Tryz.prog.follows .mixedOrders=true:=mixed
 have tJ:=fun W'=>kY x.1.1 y.1.1 W'
 have yx:=fun W'=>kY x.1.2 y.1.2 W'
 go_enter Tryz.func63,Tryz.ntmps63
 go_wp2
 have f0:((W.alloc (.cells #[.int .i64 x.1.1,.int .i64 x.1.2,.int .i64 x.2] 131)).alloc (.cells #[.int .i64 y.1.1,.int .i64 y.1.2,.int .i64 y.2] 131)).drew.cell? ⟨W.heap.size,0,none⟩=some (.int .i64 x.1.1):=Kp ..
 have f1:((W.alloc (.cells #[.int .i64 x.1.1,.int .i64 x.1.2,.int .i64 x.2] 131)).alloc (.cells #[.int .i64 y.1.1,.int .i64 y.1.2,.int .i64 y.2] 131)).drew.cell? ⟨W.heap.size,1,none⟩=some (.int .i64 x.1.2):=Kp ..
 have g0:((W.alloc (.cells #[.int .i64 x.1.1,.int .i64 x.1.2,.int .i64 x.2] 131)).alloc (.cells #[.int .i64 y.1.1,.int .i64 y.1.2,.int .i64 y.2] 131)).drew.cell? ⟨W.heap.size+1,0,none⟩=some (.int .i64 y.1.1):=Kq ..
 have g1:((W.alloc (.cells #[.int .i64 x.1.1,.int .i64 x.1.2,.int .i64 x.2] 131)).alloc (.cells #[.int .i64 y.1.1,.int .i64 y.1.2,.int .i64 y.2] 131)).drew.cell? ⟨W.heap.size+1,1,none⟩=some (.int .i64 y.1.2):=Kq ..
 have hg:∃q wH,((W.alloc (.cells #[.int .i64 x.1.1,.int .i64 x.1.2,.int .i64 x.2] 131)).alloc (.cells #[.int .i64 y.1.1,.int .i64 y.1.2,.int .i64 y.2] 131)).drew=grow (W.drewN q) wH:=⟨1,_,by rw[alloc_eq_grow,alloc_eq_grow,grow_grow];rfl⟩
 generalize (W.alloc (.cells #[.int .i64 x.1.1,.int .i64 x.1.2,.int .i64 x.2] 131)).alloc (.cells #[.int .i64 y.1.1,.int .i64 y.1.2,.int .i64 y.2] 131)=W2 at*
 refine wp_region_still_tail 10 mixed (by kernel_rfl) ?_
 simp only[List.take_succ_cons,List.take_zero,List.drop_succ_cons,List.drop_zero]
 change wpStill _ _ (World.drew W2) _ _ _
 generalize Zp:World.drew W2=W3 at*
 repeat still_step
 still_call (tJ _)
 repeat still_step
 still_call (yx _)
 refine wpStill_nil ?_
 clear f0 f1 g0 g1 tJ yx
 unfold Iw at hr
 generalize lD x.1.1 y.1.1=r1 at*
 generalize lD x.1.2 y.1.2=r2 at*
 have HG:Hid (∃q wH,W3=grow (W.drewN q) wH):=hg
 have HR:Hid (r=if r1=0 then r2 else r1):=hr
 clear hg hr mixed
 refine wpList_step (fun K hK=>?_)
 go_simp
 refine hK _ _ ?_
 clear hK K
 have hc:∀j,(W3.alloc (Obj.cells #[Value.int .i64 r1,Value.int .i64 r2] 3)).cell? ⟨W3.heap.size,j,none⟩=(#[Value.int .i64 r1,Value.int .i64 r2]:Array Value)[j]?:=fun j=>PO W3 _ _ j
 have Zq:Hid (∃q wH,W3.alloc (Obj.cells #[Value.int .i64 r1,Value.int .i64 r2] 3)=grow (W.drewN q) wH):=by
  obtain⟨q,os,h⟩:=HG.out
  exact⟨q,_,by rw[h,alloc_eq_grow,grow_grow]⟩
 generalize W3.alloc (Obj.cells #[Value.int .i64 r1,Value.int .i64 r2] 3)=W4 at*
 generalize W3.heap.size=sz at*
 have c0:=hc 0
 have c1:=hc 1
 clear hc HG Zp
 refine wpList_step (fun K hK=>?_)
 go_simp
 refine(uX r1 r2 sz W4 c0 c1).mono ?_
 rintro e w' ⟨rfl,rfl⟩
 refine hK _ _ ?_
 clear hK K
 refine wpList_step (fun K hK=>?_)
 go_simp
 refine hK _ _ ?_
 clear hK K c0 c1
 rw[show(if r1=0 then r2 else r1)=r from HR.out.symm]
 clear HR
 go_wp2
 go_ret
 exact⟨rfl,Zq.out⟩
end
section
open Go.TM
def cV(n m:Int):Int:=if n.tmod m<0 then n.tmod m+m else n.tmod m
theorem uY(n m:Int)(hm:1<=m):0<=cV n m/\cV n m<m:=by
 unfold cV
 have h1:=Int.tmod_lt_of_pos n (show 0<m by omega)
 have h2:=Int.lt_tmod_of_pos n (show 0<m by omega)
 split<;>omega
def pick(l:List Int)(i m:Int):Int:=if i<0 then 0 else match l[i.toNat]? with
 |some x=>cV x m
 |none=>0
theorem Kr(l:List Int)(i m:Int)(hm:1<=m):0<=pick l i m/\pick l i m<m:=by
 unfold pick
 split
 ·omega
 ·split
  ·exact uY _ m hm
  ·omega
variable [bJ]
theorem vR(n m:Int)(hm:1<=m)(T2:m<=4611686018427387904):aO Tryz.prog 15 [I n,I m] [I (cV n m)]:=by
 refine pO Tryz.func15 rfl (by kernel_rfl) rfl ?_
 have h1:=Int.tmod_lt_of_pos n (show 0<m by omega)
 have h2:=Int.lt_tmod_of_pos n (show 0<m by omega)
 refine⟨fun _=>by omega,fun h=>?_,fun h=>?_⟩
 ·have h':n.tmod m<0:=abQ h
  exact⟨fun _=>⟨by omega,by omega⟩,aG (by rw[cV,if_pos h']),tv⟩
 ·have h':¬n.tmod m<0:=abR h
  exact⟨aG (by rw[cV,if_neg h']),tv⟩
theorem bB(l:List Int)(i m:Int)(hm:1<=m)(T2:m<=4611686018427387904):aO Tryz.prog 12 [Ints l,I i,I m] [I (pick l i m)]:=by
 refine pO Tryz.func12 rfl (by kernel_rfl) rfl ?_
 repeat first|apply g1|apply g2|apply g3|apply g4|apply g5
 refine⟨fun h=>?_,fun h=>?_⟩
 ·refine⟨aG ?_,tv⟩
  unfold pick
  split
  ·rfl
  ·rename_i hi
   have xa:¬m<1:=by omega
   have:(l.length:Int)<=i:=by simpa[hi,xa]using h
   rw[List.getElem?_eq_none (by omega)]
 ·have hi:¬i<0:=fun hi=>by simp[hi]at h
  have wB:¬(l.length:Int)<=i:=fun wB=>by simp[hi,wB]at h
  have au:i.toNat<l.length:=by omega
  refine⟨I l[i.toNat],fun _=>⟨by omega,by simp[au]⟩,?_⟩
  refine .inl ⟨_,fun _=>(vR _ m hm (by omega)).ok,aG ?_,tv⟩
  unfold pick
  rw[if_neg hi,aaa au]
theorem mT(l:List Lt)(hl:l.length<=1000000):aO Tryz.prog 37 [aS l,aS l] [B true]:=by
 refine pO Tryz.func37 rfl (by kernel_rfl) rfl ?_
 have lp:(l.map aF).length=l.length:=abz ..
 refine aby (fun h=>by simp at h) fun _=>?_
 refine⟨Nat,fun i=>⟨0,[(0,.dv (aS l)),(1,.dv (aS l)),(5,.dv (I i))],[]⟩,fun i=>i<=l.length,fun i=>l.length-i,0,fun _=>rfl,jn rfl rfl rfl rfl,abO _,?_⟩
 rintro i hi
 refine aby ?_ ?_
 ·intro h
  have au:i<l.length:=by have:=abQ h;omega
  obtain⟨x,hx⟩:∃x,l[i]?=some x:=⟨_,aaa au⟩
  have ix:(l.map aF)[(i:Int).toNat]?=some (aF x):=by rw[abB];simp[hx]
  refine⟨aF x,fun _=>⟨by omega,ix⟩,aF x,fun _=>⟨by omega,ix⟩,?_⟩
  refine⟨by kernel_rfl,aby (fun h=>by simp at h) fun _=>?_⟩
  exact⟨fun _=>⟨by omega,by omega⟩,i+1,jn rfl rfl rfl rfl,by omega,mlt au⟩
 ·intro h
  exact⟨rf,tv⟩
theorem Ix(m:dX)(hl:m.ps.length<=1000000):aO Tryz.prog 59 [ak m,ak m] [B true]:=by
 refine pO Tryz.func59 rfl (by kernel_rfl) rfl ?_
 refine .inl ⟨_,fun _=>(mT m.ps hl).ok,?_⟩
 repeat first|apply g1|apply g2|apply g3|apply g4|apply g5
 exact⟨DV.Le.of_eq (by simp),tv⟩
theorem Iy(l:List dJ)(hl:l.length<=1000000)(hm:∀s∈l,s.mv.length<=1000/\∀m∈s.mv,m.ps.length<=1000000):aO Tryz.prog 31 [.sl 7 (l.map aC),.sl 7 (l.map aC)] [B true]:=by
 refine pO Tryz.func31 rfl (by kernel_rfl) rfl ?_
 have lp:(l.map aC).length=l.length:=abz ..
 refine aby (fun h=>by simp at h) fun _=>?_
 refine⟨Nat,fun i=>⟨0,[(0,.dv (.sl 7 (l.map aC))),(1,.dv (.sl 7 (l.map aC))),(5,.dv (I i))],[]⟩,fun i=>i<=l.length,fun i=>l.length-i,0,fun _=>rfl,jn rfl rfl rfl rfl,abO _,?_⟩
 rintro i hi
 refine aby ?_ ?_
 ·intro h
  have au:i<l.length:=by have:=abQ h;omega
  obtain⟨x,hx⟩:∃x,l[i]?=some x:=⟨_,aaa au⟩
  have ix:(l.map aC)[(i:Int).toNat]?=some (aC x):=by rw[abB];simp[hx]
  obtain⟨m1,m2⟩:=hm x (abC hx)
  have lm:(x.mv.map ak).length=x.mv.length:=abz ..
  refine⟨aC x,fun _=>⟨by omega,ix⟩,aC x,fun _=>⟨by omega,ix⟩,?_⟩
  repeat first|apply g1|apply g2|apply g3|apply g4|apply g5
  refine aby (fun h=>by simp at h) fun _=>?_
  refine⟨Nat,fun k=>⟨2,[(0,.dv (.sl 7 (l.map aC))),(1,.dv (.sl 7 (l.map aC))),(5,.dv (I i)),(6,.ptr 0 0),(7,.ptr 1 0),(8,.dv (I k))],[(0,.cells (eB (aC x).cells)),(1,.cells (eB (aC x).cells))]⟩,fun k=>k<=x.mv.length,fun k=>x.mv.length-k,0,fun _=>rfl,jn rfl rfl rfl rfl,abO _,?_⟩
  rintro k hk
  refine aby ?_ ?_
  ·intro h
   have D1:k<x.mv.length:=by have:=abQ h;omega
   obtain⟨m,rP⟩:∃m,x.mv[k]?=some m:=⟨_,aaa D1⟩
   have im:(x.mv.map ak)[(k:Int).toNat]?=some (ak m):=by rw[abB];simp[rP]
   refine⟨ak m,fun _=>⟨by omega,im⟩,ak m,fun _=>⟨by omega,im⟩,?_⟩
   refine .inl ⟨_,fun _=>(Ix m (m2 m (abC rP))).ok,?_⟩
   refine⟨by kernel_rfl,aby (fun h=>by simp at h) fun _=>?_⟩
   exact⟨fun _=>⟨by omega,by omega⟩,k+1,jn rfl rfl rfl rfl,by omega,mlt D1⟩
  ·intro h
   exact⟨fun _=>⟨by omega,by omega⟩,i+1,jn rfl rfl rfl rfl,by omega,mlt au⟩
 ·intro h
  exact⟨rf,tv⟩
end
section
open Go.TM
variable [bJ]
theorem Iz(f:oj)(h1:f.ps.length<=1000000)(h2:f.md.length<=1000000):aO Tryz.prog 56 [aM f,aM f] [B true]:=by
 refine pO Tryz.func56 rfl (by kernel_rfl) rfl ?_
 refine .inl ⟨_,fun _=>(mT f.ps h1).ok,?_⟩
 repeat first|apply g1|apply g2|apply g3|apply g4|apply g5
 refine aby (fun h=>by simp at h) fun _=>?_
 have lp:(f.md.map I).length=f.md.length:=abz ..
 refine⟨Nat,fun k=>⟨2,[(2,.ptr 0 0),(3,.ptr 1 0),(6,.dv (I k))],[(0,.cells (eB (aM f).cells)),(1,.cells (eB (aM f).cells))]⟩,fun k=>k<=f.md.length,fun k=>f.md.length-k,0,fun _=>rfl,jn rfl rfl rfl rfl,abO _,?_⟩
 rintro k hk
 refine aby ?_ ?_
 ·intro h
  have D1:k<f.md.length:=by have:=abQ h;omega
  obtain⟨x,hx⟩:∃x,f.md[k]?=some x:=⟨_,aaa D1⟩
  have ix:(f.md.map I)[(k:Int).toNat]?=some (I x):=by rw[abB];simp[hx]
  refine⟨I x,fun _=>⟨by omega,ix⟩,I x,fun _=>⟨by omega,ix⟩,?_⟩
  refine⟨by kernel_rfl,aby (fun h=>by simp at h) fun _=>?_⟩
  exact⟨fun _=>⟨by omega,by omega⟩,k+1,jn rfl rfl rfl rfl,by omega,mlt D1⟩
 ·intro h
  repeat first|apply g1|apply g2|apply g3|apply g4|apply g5
  exact⟨DV.Le.of_eq (by simp),tv⟩
theorem FT(l:List oj)(hl:l.length<=1000000)(hm:∀f∈l,f.ps.length<=1000000/\f.md.length<=1000000):aO Tryz.prog 29 [.sl 11 (l.map aM),.sl 11 (l.map aM)] [B true]:=by
 refine pO Tryz.func29 rfl (by kernel_rfl) rfl ?_
 have lp:(l.map aM).length=l.length:=abz ..
 refine aby (fun h=>by simp at h) fun _=>?_
 refine⟨Nat,fun i=>⟨0,[(0,.dv (.sl 11 (l.map aM))),(1,.dv (.sl 11 (l.map aM))),(5,.dv (I i))],[]⟩,fun i=>i<=l.length,fun i=>l.length-i,0,fun _=>rfl,jn rfl rfl rfl rfl,abO _,?_⟩
 rintro i hi
 refine aby ?_ ?_
 ·intro h
  have au:i<l.length:=by have:=abQ h;omega
  obtain⟨x,hx⟩:∃x,l[i]?=some x:=⟨_,aaa au⟩
  have ix:(l.map aM)[(i:Int).toNat]?=some (aM x):=by rw[abB];simp[hx]
  obtain⟨m1,m2⟩:=hm x (abC hx)
  refine⟨aM x,fun _=>⟨by omega,ix⟩,aM x,fun _=>⟨by omega,ix⟩,?_⟩
  refine .inl ⟨_,fun _=>(Iz x m1 m2).ok,?_⟩
  refine⟨by kernel_rfl,aby (fun h=>by simp at h) fun _=>?_⟩
  exact⟨fun _=>⟨by omega,by omega⟩,i+1,jn rfl rfl rfl rfl,by omega,mlt au⟩
 ·intro h
  exact⟨rf,tv⟩
def eW(p:Ky×Int):DV:=.agg [I p.1.1,I p.1.2,I p.2]
theorem IA(l:List (Ky×Int))(hl:l.length<=1000000):aO Tryz.prog 33 [.sl 3 (l.map eW),.sl 3 (l.map eW)] [B true]:=by
 refine pO Tryz.func33 rfl (by kernel_rfl) rfl ?_
 have lp:(l.map eW).length=l.length:=abz ..
 refine aby (fun h=>by simp at h) fun _=>?_
 refine⟨Nat,fun i=>⟨0,[(0,.dv (.sl 3 (l.map eW))),(1,.dv (.sl 3 (l.map eW))),(5,.dv (I i))],[]⟩,fun i=>i<=l.length,fun i=>l.length-i,0,fun _=>rfl,jn rfl rfl rfl rfl,abO _,?_⟩
 rintro i hi
 refine aby ?_ ?_
 ·intro h
  have au:i<l.length:=by have:=abQ h;omega
  obtain⟨x,hx⟩:∃x,l[i]?=some x:=⟨_,aaa au⟩
  have ix:(l.map eW)[(i:Int).toNat]?=some (eW x):=by rw[abB];simp[hx]
  refine⟨eW x,fun _=>⟨by omega,ix⟩,eW x,fun _=>⟨by omega,ix⟩,?_⟩
  refine⟨by kernel_rfl,aby (fun h=>by simp at h) fun _=>?_⟩
  exact⟨fun _=>⟨by omega,by omega⟩,i+1,jn rfl rfl rfl rfl,by omega,mlt au⟩
 ·intro h
  exact⟨rf,tv⟩
end
section
open Go.TM Go.Proofs Go.Sort Go.Shelf
theorem tl{w:World}{cS:Nat}{c:Array Value}{t:TypeId}(h:w.heap[cS]?=some (.cells c t (0,0)))(o:Nat):w.frozen? ⟨cS,o,none⟩=false:=by
 unfold World.frozen?
 rw[h];simp
theorem Ks{α:Type}(d:Array α):d.extract 0 d.size=d:=by simp
section
variable [cj]
theorem IB{P:Program}{f:Nat}(qn:fQ P f){args:List AV}{m:Nat}{K:ae}(hK:∀i,m<=i->aa K i=.none)
 (aZ:∀(w:World) (G:Gh) (vs:List Value),ng G.M->Fit G w (aa K)->cb G args vs->Calls P f vs.toArray w fun e w'=>e=.returned (.tuple #[])/\w'=w):aq P f args m K 0 [] K:=by
 refine⟨qn,fun w G vs na cL hr=>Calls.mono (aZ w G vs na cL hr) ?_⟩
 rintro e w' ⟨rfl,rfl⟩
 exact⟨_,[],K,G,rfl,⟨rfl,rfl⟩,⟨cL,fun i hi=>hK i (by omega),.fO [] [] rfl (by simp),.refl _,fun _ _=>rfl,fun _ _ _ _ h=>h,fun _ _ _=>⟨rfl,rfl⟩,fun i b o=>.inr ⟨i,o⟩,rfl,rfl,rfl,ab3 _⟩⟩
theorem kZ{P:Program}{f:Nat}{args:List AV}{m ex:Nat}{K:ae}{Q Q':List AV->ae->Prop}(h:bV P f args m K ex Q)(hQ:∀r k,Q r k->Q' r k):bV P f args m K ex Q':=
 ⟨h.1,fun w G vs a b c=>Calls.mono (h.2 w G vs a b c) fun _ _ ⟨v,r,k,G',h1,h2,h3⟩=>⟨v,r,k,G',h1,hQ r k h2,h3⟩⟩
theorem SH{G:Gh}{w:World}{k:Nat}{K3:ae}{x:AV}{vs:List Value}(cL:Fit G w (aa ((0,.tree 0 0 (.aB k []))::K3)))(hr:cb G [.own 0 0 0 [],x] vs):∃p cap fv,vs=[.slice p 0 cap,fv]:=by
 match vs,hr.1 with
 |[u,fv],_=>
  have hu:=hr.2 0 _ u rfl rfl
  cases hu with|own _ _ _ _ _ hu Pk=>
  obtain⟨u0,Ko,_,bn⟩:=cL.node (p:=[]) (show aa ((0,ar.tree 0 0 (.aB k []))::K3) 0=.tree 0 0 (.aB k [])from rfl) rfl rfl
  rw[hu]at Ko;injection Ko with Ko;subst Ko
  rcases fM.1 bn with⟨_,rfl⟩|⟨cS,off,cap,c,t,rfl,_⟩
  ·exact⟨none,0,fv,rfl⟩
  ·exact⟨_,cap,fv,rfl⟩
theorem V5{G:Gh}{g:Nat}{v:Value}(h:aH G (.dv (.fn g [])) v):v=.func (.func g) #[] #[]:=by
 cases h with
 |dv h=>
  cases h with
  |fn _ _ vs hl _=>
   have:vs=[]:=List.length_eq_zero_iff.1 (by simpa using hl.symm)
   subst this;rfl
theorem tn{P:Program}{ρ:Ren}(L:SlLaysF0.n6 P ρ)(qn:fQ P (ρ.f 6)){α:Type}[Inhabited α]{vals:α->List Int}{e:α->DV}{k:Nat}(Jl:0<k)(he:∀x,(e x).cells=(vals x).map fun n=>DV.int .i64 n)(hk:∀x,(vals x).length=k)
 (aE:∀w,(isAgg (ρ.t 24)).run P w=.ok true w) (zE:∀w,(Go.sizeOf (ρ.t 24)).run P w=.ok k w) (cf:α->α->Int) (hO:SWO (ltOf cf)) (g:Nat) (eg:∀args w,(callFunc g args).run P w=.ok (.enter g args) w)
 (aaQ:∀(x y:α) (W:World),Calls P g #[.agg ((vals x).map (Value.int .i64)).toArray,.agg ((vals y).map (Value.int .i64)).toArray] W fun e w'=>e=.returned (.int .i64 (cf x y))/\∃q wH,w'=grow (W.drewN q) wH)
 (l:List α) (aW:l.length<4611686018427387904):
 bV P (ρ.f 6) [.own 0 0 0 [],.dv (.fn g [])] 1 [(0,.tree 0 0 (.aB k (l.map e)))] 0 fun rs K'=>rs=[]/\∃l':List α,(l'.Perm l/\l'.Pairwise fun x y=>ltOf cf y x=false)/\K'=[(0,.tree 0 0 (.aB k (l'.map e)))]:=by
 by_cases ck:l=[]
 ·subst ck
  refine kZ (IB qn (fun i hi=>(by match i,hi with|i+1,_=>rfl)) fun w G vs na cL hr=>?_) fun r k' fP=>⟨fP.1,[],⟨.refl _,.nil⟩,fP.2⟩
  obtain⟨p,cap,fv,rfl⟩:=SH (K3:=[]) cL hr
  exact AnyF.slices_SortFunc_none L p cap fv w
 refine kZ (vP qn he hk ck (by omega) (K3:=[]) (fun _ _=>rfl) (fun l':List α=>l'.Perm l/\l'.Pairwise fun x y=>ltOf cf y x=false) (fun l' h=>h.1.length_eq) ?_) fun r k' fP=>fP
 rintro w G cS off cap xs cL na hr _ ⟨c,t,hblk,cH⟩
 obtain⟨fv,rfl⟩:∃fv,xs=[fv]:=by
  match xs,hr.1 with
  |[a],_=>exact⟨a,rfl⟩
 have hfv:=V5 (hr.2 0 _ fv rfl rfl)
 subst hfv
 have DX:cS<w.heap.size:=(abN.1 hblk).1
 have jN:∀(d:Array α) (tt:Nat),tt<d.size*k->∃x,d.toList[tt/k]?=some x/\∃n,(vals x)[tt%k]?=some n/\(flatK (fun x=>(vals x).map (Value.int .i64)) k d)[tt]! = .int .i64 n:=fun d tt ht=>by
  have h1:tt/k<d.size:=(Nat.div_lt_iff_lt_mul Jl).2 ht
  have h2:tt%k<(vals d[tt/k]).length:=by rw[hk];exact Nat.mod_lt _ Jl
  refine⟨d[tt/k],by simp[h1],(vals d[tt/k])[tt%k],aaa h2,?_⟩
  rw[get_flatK _ _ _ _ ht,getElem!_pos d _ h1,getElem!_pos _ _ (by simpa using h2)]
  simp
 have hH:HoldsK (fun x=>(vals x).map (Value.int .i64)) k w cS off l.toArray:=fun j hj=>by
  rw[size_flatK]at hj
  obtain⟨x,hx,n,hn,hf⟩:=jN _ j hj
  have h3:=cH (j/k) x (j%k) n (by simpa using hx) hn
  rw[show off+j/k*k+j%k=off+j by rw[Nat.add_assoc,Nat.div_add_mod' j k]]at h3
  refine⟨?_,tl hblk _⟩
  rw[hf]
  unfold World.cell?
  rw[hblk]
  exact h3
 have SI:=AnyQ.slices_SortFunc L k aE zE (fun x=>(vals x).map (Value.int .i64)) (fun x=>by rw[abz,hk]) (fun x v hv=>by obtain⟨n,_,rfl⟩:=ab1.1 hv;rfl) cf hO g #[] cS off cap l.toArray w eg (fun m os dk hs x y=>by simpa using aaQ x y _) hH DX (by simpa using aW)
 refine Calls.mono SI ?_
 rintro en w' ⟨rfl,d',n,os,hp,hs,rfl⟩
 have zM:d'.size=l.length:=by simpa using hp.1
 have zf:d'.toList.Perm l:=by
  have:=hp.2.2
  rw[show l.toArray.size=d'.size by simp[zM],Ks,show d'.size=l.toArray.size by simp[zM],Ks]at this
  simpa using this
 refine⟨rfl,d'.toList,⟨zf,?_⟩,?_⟩
 ·rw[List.pairwise_iff_getElem]
  intro i j hi hj DW
  have:=hs i j (abO _) DW (by simpa[zM]using hj)
  rw[getElem!_pos d' j (by simpa using hj),getElem!_pos d' i (by simpa using hi)]at this
  simpa using this
 ·refine vQ (F:=flatK (fun x=>(vals x).map (Value.int .i64)) k d') DX (fun i x j n hx hn=>?_) fun c' t' fr' oc=>?_
  ·have hj:j<k:=by have:=(abA.1 hn).1;rw[hk]at this;exact this
   have hi:i<d'.size:=by have:=(abA.1 hx).1;simpa using this
   have au:i*k+j<d'.size*k:=by
    have:(i+1)*k<=d'.size*k:=ab4 _ hi
    rw[Nat.add_mul,Nat.one_mul]at this;omega
   refine⟨by rw[size_flatK];exact au,?_⟩
   obtain⟨x2,T8,n2,EI,hf⟩:=jN d' (i*k+j) au
   have q1:(i*k+j)/k=i:=by rw[Nat.mul_comm,Nat.mul_add_div Jl,Nat.div_eq_of_lt hj];rfl
   have q2:(i*k+j)%k=j:=by rw[Nat.mul_comm,Nat.mul_add_mod,Nat.mod_eq_of_lt hj]
   rw[q1,hx]at T8;injection T8 with T8;subst T8
   rw[q2,hn]at EI;injection EI with EI;subst EI
   exact hf
  ·rw[size_flatK]
   rw[hblk]at oc;injection oc with oc;injection oc with tJ _ _;subst tJ
   have Zn:0<l.length:=List.length_pos_iff.2 ck
   have au:d'.size*k-1<l.toArray.size*k:=by
    have:=Nat.mul_pos Zn Jl
    simp[zM];omega
   obtain⟨x,hx,n2,EI,_⟩:=jN l.toArray _ au
   have h3:=cH _ x _ n2 (by simpa using hx) EI
   have:=(abN.1 h3).1
   rw[Nat.add_assoc,Nat.div_add_mod']at this
   omega
end
instance:Inhabited Lt:=⟨⟨0,0,0⟩⟩
theorem xb(x y:Lt):ltOf Iv x y=decide (x.f<y.f\/x.f=y.f/\x.a<y.a):=by
 unfold ltOf Iv lD
 by_cases h1:x.f<y.f
 ·simp[h1]
 ·by_cases h2:y.f<x.f
  ·simp[h1,h2];omega
  ·have:x.f=y.f:=by omega
   simp[this]
   split<;>rename_i h3
   ·simp;omega
   ·split<;>simp<;>omega
theorem xc(x y:(Int×Int)×Int):ltOf Iw x y=decide (x.1.1<y.1.1\/x.1.1=y.1.1/\x.1.2<y.1.2):=by
 unfold ltOf Iw lD
 by_cases h1:x.1.1<y.1.1
 ·simp[h1]
 ·by_cases h2:y.1.1<x.1.1
  ·simp[h1,h2];omega
  ·have:x.1.1=y.1.1:=by omega
   simp[this]
   split<;>rename_i h3
   ·simp;omega
   ·split<;>simp<;>omega
theorem V6:SWO (ltOf Iv)where
 irrefl x:=by rw[xb];simp
 trans x y z h1 h2:=by rw[xb]at *; simp at *; omega
 ntrans x y z h1 h2:=by rw[xb]at *; simp at *; omega
theorem V7:SWO (ltOf Iw)where
 irrefl x:=by rw[xc];simp
 trans x y z h1 h2:=by rw[xc]at *; simp at *; omega
 ntrans x y z h1 h2:=by rw[xc]at *; simp at *; omega
variable [bJ]
theorem FU(l:List Lt)(hl:l.length<=1000000):bV Tryz.prog 191 [.own 0 0 0 [],.dv (.fn 192 [])] 1 [(0,.tree 0 0 (.aB 3 (l.map aF)))] 0 fun rs K'=>rs=[]/\∃l':List Lt,(l'.Perm l/\l'.Pairwise leq)/\K'=[(0,.tree 0 0 (.aB 3 (l'.map aF)))]:=
 kZ (tn (vals:=fun x:Lt=>[x.f,x.a,x.n]) (e:=aF) V3 ⟨_,Tryz.func191,by kernel_rfl,rfl⟩ (by omega) (fun _=>rfl) (fun _=>rfl) Tryz.isAgg63 Tryz.sizeOf63 Iv V6 192 (enters_of Tryz.func192 (by kernel_rfl) rfl) Zo l (by omega)) fun r k ⟨h1,l',⟨h2,h3⟩,h4⟩=>⟨h1,l',⟨h2,h3.imp fun {x y} h=>by
  rw[xb]at h
  unfold leq
  simp at h;omega⟩,h4⟩
theorem FV(l:List ((Int×Int)×Int))(hl:l.length<=1000000):bV Tryz.prog 62 [.own 0 0 0 [],.dv (.fn 63 [])] 1 [(0,.tree 0 0 (.aB 3 (l.map eW)))] 0 fun rs K'=>rs=[]/\∃l':List ((Int×Int)×Int),(l'.Perm l/\l'.Pairwise fun x y=>¬(y.1.1<x.1.1\/y.1.1=x.1.1/\y.1.2<x.1.2))/\K'=[(0,.tree 0 0 (.aB 3 (l'.map eW)))]:=
 kZ (tn (vals:=fun x:(Int×Int)×Int=>[x.1.1,x.1.2,x.2]) (e:=eW) V4 ⟨_,Tryz.func62,by kernel_rfl,rfl⟩ (by omega) (fun _=>rfl) (fun _=>rfl) Tryz.isAgg131 Tryz.sizeOf131 Iw V7 63 (enters_of Tryz.func63 (by kernel_rfl) rfl) Zr l (by omega)) fun r k ⟨h1,l',⟨h2,h3⟩,h4⟩=>⟨h1,l',⟨h2,h3.imp fun {x y} h=>by
  rw[xc]at h
  simpa using h⟩,h4⟩
end
end Go.Proofs.YtpbiiigpphehbaaGreatDoor
