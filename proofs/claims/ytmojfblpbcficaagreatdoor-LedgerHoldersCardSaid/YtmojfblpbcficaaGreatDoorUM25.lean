import Derived.Test.YtmojfblpbcficaaGreatDoorUM18
import Derived.Test.YtmojfblpbcficaaGreatDoorUM24
import Derived.WalkKit
import Derived.Deep.LoopGhost
import Derived.LoopTactic
import Derived.StillTailTactics
import Derived.Shelf.SlSortCmp.QuietGrown
import Derived.Test.YtmojfblpbcficaaGreatDoorUM21
import Derived.Shelf.SlSortCmp.NoneTotal
set_option linter.all false
open Go.TM.oA Go.TM.oB Go.TM.oC Go.TM.oD Go.TM.oE
namespace Go.Proofs.YtmojfblpbcficaaGreatDoor
set_option maxRecDepth 100000
set_option maxHeartbeats 4000000
section
open Go.Proofs
def Jp:Go.Shelf.Ren:=⟨fun|6=>97|15=>80|14=>151|28=>116|29=>117|20=>218|21=>219|22=>220|23=>221|24=>222|25=>223|26=>224|27=>225|46=>244|47=>153|48=>154|49=>245|50=>246|57=>256|n=>n,fun|22=>27|24=>53|25=>166|3=>3|39=>155|0=>0|53=>185|55=>187|4=>4|46=>179|45=>178|50=>147|5=>5|9=>9|66=>221|70=>225|76=>266|77=>267|n=>n,fun|n=>n⟩
theorem X5:Go.Proofs.SlLaysF0.n6 Tryz.prog Jp where
 mixed:=by kernel_rfl
 f6:=⟨Tryz.f97.name,by kernel_rfl,Tryz.func97.trans (congrArg some (by kernel_rfl))⟩
 f14:=⟨Tryz.f151.name,by kernel_rfl,Tryz.func151.trans (congrArg some (by kernel_rfl))⟩
 f15:=Tryz.func80.trans (congrArg some (by kernel_rfl))
 f20:=⟨Tryz.f218.name,by kernel_rfl,Tryz.func218.trans (congrArg some (by kernel_rfl))⟩
 f21:=⟨Tryz.f219.name,by kernel_rfl,Tryz.func219.trans (congrArg some (by kernel_rfl))⟩
 f22:=⟨Tryz.f220.name,by kernel_rfl,Tryz.func220.trans (congrArg some (by kernel_rfl))⟩
 f23:=⟨Tryz.f221.name,by kernel_rfl,Tryz.func221.trans (congrArg some (by kernel_rfl))⟩
 f24:=⟨Tryz.f222.name,by kernel_rfl,Tryz.func222.trans (congrArg some (by kernel_rfl))⟩
 f25:=⟨Tryz.f223.name,by kernel_rfl,Tryz.func223.trans (congrArg some (by kernel_rfl))⟩
 f26:=⟨Tryz.f224.name,by kernel_rfl,Tryz.func224.trans (congrArg some (by kernel_rfl))⟩
 f27:=⟨Tryz.f225.name,by kernel_rfl,Tryz.func225.trans (congrArg some (by kernel_rfl))⟩
 f28:=Tryz.func116.trans (congrArg some (by kernel_rfl))
 f29:=Tryz.func117.trans (congrArg some (by kernel_rfl))
 f46:=⟨Tryz.f244.name,by kernel_rfl,Tryz.func244.trans (congrArg some (by kernel_rfl))⟩
 f47:=Tryz.func153.trans (congrArg some (by kernel_rfl))
 f48:=Tryz.func154.trans (congrArg some (by kernel_rfl))
 f49:=⟨Tryz.f245.name,by kernel_rfl,Tryz.func245.trans (congrArg some (by kernel_rfl))⟩
 f50:=⟨Tryz.f246.name,by kernel_rfl,Tryz.func246.trans (congrArg some (by kernel_rfl))⟩
 f57:=⟨Tryz.f256.name,by kernel_rfl,Tryz.func256.trans (congrArg some (by kernel_rfl))⟩
 t0:=Tryz.underlying0
 a0:=Tryz.isAgg0
 z0:=Tryz.sizeOf0
 v0:=Tryz.zeroValue0
 t3:=Tryz.underlying3
 a3:=Tryz.isAgg3
 z3:=Tryz.sizeOf3
 v3:=Tryz.zeroValue3
 t4:=Tryz.underlying4
 a4:=Tryz.isAgg4
 z4:=Tryz.sizeOf4
 v4:=Tryz.zeroValue4
 t5:=Tryz.underlying5
 a5:=Tryz.isAgg5
 z5:=Tryz.sizeOf5
 v5:=Tryz.zeroValue5
 t9:=Tryz.underlying9
 a9:=Tryz.isAgg9
 z9:=Tryz.sizeOf9
 v9:=Tryz.zeroValue9
 t22:=Tryz.underlying27
 a22:=Tryz.isAgg27
 z22:=Tryz.sizeOf27
 v22:=Tryz.zeroValue27
 t25:=Tryz.underlying166
 a25:=Tryz.isAgg166
 z25:=Tryz.sizeOf166
 v25:=Tryz.zeroValue166
 t39:=Tryz.underlying155
 a39:=Tryz.isAgg155
 z39:=Tryz.sizeOf155
 v39:=Tryz.zeroValue155
 t45:=Tryz.underlying178
 a45:=Tryz.isAgg178
 z45:=Tryz.sizeOf178
 v45:=Tryz.zeroValue178
 t46:=Tryz.underlying179
 a46:=Tryz.isAgg179
 z46:=Tryz.sizeOf179
 v46:=Tryz.zeroValue179
 t50:=Tryz.underlying147
 a50:=Tryz.isAgg147
 z50:=Tryz.sizeOf147
 v50:=Tryz.zeroValue147
 t53:=Tryz.underlying185
 a53:=Tryz.isAgg185
 z53:=Tryz.sizeOf185
 v53:=Tryz.zeroValue185
 t55:=Tryz.underlying187
 a55:=Tryz.isAgg187
 z55:=Tryz.sizeOf187
 v55:=Tryz.zeroValue187
 t66:=Tryz.underlying221
 a66:=Tryz.isAgg221
 z66:=Tryz.sizeOf221
 v66:=Tryz.zeroValue221
 t70:=Tryz.underlying225
 a70:=Tryz.isAgg225
 z70:=Tryz.sizeOf225
 v70:=Tryz.zeroValue225
 t76:=Tryz.underlying266
 a76:=Tryz.isAgg266
 z76:=Tryz.sizeOf266
 v76:=Tryz.zeroValue266
 t77:=Tryz.underlying267
 a77:=Tryz.isAgg267
 z77:=Tryz.sizeOf267
 v77:=Tryz.zeroValue267
def Jq:Go.Shelf.Ren:=⟨fun|6=>38|15=>80|14=>79|28=>116|29=>117|20=>108|21=>109|22=>110|23=>111|24=>112|25=>113|26=>114|27=>115|46=>152|47=>153|48=>154|49=>155|50=>156|57=>226|n=>n,fun|22=>30|24=>33|25=>92|3=>3|39=>155|0=>0|53=>185|55=>187|4=>4|46=>179|45=>178|50=>147|5=>5|9=>9|66=>221|70=>225|76=>266|77=>267|n=>n,fun|n=>n⟩
theorem X6:Go.Proofs.SlLaysF0.n6 Tryz.prog Jq where
 mixed:=by kernel_rfl
 f6:=⟨Tryz.f38.name,by kernel_rfl,Tryz.func38.trans (congrArg some (by kernel_rfl))⟩
 f14:=⟨Tryz.f79.name,by kernel_rfl,Tryz.func79.trans (congrArg some (by kernel_rfl))⟩
 f15:=Tryz.func80.trans (congrArg some (by kernel_rfl))
 f20:=⟨Tryz.f108.name,by kernel_rfl,Tryz.func108.trans (congrArg some (by kernel_rfl))⟩
 f21:=⟨Tryz.f109.name,by kernel_rfl,Tryz.func109.trans (congrArg some (by kernel_rfl))⟩
 f22:=⟨Tryz.f110.name,by kernel_rfl,Tryz.func110.trans (congrArg some (by kernel_rfl))⟩
 f23:=⟨Tryz.f111.name,by kernel_rfl,Tryz.func111.trans (congrArg some (by kernel_rfl))⟩
 f24:=⟨Tryz.f112.name,by kernel_rfl,Tryz.func112.trans (congrArg some (by kernel_rfl))⟩
 f25:=⟨Tryz.f113.name,by kernel_rfl,Tryz.func113.trans (congrArg some (by kernel_rfl))⟩
 f26:=⟨Tryz.f114.name,by kernel_rfl,Tryz.func114.trans (congrArg some (by kernel_rfl))⟩
 f27:=⟨Tryz.f115.name,by kernel_rfl,Tryz.func115.trans (congrArg some (by kernel_rfl))⟩
 f28:=Tryz.func116.trans (congrArg some (by kernel_rfl))
 f29:=Tryz.func117.trans (congrArg some (by kernel_rfl))
 f46:=⟨Tryz.f152.name,by kernel_rfl,Tryz.func152.trans (congrArg some (by kernel_rfl))⟩
 f47:=Tryz.func153.trans (congrArg some (by kernel_rfl))
 f48:=Tryz.func154.trans (congrArg some (by kernel_rfl))
 f49:=⟨Tryz.f155.name,by kernel_rfl,Tryz.func155.trans (congrArg some (by kernel_rfl))⟩
 f50:=⟨Tryz.f156.name,by kernel_rfl,Tryz.func156.trans (congrArg some (by kernel_rfl))⟩
 f57:=⟨Tryz.f226.name,by kernel_rfl,Tryz.func226.trans (congrArg some (by kernel_rfl))⟩
 t0:=Tryz.underlying0
 a0:=Tryz.isAgg0
 z0:=Tryz.sizeOf0
 v0:=Tryz.zeroValue0
 t3:=Tryz.underlying3
 a3:=Tryz.isAgg3
 z3:=Tryz.sizeOf3
 v3:=Tryz.zeroValue3
 t4:=Tryz.underlying4
 a4:=Tryz.isAgg4
 z4:=Tryz.sizeOf4
 v4:=Tryz.zeroValue4
 t5:=Tryz.underlying5
 a5:=Tryz.isAgg5
 z5:=Tryz.sizeOf5
 v5:=Tryz.zeroValue5
 t9:=Tryz.underlying9
 a9:=Tryz.isAgg9
 z9:=Tryz.sizeOf9
 v9:=Tryz.zeroValue9
 t22:=Tryz.underlying30
 a22:=Tryz.isAgg30
 z22:=Tryz.sizeOf30
 v22:=Tryz.zeroValue30
 t25:=Tryz.underlying92
 a25:=Tryz.isAgg92
 z25:=Tryz.sizeOf92
 v25:=Tryz.zeroValue92
 t39:=Tryz.underlying155
 a39:=Tryz.isAgg155
 z39:=Tryz.sizeOf155
 v39:=Tryz.zeroValue155
 t45:=Tryz.underlying178
 a45:=Tryz.isAgg178
 z45:=Tryz.sizeOf178
 v45:=Tryz.zeroValue178
 t46:=Tryz.underlying179
 a46:=Tryz.isAgg179
 z46:=Tryz.sizeOf179
 v46:=Tryz.zeroValue179
 t50:=Tryz.underlying147
 a50:=Tryz.isAgg147
 z50:=Tryz.sizeOf147
 v50:=Tryz.zeroValue147
 t53:=Tryz.underlying185
 a53:=Tryz.isAgg185
 z53:=Tryz.sizeOf185
 v53:=Tryz.zeroValue185
 t55:=Tryz.underlying187
 a55:=Tryz.isAgg187
 z55:=Tryz.sizeOf187
 v55:=Tryz.zeroValue187
 t66:=Tryz.underlying221
 a66:=Tryz.isAgg221
 z66:=Tryz.sizeOf221
 v66:=Tryz.zeroValue221
 t70:=Tryz.underlying225
 a70:=Tryz.isAgg225
 z70:=Tryz.sizeOf225
 v70:=Tryz.zeroValue225
 t76:=Tryz.underlying266
 a76:=Tryz.isAgg266
 z76:=Tryz.sizeOf266
 v76:=Tryz.zeroValue266
 t77:=Tryz.underlying267
 a77:=Tryz.isAgg267
 z77:=Tryz.sizeOf267
 v77:=Tryz.zeroValue267
def sq:Go.Shelf.Ren:=⟨fun|6=>263|15=>80|14=>274|28=>116|29=>117|20=>279|21=>280|22=>281|23=>282|24=>283|25=>284|26=>285|27=>286|46=>288|47=>153|48=>154|49=>289|50=>290|57=>291|n=>n,fun|22=>22|24=>3|25=>70|3=>3|39=>155|0=>0|53=>185|55=>187|4=>4|46=>179|45=>178|50=>147|5=>5|9=>9|66=>221|70=>225|76=>266|77=>267|n=>n,fun|n=>n⟩
theorem QS:Go.Proofs.SlLaysF.n6 Tryz.prog sq where
 mixed:=by kernel_rfl
 f6:=⟨Tryz.f263.name,by kernel_rfl,Tryz.func263.trans (congrArg some (by kernel_rfl))⟩
 f14:=⟨Tryz.f274.name,by kernel_rfl,Tryz.func274.trans (congrArg some (by kernel_rfl))⟩
 f15:=Tryz.func80.trans (congrArg some (by kernel_rfl))
 f20:=⟨Tryz.f279.name,by kernel_rfl,Tryz.func279.trans (congrArg some (by kernel_rfl))⟩
 f21:=⟨Tryz.f280.name,by kernel_rfl,Tryz.func280.trans (congrArg some (by kernel_rfl))⟩
 f22:=⟨Tryz.f281.name,by kernel_rfl,Tryz.func281.trans (congrArg some (by kernel_rfl))⟩
 f23:=⟨Tryz.f282.name,by kernel_rfl,Tryz.func282.trans (congrArg some (by kernel_rfl))⟩
 f24:=⟨Tryz.f283.name,by kernel_rfl,Tryz.func283.trans (congrArg some (by kernel_rfl))⟩
 f25:=⟨Tryz.f284.name,by kernel_rfl,Tryz.func284.trans (congrArg some (by kernel_rfl))⟩
 f26:=⟨Tryz.f285.name,by kernel_rfl,Tryz.func285.trans (congrArg some (by kernel_rfl))⟩
 f27:=⟨Tryz.f286.name,by kernel_rfl,Tryz.func286.trans (congrArg some (by kernel_rfl))⟩
 f28:=Tryz.func116.trans (congrArg some (by kernel_rfl))
 f29:=Tryz.func117.trans (congrArg some (by kernel_rfl))
 f46:=⟨Tryz.f288.name,by kernel_rfl,Tryz.func288.trans (congrArg some (by kernel_rfl))⟩
 f47:=Tryz.func153.trans (congrArg some (by kernel_rfl))
 f48:=Tryz.func154.trans (congrArg some (by kernel_rfl))
 f49:=⟨Tryz.f289.name,by kernel_rfl,Tryz.func289.trans (congrArg some (by kernel_rfl))⟩
 f50:=⟨Tryz.f290.name,by kernel_rfl,Tryz.func290.trans (congrArg some (by kernel_rfl))⟩
 f57:=⟨Tryz.f291.name,by kernel_rfl,Tryz.func291.trans (congrArg some (by kernel_rfl))⟩
 t0:=Tryz.underlying0
 a0:=Tryz.isAgg0
 z0:=Tryz.sizeOf0
 v0:=Tryz.zeroValue0
 t3:=Tryz.underlying3
 a3:=Tryz.isAgg3
 z3:=Tryz.sizeOf3
 v3:=Tryz.zeroValue3
 t4:=Tryz.underlying4
 a4:=Tryz.isAgg4
 z4:=Tryz.sizeOf4
 v4:=Tryz.zeroValue4
 t5:=Tryz.underlying5
 a5:=Tryz.isAgg5
 z5:=Tryz.sizeOf5
 v5:=Tryz.zeroValue5
 t9:=Tryz.underlying9
 a9:=Tryz.isAgg9
 z9:=Tryz.sizeOf9
 v9:=Tryz.zeroValue9
 t22:=Tryz.underlying22
 a22:=Tryz.isAgg22
 z22:=Tryz.sizeOf22
 v22:=Tryz.zeroValue22
 a24:=Tryz.isAgg3
 z24:=Tryz.sizeOf3
 t25:=Tryz.underlying70
 a25:=Tryz.isAgg70
 z25:=Tryz.sizeOf70
 v25:=Tryz.zeroValue70
 t39:=Tryz.underlying155
 a39:=Tryz.isAgg155
 z39:=Tryz.sizeOf155
 v39:=Tryz.zeroValue155
 t45:=Tryz.underlying178
 a45:=Tryz.isAgg178
 z45:=Tryz.sizeOf178
 v45:=Tryz.zeroValue178
 t46:=Tryz.underlying179
 a46:=Tryz.isAgg179
 z46:=Tryz.sizeOf179
 v46:=Tryz.zeroValue179
 t50:=Tryz.underlying147
 a50:=Tryz.isAgg147
 z50:=Tryz.sizeOf147
 v50:=Tryz.zeroValue147
 t53:=Tryz.underlying185
 a53:=Tryz.isAgg185
 z53:=Tryz.sizeOf185
 v53:=Tryz.zeroValue185
 t55:=Tryz.underlying187
 a55:=Tryz.isAgg187
 z55:=Tryz.sizeOf187
 v55:=Tryz.zeroValue187
 t66:=Tryz.underlying221
 a66:=Tryz.isAgg221
 z66:=Tryz.sizeOf221
 v66:=Tryz.zeroValue221
 t70:=Tryz.underlying225
 a70:=Tryz.isAgg225
 z70:=Tryz.sizeOf225
 v70:=Tryz.zeroValue225
 t76:=Tryz.underlying266
 a76:=Tryz.isAgg266
 z76:=Tryz.sizeOf266
 v76:=Tryz.zeroValue266
 t77:=Tryz.underlying267
 a77:=Tryz.isAgg267
 z77:=Tryz.sizeOf267
 v77:=Tryz.zeroValue267
end
section
open Go.Proofs Go.Sort Go.RowKit
theorem acq(x:Int)(w:World):Calls Tryz.prog 81 #[.int .i64 x] w fun e w'=>e=.returned (.bool false)/\w'=w:=by
 go_enter Tryz.func81,Tryz.ntmps81
 go_wp2
 go_ret
 exact⟨by simp,rfl⟩
theorem acr(x:Int)(w:World):Calls Tryz.prog 275 #[.int .u64 x] w fun e w'=>e=.returned (.bool false)/\w'=w:=by
 go_enter Tryz.func275,Tryz.ntmps275
 go_wp2
 go_ret
 exact⟨by simp,rfl⟩
def mg(x y:Int):Int:=if x<y then -1 else if y<x then 1 else 0
theorem lR(x y:Int)(w:World):Calls Tryz.prog 41 #[.int .i64 x,.int .i64 y] w fun e w'=>e=.returned (.int .i64 (mg x y))/\w'=w:=by
 go_enter Tryz.func41,Tryz.ntmps41
 go_wp2_with (go_at_call 81;refine(acq _ _).mono ?_;rintro e w' ⟨rfl,hw⟩;rw[hw])
 all_goals(go_ret;refine⟨?_,rfl⟩;unfold mg;(repeat' split)<;>first|rfl|(exfalso;omega))
theorem Jr(x y:Int)(w:World):Calls Tryz.prog 265 #[.int .u64 x,.int .u64 y] w fun e w'=>e=.returned (.int .i64 (mg x y))/\w'=w:=by
 go_enter Tryz.func265,Tryz.ntmps265
 go_wp2_with (go_at_call 275;refine(acr _ _).mono ?_;rintro e w' ⟨rfl,hw⟩;rw[hw])
 all_goals(go_ret;refine⟨?_,rfl⟩;unfold mg;(repeat' split)<;>first|rfl|(exfalso;omega))
theorem vo(a b:Int)(cT:Nat)(W:World)(h0:W.cell? ⟨cT,0,none⟩=some (.int .i64 a))(h1:W.cell? ⟨cT,1,none⟩=some (.int .i64 b)):Calls Tryz.prog 40 #[.slice (some ⟨cT,0,none⟩) 2 2] W fun e w'=>e=.returned (.int .i64 (if a=0 then b else a))/\w'=W:=by
 obtain⟨r,hr⟩:∃r,r=if a=0 then b else a:=⟨_,rfl⟩
 rw[<-hr]
 go_enter Tryz.func40,Tryz.ntmps40
 go_wp2
 go_loop [5,8] (fun _ i=>∃k:Nat,k<=2/\i=.int .i64 k/\(0<k->a=0)/\(1<k->b=0)) (fun _ i=>2-(intOf i).toNat)
 case atStart=>exact⟨0,by omega,rfl,fun h=>by omega,fun h=>by omega⟩
 case round=>
  obtain⟨k,hk,rfl,k1,k2⟩:=hrel
  by_cases au:k<2
  ·obtain⟨v,hv,ec⟩:∃v:Int,W.cell? ⟨cT,k,none⟩=some (.int .i64 v)/\((k=0->v=a)/\(k=1->v=b)):=by
    rcases(by omega:k=0\/k=1)with rfl|rfl
    ·exact⟨a,h0,fun _=>rfl,fun h=>by omega⟩
    ·exact⟨b,h1,fun h=>by omega,fun _=>rfl⟩
   have hlz:(k:Int)<2:=by omega
   have hvr:v≠0->v=r:=fun h=>by
    rcases(by omega:k=0\/k=1)with rfl|rfl
    ·rw[ec.1 rfl]at h⊢;rw[hr,if_neg h]
    ·rw[ec.2 rfl,hr,if_pos (k1 (by omega))]
   have HW:v=0->(0<k+1->a=0)/\(1<k+1->b=0):=fun h=>by
    rcases(by omega:k=0\/k=1)with rfl|rfl
    ·exact⟨fun _=>by rw[<-ec.1 rfl];exact h,fun h=>by omega⟩
    ·exact⟨fun _=>k1 (by omega),fun _=>by rw[<-ec.2 rfl];exact h⟩
   clear h0 h1 hr ec k1 k2
   go_wp2
   ·go_ret
    refine⟨?_,rfl⟩
    rw[hvr (by simp_all)]
    rfl
   ·refine⟨⟨k+1,by omega,by go_num,(HW (by simp_all)).1,(HW (by simp_all)).2⟩,?_⟩
    simp[intOf];omega
  ·have hlz:¬(k:Int)<2:=by omega
   have hr0:r=0:=by rw[hr,if_pos (k1 (by omega)),k2 (by omega)]
   clear h0 h1 hr k1 k2
   subst hr0
   go_wp2
   go_ret
   exact⟨rfl,rfl⟩
theorem LC(W:World)(A B:Array Value)(t:TypeId)(j:Nat):((W.alloc (.cells A t)).alloc (.cells B t)).drew.cell? ⟨W.heap.size,j,none⟩=A[j]?:=by
 have:((W.alloc (.cells A t)).alloc (.cells B t)).drew.heap[W.heap.size]?=some (.cells A t):=by
  show((W.heap.push _).push _)[W.heap.size]?=_
  rw[Array.getElem?_push,if_neg (by simp),Array.getElem?_push,if_pos rfl]
 unfold World.cell?
 rw[this];rfl
theorem LD(W:World)(A B:Array Value)(t:TypeId)(j:Nat):((W.alloc (.cells A t)).alloc (.cells B t)).drew.cell? ⟨W.heap.size+1,j,none⟩=B[j]?:=by
 have:((W.alloc (.cells A t)).alloc (.cells B t)).drew.heap[W.heap.size+1]?=some (.cells B t):=by
  show((W.heap.push _).push _)[W.heap.size+1]?=_
  rw[Array.getElem?_push,if_pos (by simp)]
 unfold World.cell?
 rw[this];rfl
theorem QT(W:World)(A:Array Value)(t:TypeId)(j:Nat):(W.alloc (.cells A t)).cell? ⟨W.heap.size,j,none⟩=A[j]?:=by
 have:(W.alloc (.cells A t)).heap[W.heap.size]?=some (.cells A t):=by
  show(W.heap.push _)[W.heap.size]?=_
  rw[Array.getElem?_push,if_pos rfl]
 unfold World.cell?
 rw[this];rfl
def QU(x:Lt):List Value:=[.int .i64 x.f,.int .i64 x.a,.int .i64 x.n]
def Js(x y:Lt):Int:=if mg x.f y.f=0 then mg x.a y.a else mg x.f y.f
theorem aa9(x y:Lt)(W:World):Calls Tryz.prog 98 #[.agg (QU x).toArray,.agg (QU y).toArray] W fun e w'=>e=.returned (.int .i64 (Js x y))/\∃q w7,w'=grow (W.drewN q) w7:=by
 unfold QU
 obtain⟨r,hr⟩:∃r,r=Js x y:=⟨_,rfl⟩
 rw[<-hr]
 have mixed:Tryz.prog.follows .mixedOrders=true:=mixed
 have Ao:=fun W'=>lR x.f y.f W'
 have yE:=fun W'=>lR x.a y.a W'
 go_enter Tryz.func98,Tryz.ntmps98
 go_wp2
 have f0:((W.alloc (.cells #[.int .i64 x.f,.int .i64 x.a,.int .i64 x.n] 53)).alloc (.cells #[.int .i64 y.f,.int .i64 y.a,.int .i64 y.n] 53)).drew.cell? ⟨W.heap.size,0,none⟩=some (.int .i64 x.f):=LC ..
 have f1:((W.alloc (.cells #[.int .i64 x.f,.int .i64 x.a,.int .i64 x.n] 53)).alloc (.cells #[.int .i64 y.f,.int .i64 y.a,.int .i64 y.n] 53)).drew.cell? ⟨W.heap.size,1,none⟩=some (.int .i64 x.a):=LC ..
 have g0:((W.alloc (.cells #[.int .i64 x.f,.int .i64 x.a,.int .i64 x.n] 53)).alloc (.cells #[.int .i64 y.f,.int .i64 y.a,.int .i64 y.n] 53)).drew.cell? ⟨W.heap.size+1,0,none⟩=some (.int .i64 y.f):=LD ..
 have g1:((W.alloc (.cells #[.int .i64 x.f,.int .i64 x.a,.int .i64 x.n] 53)).alloc (.cells #[.int .i64 y.f,.int .i64 y.a,.int .i64 y.n] 53)).drew.cell? ⟨W.heap.size+1,1,none⟩=some (.int .i64 y.a):=LD ..
 have hg:∃q w7,((W.alloc (.cells #[.int .i64 x.f,.int .i64 x.a,.int .i64 x.n] 53)).alloc (.cells #[.int .i64 y.f,.int .i64 y.a,.int .i64 y.n] 53)).drew=grow (W.drewN q) w7:=⟨1,_,by rw[alloc_eq_grow,alloc_eq_grow,grow_grow];rfl⟩
 generalize (W.alloc (.cells #[.int .i64 x.f,.int .i64 x.a,.int .i64 x.n] 53)).alloc (.cells #[.int .i64 y.f,.int .i64 y.a,.int .i64 y.n] 53)=W2 at*
 refine wp_region_still_tail 10 mixed (by kernel_rfl) ?_
 simp only[List.take_succ_cons,List.take_zero,List.drop_succ_cons,List.drop_zero]
 change wpStill _ _ (World.drew W2) _ _ _
 generalize hW3:World.drew W2=W3 at*
 repeat still_step
 still_call (Ao _)
 repeat still_step
 still_call (yE _)
 refine wpStill_nil ?_
 clear f0 f1 g0 g1 Ao yE
 unfold Js at hr
 generalize mg x.f y.f=r1 at*
 generalize mg x.a y.a=r2 at*
 have HG:Hid (∃q w7,W3=grow (W.drewN q) w7):=hg
 have HR:Hid (r=if r1=0 then r2 else r1):=hr
 clear hg hr mixed
 refine wpList_step (fun K hK=>?_)
 go_simp
 refine hK _ _ ?_
 clear hK K
 have hc:∀j,(W3.alloc (Obj.cells #[Value.int .i64 r1,Value.int .i64 r2] 3)).cell? ⟨W3.heap.size,j,none⟩=(#[Value.int .i64 r1,Value.int .i64 r2]:Array Value)[j]?:=fun j=>QT W3 _ _ j
 have hgw:Hid (∃q w7,W3.alloc (Obj.cells #[Value.int .i64 r1,Value.int .i64 r2] 3)=grow (W.drewN q) w7):=by
  obtain⟨q,os,h⟩:=HG.out
  exact⟨q,_,by rw[h,alloc_eq_grow,grow_grow]⟩
 generalize W3.alloc (Obj.cells #[Value.int .i64 r1,Value.int .i64 r2] 3)=W4 at*
 generalize W3.heap.size=sz at*
 have c0:=hc 0
 have c1:=hc 1
 clear hc HG hW3
 refine wpList_step (fun K hK=>?_)
 go_simp
 refine(vo r1 r2 sz W4 c0 c1).mono ?_
 rintro e w' ⟨rfl,rfl⟩
 refine hK _ _ ?_
 clear hK K
 refine wpList_step (fun K hK=>?_)
 go_simp
 refine hK _ _ ?_
 clear hK K c0 c1
 rw[show(if r1=0 then r2 else r1)=r from HR.out.symm]
 clear HR
 go_wp2
 go_ret
 exact⟨rfl,hgw.out⟩
def QV(x:(Int×Int)×Int):List Value:=[.int .i64 x.1.1,.int .i64 x.1.2,.int .i64 x.2]
def Jt(x y:(Int×Int)×Int):Int:=if mg x.1.1 y.1.1=0 then mg x.1.2 y.1.2 else mg x.1.1 y.1.1
theorem aba(x y:(Int×Int)×Int)(W:World):Calls Tryz.prog 39 #[.agg (QV x).toArray,.agg (QV y).toArray] W fun e w'=>e=.returned (.int .i64 (Jt x y))/\∃q w7,w'=grow (W.drewN q) w7:=by
 unfold QV
 obtain⟨r,hr⟩:∃r,r=Jt x y:=⟨_,rfl⟩
 rw[<-hr]
 have mixed:Tryz.prog.follows .mixedOrders=true:=mixed
 have Ao:=fun W'=>lR x.1.1 y.1.1 W'
 have yE:=fun W'=>lR x.1.2 y.1.2 W'
 go_enter Tryz.func39,Tryz.ntmps39
 go_wp2
 have f0:((W.alloc (.cells #[.int .i64 x.1.1,.int .i64 x.1.2,.int .i64 x.2] 33)).alloc (.cells #[.int .i64 y.1.1,.int .i64 y.1.2,.int .i64 y.2] 33)).drew.cell? ⟨W.heap.size,0,none⟩=some (.int .i64 x.1.1):=LC ..
 have f1:((W.alloc (.cells #[.int .i64 x.1.1,.int .i64 x.1.2,.int .i64 x.2] 33)).alloc (.cells #[.int .i64 y.1.1,.int .i64 y.1.2,.int .i64 y.2] 33)).drew.cell? ⟨W.heap.size,1,none⟩=some (.int .i64 x.1.2):=LC ..
 have g0:((W.alloc (.cells #[.int .i64 x.1.1,.int .i64 x.1.2,.int .i64 x.2] 33)).alloc (.cells #[.int .i64 y.1.1,.int .i64 y.1.2,.int .i64 y.2] 33)).drew.cell? ⟨W.heap.size+1,0,none⟩=some (.int .i64 y.1.1):=LD ..
 have g1:((W.alloc (.cells #[.int .i64 x.1.1,.int .i64 x.1.2,.int .i64 x.2] 33)).alloc (.cells #[.int .i64 y.1.1,.int .i64 y.1.2,.int .i64 y.2] 33)).drew.cell? ⟨W.heap.size+1,1,none⟩=some (.int .i64 y.1.2):=LD ..
 have hg:∃q w7,((W.alloc (.cells #[.int .i64 x.1.1,.int .i64 x.1.2,.int .i64 x.2] 33)).alloc (.cells #[.int .i64 y.1.1,.int .i64 y.1.2,.int .i64 y.2] 33)).drew=grow (W.drewN q) w7:=⟨1,_,by rw[alloc_eq_grow,alloc_eq_grow,grow_grow];rfl⟩
 generalize (W.alloc (.cells #[.int .i64 x.1.1,.int .i64 x.1.2,.int .i64 x.2] 33)).alloc (.cells #[.int .i64 y.1.1,.int .i64 y.1.2,.int .i64 y.2] 33)=W2 at*
 refine wp_region_still_tail 10 mixed (by kernel_rfl) ?_
 simp only[List.take_succ_cons,List.take_zero,List.drop_succ_cons,List.drop_zero]
 change wpStill _ _ (World.drew W2) _ _ _
 generalize hW3:World.drew W2=W3 at*
 repeat still_step
 still_call (Ao _)
 repeat still_step
 still_call (yE _)
 refine wpStill_nil ?_
 clear f0 f1 g0 g1 Ao yE
 unfold Jt at hr
 generalize mg x.1.1 y.1.1=r1 at*
 generalize mg x.1.2 y.1.2=r2 at*
 have HG:Hid (∃q w7,W3=grow (W.drewN q) w7):=hg
 have HR:Hid (r=if r1=0 then r2 else r1):=hr
 clear hg hr mixed
 refine wpList_step (fun K hK=>?_)
 go_simp
 refine hK _ _ ?_
 clear hK K
 have hc:∀j,(W3.alloc (Obj.cells #[Value.int .i64 r1,Value.int .i64 r2] 3)).cell? ⟨W3.heap.size,j,none⟩=(#[Value.int .i64 r1,Value.int .i64 r2]:Array Value)[j]?:=fun j=>QT W3 _ _ j
 have hgw:Hid (∃q w7,W3.alloc (Obj.cells #[Value.int .i64 r1,Value.int .i64 r2] 3)=grow (W.drewN q) w7):=by
  obtain⟨q,os,h⟩:=HG.out
  exact⟨q,_,by rw[h,alloc_eq_grow,grow_grow]⟩
 generalize W3.alloc (Obj.cells #[Value.int .i64 r1,Value.int .i64 r2] 3)=W4 at*
 generalize W3.heap.size=sz at*
 have c0:=hc 0
 have c1:=hc 1
 clear hc HG hW3
 refine wpList_step (fun K hK=>?_)
 go_simp
 refine(vo r1 r2 sz W4 c0 c1).mono ?_
 rintro e w' ⟨rfl,rfl⟩
 refine hK _ _ ?_
 clear hK K
 refine wpList_step (fun K hK=>?_)
 go_simp
 refine hK _ _ ?_
 clear hK K c0 c1
 rw[show(if r1=0 then r2 else r1)=r from HR.out.symm]
 clear HR
 go_wp2
 go_ret
 exact⟨rfl,hgw.out⟩
end
section
open Go.TM
def fC(n m:Int):Int:=if n.tmod m<0 then n.tmod m+m else n.tmod m
theorem qU(n m:Int)(hm:1<=m):0<=fC n m/\fC n m<m:=by
 unfold fC
 have h1:=Int.tmod_lt_of_pos n (show 0<m by omega)
 have h2:=Int.lt_tmod_of_pos n (show 0<m by omega)
 split<;>omega
def pick(l:List Int)(i m:Int):Int:=if i<0 then 0 else match l[i.toNat]? with
 |some x=>fC x m
 |none=>0
theorem gC(l:List Int)(i m:Int)(hm:1<=m):0<=pick l i m/\pick l i m<m:=by
 unfold pick
 split
 ·omega
 ·split
  ·exact qU _ m hm
  ·omega
variable [bp]
theorem wv(n m:Int)(hm:1<=m)(SO:m<=4611686018427387904):aN Tryz.prog 30 [I n,I m] [I (fC n m)]:=by
 refine pO Tryz.func30 rfl (by kernel_rfl) rfl ?_
 have h1:=Int.tmod_lt_of_pos n (show 0<m by omega)
 have h2:=Int.lt_tmod_of_pos n (show 0<m by omega)
 refine⟨fun _=>by omega,fun h=>?_,fun h=>?_⟩
 ·have h':n.tmod m<0:=adz h
  exact⟨fun _=>by omega,aJ (by rw[fC,if_pos h']),tv⟩
 ·have h':¬n.tmod m<0:=adA h
  exact⟨aJ (by rw[fC,if_neg h']),tv⟩
theorem aU(l:List Int)(i m:Int)(hm:1<=m)(SO:m<=4611686018427387904):aN Tryz.prog 34 [Ints l,I i,I m] [I (pick l i m)]:=by
 refine pO Tryz.func34 rfl (by kernel_rfl) rfl ?_
 repeat refine gG ?_
 refine⟨fun h=>?_,fun h=>?_⟩
 ·refine⟨aJ ?_,tv⟩
  unfold pick
  split
  ·rfl
  ·rename_i hi
   have hm':¬m<1:=by omega
   have:(l.length:Int)<=i:=by simpa[hi,hm']using h
   rw[List.getElem?_eq_none (by omega)]
 ·have hi:¬i<0:=fun hi=>by simp[hi]at h
  have uo:¬(l.length:Int)<=i:=fun uo=>by simp[hi,uo]at h
  have au:i.toNat<l.length:=by omega
  refine⟨I l[i.toNat],fun _=>⟨by omega,by simp[au]⟩,?_⟩
  refine .inl ⟨_,fun _=>(wv _ m hm (by omega)).ok,aJ ?_,tv⟩
  unfold pick
  rw[if_neg hi,IF au]
theorem kX(l:List Lt)(hl:l.length<=1000000):aN Tryz.prog 22 [aM l,aM l] [B true]:=by
 refine pO Tryz.func22 rfl (by kernel_rfl) rfl ?_
 have lp:(l.map aA).length=l.length:=WY ..
 refine T5 (fun h=>by simp at h) fun _=>?_
 refine⟨Nat,fun i=>⟨0,[(0,.dv (aM l)),(1,.dv (aM l)),(5,.dv (I i))],[]⟩,fun i=>i<=l.length,fun i=>l.length-i,0,fun _=>rfl,jn rfl rfl rfl rfl,adx _,?_⟩
 rintro i hi
 refine T5 ?_ ?_
 ·intro h
  have au:i<l.length:=by have:=adz h;omega
  obtain⟨x,hx⟩:∃x,l[i]?=some x:=⟨_,IF au⟩
  have ix:(l.map aA)[(i:Int).toNat]?=some (aA x):=by rw[abW];simp[hx]
  refine⟨aA x,fun _=>⟨by omega,ix⟩,aA x,fun _=>⟨by omega,ix⟩,?_⟩
  refine⟨by kernel_rfl,T5 (fun h=>by simp at h) fun _=>?_⟩
  exact⟨fun _=>by omega,i+1,jn rfl rfl rfl rfl,by omega,mlt au⟩
 ·intro h
  exact⟨rf,tv⟩
theorem Ju(m:dc)(hl:m.ps.length<=1000000):aN Tryz.prog 65 [ao m,ao m] [B true]:=by
 refine pO Tryz.func65 rfl (by kernel_rfl) rfl ?_
 refine .inl ⟨_,fun _=>(kX m.ps hl).ok,?_⟩
 repeat refine gG ?_
 exact⟨DV.Le.of_eq (by simp),tv⟩
theorem Jv(l:List cJ)(hl:l.length<=1000000)(hm:∀s∈l,s.mv.length<=1000/\∀m∈s.mv,m.ps.length<=1000000):aN Tryz.prog 27 [.sl 7 (l.map aC),.sl 7 (l.map aC)] [B true]:=by
 refine pO Tryz.func27 rfl (by kernel_rfl) rfl ?_
 have lp:(l.map aC).length=l.length:=WY ..
 refine T5 (fun h=>by simp at h) fun _=>?_
 refine⟨Nat,fun i=>⟨0,[(0,.dv (.sl 7 (l.map aC))),(1,.dv (.sl 7 (l.map aC))),(5,.dv (I i))],[]⟩,fun i=>i<=l.length,fun i=>l.length-i,0,fun _=>rfl,jn rfl rfl rfl rfl,adx _,?_⟩
 rintro i hi
 refine T5 ?_ ?_
 ·intro h
  have au:i<l.length:=by have:=adz h;omega
  obtain⟨x,hx⟩:∃x,l[i]?=some x:=⟨_,IF au⟩
  have ix:(l.map aC)[(i:Int).toNat]?=some (aC x):=by rw[abW];simp[hx]
  obtain⟨m1,m2⟩:=hm x (ab6 hx)
  have lm:(x.mv.map ao).length=x.mv.length:=WY ..
  refine⟨aC x,fun _=>⟨by omega,ix⟩,aC x,fun _=>⟨by omega,ix⟩,?_⟩
  repeat refine gG ?_
  refine T5 (fun h=>by simp at h) fun _=>?_
  refine⟨Nat,fun k=>⟨2,[(0,.dv (.sl 7 (l.map aC))),(1,.dv (.sl 7 (l.map aC))),(5,.dv (I i)),(6,.ptr 0 0),(7,.ptr 1 0),(8,.dv (I k))],[(0,.cells (ed (aC x).cells)),(1,.cells (ed (aC x).cells))]⟩,fun k=>k<=x.mv.length,fun k=>x.mv.length-k,0,fun _=>rfl,jn rfl rfl rfl rfl,adx _,?_⟩
  rintro k hk
  refine T5 ?_ ?_
  ·intro h
   have EH:k<x.mv.length:=by have:=adz h;omega
   obtain⟨m,kB⟩:∃m,x.mv[k]?=some m:=⟨_,IF EH⟩
   have im:(x.mv.map ao)[(k:Int).toNat]?=some (ao m):=by rw[abW];simp[kB]
   refine⟨ao m,fun _=>⟨by omega,im⟩,ao m,fun _=>⟨by omega,im⟩,?_⟩
   refine .inl ⟨_,fun _=>(Ju m (m2 m (ab6 kB))).ok,?_⟩
   refine⟨by kernel_rfl,T5 (fun h=>by simp at h) fun _=>?_⟩
   exact⟨fun _=>by omega,k+1,jn rfl rfl rfl rfl,by omega,mlt EH⟩
  ·intro h
   exact⟨fun _=>by omega,i+1,jn rfl rfl rfl rfl,by omega,mlt au⟩
 ·intro h
  exact⟨rf,tv⟩
end
section
open Go.TM
variable [bp]
theorem Jw(f:eS)(h1:f.ps.length<=1000000)(h2:f.md.length<=1000000):aN Tryz.prog 64 [aG f,aG f] [B true]:=by
 refine pO Tryz.func64 rfl (by kernel_rfl) rfl ?_
 refine .inl ⟨_,fun _=>(kX f.ps h1).ok,?_⟩
 repeat refine gG ?_
 refine T5 (fun h=>by simp at h) fun _=>?_
 have lp:(f.md.map I).length=f.md.length:=WY ..
 refine⟨Nat,fun k=>⟨2,[(2,.ptr 0 0),(3,.ptr 1 0),(6,.dv (I k))],[(0,.cells (ed (aG f).cells)),(1,.cells (ed (aG f).cells))]⟩,fun k=>k<=f.md.length,fun k=>f.md.length-k,0,fun _=>rfl,jn rfl rfl rfl rfl,adx _,?_⟩
 rintro k hk
 refine T5 ?_ ?_
 ·intro h
  have EH:k<f.md.length:=by have:=adz h;omega
  obtain⟨x,hx⟩:∃x,f.md[k]?=some x:=⟨_,IF EH⟩
  have ix:(f.md.map I)[(k:Int).toNat]?=some (I x):=by rw[abW];simp[hx]
  refine⟨I x,fun _=>⟨by omega,ix⟩,I x,fun _=>⟨by omega,ix⟩,?_⟩
  refine⟨by kernel_rfl,T5 (fun h=>by simp at h) fun _=>?_⟩
  exact⟨fun _=>by omega,k+1,jn rfl rfl rfl rfl,by omega,mlt EH⟩
 ·intro h
  repeat refine gG ?_
  exact⟨DV.Le.of_eq (by simp),tv⟩
theorem Gv(l:List eS)(hl:l.length<=1000000)(hm:∀f∈l,f.ps.length<=1000000/\f.md.length<=1000000):aN Tryz.prog 26 [.sl 11 (l.map aG),.sl 11 (l.map aG)] [B true]:=by
 refine pO Tryz.func26 rfl (by kernel_rfl) rfl ?_
 have lp:(l.map aG).length=l.length:=WY ..
 refine T5 (fun h=>by simp at h) fun _=>?_
 refine⟨Nat,fun i=>⟨0,[(0,.dv (.sl 11 (l.map aG))),(1,.dv (.sl 11 (l.map aG))),(5,.dv (I i))],[]⟩,fun i=>i<=l.length,fun i=>l.length-i,0,fun _=>rfl,jn rfl rfl rfl rfl,adx _,?_⟩
 rintro i hi
 refine T5 ?_ ?_
 ·intro h
  have au:i<l.length:=by have:=adz h;omega
  obtain⟨x,hx⟩:∃x,l[i]?=some x:=⟨_,IF au⟩
  have ix:(l.map aG)[(i:Int).toNat]?=some (aG x):=by rw[abW];simp[hx]
  obtain⟨m1,m2⟩:=hm x (ab6 hx)
  refine⟨aG x,fun _=>⟨by omega,ix⟩,aG x,fun _=>⟨by omega,ix⟩,?_⟩
  refine .inl ⟨_,fun _=>(Jw x m1 m2).ok,?_⟩
  refine⟨by kernel_rfl,T5 (fun h=>by simp at h) fun _=>?_⟩
  exact⟨fun _=>by omega,i+1,jn rfl rfl rfl rfl,by omega,mlt au⟩
 ·intro h
  exact⟨rf,tv⟩
def fq(p:Ky×Int):DV:=.agg [I p.1.1,I p.1.2,I p.2]
theorem Jx(l:List (Ky×Int))(hl:l.length<=1000000):aN Tryz.prog 28 [.sl 3 (l.map fq),.sl 3 (l.map fq)] [B true]:=by
 refine pO Tryz.func28 rfl (by kernel_rfl) rfl ?_
 have lp:(l.map fq).length=l.length:=WY ..
 refine T5 (fun h=>by simp at h) fun _=>?_
 refine⟨Nat,fun i=>⟨0,[(0,.dv (.sl 3 (l.map fq))),(1,.dv (.sl 3 (l.map fq))),(5,.dv (I i))],[]⟩,fun i=>i<=l.length,fun i=>l.length-i,0,fun _=>rfl,jn rfl rfl rfl rfl,adx _,?_⟩
 rintro i hi
 refine T5 ?_ ?_
 ·intro h
  have au:i<l.length:=by have:=adz h;omega
  obtain⟨x,hx⟩:∃x,l[i]?=some x:=⟨_,IF au⟩
  have ix:(l.map fq)[(i:Int).toNat]?=some (fq x):=by rw[abW];simp[hx]
  refine⟨fq x,fun _=>⟨by omega,ix⟩,fq x,fun _=>⟨by omega,ix⟩,?_⟩
  refine⟨by kernel_rfl,T5 (fun h=>by simp at h) fun _=>?_⟩
  exact⟨fun _=>by omega,i+1,jn rfl rfl rfl rfl,by omega,mlt au⟩
 ·intro h
  exact⟨rf,tv⟩
end
section
open Go.TM Go.Proofs Go.Sort Go.Shelf
theorem tJ{w:World}{cT:Nat}{c:Array Value}{t:TypeId}(h:w.heap[cT]?=some (.cells c t (0,0)))(o:Nat):w.frozen? ⟨cT,o,none⟩=false:=by
 unfold World.frozen?
 rw[h];simp
theorem LG{α:Type}(d:Array α):d.extract 0 d.size=d:=by simp
section
variable [cj]
theorem Jy{P:Program}{f:Nat}(o7:fF P f){args:List AV}{m:Nat}{K:ae}(hK:∀i,m<=i->aa K i=.none)
 (bG:∀(w:World) (G:Gh) (vs:List Value),mJ G.M->Fit G w (aa K)->ck G args vs->Calls P f vs.toArray w fun e w'=>e=.returned (.tuple #[])/\w'=w):aj P f args m K 0 [] K:=by
 refine⟨o7,fun w G vs mq cP hr=>Calls.mono (bG w G vs mq cP hr) ?_⟩
 rintro e w' ⟨rfl,rfl⟩
 exact⟨_,[],K,G,rfl,⟨rfl,rfl⟩,⟨cP,fun i hi=>hK i (by omega),.gr [] [] rfl (by simp),.refl _,fun _ _=>rfl,fun _ _ _ _ h=>h,fun _ _ _=>⟨rfl,rfl⟩,fun i b o=>.inr ⟨i,o⟩,rfl,rfl,rfl,adM _⟩⟩
theorem lT{P:Program}{f:Nat}{args:List AV}{m ex:Nat}{K:ae}{Q Q':List AV->ae->Prop}(h:bW P f args m K ex Q)(hQ:∀r k,Q r k->Q' r k):bW P f args m K ex Q':=
 ⟨h.1,fun w G vs a b c=>Calls.mono (h.2 w G vs a b c) fun _ _ ⟨v,r,k,G',h1,h2,h3⟩=>⟨v,r,k,G',h1,hQ r k h2,h3⟩⟩
theorem Uq{G:Gh}{w:World}{k:Nat}{K3:ae}{x:AV}{vs:List Value}(cP:Fit G w (aa ((0,.tree 0 0 (.aD k []))::K3)))(hr:ck G [.own 0 0 0 [],x] vs):∃p cap fv,vs=[.slice p 0 cap,fv]:=by
 match vs,hr.1 with
 |[u,fv],_=>
  have hu:=hr.2 0 _ u rfl rfl
  cases hu with|own _ _ _ _ _ hu Qk=>
  obtain⟨u0,LB,_,bq⟩:=cP.node (p:=[]) (show aa ((0,aw.tree 0 0 (.aD k []))::K3) 0=.tree 0 0 (.aD k [])from rfl) rfl rfl
  rw[hu]at LB;injection LB with LB;subst LB
  rcases gl.1 bq with⟨_,rfl⟩|⟨cT,off,cap,c,t,rfl,_⟩
  ·exact⟨none,0,fv,rfl⟩
  ·exact⟨_,cap,fv,rfl⟩
theorem X7{G:Gh}{g:Nat}{v:Value}(h:aK G (.dv (.fn g [])) v):v=.func (.func g) #[] #[]:=by
 cases h with
 |dv h=>
  cases h with
  |fn _ _ vs hl _=>
   have:vs=[]:=List.length_eq_zero_iff.1 (by simpa using hl.symm)
   subst this;rfl
theorem tK{P:Program}{ρ:Ren}(L:SlLaysF0.n6 P ρ)(o7:fF P (ρ.f 6)){α:Type}[Inhabited α]{vals:α->List Int}{e:α->DV}{k:Nat}(KF:0<k)(he:∀x,(e x).cells=(vals x).map fun n=>DV.int .i64 n)(hk:∀x,(vals x).length=k)
 (aE:∀w,(isAgg (ρ.t 24)).run P w=.ok true w) (zE:∀w,(Go.sizeOf (ρ.t 24)).run P w=.ok k w) (cf:α->α->Int) (hO:SWO (ltOf cf)) (g:Nat) (eg:∀args w,(callFunc g args).run P w=.ok (.enter g args) w)
 (acs:∀(x y:α) (W:World),Calls P g #[.agg ((vals x).map (Value.int .i64)).toArray,.agg ((vals y).map (Value.int .i64)).toArray] W fun e w'=>e=.returned (.int .i64 (cf x y))/\∃q w7,w'=grow (W.drewN q) w7)
 (l:List α) (bP:l.length<4611686018427387904):
 bW P (ρ.f 6) [.own 0 0 0 [],.dv (.fn g [])] 1 [(0,.tree 0 0 (.aD k (l.map e)))] 0 fun rs K'=>rs=[]/\∃l':List α,(l'.Perm l/\l'.Pairwise fun x y=>ltOf cf y x=false)/\K'=[(0,.tree 0 0 (.aD k (l'.map e)))]:=by
 by_cases cF:l=[]
 ·subst cF
  refine lT (Jy o7 (fun i hi=>(by match i,hi with|i+1,_=>rfl)) fun w G vs mq cP hr=>?_) fun r k' iL=>⟨iL.1,[],⟨.refl _,.nil⟩,iL.2⟩
  obtain⟨p,cap,fv,rfl⟩:=Uq (K3:=[]) cP hr
  exact AnyF.slices_SortFunc_none L p cap fv w
 refine lT (wm o7 he hk cF (by omega) (K3:=[]) (fun _ _=>rfl) (fun l':List α=>l'.Perm l/\l'.Pairwise fun x y=>ltOf cf y x=false) (fun l' h=>h.1.length_eq) ?_) fun r k' iL=>iL
 rintro w G cT off cap xs cP mq hr _ ⟨c,t,hblk,cL⟩
 obtain⟨fv,rfl⟩:∃fv,xs=[fv]:=by
  match xs,hr.1 with
  |[a],_=>exact⟨a,rfl⟩
 have hfv:=X7 (hr.2 0 _ fv rfl rfl)
 subst hfv
 have HZ:cT<w.heap.size:=(adw.1 hblk).1
 have lY:∀(d:Array α) (tt:Nat),tt<d.size*k->∃x,d.toList[tt/k]?=some x/\∃n,(vals x)[tt%k]?=some n/\(flatK (fun x=>(vals x).map (Value.int .i64)) k d)[tt]! = .int .i64 n:=fun d tt ht=>by
  have h1:tt/k<d.size:=(Nat.div_lt_iff_lt_mul KF).2 ht
  have h2:tt%k<(vals d[tt/k]).length:=by rw[hk];exact Nat.mod_lt _ KF
  refine⟨d[tt/k],by simp[h1],(vals d[tt/k])[tt%k],IF h2,?_⟩
  rw[get_flatK _ _ _ _ ht,getElem!_pos d _ h1,getElem!_pos _ _ (by simpa using h2)]
  simp
 have hH:HoldsK (fun x=>(vals x).map (Value.int .i64)) k w cT off l.toArray:=fun j hj=>by
  rw[size_flatK]at hj
  obtain⟨x,hx,n,hn,hf⟩:=lY _ j hj
  have h3:=cL (j/k) x (j%k) n (by simpa using hx) hn
  rw[show off+j/k*k+j%k=off+j by rw[Nat.add_assoc,Nat.div_add_mod' j k]]at h3
  refine⟨?_,tJ hblk _⟩
  rw[hf]
  unfold World.cell?
  rw[hblk]
  exact h3
 have Ur:=AnyQ.slices_SortFunc L k aE zE (fun x=>(vals x).map (Value.int .i64)) (fun x=>by rw[WY,hk]) (fun x v hv=>by obtain⟨n,_,rfl⟩:=adK.1 hv;rfl) cf hO g #[] cT off cap l.toArray w eg (fun m os dk hs x y=>by simpa using acs x y _) hH HZ (by simpa using bP)
 refine Calls.mono Ur ?_
 rintro en w' ⟨rfl,d',n,os,hp,hs,rfl⟩
 have An:d'.size=l.length:=by simpa using hp.1
 have zy:d'.toList.Perm l:=by
  have:=hp.2.2
  rw[show l.toArray.size=d'.size by simp[An],LG,show d'.size=l.toArray.size by simp[An],LG]at this
  simpa using this
 refine⟨rfl,d'.toList,⟨zy,?_⟩,?_⟩
 ·rw[List.pairwise_iff_getElem]
  intro i j hi hj A1
  have:=hs i j (adx _) A1 (by simpa[An]using hj)
  rw[getElem!_pos d' j (by simpa using hj),getElem!_pos d' i (by simpa using hi)]at this
  simpa using this
 ·refine wu (F:=flatK (fun x=>(vals x).map (Value.int .i64)) k d') HZ (fun i x j n hx hn=>?_) fun c' t' fr' o6=>?_
  ·have hj:j<k:=by have:=(W8.1 hn).1;rw[hk]at this;exact this
   have hi:i<d'.size:=by have:=(W8.1 hx).1;simpa using this
   have au:i*k+j<d'.size*k:=by
    have:(i+1)*k<=d'.size*k:=adN _ hi
    rw[Nat.add_mul,Nat.one_mul]at this;omega
   refine⟨by rw[size_flatK];exact au,?_⟩
   obtain⟨x2,VZ,n2,HU,hf⟩:=lY d' (i*k+j) au
   have q1:(i*k+j)/k=i:=by rw[Nat.mul_comm,Nat.mul_add_div KF,Nat.div_eq_of_lt hj];rfl
   have q2:(i*k+j)%k=j:=by rw[Nat.mul_comm,Nat.mul_add_mod,Nat.mod_eq_of_lt hj]
   rw[q1,hx]at VZ;injection VZ with VZ;subst VZ
   rw[q2,hn]at HU;injection HU with HU;subst HU
   exact hf
  ·rw[size_flatK]
   rw[hblk]at o6;injection o6 with o6;injection o6 with Ao _ _;subst Ao
   have hl0:0<l.length:=List.length_pos_iff.2 cF
   have au:d'.size*k-1<l.toArray.size*k:=by
    have:=Nat.mul_pos hl0 KF
    simp[An];omega
   obtain⟨x,hx,n2,HU,_⟩:=lY l.toArray _ au
   have h3:=cL _ x _ n2 (by simpa using hx) HU
   have:=(adw.1 h3).1
   rw[Nat.add_assoc,Nat.div_add_mod']at this
   omega
end
instance:Inhabited Lt:=⟨⟨0,0,0⟩⟩
theorem xB(x y:Lt):ltOf Js x y=decide (x.f<y.f\/x.f=y.f/\x.a<y.a):=by
 unfold ltOf Js mg
 by_cases h1:x.f<y.f
 ·simp[h1]
 ·by_cases h2:y.f<x.f
  ·simp[h1,h2];omega
  ·have:x.f=y.f:=by omega
   simp[this]
   split<;>rename_i h3
   ·simp;omega
   ·split<;>simp<;>omega
theorem xC(x y:(Int×Int)×Int):ltOf Jt x y=decide (x.1.1<y.1.1\/x.1.1=y.1.1/\x.1.2<y.1.2):=by
 unfold ltOf Jt mg
 by_cases h1:x.1.1<y.1.1
 ·simp[h1]
 ·by_cases h2:y.1.1<x.1.1
  ·simp[h1,h2];omega
  ·have:x.1.1=y.1.1:=by omega
   simp[this]
   split<;>rename_i h3
   ·simp;omega
   ·split<;>simp<;>omega
theorem X8:SWO (ltOf Js)where
 irrefl x:=by rw[xB];simp
 trans x y z h1 h2:=by rw[xB]at *; simp at *; omega
 ntrans x y z h1 h2:=by rw[xB]at *; simp at *; omega
theorem X9:SWO (ltOf Jt)where
 irrefl x:=by rw[xC];simp
 trans x y z h1 h2:=by rw[xC]at *; simp at *; omega
 ntrans x y z h1 h2:=by rw[xC]at *; simp at *; omega
variable [bp]
theorem Gw(l:List Lt)(hl:l.length<=1000000):bW Tryz.prog 97 [.own 0 0 0 [],.dv (.fn 98 [])] 1 [(0,.tree 0 0 (.aD 3 (l.map aA)))] 0 fun rs K'=>rs=[]/\∃l':List Lt,(l'.Perm l/\l'.Pairwise leq)/\K'=[(0,.tree 0 0 (.aD 3 (l'.map aA)))]:=
 lT (tK (vals:=fun x:Lt=>[x.f,x.a,x.n]) (e:=aA) X5 ⟨_,Tryz.func97,by kernel_rfl,rfl⟩ (by omega) (fun _=>rfl) (fun _=>rfl) Tryz.isAgg53 Tryz.sizeOf53 Js X8 98 (enters_of Tryz.func98 (by kernel_rfl) rfl) aa9 l (by omega)) fun r k ⟨h1,l',⟨h2,h3⟩,h4⟩=>⟨h1,l',⟨h2,h3.imp fun {x y} h=>by
  rw[xB]at h
  unfold leq
  simp at h;omega⟩,h4⟩
theorem Gx(l:List ((Int×Int)×Int))(hl:l.length<=1000000):bW Tryz.prog 38 [.own 0 0 0 [],.dv (.fn 39 [])] 1 [(0,.tree 0 0 (.aD 3 (l.map fq)))] 0 fun rs K'=>rs=[]/\∃l':List ((Int×Int)×Int),(l'.Perm l/\l'.Pairwise fun x y=>¬(y.1.1<x.1.1\/y.1.1=x.1.1/\y.1.2<x.1.2))/\K'=[(0,.tree 0 0 (.aD 3 (l'.map fq)))]:=
 lT (tK (vals:=fun x:(Int×Int)×Int=>[x.1.1,x.1.2,x.2]) (e:=fq) X6 ⟨_,Tryz.func38,by kernel_rfl,rfl⟩ (by omega) (fun _=>rfl) (fun _=>rfl) Tryz.isAgg33 Tryz.sizeOf33 Jt X9 39 (enters_of Tryz.func39 (by kernel_rfl) rfl) aba l (by omega)) fun r k ⟨h1,l',⟨h2,h3⟩,h4⟩=>⟨h1,l',⟨h2,h3.imp fun {x y} h=>by
  rw[xC]at h
  simpa using h⟩,h4⟩
end
end Go.Proofs.YtmojfblpbcficaaGreatDoor
