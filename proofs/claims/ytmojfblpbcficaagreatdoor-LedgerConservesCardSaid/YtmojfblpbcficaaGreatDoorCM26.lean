import Derived.Test.YtmojfblpbcficaaGreatDoorCM19
import Derived.Test.YtmojfblpbcficaaGreatDoorCM25
import Derived.WalkKit
import Derived.Deep.LoopGhost
import Derived.LoopTactic
import Derived.StillTailTactics
import Derived.Shelf.SlSortCmp.QuietGrown
import Derived.Test.YtmojfblpbcficaaGreatDoorCM22
import Derived.Shelf.SlSortCmp.NoneTotal
set_option linter.all false
open Go.TM.oA Go.TM.oB Go.TM.oC Go.TM.oD Go.TM.oE
namespace Go.Proofs.YtmojfblpbcficaaGreatDoor
set_option maxRecDepth 100000
set_option maxHeartbeats 4000000
section
open Go.Proofs
def IA:Go.Shelf.Ren:=⟨fun|6=>97|15=>80|14=>151|28=>116|29=>117|20=>218|21=>219|22=>220|23=>221|24=>222|25=>223|26=>224|27=>225|46=>244|47=>153|48=>154|49=>245|50=>246|57=>256|n=>n,fun|22=>27|24=>53|25=>166|3=>3|39=>155|0=>0|53=>185|55=>187|4=>4|46=>179|45=>178|50=>147|5=>5|9=>9|66=>221|70=>225|76=>266|77=>267|n=>n,fun|n=>n⟩
theorem WL:Go.Proofs.SlLaysF0.n6 Tryz.prog IA where
 mixed:=by kernel_rfl
 f6:=⟨Tryz.f97.name,by kernel_rfl,Tryz.func97.trans (congrArg some (by kernel_rfl))⟩
 f14:=⟨Tryz.f151.name,by kernel_rfl,Tryz.func151.trans (congrArg some (by kernel_rfl))⟩
 f15:=Tryz.func80.trans (congrArg some (by kernel_rfl))
 f20:=⟨Tryz.f218.name,by kernel_rfl,Tryz.func218.trans (congrArg some (by kernel_rfl))⟩
 f21:=⟨Tryz.f219.name,by kernel_rfl,Tryz.func219.trans (congrArg some (by kernel_rfl))⟩
 f22:=⟨Tryz.f220.name,by kernel_rfl,Tryz.func220.trans (congrArg some (by kernel_rfl))⟩
 f23:=⟨Tryz.f221.name,by kernel_rfl,Tryz.func221.trans (congrArg some (by kernel_rfl))⟩
 f24:=⟨Tryz.f222.name,by kernel_rfl,Tryz.func222.trans (congrArg some (by kernel_rfl))⟩
 f25:=⟨Tryz.f223.name,by kernel_rfl,Tryz.func223.trans (congrArg some (by kernel_rfl))⟩
 f26:=⟨Tryz.f224.name,by kernel_rfl,Tryz.func224.trans (congrArg some (by kernel_rfl))⟩
 f27:=⟨Tryz.f225.name,by kernel_rfl,Tryz.func225.trans (congrArg some (by kernel_rfl))⟩
 f28:=Tryz.func116.trans (congrArg some (by kernel_rfl))
 f29:=Tryz.func117.trans (congrArg some (by kernel_rfl))
 f46:=⟨Tryz.f244.name,by kernel_rfl,Tryz.func244.trans (congrArg some (by kernel_rfl))⟩
 f47:=Tryz.func153.trans (congrArg some (by kernel_rfl))
 f48:=Tryz.func154.trans (congrArg some (by kernel_rfl))
 f49:=⟨Tryz.f245.name,by kernel_rfl,Tryz.func245.trans (congrArg some (by kernel_rfl))⟩
 f50:=⟨Tryz.f246.name,by kernel_rfl,Tryz.func246.trans (congrArg some (by kernel_rfl))⟩
 f57:=⟨Tryz.f256.name,by kernel_rfl,Tryz.func256.trans (congrArg some (by kernel_rfl))⟩
 t0:=Tryz.underlying0
 a0:=Tryz.isAgg0
 z0:=Tryz.sizeOf0
 v0:=Tryz.zeroValue0
 t3:=Tryz.underlying3
 a3:=Tryz.isAgg3
 z3:=Tryz.sizeOf3
 v3:=Tryz.zeroValue3
 t4:=Tryz.underlying4
 a4:=Tryz.isAgg4
 z4:=Tryz.sizeOf4
 v4:=Tryz.zeroValue4
 t5:=Tryz.underlying5
 a5:=Tryz.isAgg5
 z5:=Tryz.sizeOf5
 v5:=Tryz.zeroValue5
 t9:=Tryz.underlying9
 a9:=Tryz.isAgg9
 z9:=Tryz.sizeOf9
 v9:=Tryz.zeroValue9
 t22:=Tryz.underlying27
 a22:=Tryz.isAgg27
 z22:=Tryz.sizeOf27
 v22:=Tryz.zeroValue27
 t25:=Tryz.underlying166
 a25:=Tryz.isAgg166
 z25:=Tryz.sizeOf166
 v25:=Tryz.zeroValue166
 t39:=Tryz.underlying155
 a39:=Tryz.isAgg155
 z39:=Tryz.sizeOf155
 v39:=Tryz.zeroValue155
 t45:=Tryz.underlying178
 a45:=Tryz.isAgg178
 z45:=Tryz.sizeOf178
 v45:=Tryz.zeroValue178
 t46:=Tryz.underlying179
 a46:=Tryz.isAgg179
 z46:=Tryz.sizeOf179
 v46:=Tryz.zeroValue179
 t50:=Tryz.underlying147
 a50:=Tryz.isAgg147
 z50:=Tryz.sizeOf147
 v50:=Tryz.zeroValue147
 t53:=Tryz.underlying185
 a53:=Tryz.isAgg185
 z53:=Tryz.sizeOf185
 v53:=Tryz.zeroValue185
 t55:=Tryz.underlying187
 a55:=Tryz.isAgg187
 z55:=Tryz.sizeOf187
 v55:=Tryz.zeroValue187
 t66:=Tryz.underlying221
 a66:=Tryz.isAgg221
 z66:=Tryz.sizeOf221
 v66:=Tryz.zeroValue221
 t70:=Tryz.underlying225
 a70:=Tryz.isAgg225
 z70:=Tryz.sizeOf225
 v70:=Tryz.zeroValue225
 t76:=Tryz.underlying266
 a76:=Tryz.isAgg266
 z76:=Tryz.sizeOf266
 v76:=Tryz.zeroValue266
 t77:=Tryz.underlying267
 a77:=Tryz.isAgg267
 z77:=Tryz.sizeOf267
 v77:=Tryz.zeroValue267
def IB:Go.Shelf.Ren:=⟨fun|6=>38|15=>80|14=>79|28=>116|29=>117|20=>108|21=>109|22=>110|23=>111|24=>112|25=>113|26=>114|27=>115|46=>152|47=>153|48=>154|49=>155|50=>156|57=>226|n=>n,fun|22=>30|24=>33|25=>92|3=>3|39=>155|0=>0|53=>185|55=>187|4=>4|46=>179|45=>178|50=>147|5=>5|9=>9|66=>221|70=>225|76=>266|77=>267|n=>n,fun|n=>n⟩
theorem WM:Go.Proofs.SlLaysF0.n6 Tryz.prog IB where
 mixed:=by kernel_rfl
 f6:=⟨Tryz.f38.name,by kernel_rfl,Tryz.func38.trans (congrArg some (by kernel_rfl))⟩
 f14:=⟨Tryz.f79.name,by kernel_rfl,Tryz.func79.trans (congrArg some (by kernel_rfl))⟩
 f15:=Tryz.func80.trans (congrArg some (by kernel_rfl))
 f20:=⟨Tryz.f108.name,by kernel_rfl,Tryz.func108.trans (congrArg some (by kernel_rfl))⟩
 f21:=⟨Tryz.f109.name,by kernel_rfl,Tryz.func109.trans (congrArg some (by kernel_rfl))⟩
 f22:=⟨Tryz.f110.name,by kernel_rfl,Tryz.func110.trans (congrArg some (by kernel_rfl))⟩
 f23:=⟨Tryz.f111.name,by kernel_rfl,Tryz.func111.trans (congrArg some (by kernel_rfl))⟩
 f24:=⟨Tryz.f112.name,by kernel_rfl,Tryz.func112.trans (congrArg some (by kernel_rfl))⟩
 f25:=⟨Tryz.f113.name,by kernel_rfl,Tryz.func113.trans (congrArg some (by kernel_rfl))⟩
 f26:=⟨Tryz.f114.name,by kernel_rfl,Tryz.func114.trans (congrArg some (by kernel_rfl))⟩
 f27:=⟨Tryz.f115.name,by kernel_rfl,Tryz.func115.trans (congrArg some (by kernel_rfl))⟩
 f28:=Tryz.func116.trans (congrArg some (by kernel_rfl))
 f29:=Tryz.func117.trans (congrArg some (by kernel_rfl))
 f46:=⟨Tryz.f152.name,by kernel_rfl,Tryz.func152.trans (congrArg some (by kernel_rfl))⟩
 f47:=Tryz.func153.trans (congrArg some (by kernel_rfl))
 f48:=Tryz.func154.trans (congrArg some (by kernel_rfl))
 f49:=⟨Tryz.f155.name,by kernel_rfl,Tryz.func155.trans (congrArg some (by kernel_rfl))⟩
 f50:=⟨Tryz.f156.name,by kernel_rfl,Tryz.func156.trans (congrArg some (by kernel_rfl))⟩
 f57:=⟨Tryz.f226.name,by kernel_rfl,Tryz.func226.trans (congrArg some (by kernel_rfl))⟩
 t0:=Tryz.underlying0
 a0:=Tryz.isAgg0
 z0:=Tryz.sizeOf0
 v0:=Tryz.zeroValue0
 t3:=Tryz.underlying3
 a3:=Tryz.isAgg3
 z3:=Tryz.sizeOf3
 v3:=Tryz.zeroValue3
 t4:=Tryz.underlying4
 a4:=Tryz.isAgg4
 z4:=Tryz.sizeOf4
 v4:=Tryz.zeroValue4
 t5:=Tryz.underlying5
 a5:=Tryz.isAgg5
 z5:=Tryz.sizeOf5
 v5:=Tryz.zeroValue5
 t9:=Tryz.underlying9
 a9:=Tryz.isAgg9
 z9:=Tryz.sizeOf9
 v9:=Tryz.zeroValue9
 t22:=Tryz.underlying30
 a22:=Tryz.isAgg30
 z22:=Tryz.sizeOf30
 v22:=Tryz.zeroValue30
 t25:=Tryz.underlying92
 a25:=Tryz.isAgg92
 z25:=Tryz.sizeOf92
 v25:=Tryz.zeroValue92
 t39:=Tryz.underlying155
 a39:=Tryz.isAgg155
 z39:=Tryz.sizeOf155
 v39:=Tryz.zeroValue155
 t45:=Tryz.underlying178
 a45:=Tryz.isAgg178
 z45:=Tryz.sizeOf178
 v45:=Tryz.zeroValue178
 t46:=Tryz.underlying179
 a46:=Tryz.isAgg179
 z46:=Tryz.sizeOf179
 v46:=Tryz.zeroValue179
 t50:=Tryz.underlying147
 a50:=Tryz.isAgg147
 z50:=Tryz.sizeOf147
 v50:=Tryz.zeroValue147
 t53:=Tryz.underlying185
 a53:=Tryz.isAgg185
 z53:=Tryz.sizeOf185
 v53:=Tryz.zeroValue185
 t55:=Tryz.underlying187
 a55:=Tryz.isAgg187
 z55:=Tryz.sizeOf187
 v55:=Tryz.zeroValue187
 t66:=Tryz.underlying221
 a66:=Tryz.isAgg221
 z66:=Tryz.sizeOf221
 v66:=Tryz.zeroValue221
 t70:=Tryz.underlying225
 a70:=Tryz.isAgg225
 z70:=Tryz.sizeOf225
 v70:=Tryz.zeroValue225
 t76:=Tryz.underlying266
 a76:=Tryz.isAgg266
 z76:=Tryz.sizeOf266
 v76:=Tryz.zeroValue266
 t77:=Tryz.underlying267
 a77:=Tryz.isAgg267
 z77:=Tryz.sizeOf267
 v77:=Tryz.zeroValue267
def rU:Go.Shelf.Ren:=⟨fun|6=>263|15=>80|14=>274|28=>116|29=>117|20=>279|21=>280|22=>281|23=>282|24=>283|25=>284|26=>285|27=>286|46=>288|47=>153|48=>154|49=>289|50=>290|57=>291|n=>n,fun|22=>22|24=>3|25=>70|3=>3|39=>155|0=>0|53=>185|55=>187|4=>4|46=>179|45=>178|50=>147|5=>5|9=>9|66=>221|70=>225|76=>266|77=>267|n=>n,fun|n=>n⟩
theorem PY:Go.Proofs.SlLaysF.n6 Tryz.prog rU where
 mixed:=by kernel_rfl
 f6:=⟨Tryz.f263.name,by kernel_rfl,Tryz.func263.trans (congrArg some (by kernel_rfl))⟩
 f14:=⟨Tryz.f274.name,by kernel_rfl,Tryz.func274.trans (congrArg some (by kernel_rfl))⟩
 f15:=Tryz.func80.trans (congrArg some (by kernel_rfl))
 f20:=⟨Tryz.f279.name,by kernel_rfl,Tryz.func279.trans (congrArg some (by kernel_rfl))⟩
 f21:=⟨Tryz.f280.name,by kernel_rfl,Tryz.func280.trans (congrArg some (by kernel_rfl))⟩
 f22:=⟨Tryz.f281.name,by kernel_rfl,Tryz.func281.trans (congrArg some (by kernel_rfl))⟩
 f23:=⟨Tryz.f282.name,by kernel_rfl,Tryz.func282.trans (congrArg some (by kernel_rfl))⟩
 f24:=⟨Tryz.f283.name,by kernel_rfl,Tryz.func283.trans (congrArg some (by kernel_rfl))⟩
 f25:=⟨Tryz.f284.name,by kernel_rfl,Tryz.func284.trans (congrArg some (by kernel_rfl))⟩
 f26:=⟨Tryz.f285.name,by kernel_rfl,Tryz.func285.trans (congrArg some (by kernel_rfl))⟩
 f27:=⟨Tryz.f286.name,by kernel_rfl,Tryz.func286.trans (congrArg some (by kernel_rfl))⟩
 f28:=Tryz.func116.trans (congrArg some (by kernel_rfl))
 f29:=Tryz.func117.trans (congrArg some (by kernel_rfl))
 f46:=⟨Tryz.f288.name,by kernel_rfl,Tryz.func288.trans (congrArg some (by kernel_rfl))⟩
 f47:=Tryz.func153.trans (congrArg some (by kernel_rfl))
 f48:=Tryz.func154.trans (congrArg some (by kernel_rfl))
 f49:=⟨Tryz.f289.name,by kernel_rfl,Tryz.func289.trans (congrArg some (by kernel_rfl))⟩
 f50:=⟨Tryz.f290.name,by kernel_rfl,Tryz.func290.trans (congrArg some (by kernel_rfl))⟩
 f57:=⟨Tryz.f291.name,by kernel_rfl,Tryz.func291.trans (congrArg some (by kernel_rfl))⟩
 t0:=Tryz.underlying0
 a0:=Tryz.isAgg0
 z0:=Tryz.sizeOf0
 v0:=Tryz.zeroValue0
 t3:=Tryz.underlying3
 a3:=Tryz.isAgg3
 z3:=Tryz.sizeOf3
 v3:=Tryz.zeroValue3
 t4:=Tryz.underlying4
 a4:=Tryz.isAgg4
 z4:=Tryz.sizeOf4
 v4:=Tryz.zeroValue4
 t5:=Tryz.underlying5
 a5:=Tryz.isAgg5
 z5:=Tryz.sizeOf5
 v5:=Tryz.zeroValue5
 t9:=Tryz.underlying9
 a9:=Tryz.isAgg9
 z9:=Tryz.sizeOf9
 v9:=Tryz.zeroValue9
 t22:=Tryz.underlying22
 a22:=Tryz.isAgg22
 z22:=Tryz.sizeOf22
 v22:=Tryz.zeroValue22
 a24:=Tryz.isAgg3
 z24:=Tryz.sizeOf3
 t25:=Tryz.underlying70
 a25:=Tryz.isAgg70
 z25:=Tryz.sizeOf70
 v25:=Tryz.zeroValue70
 t39:=Tryz.underlying155
 a39:=Tryz.isAgg155
 z39:=Tryz.sizeOf155
 v39:=Tryz.zeroValue155
 t45:=Tryz.underlying178
 a45:=Tryz.isAgg178
 z45:=Tryz.sizeOf178
 v45:=Tryz.zeroValue178
 t46:=Tryz.underlying179
 a46:=Tryz.isAgg179
 z46:=Tryz.sizeOf179
 v46:=Tryz.zeroValue179
 t50:=Tryz.underlying147
 a50:=Tryz.isAgg147
 z50:=Tryz.sizeOf147
 v50:=Tryz.zeroValue147
 t53:=Tryz.underlying185
 a53:=Tryz.isAgg185
 z53:=Tryz.sizeOf185
 v53:=Tryz.zeroValue185
 t55:=Tryz.underlying187
 a55:=Tryz.isAgg187
 z55:=Tryz.sizeOf187
 v55:=Tryz.zeroValue187
 t66:=Tryz.underlying221
 a66:=Tryz.isAgg221
 z66:=Tryz.sizeOf221
 v66:=Tryz.zeroValue221
 t70:=Tryz.underlying225
 a70:=Tryz.isAgg225
 z70:=Tryz.sizeOf225
 v70:=Tryz.zeroValue225
 t76:=Tryz.underlying266
 a76:=Tryz.isAgg266
 z76:=Tryz.sizeOf266
 v76:=Tryz.zeroValue266
 t77:=Tryz.underlying267
 a77:=Tryz.isAgg267
 z77:=Tryz.sizeOf267
 v77:=Tryz.zeroValue267
end
section
open Go.Proofs Go.Sort Go.RowKit
theorem abk(x:Int)(w:World):Calls Tryz.prog 81 #[.int .i64 x] w fun e w'=>e=.returned (.bool false)/\w'=w:=by
 go_enter Tryz.func81,Tryz.ntmps81
 go_wp2
 go_ret
 exact⟨by simp,rfl⟩
theorem abl(x:Int)(w:World):Calls Tryz.prog 275 #[.int .u64 x] w fun e w'=>e=.returned (.bool false)/\w'=w:=by
 go_enter Tryz.func275,Tryz.ntmps275
 go_wp2
 go_ret
 exact⟨by simp,rfl⟩
def lP(x y:Int):Int:=if x<y then -1 else if y<x then 1 else 0
theorem lD(x y:Int)(w:World):Calls Tryz.prog 41 #[.int .i64 x,.int .i64 y] w fun e w'=>e=.returned (.int .i64 (lP x y))/\w'=w:=by
 go_enter Tryz.func41,Tryz.ntmps41
 go_wp2_with (go_at_call 81;refine(abk _ _).mono ?_;rintro e w' ⟨rfl,hw⟩;rw[hw])
 all_goals(go_ret;refine⟨?_,rfl⟩;unfold lP;(repeat' split)<;>first|rfl|(exfalso;omega))
theorem IC(x y:Int)(w:World):Calls Tryz.prog 265 #[.int .u64 x,.int .u64 y] w fun e w'=>e=.returned (.int .i64 (lP x y))/\w'=w:=by
 go_enter Tryz.func265,Tryz.ntmps265
 go_wp2_with (go_at_call 275;refine(abl _ _).mono ?_;rintro e w' ⟨rfl,hw⟩;rw[hw])
 all_goals(go_ret;refine⟨?_,rfl⟩;unfold lP;(repeat' split)<;>first|rfl|(exfalso;omega))
theorem uP(a b:Int)(cS:Nat)(W:World)(h0:W.cell? ⟨cS,0,none⟩=some (.int .i64 a))(h1:W.cell? ⟨cS,1,none⟩=some (.int .i64 b)):Calls Tryz.prog 40 #[.slice (some ⟨cS,0,none⟩) 2 2] W fun e w'=>e=.returned (.int .i64 (if a=0 then b else a))/\w'=W:=by
 obtain⟨r,hr⟩:∃r,r=if a=0 then b else a:=⟨_,rfl⟩
 rw[<-hr]
 go_enter Tryz.func40,Tryz.ntmps40
 go_wp2
 go_loop [5,8] (fun _ i=>∃k:Nat,k<=2/\i=.int .i64 k/\(0<k->a=0)/\(1<k->b=0)) (fun _ i=>2-(intOf i).toNat)
 case atStart=>exact⟨0,by omega,rfl,fun h=>by omega,fun h=>by omega⟩
 case round=>
  obtain⟨k,hk,rfl,k1,k2⟩:=hrel
  by_cases aw:k<2
  ·obtain⟨v,hv,dU⟩:∃v:Int,W.cell? ⟨cS,k,none⟩=some (.int .i64 v)/\((k=0->v=a)/\(k=1->v=b)):=by
    rcases(by omega:k=0\/k=1)with rfl|rfl
    ·exact⟨a,h0,fun _=>rfl,fun h=>by omega⟩
    ·exact⟨b,h1,fun h=>by omega,fun _=>rfl⟩
   have hlz:(k:Int)<2:=by omega
   have Z6:v≠0->v=r:=fun h=>by
    rcases(by omega:k=0\/k=1)with rfl|rfl
    ·rw[dU.1 rfl]at h⊢;rw[hr,if_neg h]
    ·rw[dU.2 rfl,hr,if_pos (k1 (by omega))]
   have G8:v=0->(0<k+1->a=0)/\(1<k+1->b=0):=fun h=>by
    rcases(by omega:k=0\/k=1)with rfl|rfl
    ·exact⟨fun _=>by rw[<-dU.1 rfl];exact h,fun h=>by omega⟩
    ·exact⟨fun _=>k1 (by omega),fun _=>by rw[<-dU.2 rfl];exact h⟩
   clear h0 h1 hr dU k1 k2
   go_wp2
   ·go_ret
    refine⟨?_,rfl⟩
    rw[Z6 (by simp_all)]
    rfl
   ·refine⟨⟨k+1,by omega,by go_num,(G8 (by simp_all)).1,(G8 (by simp_all)).2⟩,?_⟩
    simp[intOf];omega
  ·have hlz:¬(k:Int)<2:=by omega
   have YX:r=0:=by rw[hr,if_pos (k1 (by omega)),k2 (by omega)]
   clear h0 h1 hr k1 k2
   subst YX
   go_wp2
   go_ret
   exact⟨rfl,rfl⟩
theorem KA(W:World)(A B:Array Value)(t:TypeId)(j:Nat):((W.alloc (.cells A t)).alloc (.cells B t)).drew.cell? ⟨W.heap.size,j,none⟩=A[j]?:=by
 have:((W.alloc (.cells A t)).alloc (.cells B t)).drew.heap[W.heap.size]?=some (.cells A t):=by
  show((W.heap.push _).push _)[W.heap.size]?=_
  rw[Array.getElem?_push,if_neg (by simp),Array.getElem?_push,if_pos rfl]
 unfold World.cell?
 rw[this];rfl
theorem KB(W:World)(A B:Array Value)(t:TypeId)(j:Nat):((W.alloc (.cells A t)).alloc (.cells B t)).drew.cell? ⟨W.heap.size+1,j,none⟩=B[j]?:=by
 have:((W.alloc (.cells A t)).alloc (.cells B t)).drew.heap[W.heap.size+1]?=some (.cells B t):=by
  show((W.heap.push _).push _)[W.heap.size+1]?=_
  rw[Array.getElem?_push,if_pos (by simp)]
 unfold World.cell?
 rw[this];rfl
theorem PZ(W:World)(A:Array Value)(t:TypeId)(j:Nat):(W.alloc (.cells A t)).cell? ⟨W.heap.size,j,none⟩=A[j]?:=by
 have:(W.alloc (.cells A t)).heap[W.heap.size]?=some (.cells A t):=by
  show(W.heap.push _)[W.heap.size]?=_
  rw[Array.getElem?_push,if_pos rfl]
 unfold World.cell?
 rw[this];rfl
def P0(x:Lt):List Value:=[.int .i64 x.f,.int .i64 x.a,.int .i64 x.n]
def ID(x y:Lt):Int:=if lP x.f y.f=0 then lP x.a y.a else lP x.f y.f
theorem Z7(x y:Lt)(W:World):Calls Tryz.prog 98 #[.agg (P0 x).toArray,.agg (P0 y).toArray] W fun e w'=>e=.returned (.int .i64 (ID x y))/\∃q wB,w'=grow (W.drewN q) wB:=by
 unfold P0
 obtain⟨r,hr⟩:∃r,r=ID x y:=⟨_,rfl⟩
 rw[<-hr]
 have mixed:Tryz.prog.follows .mixedOrders=true:=mixed
 have tJ:=fun W'=>lD x.f y.f W'
 have ya:=fun W'=>lD x.a y.a W'
 go_enter Tryz.func98,Tryz.ntmps98
 go_wp2
 have f0:((W.alloc (.cells #[.int .i64 x.f,.int .i64 x.a,.int .i64 x.n] 53)).alloc (.cells #[.int .i64 y.f,.int .i64 y.a,.int .i64 y.n] 53)).drew.cell? ⟨W.heap.size,0,none⟩=some (.int .i64 x.f):=KA ..
 have f1:((W.alloc (.cells #[.int .i64 x.f,.int .i64 x.a,.int .i64 x.n] 53)).alloc (.cells #[.int .i64 y.f,.int .i64 y.a,.int .i64 y.n] 53)).drew.cell? ⟨W.heap.size,1,none⟩=some (.int .i64 x.a):=KA ..
 have g0:((W.alloc (.cells #[.int .i64 x.f,.int .i64 x.a,.int .i64 x.n] 53)).alloc (.cells #[.int .i64 y.f,.int .i64 y.a,.int .i64 y.n] 53)).drew.cell? ⟨W.heap.size+1,0,none⟩=some (.int .i64 y.f):=KB ..
 have g1:((W.alloc (.cells #[.int .i64 x.f,.int .i64 x.a,.int .i64 x.n] 53)).alloc (.cells #[.int .i64 y.f,.int .i64 y.a,.int .i64 y.n] 53)).drew.cell? ⟨W.heap.size+1,1,none⟩=some (.int .i64 y.a):=KB ..
 have hg:∃q wB,((W.alloc (.cells #[.int .i64 x.f,.int .i64 x.a,.int .i64 x.n] 53)).alloc (.cells #[.int .i64 y.f,.int .i64 y.a,.int .i64 y.n] 53)).drew=grow (W.drewN q) wB:=⟨1,_,by rw[alloc_eq_grow,alloc_eq_grow,grow_grow];rfl⟩
 generalize (W.alloc (.cells #[.int .i64 x.f,.int .i64 x.a,.int .i64 x.n] 53)).alloc (.cells #[.int .i64 y.f,.int .i64 y.a,.int .i64 y.n] 53)=W2 at*
 refine wp_region_still_tail 10 mixed (by kernel_rfl) ?_
 simp only[List.take_succ_cons,List.take_zero,List.drop_succ_cons,List.drop_zero]
 change wpStill _ _ (World.drew W2) _ _ _
 generalize Z8:World.drew W2=W3 at*
 repeat still_step
 still_call (tJ _)
 repeat still_step
 still_call (ya _)
 refine wpStill_nil ?_
 clear f0 f1 g0 g1 tJ ya
 unfold ID at hr
 generalize lP x.f y.f=r1 at*
 generalize lP x.a y.a=r2 at*
 have HG:Hid (∃q wB,W3=grow (W.drewN q) wB):=hg
 have HR:Hid (r=if r1=0 then r2 else r1):=hr
 clear hg hr mixed
 refine wpList_step (fun K hK=>?_)
 go_simp
 refine hK _ _ ?_
 clear hK K
 have hc:∀j,(W3.alloc (Obj.cells #[Value.int .i64 r1,Value.int .i64 r2] 3)).cell? ⟨W3.heap.size,j,none⟩=(#[Value.int .i64 r1,Value.int .i64 r2]:Array Value)[j]?:=fun j=>PZ W3 _ _ j
 have Z9:Hid (∃q wB,W3.alloc (Obj.cells #[Value.int .i64 r1,Value.int .i64 r2] 3)=grow (W.drewN q) wB):=by
  obtain⟨q,os,h⟩:=HG.out
  exact⟨q,_,by rw[h,alloc_eq_grow,grow_grow]⟩
 generalize W3.alloc (Obj.cells #[Value.int .i64 r1,Value.int .i64 r2] 3)=W4 at*
 generalize W3.heap.size=sz at*
 have c0:=hc 0
 have c1:=hc 1
 clear hc HG Z8
 refine wpList_step (fun K hK=>?_)
 go_simp
 refine(uP r1 r2 sz W4 c0 c1).mono ?_
 rintro e w' ⟨rfl,rfl⟩
 refine hK _ _ ?_
 clear hK K
 refine wpList_step (fun K hK=>?_)
 go_simp
 refine hK _ _ ?_
 clear hK K c0 c1
 rw[show(if r1=0 then r2 else r1)=r from HR.out.symm]
 clear HR
 go_wp2
 go_ret
 exact⟨rfl,Z9.out⟩
def P3(x:(Int×Int)×Int):List Value:=[.int .i64 x.1.1,.int .i64 x.1.2,.int .i64 x.2]
def IE(x y:(Int×Int)×Int):Int:=if lP x.1.1 y.1.1=0 then lP x.1.2 y.1.2 else lP x.1.1 y.1.1
theorem aaa(x y:(Int×Int)×Int)(W:World):Calls Tryz.prog 39 #[.agg (P3 x).toArray,.agg (P3 y).toArray] W fun e w'=>e=.returned (.int .i64 (IE x y))/\∃q wB,w'=grow (W.drewN q) wB:=by
 unfold P3
 obtain⟨r,hr⟩:∃r,r=IE x y:=⟨_,rfl⟩
 rw[<-hr]
 have mixed:Tryz.prog.follows .mixedOrders=true:=mixed
 have tJ:=fun W'=>lD x.1.1 y.1.1 W'
 have ya:=fun W'=>lD x.1.2 y.1.2 W'
 go_enter Tryz.func39,Tryz.ntmps39
 go_wp2
 have f0:((W.alloc (.cells #[.int .i64 x.1.1,.int .i64 x.1.2,.int .i64 x.2] 33)).alloc (.cells #[.int .i64 y.1.1,.int .i64 y.1.2,.int .i64 y.2] 33)).drew.cell? ⟨W.heap.size,0,none⟩=some (.int .i64 x.1.1):=KA ..
 have f1:((W.alloc (.cells #[.int .i64 x.1.1,.int .i64 x.1.2,.int .i64 x.2] 33)).alloc (.cells #[.int .i64 y.1.1,.int .i64 y.1.2,.int .i64 y.2] 33)).drew.cell? ⟨W.heap.size,1,none⟩=some (.int .i64 x.1.2):=KA ..
 have g0:((W.alloc (.cells #[.int .i64 x.1.1,.int .i64 x.1.2,.int .i64 x.2] 33)).alloc (.cells #[.int .i64 y.1.1,.int .i64 y.1.2,.int .i64 y.2] 33)).drew.cell? ⟨W.heap.size+1,0,none⟩=some (.int .i64 y.1.1):=KB ..
 have g1:((W.alloc (.cells #[.int .i64 x.1.1,.int .i64 x.1.2,.int .i64 x.2] 33)).alloc (.cells #[.int .i64 y.1.1,.int .i64 y.1.2,.int .i64 y.2] 33)).drew.cell? ⟨W.heap.size+1,1,none⟩=some (.int .i64 y.1.2):=KB ..
 have hg:∃q wB,((W.alloc (.cells #[.int .i64 x.1.1,.int .i64 x.1.2,.int .i64 x.2] 33)).alloc (.cells #[.int .i64 y.1.1,.int .i64 y.1.2,.int .i64 y.2] 33)).drew=grow (W.drewN q) wB:=⟨1,_,by rw[alloc_eq_grow,alloc_eq_grow,grow_grow];rfl⟩
 generalize (W.alloc (.cells #[.int .i64 x.1.1,.int .i64 x.1.2,.int .i64 x.2] 33)).alloc (.cells #[.int .i64 y.1.1,.int .i64 y.1.2,.int .i64 y.2] 33)=W2 at*
 refine wp_region_still_tail 10 mixed (by kernel_rfl) ?_
 simp only[List.take_succ_cons,List.take_zero,List.drop_succ_cons,List.drop_zero]
 change wpStill _ _ (World.drew W2) _ _ _
 generalize Z8:World.drew W2=W3 at*
 repeat still_step
 still_call (tJ _)
 repeat still_step
 still_call (ya _)
 refine wpStill_nil ?_
 clear f0 f1 g0 g1 tJ ya
 unfold IE at hr
 generalize lP x.1.1 y.1.1=r1 at*
 generalize lP x.1.2 y.1.2=r2 at*
 have HG:Hid (∃q wB,W3=grow (W.drewN q) wB):=hg
 have HR:Hid (r=if r1=0 then r2 else r1):=hr
 clear hg hr mixed
 refine wpList_step (fun K hK=>?_)
 go_simp
 refine hK _ _ ?_
 clear hK K
 have hc:∀j,(W3.alloc (Obj.cells #[Value.int .i64 r1,Value.int .i64 r2] 3)).cell? ⟨W3.heap.size,j,none⟩=(#[Value.int .i64 r1,Value.int .i64 r2]:Array Value)[j]?:=fun j=>PZ W3 _ _ j
 have Z9:Hid (∃q wB,W3.alloc (Obj.cells #[Value.int .i64 r1,Value.int .i64 r2] 3)=grow (W.drewN q) wB):=by
  obtain⟨q,os,h⟩:=HG.out
  exact⟨q,_,by rw[h,alloc_eq_grow,grow_grow]⟩
 generalize W3.alloc (Obj.cells #[Value.int .i64 r1,Value.int .i64 r2] 3)=W4 at*
 generalize W3.heap.size=sz at*
 have c0:=hc 0
 have c1:=hc 1
 clear hc HG Z8
 refine wpList_step (fun K hK=>?_)
 go_simp
 refine(uP r1 r2 sz W4 c0 c1).mono ?_
 rintro e w' ⟨rfl,rfl⟩
 refine hK _ _ ?_
 clear hK K
 refine wpList_step (fun K hK=>?_)
 go_simp
 refine hK _ _ ?_
 clear hK K c0 c1
 rw[show(if r1=0 then r2 else r1)=r from HR.out.symm]
 clear HR
 go_wp2
 go_ret
 exact⟨rfl,Z9.out⟩
end
section
open Go.TM
def fV(n m:Int):Int:=if n.tmod m<0 then n.tmod m+m else n.tmod m
theorem uQ(n m:Int)(hm:1<=m):0<=fV n m/\fV n m<m:=by
 unfold fV
 have h1:=Int.tmod_lt_of_pos n (show 0<m by omega)
 have h2:=Int.lt_tmod_of_pos n (show 0<m by omega)
 split<;>omega
def pick(l:List Int)(i m:Int):Int:=if i<0 then 0 else match l[i.toNat]? with
 |some x=>fV x m
 |none=>0
theorem kz(l:List Int)(i m:Int)(hm:1<=m):0<=pick l i m/\pick l i m<m:=by
 unfold pick
 split
 ·omega
 ·split
  ·exact uQ _ m hm
  ·omega
variable [bp]
theorem vM(n m:Int)(hm:1<=m)(RK:m<=4611686018427387904):aQ Tryz.prog 30 [I n,I m] [I (fV n m)]:=by
 refine pO Tryz.func30 rfl (by kernel_rfl) rfl ?_
 have h1:=Int.tmod_lt_of_pos n (show 0<m by omega)
 have h2:=Int.lt_tmod_of_pos n (show 0<m by omega)
 refine⟨fun _=>by omega,fun h=>?_,fun h=>?_⟩
 ·have h':n.tmod m<0:=acA h
  exact⟨fun _=>by omega,aF (by rw[fV,if_pos h']),tv⟩
 ·have h':¬n.tmod m<0:=acB h
  exact⟨aF (by rw[fV,if_neg h']),tv⟩
theorem aT(l:List Int)(i m:Int)(hm:1<=m)(RK:m<=4611686018427387904):aQ Tryz.prog 34 [Ints l,I i,I m] [I (pick l i m)]:=by
 refine pO Tryz.func34 rfl (by kernel_rfl) rfl ?_
 repeat refine gG ?_
 refine⟨fun h=>?_,fun h=>?_⟩
 ·refine⟨aF ?_,tv⟩
  unfold pick
  split
  ·rfl
  ·rename_i hi
   have hm':¬m<1:=by omega
   have:(l.length:Int)<=i:=by simpa[hi,hm']using h
   rw[List.getElem?_eq_none (by omega)]
 ·have hi:¬i<0:=fun hi=>by simp[hi]at h
  have tL:¬(l.length:Int)<=i:=fun tL=>by simp[hi,tL]at h
  have aw:i.toNat<l.length:=by omega
  refine⟨I l[i.toNat],fun _=>⟨by omega,by simp[aw]⟩,?_⟩
  refine .inl ⟨_,fun _=>(vM _ m hm (by omega)).ok,aF ?_,tv⟩
  unfold pick
  rw[if_neg hi,aaS aw]
theorem Bw(l:List Lt)(hl:l.length<=1000000):aQ Tryz.prog 22 [aS l,aS l] [B true]:=by
 refine pO Tryz.func22 rfl (by kernel_rfl) rfl ?_
 have lp:(l.map az).length=l.length:=ach ..
 refine acg (fun h=>by simp at h) fun _=>?_
 refine⟨Nat,fun i=>⟨0,[(0,.dv (aS l)),(1,.dv (aS l)),(5,.dv (I i))],[]⟩,fun i=>i<=l.length,fun i=>l.length-i,0,fun _=>rfl,jn rfl rfl rfl rfl,acy _,?_⟩
 rintro i hi
 refine acg ?_ ?_
 ·intro h
  have aw:i<l.length:=by have:=acA h;omega
  obtain⟨x,hx⟩:∃x,l[i]?=some x:=⟨_,aaS aw⟩
  have ix:(l.map az)[(i:Int).toNat]?=some (az x):=by rw[acj];simp[hx]
  refine⟨az x,fun _=>⟨by omega,ix⟩,az x,fun _=>⟨by omega,ix⟩,?_⟩
  refine⟨by kernel_rfl,acg (fun h=>by simp at h) fun _=>?_⟩
  exact⟨fun _=>by omega,i+1,jn rfl rfl rfl rfl,by omega,mlt aw⟩
 ·intro h
  exact⟨rf,tv⟩
end
section
open Go.TM
variable [bp]
def mX(p:Ky×Int):DV:=.agg [I p.1.1,I p.1.2,I p.2]
end
section
open Go.TM Go.Proofs Go.Sort Go.Shelf
theorem th{w:World}{cS:Nat}{c:Array Value}{t:TypeId}(h:w.heap[cS]?=some (.cells c t (0,0)))(o:Nat):w.frozen? ⟨cS,o,none⟩=false:=by
 unfold World.frozen?
 rw[h];simp
theorem KC{α:Type}(d:Array α):d.extract 0 d.size=d:=by simp
section
variable [cn]
theorem IF{P:Program}{f:Nat}(qF:fM P f){args:List AV}{m:Nat}{K:ae}(hK:∀i,m<=i->aa K i=.none)
 (bE:∀(w:World) (G:Gh) (vs:List Value),ny G.M->Fit G w (aa K)->cd G args vs->Calls P f vs.toArray w fun e w'=>e=.returned (.tuple #[])/\w'=w):ao P f args m K 0 [] K:=by
 refine⟨qF,fun w G vs nt cP hr=>Calls.mono (bE w G vs nt cP hr) ?_⟩
 rintro e w' ⟨rfl,rfl⟩
 exact⟨_,[],K,G,rfl,⟨rfl,rfl⟩,⟨cP,fun i hi=>hK i (by omega),.fY [] [] rfl (by simp),.refl _,fun _ _=>rfl,fun _ _ _ _ h=>h,fun _ _ _=>⟨rfl,rfl⟩,fun i b o=>.inr ⟨i,o⟩,rfl,rfl,rfl,acN _⟩⟩
theorem lE{P:Program}{f:Nat}{args:List AV}{m ex:Nat}{K:ae}{Q Q':List AV->ae->Prop}(h:bU P f args m K ex Q)(hQ:∀r k,Q r k->Q' r k):bU P f args m K ex Q':=
 ⟨h.1,fun w G vs a b c=>Calls.mono (h.2 w G vs a b c) fun _ _ ⟨v,r,k,G',h1,h2,h3⟩=>⟨v,r,k,G',h1,hQ r k h2,h3⟩⟩
theorem Tn{G:Gh}{w:World}{k:Nat}{K3:ae}{x:AV}{vs:List Value}(cP:Fit G w (aa ((0,.tree 0 0 (.aC k []))::K3)))(hr:cd G [.own 0 0 0 [],x] vs):∃p cap fv,vs=[.slice p 0 cap,fv]:=by
 match vs,hr.1 with
 |[u,fv],_=>
  have hu:=hr.2 0 _ u rfl rfl
  cases hu with|own _ _ _ _ _ hu Pm=>
  obtain⟨u0,Kz,_,bn⟩:=cP.node (p:=[]) (show aa ((0,au.tree 0 0 (.aC k []))::K3) 0=.tree 0 0 (.aC k [])from rfl) rfl rfl
  rw[hu]at Kz;injection Kz with Kz;subst Kz
  rcases fU.1 bn with⟨_,rfl⟩|⟨cS,off,cap,c,t,rfl,_⟩
  ·exact⟨none,0,fv,rfl⟩
  ·exact⟨_,cap,fv,rfl⟩
theorem WN{G:Gh}{g:Nat}{v:Value}(h:aG G (.dv (.fn g [])) v):v=.func (.func g) #[] #[]:=by
 cases h with
 |dv h=>
  cases h with
  |fn _ _ vs hl _=>
   have:vs=[]:=List.length_eq_zero_iff.1 (by simpa using hl.symm)
   subst this;rfl
theorem tl{P:Program}{ρ:Ren}(L:SlLaysF0.n6 P ρ)(qF:fM P (ρ.f 6)){α:Type}[Inhabited α]{vals:α->List Int}{e:α->DV}{k:Nat}(JF:0<k)(he:∀x,(e x).cells=(vals x).map fun n=>DV.int .i64 n)(hk:∀x,(vals x).length=k)
 (aE:∀w,(isAgg (ρ.t 24)).run P w=.ok true w) (zE:∀w,(Go.sizeOf (ρ.t 24)).run P w=.ok k w) (cf:α->α->Int) (hO:SWO (ltOf cf)) (g:Nat) (eg:∀args w,(callFunc g args).run P w=.ok (.enter g args) w)
 (abm:∀(x y:α) (W:World),Calls P g #[.agg ((vals x).map (Value.int .i64)).toArray,.agg ((vals y).map (Value.int .i64)).toArray] W fun e w'=>e=.returned (.int .i64 (cf x y))/\∃q wB,w'=grow (W.drewN q) wB)
 (l:List α) (bz:l.length<4611686018427387904):
 bU P (ρ.f 6) [.own 0 0 0 [],.dv (.fn g [])] 1 [(0,.tree 0 0 (.aC k (l.map e)))] 0 fun rs K'=>rs=[]/\∃l':List α,(l'.Perm l/\l'.Pairwise fun x y=>ltOf cf y x=false)/\K'=[(0,.tree 0 0 (.aC k (l'.map e)))]:=by
 by_cases cC:l=[]
 ·subst cC
  refine lE (IF qF (fun i hi=>(by match i,hi with|i+1,_=>rfl)) fun w G vs nt cP hr=>?_) fun r k' iw=>⟨iw.1,[],⟨.refl _,.nil⟩,iw.2⟩
  obtain⟨p,cap,fv,rfl⟩:=Tn (K3:=[]) cP hr
  exact AnyF.slices_SortFunc_none L p cap fv w
 refine lE (vJ qF he hk cC (by omega) (K3:=[]) (fun _ _=>rfl) (fun l':List α=>l'.Perm l/\l'.Pairwise fun x y=>ltOf cf y x=false) (fun l' h=>h.1.length_eq) ?_) fun r k' iw=>iw
 rintro w G cS off cap xs cP nt hr _ ⟨c,t,hblk,cH⟩
 obtain⟨fv,rfl⟩:∃fv,xs=[fv]:=by
  match xs,hr.1 with
  |[a],_=>exact⟨a,rfl⟩
 have hfv:=WN (hr.2 0 _ fv rfl rfl)
 subst hfv
 have Hb:cS<w.heap.size:=(acx.1 hblk).1
 have lK:∀(d:Array α) (tt:Nat),tt<d.size*k->∃x,d.toList[tt/k]?=some x/\∃n,(vals x)[tt%k]?=some n/\(flatK (fun x=>(vals x).map (Value.int .i64)) k d)[tt]! = .int .i64 n:=fun d tt ht=>by
  have h1:tt/k<d.size:=(Nat.div_lt_iff_lt_mul JF).2 ht
  have h2:tt%k<(vals d[tt/k]).length:=by rw[hk];exact Nat.mod_lt _ JF
  refine⟨d[tt/k],by simp[h1],(vals d[tt/k])[tt%k],aaS h2,?_⟩
  rw[get_flatK _ _ _ _ ht,getElem!_pos d _ h1,getElem!_pos _ _ (by simpa using h2)]
  simp
 have hH:HoldsK (fun x=>(vals x).map (Value.int .i64)) k w cS off l.toArray:=fun j hj=>by
  rw[size_flatK]at hj
  obtain⟨x,hx,n,hn,hf⟩:=lK _ j hj
  have h3:=cH (j/k) x (j%k) n (by simpa using hx) hn
  rw[show off+j/k*k+j%k=off+j by rw[Nat.add_assoc,Nat.div_add_mod' j k]]at h3
  refine⟨?_,th hblk _⟩
  rw[hf]
  unfold World.cell?
  rw[hblk]
  exact h3
 have To:=AnyQ.slices_SortFunc L k aE zE (fun x=>(vals x).map (Value.int .i64)) (fun x=>by rw[ach,hk]) (fun x v hv=>by obtain⟨n,_,rfl⟩:=acL.1 hv;rfl) cf hO g #[] cS off cap l.toArray w eg (fun m os dk hs x y=>by simpa using abm x y _) hH Hb (by simpa using bz)
 refine Calls.mono To ?_
 rintro en w' ⟨rfl,d',n,os,hp,hs,rfl⟩
 have zM:d'.size=l.length:=by simpa using hp.1
 have y2:d'.toList.Perm l:=by
  have:=hp.2.2
  rw[show l.toArray.size=d'.size by simp[zM],KC,show d'.size=l.toArray.size by simp[zM],KC]at this
  simpa using this
 refine⟨rfl,d'.toList,⟨y2,?_⟩,?_⟩
 ·rw[List.pairwise_iff_getElem]
  intro i j hi hj BT
  have:=hs i j (acy _) BT (by simpa[zM]using hj)
  rw[getElem!_pos d' j (by simpa using hj),getElem!_pos d' i (by simpa using hi)]at this
  simpa using this
 ·refine vL (F:=flatK (fun x=>(vals x).map (Value.int .i64)) k d') Hb (fun i x j n hx hn=>?_) fun c' t' fr' oJ=>?_
  ·have hj:j<k:=by have:=(aci.1 hn).1;rw[hk]at this;exact this
   have hi:i<d'.size:=by have:=(aci.1 hx).1;simpa using this
   have aw:i*k+j<d'.size*k:=by
    have:(i+1)*k<=d'.size*k:=acO _ hi
    rw[Nat.add_mul,Nat.one_mul]at this;omega
   refine⟨by rw[size_flatK];exact aw,?_⟩
   obtain⟨x2,UX,n2,G5,hf⟩:=lK d' (i*k+j) aw
   have q1:(i*k+j)/k=i:=by rw[Nat.mul_comm,Nat.mul_add_div JF,Nat.div_eq_of_lt hj];rfl
   have q2:(i*k+j)%k=j:=by rw[Nat.mul_comm,Nat.mul_add_mod,Nat.mod_eq_of_lt hj]
   rw[q1,hx]at UX;injection UX with UX;subst UX
   rw[q2,hn]at G5;injection G5 with G5;subst G5
   exact hf
  ·rw[size_flatK]
   rw[hblk]at oJ;injection oJ with oJ;injection oJ with tJ _ _;subst tJ
   have Z5:0<l.length:=List.length_pos_iff.2 cC
   have aw:d'.size*k-1<l.toArray.size*k:=by
    have:=Nat.mul_pos Z5 JF
    simp[zM];omega
   obtain⟨x,hx,n2,G5,_⟩:=lK l.toArray _ aw
   have h3:=cH _ x _ n2 (by simpa using hx) G5
   have:=(acx.1 h3).1
   rw[Nat.add_assoc,Nat.div_add_mod']at this
   omega
end
instance:Inhabited Lt:=⟨⟨0,0,0⟩⟩
theorem w8(x y:Lt):ltOf ID x y=decide (x.f<y.f\/x.f=y.f/\x.a<y.a):=by
 unfold ltOf ID lP
 by_cases h1:x.f<y.f
 ·simp[h1]
 ·by_cases h2:y.f<x.f
  ·simp[h1,h2];omega
  ·have:x.f=y.f:=by omega
   simp[this]
   split<;>rename_i h3
   ·simp;omega
   ·split<;>simp<;>omega
theorem w9(x y:(Int×Int)×Int):ltOf IE x y=decide (x.1.1<y.1.1\/x.1.1=y.1.1/\x.1.2<y.1.2):=by
 unfold ltOf IE lP
 by_cases h1:x.1.1<y.1.1
 ·simp[h1]
 ·by_cases h2:y.1.1<x.1.1
  ·simp[h1,h2];omega
  ·have:x.1.1=y.1.1:=by omega
   simp[this]
   split<;>rename_i h3
   ·simp;omega
   ·split<;>simp<;>omega
theorem WO:SWO (ltOf ID)where
 irrefl x:=by rw[w8];simp
 trans x y z h1 h2:=by rw[w8]at *; simp at *; omega
 ntrans x y z h1 h2:=by rw[w8]at *; simp at *; omega
theorem WQ:SWO (ltOf IE)where
 irrefl x:=by rw[w9];simp
 trans x y z h1 h2:=by rw[w9]at *; simp at *; omega
 ntrans x y z h1 h2:=by rw[w9]at *; simp at *; omega
variable [bp]
theorem FQ(l:List Lt)(hl:l.length<=1000000):bU Tryz.prog 97 [.own 0 0 0 [],.dv (.fn 98 [])] 1 [(0,.tree 0 0 (.aC 3 (l.map az)))] 0 fun rs K'=>rs=[]/\∃l':List Lt,(l'.Perm l/\l'.Pairwise leq)/\K'=[(0,.tree 0 0 (.aC 3 (l'.map az)))]:=
 lE (tl (vals:=fun x:Lt=>[x.f,x.a,x.n]) (e:=az) WL ⟨_,Tryz.func97,by kernel_rfl,rfl⟩ (by omega) (fun _=>rfl) (fun _=>rfl) Tryz.isAgg53 Tryz.sizeOf53 ID WO 98 (enters_of Tryz.func98 (by kernel_rfl) rfl) Z7 l (by omega)) fun r k ⟨h1,l',⟨h2,h3⟩,h4⟩=>⟨h1,l',⟨h2,h3.imp fun {x y} h=>by
  rw[w8]at h
  unfold leq
  simp at h;omega⟩,h4⟩
theorem FR(l:List ((Int×Int)×Int))(hl:l.length<=1000000):bU Tryz.prog 38 [.own 0 0 0 [],.dv (.fn 39 [])] 1 [(0,.tree 0 0 (.aC 3 (l.map mX)))] 0 fun rs K'=>rs=[]/\∃l':List ((Int×Int)×Int),(l'.Perm l/\l'.Pairwise fun x y=>¬(y.1.1<x.1.1\/y.1.1=x.1.1/\y.1.2<x.1.2))/\K'=[(0,.tree 0 0 (.aC 3 (l'.map mX)))]:=
 lE (tl (vals:=fun x:(Int×Int)×Int=>[x.1.1,x.1.2,x.2]) (e:=mX) WM ⟨_,Tryz.func38,by kernel_rfl,rfl⟩ (by omega) (fun _=>rfl) (fun _=>rfl) Tryz.isAgg33 Tryz.sizeOf33 IE WQ 39 (enters_of Tryz.func39 (by kernel_rfl) rfl) aaa l (by omega)) fun r k ⟨h1,l',⟨h2,h3⟩,h4⟩=>⟨h1,l',⟨h2,h3.imp fun {x y} h=>by
  rw[w9]at h
  simpa using h⟩,h4⟩
end
end Go.Proofs.YtmojfblpbcficaaGreatDoor
