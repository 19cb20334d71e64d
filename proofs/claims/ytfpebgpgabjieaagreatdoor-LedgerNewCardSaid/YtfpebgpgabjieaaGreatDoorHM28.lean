import Derived.Test.YtfpebgpgabjieaaGreatDoorHM26
import Derived.Test.YtfpebgpgabjieaaGreatDoorHM27
set_option linter.all false
open Go.TM.oA Go.TM.oB Go.TM.oC Go.TM.oD Go.TM.oE
namespace Go.Proofs.YtfpebgpgabjieaaGreatDoor
set_option maxRecDepth 100000
set_option maxHeartbeats 8000000
open Go.TM
def UC(s:ByteArray):List (List ByteArray):=[(gC s).map It.nm,[⟨⟨[100,105,103]⟩⟩,⟨⟨[115,109,101,108,116]⟩⟩,⟨⟨[102,111,114,103,101]⟩⟩,⟨⟨[115,99,114,97,112]⟩⟩,⟨⟨[115,101,108,108]⟩⟩],[⟨⟨[99,104,101,115,116]⟩⟩],[⟨⟨[115,97,108,101]⟩⟩]]
def nmD(s:ByteArray):DV:=.sl 1 ((UC s).map fun l=>.sl 1 (l.map DV.str))
def oO(l:List ByteArray):Bool:=l.any fun x=>!iw x
def pR(l:List ByteArray):Nat->Bool
 |0=>false
 |k+1=>pR l k||match l[k]? with
  |some x=>Kf (l.take k) x
  |none=>false
def Mt(s:ByteArray)(i:Nat):Bool:=((UC s).take i).any oO
def tR(s:ByteArray)(i:Nat):Bool:=((UC s).take i).any fun l=>pR l l.length
theorem tA{l:List ByteArray}:∀{n:Nat},(l.take n).Nodup->pR l n=false
 |0,_=>rfl
 |n+1,h=>by
  rw[ads]at h
  have h2:=List.nodup_append.1 h
  unfold pR
  rw[tA h2.1]
  cases hx:l[n]? with
  |none=>rfl
  |some x=>
   rw[hx]at h2
   exact Bool.eq_false_iff.2 fun hi=>h2.2.2 x (CD.1 (by simpa using hi)) x (by simp) rfl
theorem aa0(s:ByteArray):vN s=if Mt s 4=true then 6 else if tR s 4=true then 8 else 0:=by
 have hw:Mt s 4=!iw s:=by
  show(oO ((gC s).map It.nm)||(oO _||(oO _||(oO _||false))))=_
  rw[show oO [⟨⟨[100,105,103]⟩⟩,⟨⟨[115,109,101,108,116]⟩⟩,⟨⟨[102,111,114,103,101]⟩⟩,⟨⟨[115,99,114,97,112]⟩⟩,⟨⟨[115,101,108,108]⟩⟩]=false by kernel_rfl,show oO [⟨⟨[99,104,101,115,116]⟩⟩]=false by kernel_rfl,show oO [⟨⟨[115,97,108,101]⟩⟩]=false by kernel_rfl]
  simp only[Bool.or_false]
  rw[<-Qj]
  unfold oO
  rw[List.any_map,List.not_all_eq_any_not]
  rfl
 have h5:(((gC s).map It.nm).take 5).Nodup:=Ks
 have ht:tR s 4=Kf (aj.map It.nm) s:=by
  show(pR ((gC s).map It.nm) 6||(pR _ 5||(pR _ 1||(pR _ 1||false))))=_
  rw[tA (n:=5) (by simp only[List.take,List.nodup_cons,adp,List.not_mem_nil,or_false];decide),tA (n:=1) (by simp),tA (n:=1) (by simp)]
  simp only[Bool.or_false]
  show(pR ((gC s).map It.nm) 5||Kf (aj.map It.nm) s)=_
  rw[tA h5];rfl
 rw[hw,ht]
 unfold vN
 cases iw s<;>rfl
abbrev AmL:=List (Int×Int)
def Qm:List AmL:=[[],[(1,4),(2,3)],[],[(1,2),(2,1)],[(3,1)],[(1,1)],[(3,3)],[(4,1)],[],[(4,1)],[(3,3)],[],[(3,1)],[(0,7)],[],[(0,10)],[(3,2)]]
def C1(l:AmL):DV:=.sl 2 (l.map fun p=>.agg [I p.1,I p.2])
def C2(s:ByteArray):List AV:=[.dv (.sl 7 ((gC s).map fT)),.dv eN,.dv iE,.dv fc]
def FN:AmL->Bool
 |[]=>true
 |[p]=>decide (0<=p.1)&&(decide (p.1<5)&&(decide (1<=p.2)&&decide (p.2<=1099511627776)))
 |p::q::l=>(decide (0<=p.1)&&(decide (p.1<5)&&(decide (1<=p.2)&&decide (p.2<=1099511627776))))&&(decide (p.1<q.1)&&FN (q::l))
theorem C3:∀{l:AmL} {k:Nat} {x:Int×Int},FN l=true->l[k]?=some x->(0<=x.1/\x.1<5/\1<=x.2/\x.2<=1099511627776)/\(0<k->∃y,l[k-1]?=some y/\y.1<x.1)
 |[p],0,x,h,hx=>by
  simp only[FN,adT,decide_eq_true_eq]at h
  injection hx with hx;subst hx
  exact⟨h,fun h=>absurd h (Nat.lt_irrefl 0)⟩
 |[p],k+1,x,h,hx=>by cases hx
 |p::q::l,0,x,h,hx=>by
  simp only[FN,adT,decide_eq_true_eq]at h
  injection hx with hx;subst hx
  exact⟨h.1,fun h=>absurd h (Nat.lt_irrefl 0)⟩
 |p::q::l,1,x,h,hx=>by
  simp only[FN,adT,decide_eq_true_eq]at h
  have:=C3 (l:=q::l) (k:=0) h.2.2 hx
  injection hx with hx;subst hx
  exact⟨this.1,fun _=>⟨p,rfl,h.2.1⟩⟩
 |p::q::l,k+2,x,h,hx=>by
  simp only[FN,adT,decide_eq_true_eq]at h
  have:=C3 (l:=q::l) (k:=k+1) h.2.2 hx
  exact⟨this.1,fun _=>this.2 (Nat.succ_pos _)⟩
theorem aa1:(DV.sl 1 (Qm.map fun l=>if l=[]then .aH else C1 l)).Le (.sl 1 (Qm.map C1)):=by
 refine DV.Vt rfl fun i x y hx hy=>?_
 rw[adk]at hx hy
 cases h:Qm[i]? with
 |none=>rw[h]at hx;cases hx
 |some l=>
  rw[h]at hx hy
  simp only[Option.map_some,Option.some.injEq]at hx hy
  subst hx;subst hy
  refine⟨?_,fun d hd=>by simp[C1,DV.cells]at hd;subst hd;rfl⟩
  by_cases e:l=[]
  ·subst e;exact⟨DV.aY 2,tv⟩
  ·rw[if_neg e];exact kV.refl _
variable [aW]
theorem Mu(s:ByteArray):∀x∈gC s,ai Tryz.prog 58 [fT x] [I 0]:=by
 intro x hx
 simp only[gC,aj,List.cons_append,List.nil_append,adp,List.not_mem_nil,or_false]at hx
 rcases hx with rfl|rfl|rfl|rfl|rfl|rfl<;>exact ar (pol:=dB) (fuel:=1000) aG mixed az (by kernel_rfl)
theorem Iz(s:ByteArray):ai Tryz.prog 62 [bK (gC s)] [.sl 1 (Qm.map fun l=>if l=[]then .aH else C1 l)]:=ar (pol:=dB) (fuel:=1000) aG mixed az (by kernel_rfl)
def ruL:List DV:=match eN with
 |.sl _ l=>l
 |_=>[]
theorem Mv:∀x∈ruL,ai Tryz.prog 59 [x] [B false,B false,B false]:=by
 intro x hx
 simp only[ruL,eN,adp,List.not_mem_nil,or_false]at hx
 rcases hx with rfl|rfl|rfl|rfl|rfl
 all_goals exact ar (pol:=dB) (fuel:=1000) aG mixed az (by kernel_rfl)
def taL:List DV:=match iE with
 |.sl _ l=>l
 |_=>[]
theorem Mw:∀x∈taL,ai Tryz.prog 60 [x] [B false,B false,B false]:=by
 intro x hx
 obtain rfl:=ado.1 hx
 exact ar (pol:=dB) (fuel:=1000) aG mixed az (by kernel_rfl)
def txL:List DV:=match fc with
 |.sl _ l=>l
 |_=>[]
theorem Mx:∀x∈txL,ai Tryz.prog 61 [x] [B false,B false,B false]:=by
 intro x hx
 obtain rfl:=ado.1 hx
 exact ar (pol:=dB) (fuel:=1000) aG mixed az (by kernel_rfl)
theorem C4(s:ByteArray):ai Tryz.prog 20 [bK (gC s)] [I (vN s)]:=by
 refine pO Tryz.func20 rfl (by kernel_rfl) rfl ?_
 repeat refine gG ?_
 refine .inl ⟨[nmD s],fun _=>(HS s).ok,?_⟩
 refine⟨Nat,fun i=>⟨1,[(1,.ptr 0 0),(3,.dv (B false)),(4,.dv (B (Mt s i))),(5,.dv (B (tR s i))),(6,.dv (B false)),(7,.dv (B false)),(8,.dv (nmD s)),(9,.dv (I i))],[(0,.cells (C2 s))]⟩,fun i=>i<=4,fun i=>4-i,0,fun _=>rfl,jn rfl rfl rfl rfl,adx _,?_⟩
 intro i hi
 refine adh (fun h=>?_) fun h=>?_
 ·have aB:i<4:=by have:=adz h;omega
  obtain⟨row,pS⟩:∃l,(UC s)[i]?=some l:=⟨_,abK (by simp[UC];omega)⟩
  have My:((UC s).map fun l=>DV.sl 1 (l.map DV.str))[(i:Int).toNat]?=some (.sl 1 (row.map DV.str)):=by rw[adk];simp[pS]
  have SR:row.length<=6:=by
   have:∀l∈UC s,l.length<=6:=by simp[UC,gC,aj]
   exact this _ (adl pS)
  have lr:(row.map DV.str).length=row.length:=adi ..
  have Nv:Mt s (i+1)=(Mt s i||oO row):=by unfold Mt;rw[ads,pS,List.any_append];simp
  have ht1:tR s (i+1)=(tR s i||pR row row.length):=by unfold tR;rw[ads,pS,List.any_append];simp
  refine⟨Nat,fun k=>⟨1,[(1,.ptr 0 0),(3,.dv (B false)),(4,.dv (B (Mt s i||oO (row.take k)))),(5,.dv (B (tR s i||pR row k))),(6,.dv (B false)),(7,.dv (B false)),(8,.dv (nmD s)),(9,.dv (I i)),(10,.dv (I k))],[(0,.cells (C2 s))]⟩,fun k=>k<=row.length,fun k=>row.length-k,0,fun _=>rfl,jn (by simp only[oO,List.take_zero,List.any_nil,Bool.or_false,pR];rfl) rfl rfl rfl,adx _,?_⟩
  intro k hk
  refine⟨_,fun _=>⟨by omega,My⟩,adh (fun h=>?_) fun h=>?_⟩
  ·have SX:k<row.length:=by have:=adz h;omega
   obtain⟨x,hx⟩:∃x,row[k]?=some x:=⟨_,abK SX⟩
   have ix:(row.map DV.str)[(k:Int).toNat]?=some (.str x):=by rw[adk];simp[hx]
   have ji:oO (row.take (k+1))=(oO (row.take k)|| !iw x):=by unfold oO;rw[ads,hx,List.any_append];simp
   have VB:pR row (k+1)=(pR row k||Kf (row.take k) x):=by simp only[pR,hx]
   have dz:=UB (row.take k) x (by rw[adD];omega)
   generalize hW:(Mt s i||oO (row.take k))=W
   generalize hT:(tR s i||pR row k)=T
   have io:∀{p:Prop},p->(0:Int)<=i/\((UC s).map fun l=>DV.sl 1 (l.map DV.str))[(i:Int).toNat]?=some (.sl 1 (row.map DV.str)):=fun _=>⟨by omega,My⟩
   have ixo:∀{p:Prop},p->(0:Int)<=k/\(row.map DV.str)[(k:Int).toNat]?=some (.str x):=fun _=>⟨by omega,ix⟩
   repeat refine gG ?_
   refine⟨_,io,?_⟩
   repeat refine gG ?_
   refine⟨_,ixo,?_⟩
   repeat refine gG ?_
   refine .inl ⟨_,fun _=>(Ms x).ok,?_⟩
   repeat refine gG ?_
   refine⟨_,io,?_⟩
   repeat refine gG ?_
   refine⟨fun _=>⟨by show(0:Int)<=0;omega,by show(0:Int)<=k;omega,by show(k:Int)<=(((row.map DV.str).length:Nat):Int);omega⟩,?_⟩
   repeat refine gG ?_
   refine⟨_,io,?_⟩
   repeat refine gG ?_
   refine⟨_,ixo,?_⟩
   repeat refine gG ?_
   refine .inl ⟨[B (Kf (row.take k) x)],fun _=>⟨[.sl 1 ((row.take k).map DV.str),.str x],⟨DV.Le.of_eq (by show DV.sl 1 (((row.map DV.str).take k).drop 0)=_;rw[List.drop_zero,<-List.map_take]),rf,tv⟩,dz⟩,?_⟩
   repeat refine gG ?_
   have e3:(bif W then true else !iw x)=(Mt s i||oO (row.take (k+1))):=by rw[ji,<-Bool.or_assoc,hW];cases W<;>rfl
   have e4:(bif T then true else Kf (row.take k) x)=(tR s i||pR row (k+1)):=by rw[VB,<-Bool.or_assoc,hT];cases T<;>rfl
   refine⟨by kernel_rfl,fun _=>by omega,k+1,jn (by simp only[e3,e4];rfl) rfl rfl rfl,SX,by dsimp only;omega⟩
  ·have SX:k=row.length:=by have:=adA h;omega
   subst SX
   have e1:(Mt s i||oO (row.take row.length))=Mt s (i+1):=by rw[ady,Nv]
   refine⟨fun _=>by omega,i+1,jn (by simp only[e1,<-ht1];rfl) rfl rfl rfl,aB,by dsimp only;omega⟩
 ·have he:i=4:=by have:=adA h;omega
  subst he
  have hV:vN s=if Mt s 4=true then 6 else if tR s 4=true then 8 else 0:=aa0 s
  generalize Mt s 4=W at hV
  generalize tR s 4=T at hV
  refine⟨Nat,fun i=>⟨1,[(1,.ptr 0 0),(3,.dv (B false)),(4,.dv (B W)),(5,.dv (B T)),(6,.dv (B false)),(7,.dv (B false)),(11,.dv (I i))],[(0,.cells (C2 s))]⟩,fun i=>i<=6,fun i=>6-i,0,fun _=>rfl,jn rfl rfl rfl rfl,adx _,?_⟩
  intro i hi
  refine adh (fun h=>?_) fun h=>?_
  ·have aB:i<6:=by have:=adz h;simp[gC,aj]at this;omega
   clear h
   rcases(by omega:i=0\/i=1\/i=2\/i=3\/i=4\/i=5)with rfl|rfl|rfl|rfl|rfl|rfl
   all_goals
    refine⟨_,fun _=>⟨by decide,rfl⟩,?_⟩
    refine .inl ⟨[I 0],fun _=>(Mu s _ (by simp[gC,aj])).ok,?_⟩
    repeat refine gG ?_
    exact⟨fun _=>⟨by decide,by decide⟩,_,jn rfl rfl rfl rfl,by decide,by decide⟩
  ·have he:i=6:=by have:=adA h;simp[gC,aj]at this;omega
   subst he
   refine⟨Nat,fun i=>⟨1,[(1,.ptr 0 0),(3,.dv (B false)),(4,.dv (B W)),(5,.dv (B T)),(6,.dv (B false)),(7,.dv (B false)),(14,.dv (I i))],[(0,.cells (C2 s))]⟩,fun i=>i<=5,fun i=>5-i,0,fun _=>rfl,jn rfl rfl rfl rfl,adx _,?_⟩
   intro i hi
   refine adh (fun h=>?_) fun h=>?_
   ·have aB:i<5:=by have h2:=adz h;have:(i:Int)<5:=h2;omega
    clear h
    rcases(by omega:i=0\/i=1\/i=2\/i=3\/i=4)with rfl|rfl|rfl|rfl|rfl
    all_goals
     refine⟨_,fun _=>⟨by decide,rfl⟩,?_⟩
     refine .inl ⟨_,fun _=>(Mv _ (by simp[ruL,eN])).ok,?_⟩
     repeat refine gG ?_
     exact⟨fun _=>⟨by decide,by decide⟩,_,jn rfl rfl rfl rfl,by decide,by decide⟩
   ·have he:i=5:=by have h2:=adA h;have:¬(i:Int)<5:=h2;omega
    subst he
    refine⟨Nat,fun i=>⟨1,[(1,.ptr 0 0),(3,.dv (B false)),(4,.dv (B W)),(5,.dv (B T)),(6,.dv (B false)),(7,.dv (B false)),(18,.dv (I i))],[(0,.cells (C2 s))]⟩,fun i=>i<=1,fun i=>1-i,0,fun _=>rfl,jn rfl rfl rfl rfl,adx _,?_⟩
    intro i hi
    refine adh (fun h=>?_) fun h=>?_
    ·have aB:i=0:=by have h2:=adz h;have:(i:Int)<1:=h2;omega
     subst aB
     clear h
     refine⟨_,fun _=>⟨by decide,rfl⟩,?_⟩
     refine .inl ⟨_,fun _=>(Mw _ (by simp[taL,iE])).ok,?_⟩
     repeat refine gG ?_
     exact⟨fun _=>⟨by decide,by decide⟩,_,jn rfl rfl rfl rfl,by decide,by decide⟩
    have he:i=1:=by have h2:=adA h;have:¬(i:Int)<1:=h2;omega
    subst he
    refine⟨Nat,fun i=>⟨1,[(1,.ptr 0 0),(3,.dv (B false)),(4,.dv (B W)),(5,.dv (B T)),(6,.dv (B false)),(7,.dv (B false)),(22,.dv (I i))],[(0,.cells (C2 s))]⟩,fun i=>i<=1,fun i=>1-i,0,fun _=>rfl,jn rfl rfl rfl rfl,adx _,?_⟩
    intro i hi
    refine adh (fun h=>?_) fun h=>?_
    ·have aB:i=0:=by have h2:=adz h;have:(i:Int)<1:=h2;omega
     subst aB
     clear h
     refine⟨_,fun _=>⟨by decide,rfl⟩,?_⟩
     refine .inl ⟨_,fun _=>(Mx _ (by simp[txL,fc])).ok,?_⟩
     repeat refine gG ?_
     exact⟨fun _=>⟨by decide,by decide⟩,_,jn rfl rfl rfl rfl,by decide,by decide⟩
    have he:i=1:=by have h2:=adA h;have:¬(i:Int)<1:=h2;omega
    subst he
    refine .inl ⟨_,fun _=>(Iz s).ok,?_⟩
    refine⟨Nat,fun i=>⟨1,[(1,.ptr 0 0),(3,.dv (B false)),(4,.dv (B W)),(5,.dv (B T)),(6,.dv (B false)),(7,.dv (B false)),(26,.dv (.sl 1 (Qm.map C1))),(27,.dv (I i))],[(0,.cells (C2 s))]⟩,fun i=>i<=17,fun i=>17-i,0,fun _=>rfl,?_,adx _,?_⟩
    ·refine⟨⟨rfl,rf,rf,rf,rf,rf,?_,rf,tv⟩,bl (k:=[(0,.cells (C2 s))]) rfl,rfl,rfl⟩
     exact aa1
    intro i hi
    have hal:(Qm.map C1).length=17:=rfl
    refine adh (fun h=>?_) fun h=>?_
    ·have aB:i<17:=by have h2:=adz h;have:(i:Int)<17:=h2;omega
     clear h
     obtain⟨row,pS⟩:∃l,Qm[i]?=some l:=⟨_,abK aB⟩
     have My:(Qm.map C1)[(i:Int).toNat]?=some (C1 row):=by rw[adk];simp[pS]
     have SR:row.length<=10:=by
      have:(Qm.all fun l=>decide (l.length<=10))=true:=by kernel_rfl
      exact adz (adH.1 this _ (adl pS))
     have hrp:FN row=true:=by
      have:(Qm.all FN)=true:=by kernel_rfl
      exact adH.1 this _ (adl pS)
     have lr:(row.map fun p:Int×Int=>DV.agg [I p.1,I p.2]).length=row.length:=adi ..
     refine⟨Nat,fun k=>⟨1,[(1,.ptr 0 0),(3,.dv (B false)),(4,.dv (B W)),(5,.dv (B T)),(6,.dv (B false)),(7,.dv (B false)),(26,.dv (.sl 1 (Qm.map C1))),(27,.dv (I i)),(28,.dv (I k))],[(0,.cells (C2 s))]⟩,fun k=>k<=row.length,fun k=>row.length-k,0,fun _=>rfl,jn rfl rfl rfl rfl,adx _,?_⟩
     intro k hk
     refine⟨_,fun _=>⟨by omega,My⟩,adh (fun h=>?_) fun h=>?_⟩
     ·have SX:k<row.length:=by have:=adz h;omega
      clear h
      obtain⟨x,hx⟩:∃x,row[k]?=some x:=⟨_,abK SX⟩
      have ix:(row.map fun p:Int×Int=>DV.agg [I p.1,I p.2])[(k:Int).toNat]?=some (.agg [I x.1,I x.2]):=by rw[adk];simp[hx]
      have ND:=C3 hrp hx
      refine⟨_,fun _=>⟨by omega,My⟩,_,fun _=>⟨by omega,ix⟩,?_⟩
      obtain⟨y,hy⟩:∃y:Int×Int,0<k->row[k-1]?=some y/\y.1<x.1:=by
       by_cases h0:0<k
       ·obtain⟨y,h1,h2⟩:=ND.2 h0;exact⟨y,fun _=>⟨h1,h2⟩⟩
       ·exact⟨x,fun h=>absurd h h0⟩
      have e5:(bif (bif (bif false then true else decide (x.1<0))then true else decide ((((gC s).map fT).length:Int)<=x.1))then true else(bif decide ((0:Int)<k)then decide (x.1<=y.1)else false))=false:=by
       rw[show(((gC s).map fT).length:Int)=6 from rfl,adG (by omega),adG (by omega)]
       show(bif decide ((0:Int)<k)then decide (x.1<=y.1)else false)=false
       by_cases h0:0<k
       ·rw[adG (show¬x.1<=y.1 by have:=(hy h0).2;omega)];cases decide ((0:Int)<k)<;>rfl
       ·rw[adG (show¬(0:Int)<k by omega)];rfl
      have e6:(bif (bif false then true else decide (x.2<1))then true else decide (1099511627776<x.2))=false:=by
       rw[adG (by omega),adG (by omega)];rfl
      have Ep:∀{a:Bool},(a&&bw (decide ((0:Int)<k)) true)=true->0<k:=fun {a} h=>by
       have:=adz (gL ((adT _ _).mp h).2);omega
      repeat refine gG ?_
      refine⟨_,fun _=>⟨by omega,My⟩,?_⟩
      repeat refine gG ?_
      refine⟨fun _=>by omega,?_⟩
      repeat refine gG ?_
      refine⟨.agg [I y.1,I y.2],fun h=>⟨by have:=Ep h;omega,?_⟩,?_⟩
      ·have h0:=Ep h
       rw[adk,show((k:Int)-1).toNat=k-1 by omega,(hy h0).1];rfl
      repeat refine gG ?_
      refine⟨by kernel_rfl,?_⟩
      repeat refine gG ?_
      exact⟨fun _=>by omega,k+1,jn (by simp only[e5,e6];rfl) rfl rfl rfl,SX,by dsimp only;omega⟩
     ·have SX:k=row.length:=by have:=adA h;omega
      subst SX
      refine⟨fun _=>by omega,i+1,jn rfl rfl rfl rfl,aB,by dsimp only;omega⟩
    ·have he:i=17:=by have h2:=adA h;have:¬(i:Int)<17:=h2;omega
     subst he
     refine .inl ⟨[B false,B W,B T,B false,B false],rfl,⟨rf,rf,rf,rf,rf,tv⟩,(fun x hx=>by simp only[adp,List.not_mem_nil,or_false]at hx;rcases hx with rfl|rfl|rfl|rfl|rfl<;>rfl),?_⟩
     refine .inl ⟨[I 4,I 6,I 8,I 1,I 5],rfl,⟨rf,rf,rf,rf,rf,tv⟩,(fun x hx=>by simp only[adp,List.not_mem_nil,or_false]at hx;rcases hx with rfl|rfl|rfl|rfl|rfl<;>rfl),?_⟩
     refine⟨Nat,fun i=>⟨1,[(30,.dv (.sl 1 [B false,B W,B T,B false,B false])),(31,.dv (.sl 1 [I 4,I 6,I 8,I 1,I 5])),(32,.dv (I i))],[]⟩,fun i=>i<=5/\(2<=i->W=false)/\(3<=i->T=false),fun i=>5-i,0,fun _=>rfl,jn rfl rfl rfl rfl,⟨adx _,fun h=>by omega,fun h=>by omega⟩,?_⟩
     rintro i ⟨hi,i2,i3⟩
     refine adh (fun h=>?_) fun h=>?_
     ·have aB:i<5:=by have h2:=adz h;have:(i:Int)<5:=h2;omega
      clear h
      rcases(by omega:i=0\/i=1\/i=2\/i=3\/i=4)with rfl|rfl|rfl|rfl|rfl
      ·refine⟨_,fun _=>⟨by decide,rfl⟩,adh (fun h=>by cases h) fun h=>?_⟩
       exact⟨fun _=>⟨by decide,by decide⟩,_,jn rfl rfl rfl rfl,⟨by decide,fun h=>absurd h (by decide),fun h=>absurd h (by decide)⟩,by decide⟩
      ·refine⟨_,fun _=>⟨by decide,rfl⟩,adh (fun h=>?_) fun h=>?_⟩
       ·rw[hV,if_pos h]
        exact⟨_,fun _=>⟨by decide,rfl⟩,rf,tv⟩
       ·exact⟨fun _=>⟨by decide,by decide⟩,_,jn rfl rfl rfl rfl,⟨by decide,fun _=>h,fun h=>absurd h (by decide)⟩,by decide⟩
      ·refine⟨_,fun _=>⟨by decide,rfl⟩,adh (fun h=>?_) fun h=>?_⟩
       ·have hW:=i2 (by decide)
        rw[hV,if_neg (by rw[hW];decide),if_pos h]
        exact⟨_,fun _=>⟨by decide,rfl⟩,rf,tv⟩
       ·exact⟨fun _=>⟨by decide,by decide⟩,_,jn rfl rfl rfl rfl,⟨by decide,fun _=>i2 (by decide),fun _=>h⟩,by decide⟩
      ·refine⟨_,fun _=>⟨by decide,rfl⟩,adh (fun h=>by cases h) fun h=>?_⟩
       exact⟨fun _=>⟨by decide,by decide⟩,_,jn rfl rfl rfl rfl,⟨by decide,fun _=>i2 (by decide),fun _=>i3 (by decide)⟩,by decide⟩
      ·refine⟨_,fun _=>⟨by decide,rfl⟩,adh (fun h=>by cases h) fun h=>?_⟩
       exact⟨fun _=>⟨by decide,by decide⟩,_,jn rfl rfl rfl rfl,⟨by decide,fun _=>i2 (by decide),fun _=>i3 (by decide)⟩,by decide⟩
     ·have he:i=5:=by have h2:=adA h;have:¬(i:Int)<5:=h2;omega
      subst he
      rw[hV,if_neg (by rw[i2 (by omega)];decide),if_neg (by rw[i3 (by omega)];decide)]
      exact⟨rf,tv⟩
end Go.Proofs.YtfpebgpgabjieaaGreatDoor
