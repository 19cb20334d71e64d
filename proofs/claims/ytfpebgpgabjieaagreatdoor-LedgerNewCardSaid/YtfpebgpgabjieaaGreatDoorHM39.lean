import Derived.Test.YtfpebgpgabjieaaGreatDoorHM38
import Derived.Test.YtfpebgpgabjieaaGreatDoorHM29
import Derived.Test.YtfpebgpgabjieaaGreatDoorHM31
import Derived.Test.YtfpebgpgabjieaaGreatDoorHM30
set_option linter.all false
open Go.TM.oA Go.TM.oB Go.TM.oC Go.TM.oD Go.TM.oE
namespace Go.Proofs.YtfpebgpgabjieaaGreatDoor
set_option maxRecDepth 100000
set_option maxHeartbeats 4000000
section
open Go.TM
theorem I1:∀{l:List Int},(∀x∈l,0<=x/\x<=1099511627776)->0<=l.sum/\l.sum<=1099511627776*l.length
 |[],_=>by simp
 |x::l,h=>by
  have h1:=h x adu
  have h2:=I1 fun y hy=>h y (adq x hy)
  simp only[List.sum_cons,List.length_cons]at*
  omega
theorem Rq{l:List Int}{i:Nat}{x:Int}(h:l[i]?=some x):(l.take (i+1)).sum=(l.take i).sum+x:=by
 rw[ads,h,List.sum_append];simp
theorem xb{l:List Int}(h:∀x∈l,0<=x/\x<=1099511627776)(hl:l.length<=5000)(i:Nat):0<=(l.take i).sum/\(l.take i).sum<=5497558138880000:=by
 have:=I1 fun x hx=>h x (List.mem_of_mem_take (i:=i) hx)
 have h2:(l.take i).length<=5000:=by rw[adD];omega
 omega
def D8(l:List DV)(z:DV)(i:Nat):List DV:=l.take i++List.replicate (l.length-i) z
theorem zg{l:List DV}{z x:DV}{i:Nat}(h:l[i]?=some x):(D8 l z i).set i x=D8 l z (i+1):=by
 have hi:=(adj.1 h).1
 unfold D8
 have:l.length-i=(l.length-(i+1))+1:=by omega
 rw[List.set_append,if_neg (by rw[adD];omega),ads,h,this,List.replicate_succ]
 simp[Nat.min_eq_left (Nat.le_of_lt hi)]
theorem DC{l:List DV}{z:DV}{i:Nat}(h:i<=l.length):(D8 l z i).length=l.length:=by simp[D8];omega
theorem DD{l:List DV}{z:DV}{i:Nat}(h:i<l.length):(D8 l z i)[i]?=some z:=by
 unfold D8
 rw[List.getElem?_append_right (by rw[adD];omega),List.getElem?_replicate,if_pos (by simp;omega)]
theorem KR:∀{W:List Nat} {w:Nat},w∈W->w<=W.sum
 |a::l,w,h=>by
  rw[List.sum_cons]
  rcases adp.1 h with rfl|h
  ·omega
  ·have:=KR h;omega
theorem Rr{rs:List Int}{o o':List Nat}(h:Ord rs o)(h':Ord rs o'):o'=o:=by
 refine List.ext_getElem (by rw[h.len,h'.len]) fun k h1 h2=>?_
 have e1:=h'.LJ (abK h1)
 have hm:o'[k]∈o:=h.perm.mem_iff.2 (h'.perm.mem_iff.1 (adP h1))
 obtain⟨j,hj,e⟩:=List.getElem_of_mem hm
 have e2:=h.LJ (abK hj)
 rw[e,e1]at e2
 subst e2
 exact e.symm
theorem pW:∀W:List Nat,(W.map fun w:Nat=>(w:Int)).sum=((W.sum:Nat):Int)
 |[]=>rfl
 |a::l=>by simp only[List.map_cons,List.sum_cons,pW l];omega
theorem DE{l:List DV}{z:DV}{n:Nat}(h:n=l.length):D8 l z n=l:=by subst h;simp[D8]
variable [aW]
theorem MR(T:Nat)(W:List Nat)(hT:T<=1099511627776)(hW:∀w∈W,w<=1099511627776)(hl:W.length<=5000)(h0:0<W.sum):ai Tryz.prog 244 [I T,.sl 1 (W.map fun w:Nat=>I w)] [Ints (zL T (W.map fun w:Nat=>(w:Int))),I 0]:=by
 obtain⟨ws,NM⟩:∃ws,ws=W.map fun w:Nat=>(w:Int):=⟨_,rfl⟩
 have hwl:ws.length=W.length:=by rw[NM,adi]
 have ll:(W.map fun w:Nat=>I w).length=W.length:=adi ..
 have G8:∀x∈ws,0<=x/\x<=1099511627776:=fun x hx=>by
  rw[NM]at hx
  obtain⟨w,hw,rfl⟩:=adK.1 hx
  have:=hW w hw
  omega
 rw[<-NM]
 refine pO Tryz.func244 rfl (by kernel_rfl) rfl ?_
 refine .inl ⟨_,fun _=>(mo T).ok,?_⟩
 repeat refine gG ?_
 refine adh (fun h=>?_) fun _=>?_
 ·simp at h;omega
 refine⟨Nat,fun i=>⟨0,[(0,.dv (I T)),(1,.dv (.sl 1 (W.map fun w:Nat=>I w))),(6,.dv (I (ws.take i).sum)),(21,.dv (.sl 1 (W.map fun w:Nat=>I w))),(22,.dv (I W.length)),(23,.dv (I i))],[]⟩,fun i=>i<=W.length,fun i=>W.length-i,0,fun _=>rfl,jn (by simp only[ll];rfl) rfl rfl rfl,adx _,?_⟩
 rintro i hi
 have b1:=xb G8 (by omega) i
 refine adh (fun h=>?_) fun h=>?_
 ·have aB:i<W.length:=by have:=adz h;omega
  obtain⟨w,hw⟩:∃w,W[i]?=some w:=⟨_,abK aB⟩
  have hwi:ws[i]?=some (w:Int):=by rw[NM,adk,hw];rfl
  have hb:=G8 _ (adl hwi)
  have fM:=Rq hwi
  have b2:=xb G8 (by omega) (i+1)
  refine⟨I w,fun _=>⟨by omega,by rw[adk];simp[hw]⟩,?_⟩
  refine .inl ⟨_,fun _=>(mo w).ok,?_⟩
  refine adh (fun h=>?_) fun _=>?_
  ·simp at h;omega
  refine⟨fun _=>by omega,?_⟩
  refine adh (fun h=>?_) fun _=>?_
  ·have:=adz h;omega
  exact⟨fun _=>by omega,i+1,jn (by simp only[fM];rfl) rfl rfl rfl,aB,mlt aB⟩
 have he:i=W.length:=by have:=adA h;omega
 subst he
 rw[<-hwl,ady]
 have X8:ws.sum≠0:=by
  rw[NM,pW]
  omega
 refine adh (fun h=>absurd (beq_iff_eq.1 h) X8) fun _=>?_
 have Ad:∀{n:Nat},n<=5000->(n:Int)*(8:Nat)<=140737488355328:=fun h=>by omega
 have e22:(nth jk (nth jk 22).elem).bytes=8:=by kernel_rfl
 have acr:(nth jk (nth jk 154).elem).bytes=8:=by kernel_rfl
 refine⟨I 0,⟨rf,tv⟩,by omega,by omega,by rw[e22,ll];exact Ad hl,by omega,false,(fun h=>by cases h),?_⟩
 refine⟨U 0,⟨rf,tv⟩,by omega,by omega,by rw[acr,ll];exact Ad hl,by omega,false,(fun h=>by cases h),?_⟩
 refine⟨I 0,⟨rf,tv⟩,by omega,by omega,by rw[e22,ll];exact Ad hl,by omega,false,(fun h=>by cases h),?_⟩
 obtain⟨qs,Xw⟩:∃qs,qs=W.map fun w:Nat=>((T*w/W.sum:Nat):Int):=⟨_,rfl⟩
 obtain⟨rs,zI⟩:∃rs,rs=W.map fun w:Nat=>T*w%W.sum:=⟨_,rfl⟩
 have lq:qs.length=W.length:=by rw[Xw,adi]
 have lr:rs.length=W.length:=by rw[zI,adi]
 have lqm:(qs.map I).length=W.length:=by rw[adi,lq]
 have lrm:(rs.map U).length=W.length:=by rw[adi,lr]
 have lix:(idx W.length).length=W.length:=by simp[idx]
 have abo:∀w∈W,w<=W.sum:=fun w hw=>KR hw
 have hS:W.sum<1152921504606846976:=by
  have:=I1 G8
  rw[NM,pW,<-NM]at this
  omega
 have Wv:∀x∈qs,0<=x/\x<=1099511627776:=fun x hx=>by
  rw[Xw]at hx
  obtain⟨w,hw,rfl⟩:=adK.1 hx
  have:T*w/W.sum<=T:=Nat.div_le_of_le_mul (by rw[Nat.mul_comm W.sum];exact Nat.mul_le_mul_left T (abo w hw))
  generalize T*w/W.sum=z at*
  omega
 have z1:D8 (qs.map I) (I 0) 0=List.replicate W.length (I 0):=by simp[D8,lq]
 have z2:D8 (rs.map U) (U 0) 0=List.replicate W.length (U 0):=by simp[D8,lr]
 have z3:D8 (idx W.length) (I 0) 0=List.replicate W.length (I 0):=by simp[D8,lix]
 have WK:ws.sum=((W.sum:Nat):Int):=by rw[NM,pW]
 refine⟨Nat,fun i=>⟨4,[(0,.dv (I T)),(1,.dv (.sl 1 (W.map fun w:Nat=>I w))),(6,.dv (I W.sum)),(9,.own 0 0 0 []),(10,.ptr 2 0),(11,.own 3 0 0 []),(12,.dv (I (T-(qs.take i).sum))),(49,.dv (I W.length)),(50,.dv (I i))],[(0,.tree 0 0 (.aI 1 (D8 (qs.map I) (I 0) i))),(1,.tree 0 0 (.aI 1 (D8 (rs.map U) (U 0) i))),(2,.cells [.own 1 0 0 []]),(3,.tree 0 0 (.aI 1 (D8 (idx W.length) (I 0) i)))]⟩,fun i=>i<=W.length,fun i=>W.length-i,0,fun _=>rfl,jn (by simp only[ll,WK,List.take_zero,List.sum_nil,Int.sub_zero];rfl) (by simp only[z1,z2,z3,ll,Int.toNat_natCast];rfl) rfl rfl,adx _,?_⟩
 rintro i hi
 have b1:=xb Wv (by omega) i
 refine adh (fun h=>?_) fun h=>?_
 ·have aB:i<W.length:=by have:=adz h;omega
  obtain⟨w,hw⟩:∃w,W[i]?=some w:=⟨_,abK aB⟩
  have hwm:=adl hw
  have WQ:qs[i]?=some ((T*w/W.sum:Nat):Int):=by rw[Xw,adk,hw];rfl
  have hri:rs[i]?=some (T*w%W.sum):=by rw[zI,adk,hw];rfl
  have He:=DA T w W.sum hT (abo w hwm) h0 hS
  refine⟨I w,fun _=>⟨by omega,by rw[adk];simp[hw]⟩,?_⟩
  refine .inl ⟨_,fun _=>He.ok,?_⟩
  have hq1:=Wv _ (adl WQ)
  have wq:IntKind.i64.wrap ((T*w/W.sum:Nat):Int)=((T*w/W.sum:Nat):Int):=by
   generalize T*w/W.sum=z at*
   exact vQ (by omega)
  have Cu:(qs.map I)[i]?=some (I ((T*w/W.sum:Nat):Int)):=by rw[adk,WQ];rfl
  have To:(rs.map U)[i]?=some (U (T*w%W.sum)):=by rw[adk,hri];rfl
  have Wh:(idx W.length)[i]?=some (I (i:Nat)):=by unfold idx;rw[adk,List.getElem?_range aB];rfl
  have hsi:=Rq WQ
  have b2:=xb Wv (by omega) (i+1)
  have g1:=DD (l:=qs.map I) (z:=I 0) (i:=i) (by omega)
  have g2:=DD (l:=rs.map U) (z:=U 0) (i:=i) (by omega)
  have g3:=DD (l:=idx W.length) (z:=I 0) (i:=i) (by omega)
  have n1:=zg (z:=I 0) Cu
  have n2:=zg (z:=U 0) To
  have n3:=zg (z:=I 0) Wh
  have f1:=DC (l:=qs.map I) (z:=I 0) (i:=i) (by omega)
  have f2:=DC (l:=rs.map U) (z:=U 0) (i:=i) (by omega)
  have f3:=DC (l:=idx W.length) (z:=I 0) (i:=i) (by omega)
  generalize T*w/W.sum=q at*
  generalize T*w%W.sum=r at*
  refine⟨fun _=>⟨by omega,by rw[f1];omega⟩,[I q],⟨aM wq,tv⟩,I 0,by simpa using g1,?_⟩
  refine⟨fun _=>⟨by omega,by rw[f2];omega⟩,[U r],⟨rf,tv⟩,U 0,by simpa using g2,?_⟩
  refine⟨fun _=>⟨by omega,by rw[f3];omega⟩,[I i],⟨rf,tv⟩,I 0,by simpa using g3,?_⟩
  refine⟨by kernel_rfl,fun _=>⟨by rw[wq];omega,by rw[wq];omega⟩,fun _=>by omega,?_⟩
  have abp:(T:Int)-(qs.take i).sum-IntKind.i64.wrap (q:Int)=T-(qs.take (i+1)).sum:=by rw[wq,hsi];omega
  refine⟨i+1,jn (by simp only[abp];rfl) (by simp only[<-n1,<-n2,<-n3];rfl) rfl rfl,aB,mlt aB⟩
 have he:i=W.length:=by have:=adA h;omega
 subst he
 obtain⟨o,ho⟩:=HO (rs.map fun n:Nat=>(n:Int))
 have Uw:aw Tryz.prog 265 [.own 0 0 0 [],.fn 266 [.ptr 1 0]] 3 (U6 (idx rs.length) rs) 0 [] (U6 (o.map fun i:Nat=>I i) rs):=
  lY (Gn rs (fun e=>by rw[e]at lr;have:W=[]:=List.length_eq_zero_iff.1 lr.symm;rw[this]at h0;cases h0) (by omega)) fun r k ⟨h1,o',h2,h3⟩=>⟨h1,by rw[h3,Rr ho h2]⟩
 rw[DE lqm.symm,DE lrm.symm,DE lix.symm]
 rw[lr]at Uw
 refine .inr (cl [3,2,1] Uw (by kernel_rfl) rfl rfl ?_)
 have hqL:qL T ws.sum ws=qs:=by
  rw[Xw,WK,NM];unfold qL
  rw[List.map_map];exact List.map_congr_left fun w _=>by simp
 have hrL:rL T ws.sum ws=rs.map fun n:Nat=>(n:Int):=by
  rw[zI,WK,NM];unfold rL
  rw[List.map_map,List.map_map];exact List.map_congr_left fun w _=>by simp
 have oJ:=wU (t:=T) (ws:=ws) (by omega)
 have hcp:(rL T ws.sum ws).countP (fun x=>decide (0<x))<=(rL T ws.sum ws).length:=List.countP_le_length
 rw[hrL]at hcp oJ
 rw[adi,lr]at hcp
 have ns:zL T ws=(o.take (gf T ws.sum ws).toNat).foldl kE qs:=by
  unfold zL
  rw[hrL,hqL]
  exact(yk ho (by rw[adi,lq,lr]) _).symm
 rw[ns]
 have hlm:(T:Int)-(qs.take W.length).sum=((gf T ws.sum ws).toNat:Nat):=by
  rw[show qs.take W.length=qs by rw[<-lq,ady]]
  have:gf T ws.sum ws=T-qs.sum:=by unfold gf;rw[hqL]
  omega
 have hm:(gf T ws.sum ws).toNat<=W.length:=by omega
 have Xx:o.length=W.length:=by rw[ho.len,adi,lr]
 generalize (gf T ws.sum ws).toNat=m at*
 rw[hlm]
 refine⟨Nat,fun i=>⟨4,[(9,.own 0 0 0 []),(11,.own 3 0 0 []),(85,.dv (I m)),(86,.dv (I i))],[(0,.tree 0 0 (.aI 1 (((o.take i).foldl kE qs).map I))),(3,.tree 0 0 (.aI 1 (o.map fun i:Nat=>I i)))]⟩,fun i=>i<=m,fun i=>m-i,0,fun _=>rfl,jn rfl rfl rfl rfl,adx _,?_⟩
 rintro i hi
 have dz:∀j∈o.take i,j<qs.length:=fun j hj=>by
  have:=ho.perm.mem_iff.1 (List.mem_of_mem_take hj)
  rw[adL,adi,lr]at this;omega
 obtain⟨p1,p2⟩:=yi (o.take i) qs (ho.nodup.sublist (List.take_sublist i o)) dz
 refine adh (fun h=>?_) fun h=>?_
 ·have aB:i<m:=by have:=adz h;omega
  obtain⟨k,hk⟩:∃k,o[i]?=some k:=⟨_,abK (show i<o.length by omega)⟩
  have hkn:k<W.length:=by
   have:=ho.perm.mem_iff.1 (adl hk)
   rw[adL,adi,lr]at this;omega
  have fM:(o.take (i+1)).foldl kE qs=kE ((o.take i).foldl kE qs) k:=by
   rw[ads,hk,adI];rfl
  have hv:=p2 k
  have hqk:0<=qs.getD k 0/\qs.getD k 0<=1099511627776:=by
   rw[adn,abK (by omega)]
   exact Wv _ (adP _)
  generalize (o.take i).foldl kE qs=ps at*
  have SY:0<=ps.getD k 0/\ps.getD k 0<=1099511627777:=by rw[hv];split<;>omega
  have gk:(ps.map I)[((k:Int)).toNat]?=some (I (ps.getD k 0)):=by
   rw[adk,Int.toNat_natCast,adn,abK (by omega)];rfl
  have ac8:(o.map fun i:Nat=>I i).length=o.length:=adi ..
  have K8:(ps.map I).length=ps.length:=adi ..
  refine⟨fun _=>by omega,I k,fun _=>by rw[adk,Int.toNat_natCast,hk];rfl,?_⟩
  refine⟨fun _=>by omega,I (ps.getD k 0),fun _=>gk,?_⟩
  refine⟨fun _=>by omega,?_⟩
  refine⟨fun _=>by omega,[I (ps.getD k 0+1)],⟨rf,tv⟩,I (ps.getD k 0),gk,?_⟩
  refine⟨fun _=>by omega,i+1,jn rfl ?_ rfl rfl,aB,mlt aB⟩
  simp only[fM,kE,List.map_set];rfl
 ·have he:i=m:=by have:=adA h;omega
  subst he
  exact⟨Ku _,rf,tv⟩
theorem DF:nU:=fun t ws ht hw hl hs GX=>by
 obtain⟨T,rfl⟩:=Int.eq_ofNat_of_zero_le ht.1
 obtain⟨W,rfl⟩:∃W:List Nat,ws=W.map fun w:Nat=>(w:Int):=⟨ws.map Int.toNat,by
  rw[List.map_map]
  refine(List.map_id' ws).symm.trans (List.map_congr_left fun x hx=>?_)
  have:=hw x hx
  show x=((x.toNat:Nat):Int)
  omega⟩
 have h:=MR T W (by omega) (fun w hwm=>by have:=(hw _ (List.mem_map_of_mem hwm)).2;omega) (by rwa[adi]at hl) (by rw[pW]at hs;omega)
 show ai _ _ [I T,.sl 1 ((W.map fun w:Nat=>(w:Int)).map I)] _
 rw[List.map_map]
 exact h
end
section
open Go.TM
variable [aW]
end
section
open Go.TM
theorem acs{sh:Int}(h:0<=sh/\sh<=11):Inv ⟨sh,[],[],[],[],[],[]⟩ ⟨sh,[],[],[]⟩where
 oQ:=⟨h,by simp,by simp,List.nodup_nil,by simp,fun p hp=>(by cases hp),fun it=>(by simp[b8]),fun f hf=>(by cases hf)⟩
 sh:=rfl
 fl:=rfl
 sp:=rfl
 nk:=⟨List.nodup_nil,List.nodup_nil,List.nodup_nil,List.nodup_nil⟩
 ret g:=rfl
 dx:=⟨fun p hp=>(by cases hp),fun i f hf=>(by cases hf),fun f hf=>(by cases hf),fun f hf=>(by cases hf),fun p hp=>(by cases hp)⟩
 st k:=rfl
 cj j:=rfl
 imp g:=rfl
 step f hf:=by cases hf
 fll:=by simp
 sps s hs:=by cases hs
 now:=by simp[fw]
variable [aW]
end
section
open Go.TM
variable [aW]
theorem uW(hS:nU){P:PL}{R:RL}{s:dI}(h:Inv P R)(ns:R.sp.length<40)(hf:rJ R s):
 (Dv R s≠0/\aw Tryz.prog 17 [.ptr 0 0,cP (aZ s)] 7 (mw P) 0 [.dv (I 0),.dv (I (Dv R s))] (mw P)/\
  (aw Tryz.prog 34 [.ptr 0 0,cP (aZ s)] 4 (gn R) 0 [.dv (I 0),.dv (I (Dv R s))] (gn R)\/aw Tryz.prog 34 [.ptr 0 0,cP (aZ s)] 4 (gn R) 5 [.dv (I 0),.dv (I (Dv R s))] (rlY R)))\/
 (Dv R s=0/\∃P':PL,Inv P' (Zp R s)/\aw Tryz.prog 17 [.ptr 0 0,cP (aZ s)] 7 (mw P) 0 [.dv (I (R.sh*4294967296+R.sp.length)),.dv (I 0)] (Aj 1 1 P')/\
  aw Tryz.prog 34 [.ptr 0 0,cP (aZ s)] 4 (gn R) 5 [.dv (I (R.sh*4294967296+R.sp.length)),.dv (I 0)] (j6 1 1 1 (Zp R s))):=by
 have hlen:=hf.len
 have U7:∀m∈s.mv,m.ps.length<=4000:=fun m hm=>by have:=hf.ps m hm;omega
 have ac9:=congrArg List.length h.sp
 have ada:=congrArg List.length h.fl
 have Wc:=h.oQ.fl
 have fC:0<=P.sh/\P.sh<=12:=by have:=h.oQ.sh;rw[h.sh];omega
 have GV:r8 (fw P.sp) s=lO (fw R.sp) s:=by rw[h.sp];exact pos_eq _ s h.now
 unfold Dv
 cases hp:lO (fw R.sp) s with
 |false=>
  have hr:=Ge R s (by omega) hf.aX (by omega) U7 (.inr hp)
  rw[if_neg (by omega)]at hr
  have ht:=MG P s hf.aX (by omega) (by omega) U7 (GV.trans hp) (by omega)
  exact .inl ⟨show(1:Int)≠0 by decide,y8 P s 1 (by decide) ht,.inl hr⟩
 |true=>
  obtain⟨hm,oR⟩:=hf.pos hp
  have Zd:=Q9 hp
  have ou:R.fl.length+s.mv.length<=160:=by have:=h.fll;omega
  have hg:=Rb h.oQ h.dx ou hm
  have hSG:SG R s:=⟨hf.aX,by omega,hf.ps,by omega,fun i=>(hg i).1.1.rg,Zd,oR⟩
  obtain⟨cN,D5,AO⟩:=Re hS h ou hm s.mv.length (adM _)
  by_cases h0:(fy R s s.mv.length).1=0
  ·have hx:=Gf R s hSG hp h0
   have ht:=MJ P s hf.aX fC (by omega) U7 (GV.trans hp) (by omega) cN fun i m hi=>by
    have Fi:=(adj.1 hi).1
    have:=AO i m Fi hi (tJ (Nat.le_of_lt Fi) h0)
    rw[tJ (show i+1<=s.mv.length from Fi) h0]at this
    exact this
   have hs:=D5 s.mv.length (adM _) h0
   generalize IK P s cN s.mv.length=c at ht hs
   have abq:=zd R s s.mv.length
   have hi:=Inv.next h hs (hg s.mv.length).1.1 (hg s.mv.length).1.2 ⟨abq.2,abq.1⟩ (by have:=(hg s.mv.length).2;omega) ⟨hlen,hf.ps⟩ ns (by
    simp only[lO,adT,decide_eq_true_eq]at hp
    exact hp.1.1.2.1)
   have hcf:=congrArg List.length hs.fl
   have nr:=(hg s.mv.length).1.1.fl
   rw[adv]at hcf
   have Wl:=IS P s c ⟨h.nk.2.1,h.nk.2.2.1,h.nk.2.2.2,hs.nk.2.1,hs.nk.2.2.1,hs.nk.2.2.2⟩ ⟨by omega,by omega,by omega⟩ ⟨h.nk.1,hs.nk.1⟩ ht
   have ry:c.sp.id=R.sh*4294967296+R.sp.length:=by rw[hs.U1,<-h.sh,<-h.sp];rfl
   rw[ry]at Wl
   exact .inr ⟨h0,_,hi,QU Wl,hx⟩
  ·obtain⟨k,hk,Ep,hke⟩:=Gi s.mv.length h0
   have hx:=Gg R s hSG hp h0
   have ht:=MI P s hf.aX fC (by omega) U7 (GV.trans hp) (by omega) cN k hk (fy R s s.mv.length).1 h0 (cN k) (fun i m hi hx=>by
    have:=AO i m (by omega) hx (tJ (Nat.le_of_lt hi) Ep)
    rw[tJ (show i+1<=k from hi) Ep]at this
    exact this) fun m hx=>by
    have:=AO k m hk hx Ep
    rw[hke]at this
    exact this
   exact .inl ⟨h0,y8 P s _ h0 ht,.inr hx⟩
end
section
open Go.TM
def abr(sh:Int):ae:=[(1,.tree 0 0 (.omap eZ [])),(2,.tree 0 0 (.omap cS [])),(3,.tree 0 0 (.omap cS [])),(4,.tree 0 0 (.omap cS [])),(5,.cells (.dv (I sh)::fp oF++[.own 1 0 0 [],.own 2 0 0 [],.own 6 0 0 [],.own 7 0 0 [],.own 3 0 0 [],.own 4 0 0 []])),(6,.tree 0 0 (.aI 7 [])),(7,.tree 0 0 (.aI 11 []))]
def sp1:dI:=⟨0,0,0,0,-1,0,[⟨0,1,1,5,[]⟩]⟩
def sp2:dI:=⟨0,2,0,0,-1,0,[⟨1,2,1,3,[]⟩]⟩
def R0:RL:=⟨0,[],[],[]⟩
def R1:RL:=Zp R0 sp1
def R2:RL:=Zp R1 sp2
theorem Rs(R:RL)(k fr to n:Int)(h5:pP k=false)(hb:dG ⟨fr,to,1,n,[]⟩=true):rJ R ⟨0,k,0,0,-1,0,[⟨fr,to,1,n,[]⟩]⟩:=
 ⟨by unfold LM;simp,by simp,fun m hm=>by rw[ado]at hm;subst hm;simp,fun _=>abe fun m hm=>by
  rw[ado]at hm;subst hm
  have hn:¬(k=5\/k=7\/k=9):=adA h5
  exact⟨hb,.inr ⟨fun e=>hn (.inl e),fun e=>hn (.inr (.inr e)),rfl⟩⟩⟩
variable [aW]
theorem I2(sh:Int)(h:0<=sh/\sh<=11):aw Tryz.prog 21 [.dv (I sh),cP LN] 0 [] 8 [.ptr 5 0,.dv (I 0)] (abr sh):=by
 refine cO Tryz.func21 rfl (by kernel_rfl) ?_
 repeat refine gG ?_
 refine adh (fun hc=>?_) fun _=>?_
 ·simp[bw]at hc;omega
 refine .inl ⟨_,fun _=>yt.ok,?_⟩
 refine adh (fun h=>by cases h) fun _=>?_
 refine .inl ⟨_,fun _=>A4.ok,?_⟩
 refine⟨eZ,cS,cS,cS,?_⟩
 refine⟨_,_,⟨rfl,rfl⟩,by kernel_rfl,⟨rfl,rf,tv⟩,?_⟩
 repeat' first|exact trivial|rfl|exact rf|exact Qe|exact⟨rfl,rfl,rfl,rfl,_,rfl⟩|exact⟨rfl,rfl,_,rfl⟩|refine adh ?_ ?_
theorem cg:ai Tryz.prog 19 [] [B true]:=by
 have o1:Dv R0 sp1=0:=by kernel_rfl
 have o2:Dv R1 sp2=0:=by kernel_rfl
 have o3:Dv R2 sp2=10:=by kernel_rfl
 have FJ:Inv ⟨0,[],[],[],[],[],[]⟩ R0:=acs (by omega)
 rcases uW (s:=sp1) DF FJ (by simp[R0]) (Rs R0 0 0 1 5 rfl rfl)with⟨h,_⟩|⟨_,P1,NC,h1,_⟩
 ·exact absurd o1 h
 have NC:Inv P1 R1:=NC
 rcases uW (s:=sp2) DF NC (by simp[R0,R1,Zp]) (Rs _ 2 1 2 3 rfl rfl)with⟨h,_⟩|⟨_,P2,zM,h2,_⟩
 ·exact absurd o2 h
 have zM:Inv P2 R2:=zM
 rcases uW (s:=sp2) DF zM (by simp[R0,R1,R2,Zp]) (Rs _ 2 1 2 3 rfl rfl)with⟨_,h3,_⟩|⟨h,_⟩
 rotate_left
 ·exact absurd (o3.symm.trans h) (by decide)
 rw[o3]at h3
 rw[show R1.sh*4294967296+(R1.sp.length:Int)=1 by kernel_rfl]at h2
 have q1:=vL P2 1 1 (by rw[zM.tz];exact Nat.le_trans (zM.oQ.tz _).2 (by have:=zM.oQ.fl;omega))
 have q2:=vL P2 2 1 (by rw[zM.tz];exact Nat.le_trans (zM.oQ.tz _).2 (by have:=zM.oQ.fl;omega))
 have q3:=FL P2 1
 rw[zM.tz,show bY R2.st (1,1)=[⟨0,3,2⟩]by kernel_rfl]at q1
 rw[zM.tz,show bY R2.st (2,1)=[⟨1,0,3⟩]by kernel_rfl]at q2
 rw[zM.cj,show b8 R2.st 1=5 by kernel_rfl]at q3
 clear FJ NC zM o1 o2 o3
 refine pO Tryz.func19 rfl (by kernel_rfl) rfl ?_
 refine .inl ⟨_,fun _=>gW.ok,?_⟩
 refine .inr (cl [] (I2 0 (by omega)) (by kernel_rfl) rfl rfl ?_)
 repeat refine gG ?_
 refine adh (fun h=>by cases h) fun _=>?_
 refine .inl ⟨[ay ⟨0,1,1,5,[]⟩],rfl,⟨rf,rf,rf,rf,DV.aY 3,tv⟩,(by simp;rfl),?_⟩
 refine .inr (cl [5,1,2,6,7,3,4] h1 (by kernel_rfl) rfl rfl ?_)
 refine .inl ⟨[ay ⟨1,2,1,3,[]⟩],rfl,⟨rf,rf,rf,rf,DV.aY 3,tv⟩,(by simp;rfl),?_⟩
 refine .inr (cl [5,1,2,6,7,3,4] h2 (by kernel_rfl) rfl rfl ?_)
 refine .inl ⟨[ay ⟨1,2,1,3,[]⟩],rfl,⟨rf,rf,rf,rf,DV.aY 3,tv⟩,(by simp;rfl),?_⟩
 refine .inr (cl [5,1,2,6,7,3,4] h3 (by kernel_rfl) rfl rfl ?_)
 repeat refine gG ?_
 refine .inr (cl [5,1,2,6,7,3,4] q1 (by kernel_rfl) rfl rfl ?_)
 refine⟨by kernel_rfl,?_⟩
 repeat refine gG ?_
 conv=>whnf
 refine Or.inl ?_
 refine adh id ?_
 refine Or.inl ?_
 refine⟨[aD ⟨0,3,2⟩],rfl,⟨rf,rf,rf,tv⟩,(by simp;rfl),?_⟩
 refine⟨by kernel_rfl,?_⟩
 repeat refine gG ?_
 conv=>whnf
 refine Or.inl ?_
 refine⟨_,fun _=>(Bo [⟨0,3,2⟩] (by simp)).ok,?_⟩
 repeat refine gG ?_
 conv=>whnf
 refine .inr (cl [5,1,2,6,7,3,4] q2 (by kernel_rfl) rfl rfl ?_)
 refine⟨by kernel_rfl,?_⟩
 repeat refine gG ?_
 conv=>whnf
 refine Or.inl ?_
 refine adh id ?_
 refine Or.inl ?_
 refine⟨[aD ⟨1,0,3⟩],rfl,⟨rf,rf,rf,tv⟩,(by simp;rfl),?_⟩
 refine⟨by kernel_rfl,?_⟩
 repeat refine gG ?_
 conv=>whnf
 refine Or.inl ?_
 refine⟨_,fun _=>(Bo [⟨1,0,3⟩] (by simp)).ok,?_⟩
 repeat refine gG ?_
 conv=>whnf
 refine .inr (cl [5,1,2,6,7,3,4] q3 (by kernel_rfl) rfl rfl ?_)
 refine⟨by kernel_rfl,?_⟩
 repeat refine gG ?_
 exact⟨rf,tv⟩
end
section
open Go.TM
def oS:ByteArray:=⟨⟨[103,101,109]⟩⟩
def lE(w k:Nat)(s:ByteArray):List It:=match w with
 |0=>aj++[dV oS]
 |1=>gC s
 |2=>aj.set k { aj.getD k (dV oS)with nm:=oS }
 |3=>aj.set k { aj.getD k (dV oS)with mx:=!(aj.getD k (dV oS)).mx }
 |4=>aj.take k
 |_=>aj
variable [aW]
theorem U8{f:Nat}{d e:DV}{rs:List DV}(h:ai Tryz.prog f [e] rs)(hd:d.Le e):lz Tryz.prog f [d] rs:=⟨[e],⟨hd,tv⟩,h⟩
theorem MS{f:Nat}{c d e:DV}{rs:List DV}(h:ai Tryz.prog f [c,e] rs)(hd:d.Le e):lz Tryz.prog f [c,d] rs:=⟨[c,e],⟨rf,hd,tv⟩,h⟩
structure Fact(l:List It)(v:Int):Prop where
 hv:ai Tryz.prog 63 [bK l] [I v]
 hr:ai Tryz.prog 20 [bK l] [I v]
 hc:v=0->ai Tryz.prog 64 [bK l] [bK l]
theorem dL:ai Tryz.prog 63 [bK aj] [I 0]:=yt
theorem b9:ai Tryz.prog 64 [bK aj] [bK aj]:=A4
theorem kJ(w:Nat){k:Nat}(s:ByteArray)(hk:k<5):(lE w k s).length<=10:=by
 unfold lE
 split
 all_goals simp[gC,aj]
 omega
theorem tM{sh:Int}(h:0<=sh/\sh<=11):¬(bif decide (sh<0)then true else decide (11<sh))=true:=by
 rw[adG (by omega),adG (by omega)];decide
theorem nY{sh:Int}(h:¬(0<=sh/\sh<=11)):¬(bif decide (sh<0)then true else decide (11<sh))=false:=by
 intro hc
 simp only[cond_eq_ite]at hc
 split at hc
 ·cases hc
 ·rename_i h1
  have h1:=adA (Bool.eq_false_iff.2 h1)
  have h2:=adA hc
  omega
theorem Rt(w:Nat){k:Nat}(s:ByteArray)(hk:k<5)(hw:w=2\/w=3):wA (lE w k s) 0=9:=by
 rcases hw with rfl|rfl<;>rcases(by omega:k=0\/k=1\/k=2\/k=3\/k=4)with rfl|rfl|rfl|rfl|rfl<;>kernel_rfl
end
end Go.Proofs.YtfpebgpgabjieaaGreatDoor
