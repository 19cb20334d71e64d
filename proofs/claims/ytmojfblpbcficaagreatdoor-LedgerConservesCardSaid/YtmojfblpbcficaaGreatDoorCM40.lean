import Derived.Test.YtmojfblpbcficaaGreatDoorCM38
import Derived.Test.YtmojfblpbcficaaGreatDoorCM39
import Derived.Test.YtmojfblpbcficaaGreatDoorCM24
import Derived.Test.YtmojfblpbcficaaGreatDoorCM33
import Derived.Test.YtmojfblpbcficaaGreatDoorCM26
import Derived.Test.YtmojfblpbcficaaGreatDoorCM30
set_option linter.all false
namespace Go.Proofs.YtmojfblpbcficaaGreatDoor
set_option maxRecDepth 100000
set_option maxHeartbeats 4000000
section
open Go.TM
structure MG(R:RL)(s:cM)(m:di)(x:Lt):Prop where
 base:dA m=true
 kind:s.kind=7
 fr:0<m.fr
 ps:m.ps=[x]
 pos:aD x=true
 n:x.n=m.n
 lot:∃y∈bP R.st (m.fr,m.it),y.f=x.f/\y.a<=x.a/\x.a+x.n<=y.a+y.n
structure MH(R:RL)(s:cM)(m:di)(x:Lt)(f:gC):Prop where
 base:dA m=true
 kind:s.kind=9
 fr:m.fr=0
 ps:m.ps=[x]
 pos:aD x=true
 mem:f∈R.fl
 id:f.id=x.f
 ok:f.to=0/\f.kind≠6/\f.it=m.it/\x.a+x.n<=f.n
theorem KL{R:RL}{s:cM}{m:di}{x:Lt}(hG:Good R)(hD:Dx R)(hl:R.fl.length+1<=160)(h:MG R s m x):
 bl R s m=(0,G7 R s m ([x],mu (bP R.st (m.fr,m.it)) [x]))/\(Good (G7 R s m ([x],mu (bP R.st (m.fr,m.it)) [x]))/\(G7 R s m ([x],mu (bP R.st (m.fr,m.it)) [x])).fl.length=R.fl.length+1/\∀j,bG (G7 R s m ([x],mu (bP R.st (m.fr,m.it)) [x])).st j=if m.it=j then bG R.st j+(if m.fr=0 then m.n else 0)-(if m.to=0 then m.n else 0)else bG R.st j)/\Dx (G7 R s m ([x],mu (bP R.st (m.fr,m.it)) [x])):=by
 obtain⟨y,hy,hi⟩:=h.lot
 have CS:=ai.1 h.pos
 have hS:=hG.sj (m.fr,m.it)
 have X7:∀z∈bP R.st (m.fr,m.it),1<=z.n:=fun z hz=>(ai.1 (hS.1 z hz)).2.2.1
 have hP1:∀z∈[x],1<=z.n:=fun z hz=>by rw[aco]at hz;subst hz;exact CS.2.2.1
 obtain⟨d1,d2⟩:=hD.sj (m.fr,m.it)
 obtain⟨w1,w2⟩:=Z3 d1 X7 hy CS.2.2.1 hi
 have wp:∀z∈mu (bP R.st (m.fr,m.it)) [x],aD z=true:=by
  have:=(yV (s:=bP R.st (m.fr,m.it)) (P:=[x]) hS.1 (fun z hz=>by rw[aco]at hz;subst hz;exact h.pos) (bP R.st (m.fr,m.it)).length).1
  rw[Kv]at this;exact this
 have hn:m.n<=cz (bP R.st (m.fr,m.it)):=by
  have:=(yJ (l:=mu (bP R.st (m.fr,m.it)) [x]) fun z hz=>l7 (wp z hz)).1
  rw[w1]at this;have:=h.n;omega
 refine⟨(Tl hG h.base h.fr h.ps h.pos hy hi).2,UU hG hl h.base h.fr (by rw[h.kind];decide) _ hn (by simp) wp (by have:=hS.2;simp only;omega) (by rw[w1,h.n]),PT hD hG h.base h.fr _ (Z2 d1 X7 hP1) fun z hz=>?_⟩
 have hz1:=ai.1 (wp z hz)
 obtain⟨q,hq,hu⟩:=((CQ X7 hP1).2 z.f z.a).1 ⟨z,hz,rfl,Int.le_refl _,by omega⟩ |>.1
 have:=d2 q hq
 rw[<-hu.1];exact this
theorem TS{R:RL}{s:cM}{m:di}{x:Lt}{f:gC}(hG:Good R)(hD:Dx R)(hl:R.fl.length+1<=160)(h:MH R s m x f)(h0:(bl R s m).1=0):
 bl R s m=(0,wL R s m [x] [])/\¬1099511627776<bG R.st m.it+m.n/\(kp [x] ((ku R.fl x.f).getD [])).1=[]/\(Good (wL R s m [x] [])/\(wL R s m [x] []).fl.length=R.fl.length+1/\∀j,bG (wL R s m [x] []).st j=if m.it=j then bG R.st j+(if m.fr=0 then m.n else 0)-(if m.to=0 then m.n else 0)else bG R.st j)/\Dx (wL R s m [x] []):=by
 have hb:=acA h.base
 have jS:0<m.to:=by have:=h.fr;omega
 have oQ:=hG.sh
 have Wb:=Kx hD h.ps h.pos (by omega) h.mem h.id h.ok
 rw[xb R s m h.fr jS]at h0⊢
 have he:FI R s.kind m=s9 R.fl m.it m.ps:=by unfold FI;rw[h.kind];rfl
 unfold wR at h0⊢
 rw[he,Wb]at h0⊢
 by_cases c1:(kp [x] ((ku R.fl x.f).getD [])).1=[]
 ·rw[if_pos c1]at h0⊢
  by_cases c2:1099511627776<bG R.st m.it+m.n
  ·rw[if_neg (by simp),if_pos c2]at h0;cases h0
  rw[if_neg (by simp),if_neg c2]
  rw[if_pos (.inr h.kind),h.ps,show ta s.kind=false by rw[h.kind];rfl,cond_false]
  refine⟨rfl,c2,c1,WG hG hl h.base h.fr [x] [] c2 (by simp) (by simp) (fun k=>by rw[h.kind]at k;cases k),UW hD hG h.base jS [x] [] fun _ _=>⟨x,h.pos,rfl,?_⟩⟩
  have:=(hG.D5 f h.mem).2.2.2.1
  rw[h.id]at this;exact this
 ·rw[if_neg c1,if_pos (by simp)]at h0;cases h0
theorem TT{R:RL}{s:cM}{m:di}(hG:Good R)(hD:Dx R)(hm:FH R.sh s m)(h0:(bl R s m).1=0):Dx (bl R s m).2:=by
 have hb:=acA hm.base
 have hS:=hG.sj (m.fr,m.it)
 have lT:=hG.fl
 have oQ:=hG.sh
 by_cases eZ:0<m.fr
 ·have hp:m.ps=[]:=by
   rcases hm.ps with h|h
   ·omega
   ·exact h.2.2
  have cC:bP (aI R.st (m.fr,m.it) (fp (bP R.st (m.fr,m.it)) m.n (wz m.it)).2) (m.to,m.it)=bP R.st (m.to,m.it):=by
   rw[iQ,if_neg];intro h;injection h with h1;omega
  rw[C5 R s m eZ hp]at h0⊢
  by_cases hc:bZ (bP R.st (m.fr,m.it))<m.n
  ·rw[if_pos hc]at h0;cases h0
  rw[if_neg hc]
  have hn:m.n<=cz (bP R.st (m.fr,m.it)):=by rw[pM (eD hS.1 (by omega))]at hc;omega
  obtain⟨d1,d2⟩:=hD.sj (m.fr,m.it)
  obtain⟨t1,t2⟩:=Tg (wz m.it) d1 (by omega:0<=m.n) hS.1 hn
  have tp:=(Kr (wz m.it) (by omega:0<=m.n) hS.1 hn).2.1
  simp only[cC]
  refine PT hD hG hm.base eZ _ t1 fun z hz=>?_
  have hz1:=ai.1 (tp z hz)
  obtain⟨q,hq,hu⟩:=t2 z.f z.a ⟨z,hz,rfl,Int.le_refl _,by omega⟩
  have:=d2 q hq
  rw[<-hu.1];exact this
 ·have oF:m.fr=0:=by omega
  rw[xb R s m oF (by omega)]at h0⊢
  unfold wR at h0⊢
  by_cases he:FI R s.kind m≠0
  ·rw[if_pos he]at h0;exact absurd h0 he
  rw[if_neg he]at h0⊢
  by_cases hc:1099511627776<bG R.st m.it+m.n
  ·rw[if_pos hc]at h0;cases h0
  rw[if_neg hc]
  refine UW hD hG hm.base (by omega) _ _ fun k9 _=>?_
  rcases hm.ps with⟨h5,_⟩|⟨_,h9,_⟩
  ·rw[k9]at h5;cases h5
  ·exact absurd k9 h9
theorem KM{α β:Type}{g:α->List β}:∀{l:List α},(∀x∈l,(g x).length<=1)->(l.flatMap g).length<=l.length
 |[],_=>acN _
 |a::l,h=>by
  have h1:=h a acv
  have h2:=KM (g:=g) fun x hx=>h x (acq _ hx)
  rw[List.flatMap_cons,acw,List.length_cons];omega
theorem Xd{R:RL}(h:Dx R)(g:Int):(FM R.fl g).length<=R.fl.length:=by
 unfold FM
 refine Nat.le_trans (List.length_filter_le _ _) (Nat.le_trans (KM fun f hf=>?_) (List.length_filter_le _ _))
 rw[List.mem_filter,acU,beq_iff_eq,beq_iff_eq]at hf
 obtain⟨x,_,h2,_⟩:=h.rv f hf.1 hf.2.1 hf.2.2
 rw[h2];exact acN _
theorem Xe{R:RL}(hD:Dx R)(lT:R.fl.length<=160){g:Int}{l:List Lt}(h:ku R.fl g=some l):l≠[]/\NS l/\(∀y∈l,aD y=true)/\l.length<=4000:=by
 unfold ku at h
 split at h
 ·cases h
 ·rename_i cC
  injection h with h
  subst h
  have hp:=Iz hD (g:=g)
  have h1:=qv hp
  have h2:=Xd hD g
  have so:=gj fun z hz=>(ai.1 (hp z hz)).2.2.1
  refine⟨fun e=>?_,so.1,h1.1,by omega⟩
  obtain⟨z,hz⟩:=List.exists_mem_of_ne_nil _ cC
  have:=(so.2 z.f z.a).2 ⟨z,hz,rfl,Int.le_refl _,by have:=ai.1 (hp z hz);omega⟩
  rw[e]at this;exact br this
def uV(R:RL)(s:cM):Prop:=(∀m∈s.mv,FH R.sh s m)\/∃m x,s.mv=[m]/\(MG R s m x\/∃f,MH R s m x f)
theorem KN{R:RL}{s:cM}{m:di}{x:Lt}(hG:Good R)(hD:Dx R)(hl:R.fl.length+1<=160)(hm:MG R s m x\/∃f,MH R s m x f)(h0:(bl R s m).1=0):
 (Good (bl R s m).2/\(bl R s m).2.fl.length=R.fl.length+1/\∀j,bG (bl R s m).2.st j=if m.it=j then bG R.st j+(if m.fr=0 then m.n else 0)-(if m.to=0 then m.n else 0)else bG R.st j)/\Dx (bl R s m).2:=by
 rcases hm with hm|⟨f,hm⟩
 ·obtain⟨e,h1,h2⟩:=KL hG hD hl hm
  rw[e];exact⟨h1,h2⟩
 ·obtain⟨e,_,_,h1,h2⟩:=TS hG hD hl hm h0
  rw[e];exact⟨h1,h2⟩
variable [bp]
theorem Xf{P:PL}{s:cM}{c:Ch}{R:RL}{m:di}{x:Lt}(hs:ke P s c R)(hG:Good R)(hD:Dx R)(hl:R.fl.length+1<=160)(h:MG R s m x):
 ∃c',ao Tryz.prog 87 [.ptr 0 0,cF (aq m)] 14 (dI 0 0 P c) 0 [.dv (I (bl R s m).1)] (dI 1 1 P c')/\((bl R s m).1=0->ke P s c' (bl R s m).2):=by
 obtain⟨e,⟨_,_,hq⟩,_⟩:=KL hG hD hl h
 obtain⟨y,hy,hi⟩:=h.lot
 have hS:=hG.sj (m.fr,m.it)
 have lT:=hG.fl
 have hv:=eD hS.1 (by omega)
 have est:=hs.st (m.fr,m.it)
 have jw:=(ai.1 h.pos).2.2.1
 have dh:Gl m.ps (cL (ez P c (m.fr,m.it))):=by
  rw[est,h.ps]
  have so:=gj (td hv)
  have:=(SI (a:=[x]) (fun z hz=>by rw[aco]at hz;subst hz;exact jw) so.1).2 fun f u hu=>(so.2 f u).2 ⟨y,hy,by have hu:=dC.1 hu;unfold dZ at hu⊢;omega⟩
  intro z hz p hp
  exact this p (List.mem_flatMap.2 ⟨z,hz,hp⟩)
 have hw:=r4 P c _ m _ 0 (by have:=h.fr;omega) (Qz P c m (by rw[h.ps];simp) (by rw[est];exact hv) (by rw[h.ps];exact val_one h.pos) dh (by
  rw[est,h.ps]
  have:=hS.2
  have h3:(bP R.st (m.fr,m.it)).length*(2*[x].length+1)<=160*3:=Nat.mul_le_mul (by omega) (by simp)
  omega))
 rw[est,h.ps]at hw
 obtain⟨c',h1,h2⟩:=Qw hs hG hl h.base h.fr (by rw[h.kind];decide) ([x],mu (bP R.st (m.fr,m.it)) [x]) hq hw
 rw[e]
 exact⟨c',h1,fun _=>h2⟩
theorem Xg{P:PL}{s:cM}{c:Ch}{R:RL}{m:di}{x:Lt}{f:gC}(hs:ke P s c R)(hc:c.fl=[])(hG:Good R)(hD:Dx R)(hl:R.fl.length+1<=160)(h:MH R s m x f)(hxf:x.f<=9223372036854775807):
 ∃c',ao Tryz.prog 87 [.ptr 0 0,cF (aq m)] 14 (dI 0 0 P c) 0 [.dv (I (bl R s m).1)] (dI 1 1 P c')/\((bl R s m).1=0->ke P s c' (bl R s m).2):=by
 have hb:=acA h.base
 have jS:0<m.to:=by have:=h.fr;omega
 obtain⟨oQ,hlen,IZ⟩:=hs.bd hG m.it
 have hv:dQ P c m=bG R.st m.it:=hs.b7 m.it
 have RP:0<=dQ P c m/\dQ P c m<=1099511627776:=by rw[hv];exact IZ
 have IG:R.fl=P.fl:=by rw[hs.fl,hc,List.append_nil]
 have hu:=hs.ret x.f
 obtain⟨i,hi⟩:=acF h.mem
 have qH:=hD.ids i f hi
 rw[h.id]at qH
 have hP:P.fl[(x.f-P.sh*4294967296).toNat]?=some f:=by
  rw[<-hs.sh,qH,show(R.sh*4294967296+(i:Int)-R.sh*4294967296).toNat=i by omega,<-IG];exact hi
 have ht:=Gm P c m x f h.fr (by rw[hs.TL];exact h.kind) h.ps h.pos hxf oQ (by rw[<-hs.sh,qH];omega) hP h.ok (fun l hl=>by rw[hu]at hl;exact Xe hD (by omega) hl)
 have Wb:=Kx hD h.ps h.pos hG.sh.1 h.mem h.id h.ok
 have he:FI R s.kind m=RQ P c x:=by
  unfold FI RQ;rw[h.kind,hu];exact Wb
 rw[xb R s m h.fr jS]
 unfold wR
 by_cases c1:(kp [x] ((sn c.ret P.ret x.f).getD [])).1=[]
 ·have e0:RQ P c x=0:=if_pos c1
  rw[show QA P c x={ c with ret:=aI c.ret x.f (cL ((sn c.ret P.ret x.f).getD []++[x])) }from if_pos c1,e0]at ht
  rw[if_neg (by rw[he,e0];simp)]
  by_cases c2:1099511627776<bG R.st m.it+m.n
  ·rw[if_pos c2]
   exact⟨_,iU (Gj P c { c with ret:=aI c.ret x.f (cL ((sn c.ret P.ret x.f).getD []++[x])) } m [x] ⟨hb.2.2.1,hb.2.2.2.1⟩ RP oQ hlen h.fr (by omega) (by show _<dQ P c m+m.n;rw[hv];exact c2) ht),fun h=>absurd h (show¬(4:Int)=0 by decide)⟩
  rw[if_neg c2,if_pos (.inr h.kind),h.ps]
  have hmd:(bif ta s.kind then qY R.fl (R.sh*4294967296+R.sp.length)else[])=[]:=by rw[show ta s.kind=false by rw[h.kind];rfl];rfl
  have hw:=(WG hG hl h.base h.fr [x] (bif ta s.kind then qY R.fl (R.sh*4294967296+R.sp.length)else[]) c2 (by simp) (by rw[hmd];simp) (fun k=>by rw[h.kind]at k;cases k)).2.2
  obtain⟨c',h1,h2⟩:=U6 hs hG hl h.base h.fr c2 c.imp (aI c.ret x.f (cL ((sn c.ret P.ret x.f).getD []++[x]))) [x] ⟨hs.nk.2.2.1,hs.nk.2.2.2.put _ _⟩ hw
   (fun md g=>by rw[Dw (f:=eG R s m [x] md) (show s.kind≠5 by rw[h.kind];decide)];exact hs.imp g)
   (fun md g=>by
    rw[PV (f:=eG R s m [x] md) hD h.kind h.fr rfl h.pos,<-hu]
    have hg:=hs.ret g
    unfold sn at hg⊢
    rw[jQ]
    by_cases e:x.f=g
    ·rw[if_pos e,if_pos e];rfl
    ·rw[if_neg e,if_neg e];exact hg) ht
  exact⟨c',h1,fun _=>h2⟩
 ·have e0:RQ P c x=10:=if_neg c1
  rw[show QA P c x=c from if_neg c1,e0]at ht
  rw[if_pos (by rw[he,e0];decide),he,e0]
  exact⟨_,iU (zh P c c m [x] 10 (by decide) ht),fun h=>absurd h (show¬(10:Int)=0 by decide)⟩
end
section
open Go.TM
def pfF(s:cM)(a:Int×RL)(m:di):Int×RL:=if a.1=0 then bl a.2 s m else a
def eJ(R:RL)(s:cM)(i:Nat):Int×RL:=(s.mv.take i).foldl (pfF s) (0,R)
theorem lI{R:RL}{s:cM}{i:Nat}{m:di}(h:s.mv[i]?=some m)(h0:(eJ R s i).1=0):eJ R s (i+1)=bl (eJ R s i).2 s m:=by
 unfold eJ at*
 rw[acs,h,acJ]
 exact if_pos h0
theorem qx{R:RL}{s:cM}{i:Nat}(h0:(eJ R s i).1≠0):∀j,eJ R s (i+j)=eJ R s i
 |0=>rfl
 |j+1=>by
  have ih:=qx h0 j
  unfold eJ at*
  rw[show i+(j+1)=i+j+1 by omega,acs,acJ,ih]
  cases s.mv[i+j]? with
  |none=>rfl
  |some m=>exact if_neg h0
theorem qy(R:RL)(s:cM)(m:di):(bl R s m).2.sp=R.sp/\(bl R s m).2.sh=R.sh:=by
 unfold bl;split;exact⟨rfl,rfl⟩;split<;>exact⟨rfl,rfl⟩
theorem uW(R:RL)(s:cM):∀i,(eJ R s i).2.sp=R.sp/\(eJ R s i).2.sh=R.sh
 |0=>⟨rfl,rfl⟩
 |i+1=>by
  have ih:=uW R s i
  unfold eJ at*
  rw[acs,acJ]
  cases s.mv[i]? with
  |none=>exact ih
  |some m=>
   show(pfF s _ m).2.sp=_/\(pfF s _ m).2.sh=_
   unfold pfF
   split
   ·rw[(qy _ s m).1,(qy _ s m).2];exact ih
   ·exact ih
theorem QI{n:Int}{s:cM}(h:jv n s=true):1<=s.mv.length:=by
 simp only[jv,acU,decide_eq_true_eq]at h
 exact h.1.1.2.2.2.1
def kf(R:RL)(s:cM):cM:={ s with id:=R.sh*4294967296+R.sp.length }
def Yn(R R1:RL):ae:=[(0,.cells (.dv (I R1.sh)::eV iP++[.own 6 0 0 [],.own 7 0 0 [],.own 3 0 0 []])),(1,.tree 1 0 (.aC 3 (R1.st.map iA))),(2,.tree 1 0 (.aC 11 (R1.fl.map aM))),(3,.tree 0 0 (.aC 7 (R1.sp.map aO))),(6,.tree 0 0 (.aC 3 (R.st.map iA))),(7,.tree 0 0 (.aC 11 (R.fl.map aM)))]
variable [bp]
theorem cOR{f:Nat}{fn:Func}{c:Code}{args:List AV}{m ex:Nat}{K:ae}{Q:List AV->ae->Prop}(hf:Tryz.prog.funcs[f]?=some fn)(hb:fn.body=some c)
 (ha:((!(fn.name== "runtime.NumGoroutine"))&&(Nat.ble args.length fn.ntmps&&cK.wf ⟨m,de 0 args,K⟩))=true) (h:fm Tryz.prog ly .fn fn.ntmps m c (pf ly fn m ex Q) m (de 0 args) K):bU Tryz.prog f args m K ex Q:=by
 rw[acU,acW]at ha
 exact mL fT mixed (eS _) (fy _) hf hb ha.1 ha.2 h
theorem Gq(R:RL)(s:cM)(hn:R.sp.length<=900000)(hr:vD s.aL)(hl:s.mv.length<=1000)(ko:∀m∈s.mv,m.ps.length<=4000)(hc:65536<=R.sp.length\/jv (eX R.sp) s=false):ao Tryz.prog 16 [.ptr 0 0,cF (aO s)] 4 (dr R) 0 [.dv (I 0),.dv (I (if 65536<=R.sp.length then 4 else 1))] (dr R):=by
 refine cO Tryz.func16 rfl (by kernel_rfl) ?_
 have lp:(R.sp.map aO).length=R.sp.length:=ach ..
 refine acg (fun h=>?_) fun h=>?_
 ·have h:65536<=R.sp.length:=by have:=acA h;omega
  rw[if_pos h]
  exact ext (by kernel_rfl) rfl rfl
 ·have h:¬65536<=R.sp.length:=by have:=acB h;omega
  rw[if_neg h]
  refine .inr (cl [0,1,2,3] (yW R s hr (by omega) hl ko) (by kernel_rfl) rfl rfl ?_)
  rw[hc.resolve_left h]
  refine acg (fun _=>?_) fun h=>by cases h
  exact ext (by kernel_rfl) rfl rfl
theorem QJ(R:RL)(s:cM)(hr:vD s.aL)(hl:s.mv.length<=1000)(ko:∀m∈s.mv,m.ps.length<=20)(hn:R.sp.length<65536)(hp:jv (eX R.sp) s=true)(hG:∀i,RG (eJ R s i).2)(hB:∀m∈s.mv,dA m=true)(hb:s.kind=5->∀m∈s.mv,∀x∈m.ps,0<=x.f/\x.f<=9223372036854775807):bU Tryz.prog 16 [.ptr 0 0,cF (aO s)] 4 (dr R) 5 fun rs k=>
 ((eJ R s s.mv.length).1=0/\rs=[.dv (I (R.sh*4294967296+R.sp.length)),.dv (I 0)]/\k=ju 1 1 1 { (eJ R s s.mv.length).2 with sp:=R.sp++[kf R s] })\/
 ((eJ R s s.mv.length).1≠0/\rs=[.dv (I 0),.dv (I (eJ R s s.mv.length).1)]/\∃R1:RL,k=Yn R R1/\R1.sh=R.sh/\R1.sp=R.sp):=by
 refine cOR Tryz.func16 rfl (by kernel_rfl) ?_
 have lp:(R.sp.map aO).length=R.sp.length:=ach ..
 have lm:(s.mv.map aq).length=s.mv.length:=ach ..
 have hR:=hG 0
 have ak:=hR.st
 have lT:=hR.fl
 have oQ:=hR.sh
 have ak:R.st.length<=900:=ak
 have lT:R.fl.length<=900000:=lT
 have oQ:0<=R.sh/\R.sh<=1000:=oQ
 refine acg (fun h=>?_) fun h=>?_
 ·have:=acA h;omega
 refine .inr (cl [0,1,2,3] (yW R s hr (by omega) hl fun m hm=>by have:=ko m hm;omega) (by kernel_rfl) rfl rfl ?_)
 rw[hp]
 refine acg (fun h=>by cases h) fun _=>?_
 refine .inr (cl [0,1,2,3] (Iq R (by omega) (by omega) (by omega)) (by kernel_rfl) rfl rfl ?_)
 refine⟨Bool×Nat,fun x=>⟨9,[(0,.ptr 0 0),(3,.ptr 4 0),(7,.ptr 5 0),(8,.dv (I x.2))],ju (bif x.1 then 1 else 0) (bif x.1 then 1 else 0) 0 (eJ R s x.2).2++[(4,.cells (eV (aO s).cells)),(5,.cells (.dv (I R.sh)::eV iP++[.own 6 0 0 [],.own 7 0 0 [],.own 8 0 0 []])),(6,.tree 0 0 (.aC 3 (R.st.map iA))),(7,.tree 0 0 (.aC 11 (R.fl.map aM))),(8,.tree 0 0 (.aC 7 (R.sp.map aO)))]⟩,fun x=>x.2<=s.mv.length/\(eJ R s x.2).1=0/\(x.1=false->x.2=0),fun x=>s.mv.length-x.2,(false,0),(fun x=>(by rcases x with⟨_|_,i⟩<;>rfl)),jn rfl rfl rfl rfl,⟨acy _,rfl,fun _=>rfl⟩,?_⟩
 rintro⟨b,i⟩ ⟨hi,h0,ns⟩
 have ns:b=false->i=0:=ns
 have hi:i<=s.mv.length:=hi
 have h0:(eJ R s i).1=0:=h0
 have lU:=uW R s i
 cases b
 ·refine acg ?_ ?_
  ·intro h
   have aw:i<s.mv.length:=by have:=acA h;omega
   obtain⟨m,hm⟩:∃m,s.mv[i]?=some m:=⟨_,aaS aw⟩
   have my:=ack hm
   have im:(s.mv.map aq)[(i:Int).toNat]?=some (aq m):=by rw[acj];simp[hm]
   have eE:=lI hm h0
   have hpf:=yY (eJ R s i).2 s m (hG i) (hB m my) (ko m my) fun hk=>hb hk m my
   refine⟨aq m,fun _=>⟨Int.natCast_nonneg _,im⟩,?_⟩
   refine .inr (cl [0,1,2,3] hpf (by kernel_rfl) rfl rfl ?_)
   refine⟨by kernel_rfl,acg (fun he=>?_) fun he=>?_⟩
   ·have he:(bl (eJ R s i).2 s m).1≠0:=fun h=>(by rw[h]at he;cases he)
    have iG:eJ R s s.mv.length=bl (eJ R s i).2 s m:=by
     have:=qx (R:=R) (s:=s) (i:=i+1) (by rw[eE];exact he) (s.mv.length-(i+1))
     rw[show i+1+(s.mv.length-(i+1))=s.mv.length by omega]at this
     rw[this,eE]
    refine⟨[.dv (I 0),.dv (I (bl (eJ R s i).2 s m).1)],Yn R (bl (eJ R s i).2 s m).2,.inr ⟨by rw[iG];exact he,by rw[iG],_,rfl,(qy _ s m).2.trans lU.2,(qy _ s m).1.trans lU.1⟩,by kernel_rfl,⟨rf,rf,tv⟩,aX (k:=Yn R (bl (eJ R s i).2 s m).2) rfl⟩
   ·have he:(bl (eJ R s i).2 s m).1=0:=by simpa using he
    exact⟨fun _=>by omega,(true,i+1),jn rfl (by simp only[eE];rfl) rfl rfl,⟨aw,by rw[eE];exact he,fun h=>(by cases h)⟩,mlt aw⟩
  ·intro h
   have:=acB h
   have FF:=ns rfl
   have:1<=s.mv.length:=QI hp
   omega
 ·refine acg ?_ ?_
  ·intro h
   have aw:i<s.mv.length:=by have:=acA h;omega
   obtain⟨m,hm⟩:∃m,s.mv[i]?=some m:=⟨_,aaS aw⟩
   have my:=ack hm
   have im:(s.mv.map aq)[(i:Int).toNat]?=some (aq m):=by rw[acj];simp[hm]
   have eE:=lI hm h0
   have hpf:=yY (eJ R s i).2 s m (hG i) (hB m my) (ko m my) fun hk=>hb hk m my
   refine⟨aq m,fun _=>⟨Int.natCast_nonneg _,im⟩,?_⟩
   refine .inr (cl [0,1,2,3] hpf (by kernel_rfl) rfl rfl ?_)
   refine⟨by kernel_rfl,acg (fun he=>?_) fun he=>?_⟩
   ·have he:(bl (eJ R s i).2 s m).1≠0:=fun h=>(by rw[h]at he;cases he)
    have iG:eJ R s s.mv.length=bl (eJ R s i).2 s m:=by
     have:=qx (R:=R) (s:=s) (i:=i+1) (by rw[eE];exact he) (s.mv.length-(i+1))
     rw[show i+1+(s.mv.length-(i+1))=s.mv.length by omega]at this
     rw[this,eE]
    refine⟨[.dv (I 0),.dv (I (bl (eJ R s i).2 s m).1)],Yn R (bl (eJ R s i).2 s m).2,.inr ⟨by rw[iG];exact he,by rw[iG],_,rfl,(qy _ s m).2.trans lU.2,(qy _ s m).1.trans lU.1⟩,by kernel_rfl,⟨rf,rf,tv⟩,aX (k:=Yn R (bl (eJ R s i).2 s m).2) rfl⟩
   ·have he:(bl (eJ R s i).2 s m).1=0:=by simpa using he
    exact⟨fun _=>by omega,(true,i+1),jn rfl (by simp only[eE];rfl) rfl rfl,⟨aw,by rw[eE];exact he,fun h=>(by cases h)⟩,mlt aw⟩
  intro h
  have he:i=s.mv.length:=by have:=acB h;omega
  subst he
  have x1:-9223372036854775808<=(eJ R s s.mv.length).2.sh*4294967296/\(eJ R s s.mv.length).2.sh*4294967296<=9223372036854775807:=by rw[lU.2];omega
  have x2:-9223372036854775808<=(eJ R s s.mv.length).2.sh*4294967296+(((eJ R s s.mv.length).2.sp.map aO).length:Int)/\(eJ R s s.mv.length).2.sh*4294967296+(((eJ R s s.mv.length).2.sp.map aO).length:Int)<=9223372036854775807:=by rw[lU.2,lU.1];omega
  refine⟨fun _=>x1,fun _=>x2,by kernel_rfl,?_⟩
  have SX:(((eJ R s s.mv.length).2.sp.map aO).length:Int)=R.sp.length:=by rw[lU.1,lp]
  refine .inl ⟨[aO (kf R s)],rfl,⟨aF (by rw[lU.2,SX];rfl),rf,rf,rf,rf,rf,rf,tv⟩,(by simp;rfl),?_⟩
  refine .inr ⟨[aO (kf R s)],ca.refl _,bS (by simp[lU.1];omega),by simp[lU.1];omega,?_⟩
  refine⟨by kernel_rfl,?_⟩
  refine⟨[.dv (I (R.sh*4294967296+R.sp.length)),.dv (I 0)],ju 1 1 1 { (eJ R s s.mv.length).2 with sp:=R.sp++[kf R s] },.inl ⟨h0,rfl,rfl⟩,by kernel_rfl,⟨aF (by rw[lU.2,SX]),rf,tv⟩,aX (k:=ju 1 1 1 { (eJ R s s.mv.length).2 with sp:=R.sp++[kf R s] }) ?_⟩
  simp only[ju,acC,<-lU.1]
  rfl
end
section
open Go.TM
def rlY(R:RL):ae:=[(0,.cells (ZQ 2 2 0 R)),(1,.tree 2 0 (.aC 3 (R.st.map iA))),(2,.tree 2 0 (.aC 11 (R.fl.map aM))),(3,.tree 0 0 (.aC 7 (R.sp.map aO))),(6,.dead),(7,.dead)]
variable [bp]
theorem zt{P:Program}{f:Nat}{args:List AV}{m ex:Nat}{K:ae}{Q Q':List AV->ae->Prop}(h:bU P f args m K ex Q)(hQ:∀r k,Q r k->Q' r k):bU P f args m K ex Q':=
 ⟨h.1,fun w G vs a b c=>Calls.mono (h.2 w G vs a b c) fun _ _ ⟨v,r,k,G',h1,h2,h3⟩=>⟨v,r,k,G',h1,hQ r k h2,h3⟩⟩
structure SG(R:RL)(s:cM):Prop where
 aL:vD s.aL
 len:s.mv.length<=1000
 ps:∀m∈s.mv,m.ps.length<=20
 sp:R.sp.length<65536
 fI:∀i,RG (eJ R s i).2
 base:∀m∈s.mv,dA m=true
 imp:s.kind=5->∀m∈s.mv,∀x∈m.ps,0<=x.f/\x.f<=9223372036854775807
theorem Gr(R:RL)(s:cM)(h:SG R s)(hp:jv (eX R.sp) s=true)(h0:(eJ R s s.mv.length).1=0):ao Tryz.prog 16 [.ptr 0 0,cF (aO s)] 4 (dr R) 5 [.dv (I (R.sh*4294967296+R.sp.length)),.dv (I 0)] (ju 1 1 1 { (eJ R s s.mv.length).2 with sp:=R.sp++[kf R s] }):=
 zt (QJ R s h.aL h.len h.ps h.sp hp h.fI h.base h.imp) fun r k hk=>by
  rcases hk with⟨_,h2,h3⟩|⟨h1,_⟩
  ·exact⟨h2,h3⟩
  ·exact absurd h0 h1
theorem Gs(R:RL)(s:cM)(h:SG R s)(hp:jv (eX R.sp) s=true)(h0:(eJ R s s.mv.length).1≠0):ao Tryz.prog 16 [.ptr 0 0,cF (aO s)] 4 (dr R) 5 [.dv (I 0),.dv (I (eJ R s s.mv.length).1)] (rlY R):=by
 have h1:=zt (QJ R s h.aL h.len h.ps h.sp hp h.fI h.base h.imp) (Q':=fun r k=>r=[.dv (I 0),.dv (I (eJ R s s.mv.length).1)]/\∃R1:RL,k=Yn R R1/\R1.sh=R.sh/\R1.sp=R.sp) fun r k hk=>by
  rcases hk with⟨h1,_⟩|⟨_,h2,h3⟩
  ·exact absurd h1 h0
  ·exact⟨h2,h3⟩
 have h2:=vI (i:=1) (j:=6) (R':=fun r k=>r=[.dv (I 0),.dv (I (eJ R s s.mv.length).1)]/\∃fl1:List gC,k=[(0,au.cells (.dv (I R.sh)::eV iP++[.own 1 2 0 [],.own 7 0 0 [],.own 3 0 0 []])),(1,.tree 2 0 (.aC 3 (R.st.map iA))),(2,.tree 1 0 (.aC 11 (fl1.map aM))),(3,.tree 0 0 (.aC 7 (R.sp.map aO))),(6,.dead),(7,.tree 0 0 (.aC 11 (R.fl.map aM)))]) h1 (by omega) (by omega) (by omega) fun r k hk=>by
  obtain⟨hr,R1,rfl,hs,hp⟩:=hk
  refine⟨_,⟨hr,R1.fl,rfl⟩,1,0,_,_,rfl,rfl,rfl,rfl,fun q h1 h2=>?_⟩
  match q,h1,h2 with
  |0,_,_=>
   show Me 1 2 6 (.cells _) (.cells _)
   rw[hs]
   exact .cells (.same _ (.same _ (.same _ (.same _ (.same _ (.si (.same _ (.same _ .nil))))))))
  |2,_,_=>exact .refl _
  |3,_,_=>show Me 1 2 6 (.tree 0 0 _) (.tree 0 0 _);rw[hp];exact .refl _
  |4,_,_=>exact .refl _
  |5,_,_=>exact .refl _
  |7,_,_=>exact .refl _
  |q+8,_,_=>exact .refl _
 exact vI (i:=2) (j:=7) h2 (by omega) (by omega) (by omega) fun r k hk=>by
  obtain⟨hr,fl1,rfl⟩:=hk
  refine⟨_,⟨hr,rfl⟩,1,0,_,_,rfl,rfl,rfl,rfl,fun q h1 h2=>?_⟩
  match q,h1,h2 with
  |0,_,_=>exact .cells (.same _ (.same _ (.same _ (.same _ (.same _ (.same _ (.si (.same _ .nil))))))))
  |1,_,_=>exact .refl _
  |3,_,_=>exact .refl _
  |4,_,_=>exact .refl _
  |5,_,_=>exact .refl _
  |6,_,_=>exact .refl _
  |q+8,_,_=>exact .refl _
end
section
open Go.TM
def Ni(p:Ky×List Lt):Ky×Int:=(p.1,cz p.2)
def pT(l:List (Ky×Int)):Prop:=l.Pairwise fun x y=>¬(y.1.1<x.1.1\/y.1.1=x.1.1/\y.1.2<x.1.2)
variable [bp]
theorem bHo{n:Nat}(h:n<=1000000):n*(nth ly (nth ly 30).elem).bytes<=140737488355328:=by
 rw[show(nth ly (nth ly 30).elem).bytes=24 by kernel_rfl];omega
theorem I6(P:PL)(L:List (Ky×Int))(hL:∀l',l'.Perm (P.st.map Ni)->pT l'->l'=L)(h1:P.st.length<=900000)(hl:∀p∈P.st,p.2.length<=1000000/\∀x∈p.2,0<=x.n/\x.n<=1099511627776):ao Tryz.prog 10 [.ptr 0 0] 7 (ki P) 0 [.dv (.sl 3 (L.map mX))] (ki P):=by
 have ls:(oH P.st).length=P.st.length:=ach ..
 refine cX Tryz.func10 rfl (by kernel_rfl) ?_
 refine⟨mX ((0,0),0),⟨rf,rf,rf,tv⟩,Int.le_refl _,Int.natCast_nonneg _,(by rw[show(nth ly (nth ly 30).elem).bytes=24 by kernel_rfl];omega),by omega,false,(fun h=>by cases h),?_⟩
 refine⟨LpS,fun z=>⟨9,[(0,.ptr 0 0),(3,.own 7 0 0 []),(16,.ptr 8 0)],[(0,.cells (plC P)),(1,.held),(2,.tree 0 0 (.omap cy (nv P.b7))),(3,.tree 0 0 (.aC 7 (P.sp.map aO))),(4,.tree 0 0 (.aC 11 (P.fl.map aM))),(5,.tree 0 0 (.omap cy (mZ P.imp))),(6,.tree 0 0 (.omap cy (mZ P.ret))),(7,.tree 0 0 (.aC 3 ((z.done.map Ni).map mX))),(8,.kR 1 [] (.omap eh (oH P.st)) (oH z.left) none)]⟩,fun z=>(z.done++z.left).Perm P.st,fun z=>z.left.length,⟨P.st,[]⟩,fun z=>rfl,?_,List.Perm.refl _,?_⟩
 ·refine⟨⟨rfl,rfl,rfl,tv⟩,?_,rfl,rfl⟩
  repeat' first|exact trivial|rfl|exact rf|refine acg ?_ ?_
  all_goals exact .inl rfl
 ·rintro⟨left,done⟩ g1
  simp only at g1
  refine⟨tv,fun h5=>⟨(fun h6=>by cases h6),fun _=>?_⟩,fun pos cc jH=>⟨fun _=>?_,fun h6=>by cases h6⟩⟩
  ·have hz:left=[]:=List.map_eq_nil_iff.1 h5
   subst hz
   rw[List.append_nil]at g1
   refine .inr ⟨[7],[.own 0 0 0 [],.dv (.fn 39 [])],_,0,_,FR (done.map Ni) (by rw[ach,g1.length_eq];omega),by kernel_rfl,⟨rfl,rf,tv⟩,⟨⟨rfl,rfl⟩,tv⟩,?_⟩
   rintro rs K2 ⟨rfl,l',⟨hp,hs⟩,rfl⟩
   have Ao:l'=L:=hL l' (hp.trans (g1.map Ni)) hs
   subst Ao
   refine⟨by kernel_rfl,?_⟩
   exact⟨_,_,⟨rfl,rfl⟩,by kernel_rfl,⟨y7 3 (fun _=>rfl),tv⟩,aX (k:=ki P) rfl⟩
  ·have jH:(left.map fun p=>DV.fF (qN p.1) (aS p.2))[pos]?=some cc:=jH
   rw[acj]at jH
   obtain⟨⟨k,l⟩,hk,rfl⟩:∃p,left[pos]?=some p/\cc=DV.fF (qN p.1) (aS p.2):=by
    cases hq:left[pos]? with
    |none=>rw[hq]at jH;cases jH
    |some p=>rw[hq]at jH;exact⟨p,rfl,by simpa using jH.symm⟩
   have AS:((done++[(k,l)])++left.eraseIdx pos).Perm P.st:=by
    rw[acK];exact((pS hk).append_left done).symm.trans g1
   have Ui:=hl (k,l) (AS.mem_iff.1 (by simp))
   refine⟨fE l,?_⟩
   have nt:done.length<=900000:=by have:=g1.length_eq;rw[acw]at this;omega
   have hap:((done++[(k,l)]).map Ni).map mX=(done.map Ni).map mX++[mX (Ni (k,l))]:=by simp
   refine .inl ⟨_,fun _=>(uI l Ui.1 Ui.2).ok,?_⟩
   refine .inl ⟨[mX (Ni (k,l))],rfl,⟨rf,rf,rf,tv⟩,(by simp;rfl),?_⟩
   refine .inr ⟨[mX (Ni (k,l))],ca.refl _,bHo (by simp;omega),by simp;omega,?_⟩
   refine .inl ⟨by kernel_rfl,?_⟩
   refine⟨⟨left.eraseIdx pos,done++[(k,l)]⟩,?_,AS,?_⟩
   ·refine⟨⟨rfl,rfl,rfl,tv⟩,?_,rfl,rfl⟩
    repeat' first|exact trivial|rfl|exact rf|refine acg ?_ ?_
    all_goals first|exact .inl rfl|exact congrArg (DV.aC 3) hap.symm|exact congrArg (DV.aC 3) hap|exact kO _ left pos|exact(kO _ left pos).symm
   ·have:=(aci.1 hk).1
    show(left.eraseIdx pos).length<left.length
    rw[List.length_eraseIdx_of_lt this];omega
end
section
theorem BH{α:Type}{r:α->α->Prop}:∀{l l':List α},(∀a∈l,∀b∈l,r a b->r b a->a=b)->l.Perm l'->l.Pairwise r->l'.Pairwise r->l=l'
 |[],l',_,h,_,_=>h.nil_eq
 |a::t,[],_,h,_,_=>by have:=h.length_eq;simp at this
 |a::t,b::t',aao,h,h1,h2=>by
  have Vk:a=b:=by
   have ha:a∈b::t':=h.mem_iff.1 acv
   have hb:b∈a::t:=h.mem_iff.2 acv
   rcases acp.1 ha with e|ha'
   ·exact e
   rcases acp.1 hb with e|eB
   ·exact e.symm
   exact aao a acv b hb ((List.pairwise_cons.1 h1).1 b eB) ((List.pairwise_cons.1 h2).1 a ha')
  subst Vk
  have ht:t.Perm t':=List.Perm.cons_inv h
  rw[BH (fun x hx y hy=>aao x (acq _ hx) y (acq _ hy)) ht (List.pairwise_cons.1 h1).2 (List.pairwise_cons.1 h2).2]
theorem Gt:∀{l:List (Ky×Int)},(l.map (·.1)).Nodup->∀a∈l,∀b∈l,a.1=b.1->a=b
 |x::l,h,a,ha,b,hb,e=>by
  have h1:=(List.nodup_cons.1 h).1
  have h2:=(List.nodup_cons.1 h).2
  rcases acp.1 ha with rfl|ha'<;>rcases acp.1 hb with rfl|eB
  ·rfl
  ·exact absurd (show a.1∈l.map (·.1)by rw[e];exact List.mem_map_of_mem eB) h1
  ·exact absurd (show b.1∈l.map (·.1)by rw[<-e];exact List.mem_map_of_mem ha') h1
  ·exact Gt h2 a ha' b eB e
theorem Xh{l l':List (Ky×Int)}(hk:(l.map (·.1)).Nodup)(h:l.Perm l')(h1:pT l)(h2:pT l'):l=l':=
 BH (fun a ha b hb Vk hba=>Gt hk a ha b hb (by
  obtain⟨⟨a1,a2⟩,a3⟩:=a
  obtain⟨⟨b1,b2⟩,b3⟩:=b
  simp only at Vk hba⊢
  rw[Prod.mk.injEq]
  omega)) h h1 h2
end
section
def TU(a b:Ky):Prop:=a.1<b.1\/a.1=b.1/\a.2<b.2
theorem Gu{a b:Ky}:Tu a b=true↔TU a b:=by
 unfold Tu TU
 by_cases h1:a.1<b.1
 ·simp[h1]
 ·by_cases h2:a.1=b.1
  ·simp[h2]
  ·simp[h1,h2]
theorem MI(p:Ky×Int)(r:HL)(x:Ky×Int):FY (p::r) x=if Tu p.1 x.1 then p::FY r x else x::p::r:=by
 unfold FY
 simp only[Qa]
 split<;>simp
theorem BI(L:HL)(x:Ky×Int):(FY L x).Perm (x::L):=by
 unfold FY
 refine List.perm_middle.trans ?_
 rw[List.take_append_drop]
theorem v7:∀{L:HL} {x:Ky×Int},L.Pairwise (fun x y=>¬TU y.1 x.1)->(FY L x).Pairwise (fun x y=>¬TU y.1 x.1)
 |[],x,_=>by simp[FY,Qa]
 |p::r,x,h=>by
  obtain⟨h1,h2⟩:=List.pairwise_cons.1 h
  rw[MI]
  split
  ·rename_i hp
   have hp:=Gu.1 hp
   refine List.pairwise_cons.2 ⟨fun y hy=>?_,v7 h2⟩
   rcases acp.1 ((BI r x).mem_iff.1 hy)with rfl|hy
   ·unfold TU at hp⊢;omega
   ·exact h1 y hy
  ·rename_i hp
   have hp:¬TU p.1 x.1:=fun h=>hp (Gu.2 h)
   refine List.pairwise_cons.2 ⟨fun y hy=>?_,h⟩
   rcases acp.1 hy with rfl|hy
   ·exact hp
   ·have:=h1 y hy
    unfold TU at this hp⊢;omega
theorem r5:∀(m:SM) (L:HL),L.Pairwise (fun x y=>¬TU y.1 x.1)->(m.foldl hoF L).Pairwise (fun x y=>¬TU y.1 x.1)/\(m.foldl hoF L).Perm ((m.filter fun p=>decide (bZ p.2≠0)).map (fun p=>(p.1,bZ p.2))++L)
 |[],L,h=>⟨h,by simp⟩
 |p::m,L,h=>by
  simp only[List.foldl_cons,List.filter_cons]
  unfold hoF
  by_cases h0:bZ p.2=0
  ·rw[if_pos h0]
   simp only[h0,ne_eq,not_true_eq_false,decide_false,Bool.false_eq_true,if_false]
   exact r5 m L h
  ·rw[if_neg h0]
   have:=r5 m _ (v7 (x:=(p.1,bZ p.2)) h)
   refine⟨this.1,this.2.trans ?_⟩
   simp only[h0,ne_eq,not_false_eq_true,decide_true,if_true,List.map_cons,List.cons_append]
   exact((BI L (p.1,bZ p.2)).append_left _).trans List.perm_middle
theorem pU(m:SM):pT (pP m)/\(pP m).Perm ((m.filter fun p=>decide (bZ p.2≠0)).map fun p=>(p.1,bZ p.2)):=by
 have:=r5 m [] .nil
 rw[List.append_nil]at this
 exact⟨this.1.imp fun {x y} h=>h,this.2⟩
end
section
open Go.TM
structure Inv(P:PL)(R:RL):Prop where
 fI:Good R
 sh:P.sh=R.sh
 fl:P.fl=R.fl
 sp:P.sp=R.sp
 nk:Nk P.st/\Nk P.b7/\Nk P.imp/\Nk P.ret
 ret:∀g,aW P.ret g=ku R.fl g
 dx:Dx R
 st:∀k,aW P.st k=if bP R.st k=[]then none else some (bP R.st k)
 b7:∀j,F2 P.b7 j=bG R.st j
 imp:∀g,aW P.imp g=wD R.fl g
 step:∀f∈R.fl,f.step<R.sh*4294967296+R.sp.length
 fll:R.fl.length<=4*R.sp.length
 sps:∀s∈R.sp,s.mv.length<=160/\∀m∈s.mv,m.ps.length<=20
 now:0<=eX R.sp
theorem Inv.sj{P:PL}{R:RL}(h:Inv P R)(k:Ky):bP P.st k=bP R.st k:=by
 show(aW P.st k).getD []=_
 rw[h.st]
 split
 ·rename_i e;rw[e];rfl
 ·rfl
structure fQ(R:RL)(s:cM):Prop where
 aL:vD s.aL
 len:s.mv.length<=4
 ps:∀m∈s.mv,m.ps.length<=20
 pos:jv (eX R.sp) s=true->uV R s/\(s.kind=5->∀m∈s.mv,∀x∈m.ps,0<=x.f/\x.f<=9223372036854775807)
theorem U9{R:RL}{s:cM}(hm:∀m∈s.mv,FH R.sh s m):uV R s/\(s.kind=5->∀m∈s.mv,∀x∈m.ps,0<=x.f/\x.f<=9223372036854775807):=⟨.inl hm,fun k5 m my x hx=>by
 rcases(hm m my).ps with⟨_,_,g,g0,g1,e⟩|⟨k,_⟩
 ·rw[e,aco]at hx;subst hx;exact⟨g0,g1⟩
 ·exact absurd k5 k⟩
theorem Gv{now:Int}{s:cM}(h:jv now s=true):∀m∈s.mv,dA m=true:=fun m hm=>by
 unfold jv at h
 rw[acU,acU]at h
 have:=acI.1 h.1.2 m hm
 unfold Bs at this
 rw[acU]at this
 exact this.1
theorem QK{R:RL}{s:cM}(hm:uV R s){i:Nat}{m:di}(hx:s.mv[i]?=some m):FH R.sh s m\/i=0/\∃x,MG R s m x\/∃f,MH R s m x f:=by
 rcases hm with hm|⟨m',x,he,h⟩
 ·exact .inl (hm m (ack hx))
 ·rw[he]at hx
  have hi:i=0:=by have:=(aci.1 hx).1;simpa using this
  subst hi
  injection hx with hx;subst hx
  exact .inr ⟨rfl,x,h⟩
theorem QL{R:RL}{s:cM}{m:di}(h:(bl R s m).1≠0):(bl R s m).2=R:=by
 unfold bl at h⊢
 split
 ·rfl
 ·rename_i h1
  rw[if_neg h1]at h
  split
  ·rfl
  ·rename_i h2;rw[if_neg h2]at h;exact absurd rfl h
theorem KO{R:RL}{s:cM}(hG:Good R)(hD:Dx R)(hl:R.fl.length+s.mv.length<=160)(hm:uV R s):∀i,(Good (eJ R s i).2/\Dx (eJ R s i).2)/\(eJ R s i).2.fl.length<=R.fl.length+min i s.mv.length
 |0=>⟨⟨hG,hD⟩,Nat.le_add_right _ _⟩
 |i+1=>by
  obtain⟨⟨h1,h3⟩,h2⟩:=KO hG hD hl hm i
  by_cases h0:(eJ R s i).1=0
  ·cases hx:s.mv[i]? with
   |none=>
    have:eJ R s (i+1)=eJ R s i:=by unfold eJ;rw[acs,hx];simp
    rw[this];exact⟨⟨h1,h3⟩,by omega⟩
   |some m=>
    have hi:=(aci.1 hx).1
    rw[lI hx h0]
    by_cases hp:(bl (eJ R s i).2 s m).1=0
    ·rcases QK hm hx with my|⟨rfl,x,my⟩
     ·have my:FH (eJ R s i).2.sh s m:=by rw[(uW R s i).2];exact my
      have:=C7 h1 (by omega) my hp
      exact⟨⟨this.1,TT h1 h3 my hp⟩,by omega⟩
     ·have:=KN (x:=x) hG hD (by omega) my hp
      exact⟨⟨this.1.1,this.2⟩,by have:=this.1.2.1;show(bl R s m).2.fl.length<=_;omega⟩
    ·rw[QL hp];exact⟨⟨h1,h3⟩,by omega⟩
  ·rw[qx h0 1];exact⟨⟨h1,h3⟩,by omega⟩
theorem qz{R:RL}{s:cM}{i j:Nat}(h:i<=j)(h0:(eJ R s j).1=0):(eJ R s i).1=0:=Decidable.byContradiction fun hc=>by
 have:=qx hc (j-i)
 rw[show i+(j-i)=j by omega]at this
 rw[this]at h0;exact hc h0
theorem Gw{R:RL}{s:cM}:∀n,(eJ R s n).1≠0->∃k,k<n/\(eJ R s k).1=0/\(eJ R s (k+1)).1=(eJ R s n).1
 |0,h=>absurd rfl h
 |n+1,h=>by
  by_cases h0:(eJ R s n).1=0
  ·exact⟨n,Nat.lt_succ_self n,h0,rfl⟩
  ·have e:=qx h0 1
   obtain⟨k,h1,h2,h3⟩:=Gw n h0
   exact⟨k,by omega,h2,by rw[h3,e]⟩
theorem Inv.abx{P:PL}{R:RL}(h:Inv P R)(s:cM):ke P s (ch0 P s) R where
 sh:=h.sh.symm
 sp:=h.sp.symm
 TL:=rfl
 nk:=⟨List.nodup_nil,List.nodup_nil,List.nodup_nil,List.nodup_nil⟩
 ret g:=h.ret g
 fl:=by rw[h.fl];exact(List.append_nil _).symm
 st k:=h.sj k
 b7 j:=h.b7 j
 imp g:=h.imp g
 sk:=by
  have:(R.fl.filter fun f=>f.step==R.sh*4294967296+R.sp.length&&f.to==0)=[]:=by
   rw[List.filter_eq_nil_iff]
   intro f hf hc
   rw[acU]at hc
   have:=h.step f hf
   have:=beq_iff_eq.1 hc.1
   omega
  show[]=qY _ _
  unfold qY;rw[this];rfl
theorem QM(l:List cM)(s:cM):eX (l++[s])=s.tick:=by unfold eX;rw[List.getLast?_concat]
theorem Inv.next{P:PL}{R R1:RL}{s:cM}{c:Ch}(h:Inv P R)(hs:ke P s c R1)(hG:Good R1)(hD:Dx R1)(h1:R1.sh=R.sh/\R1.sp=R.sp)(hl:R1.fl.length<=R.fl.length+s.mv.length)(hm:s.mv.length<=4/\∀m∈s.mv,m.ps.length<=20)(lU:R.sp.length<40)(ht:eX R.sp<=s.tick):Inv (U4 P c c.st) { R1 with sp:=R.sp++[kf R s] }where
 fI:={ hG with
  sp:=by simp only[acw,List.length_singleton];omega
  D5:=fun f hf=>by
   obtain⟨a1,a2,a3,a4,a5,a6⟩:=hG.D5 f hf
   refine⟨a1,a2,a3,a4,?_,a6⟩
   simp only[acw,List.length_singleton]
   rw[h1.2]at a5
   omega }
 sh:=h.sh.trans h1.1.symm
 fl:=hs.fl.symm
 sp:=by
  show P.sp++[c.sp]=R.sp++[kf R s]
  rw[hs.TL,h.sp]
  unfold spI kf
  rw[h.sp,h.sh]
 nk:=⟨Du _ _ h.nk.1,uT _ _ h.nk.2.1,uT _ _ h.nk.2.2.1,uT _ _ h.nk.2.2.2⟩
 ret g:=by
  show aW (MA P.ret c.ret) g=ku R1.fl g
  rw[nb _ _ hs.nk.2.2.2,<-hs.ret];rfl
 dx:=⟨hD.dj,hD.ids,hD.rv,hD.fn,hD.ky⟩
 st k:=by
  show aW (BF P.st c.st) k=if bP R1.st k=[]then none else some (bP R1.st k)
  rw[tx _ _ h.nk.1 hs.nk.1,<-hs.st]
  unfold ez
  cases hc:aW c.st k with
  |some l=>rfl
  |none=>
   simp only[Option.getD_none]
   rw[h.st,h.sj]
 b7 j:=by
  show F2 (MA P.b7 c.b7) j=bG R1.st j
  rw[<-hs.b7]
  unfold F2
  rw[nb _ _ hs.nk.2.1]
  cases aW c.b7 j<;>rfl
 imp g:=by
  show aW (MA P.imp c.imp) g=wD R1.fl g
  rw[nb _ _ hs.nk.2.2.1,<-hs.imp];rfl
 step f hf:=by
  have:=(hG.D5 f hf).2.2.2.2.1
  simp only[acw,List.length_singleton]
  rw[h1.2]at this
  omega
 fll:=by
  have:=h.fll
  simp only[acw,List.length_singleton];omega
 sps x hx:=by
  rcases acr.1 hx with hx|hx
  ·exact h.sps x hx
  ·rw[aco]at hx;subst hx
   exact⟨by have:=hm.1;simp only[kf];omega,hm.2⟩
 now:=by rw[QM];have:=h.now;simp only[kf];omega
theorem Inv.perm{P:PL}{R:RL}(h:Inv P R):P.st.Perm (R.st.filter fun p=>decide (bZ p.2≠0)):=by
 have nd:∀{l:SM},Nk l->l.Nodup:=fun hl=>(List.pairwise_map.1 hl).imp fun h e=>h (congrArg _ e)
 have htv:∀k l,(k,l)∈R.st->(bZ l≠0↔l≠[]):=fun k l hm=>by
  have hl:=h.fI.pL _ hm
  have hf:=h.fI.fl
  rw[pM (eD hl.1 (by have:=hl.2;simp only at this;omega))]
  cases l with
  |nil=>simp[cz]
  |cons x r=>
   have h1:=ai.1 (hl.1 x acv)
   have h2:=(yJ (l:=r) fun y hy=>l7 (hl.1 y (acq _ hy))).1
   simp only[cz,List.map_cons,List.sum_cons]at*
   simp;omega
 refine(List.perm_ext_iff_of_nodup (nd h.nk.1) ((nd h.fI.nk).sublist List.filter_sublist)).2 fun⟨k,l⟩=>?_
 rw[List.mem_filter,decide_eq_true_eq]
 constructor
 ·intro hm
  have h1:=qq h.nk.1 hm
  rw[h.st]at h1
  split at h1
  ·cases h1
  ·rename_i cC
   injection h1 with h1
   subst h1
   have:=w7 cC
   exact⟨this,(htv _ _ this).2 cC⟩
 ·rintro⟨h1,h2⟩
  have cC:=(htv _ _ h1).1 h2
  have:bP R.st k=l:=by unfold bP;rw[qq h.fI.nk h1];rfl
  refine lx ?_
  rw[h.st,this,if_neg cC]
theorem Inv.hold{P:PL}{R:RL}(h:Inv P R)(l:HL)(hl:l.Perm (P.st.map Ni))(hs:pT l):l=pP R.st:=by
 have hr:=pU R.st
 have e:P.st.map Ni=P.st.map fun p=>(p.1,bZ p.2):=List.map_congr_left fun p hp=>by
  have hm:=(List.mem_filter.1 (h.perm.mem_iff.1 hp)).1
  have hq:=h.fI.pL p hm
  have:=h.fI.fl
  unfold Ni
  rw[pM (eD hq.1 (by omega))]
 have hp:l.Perm (pP R.st):=hl.trans (by rw[e];exact(h.perm.map _).trans hr.2.symm)
 refine Xh ?_ hp hs hr.1
 rw[(hl.map _).nodup_iff,List.map_map]
 exact h.nk.1
variable [bp]
theorem QN(hS:n4){P:PL}{R:RL}{s:cM}(h:Inv P R)(hl:R.fl.length+s.mv.length<=160)(hm:uV R s):∀n,n<=s.mv.length->∃cN:Nat->Ch,(∀i,i<=n->(eJ R s i).1=0->ke P s (IW P s cN i) (eJ R s i).2)/\
 ∀i m,i<n->s.mv[i]?=some m->(eJ R s i).1=0->ao Tryz.prog 87 [.ptr 0 0,cF (aq m)] 14 (dI 0 0 P (IW P s cN i)) 0 [.dv (I (eJ R s (i+1)).1)] (dI 1 1 P (cN i))
 |0,_=>⟨fun _=>ch0 P s,fun i hi _=>by
  have:i=0:=by omega
  subst this;exact h.abx s,fun i m hi=>absurd hi (Nat.not_lt_zero _)⟩
 |n+1,hn=>by
  obtain⟨cN,h1,h2⟩:=QN hS h hl hm n (by omega)
  by_cases h0:(eJ R s n).1=0
  ·obtain⟨m,hx⟩:∃m,s.mv[n]?=some m:=⟨_,aaS (show n<s.mv.length by omega)⟩
   have hg:=KO h.fI h.dx hl hm n
   obtain⟨c',hc,hs⟩:∃c',ao Tryz.prog 87 [.ptr 0 0,cF (aq m)] 14 (dI 0 0 P (IW P s cN n)) 0 [.dv (I (bl (eJ R s n).2 s m).1)] (dI 1 1 P c')/\((bl (eJ R s n).2 s m).1=0->ke P s c' (bl (eJ R s n).2 s m).2):=by
    rcases QK hm hx with my|⟨rfl,x,my|⟨f,my⟩⟩
    ·exact Qx hS (h1 n (acN _) h0) hg.1.1 (by omega) (by rw[(uW R s n).2];exact my)
    ·exact Xf (h1 0 (acN _) h0) h.fI h.dx (by omega) my
    ·exact Xg (h1 0 (acN _) h0) rfl h.fI h.dx (by omega) my (by have:=(h.fI.D5 f my.mem).2.2.2.1;rw[my.id]at this;have:=h.fI.sh;have:=h.fI.fl;omega)
   have hch:∀i,i<=n->IW P s (fun i=>if i=n then c' else cN i) i=IW P s cN i:=fun i hi=>by
    cases i with
    |zero=>rfl
    |succ i=>exact if_neg (by omega)
   have Is:IW P s (fun i=>if i=n then c' else cN i) (n+1)=c':=if_pos rfl
   refine⟨fun i=>if i=n then c' else cN i,fun i hi FF=>?_,fun i m' hi Cr FF=>?_⟩
   ·by_cases e:i=n+1
    ·subst e
     rw[Is,lI hx h0]
     rw[lI hx h0]at FF
     exact hs FF
    ·rw[hch i (by omega)];exact h1 i (by omega) FF
   ·rw[hch i (by omega)]
    by_cases e:i=n
    ·subst e
     rw[hx]at Cr;injection Cr with Cr;subst Cr
     rw[lI hx h0];simp only[if_pos];exact hc
    ·simp only[if_neg e];exact h2 i m' (by omega) Cr FF
  ·refine⟨cN,fun i hi FF=>?_,fun i m hi hx FF=>?_⟩
   ·by_cases e:i=n+1
    ·subst e;exact absurd (qz (Nat.le_succ n) FF) h0
    ·exact h1 i (by omega) FF
   ·by_cases e:i=n
    ·subst e;exact absurd FF h0
    ·exact h2 i m (by omega) hx FF
def r6(R:RL)(s:cM):Int:=bif jv (eX R.sp) s then(eJ R s s.mv.length).1 else 1
def Nj(R:RL)(s:cM):RL:={ (eJ R s s.mv.length).2 with sp:=R.sp++[kf R s] }
end
section
open Go.TM
variable [bp]
theorem qA(hS:n4){P:PL}{R:RL}{s:cM}(h:Inv P R)(lU:R.sp.length<40)(hf:fQ R s):
 (r6 R s≠0/\ao Tryz.prog 15 [.ptr 0 0,cF (aO s)] 7 (ki P) 0 [.dv (I 0),.dv (I (r6 R s))] (ki P)/\
  (ao Tryz.prog 16 [.ptr 0 0,cF (aO s)] 4 (dr R) 0 [.dv (I 0),.dv (I (r6 R s))] (dr R)\/ao Tryz.prog 16 [.ptr 0 0,cF (aO s)] 4 (dr R) 5 [.dv (I 0),.dv (I (r6 R s))] (rlY R)))\/
 (r6 R s=0/\∃P':PL,Inv P' (Nj R s)/\ao Tryz.prog 15 [.ptr 0 0,cF (aO s)] 7 (ki P) 0 [.dv (I (R.sh*4294967296+R.sp.length)),.dv (I 0)] (zm 1 1 P')/\
  ao Tryz.prog 16 [.ptr 0 0,cF (aO s)] 4 (dr R) 5 [.dv (I (R.sh*4294967296+R.sp.length)),.dv (I 0)] (ju 1 1 1 (Nj R s))):=by
 have hlen:=hf.len
 have TV:∀m∈s.mv,m.ps.length<=4000:=fun m hm=>by have:=hf.ps m hm;omega
 have ab8:=congrArg List.length h.sp
 have ab9:=congrArg List.length h.fl
 have U0:=h.fI.fl
 have oQ:0<=P.sh/\P.sh<=12:=by have:=h.fI.sh;rw[h.sh];omega
 have AS:rZ (eX P.sp) s=jv (eX R.sp) s:=by rw[h.sp];exact pos_eq _ s h.now
 unfold r6
 cases hp:jv (eX R.sp) s with
 |false=>
  have hr:=Gq R s (by omega) hf.aL (by omega) TV (.inr hp)
  rw[if_neg (by omega)]at hr
  have ht:=Mw P s hf.aL (by omega) (by omega) TV (AS.trans hp) (by omega)
  exact .inl ⟨show(1:Int)≠0 by decide,zk P s 1 (by decide) ht,.inl hr⟩
 |true=>
  obtain⟨hm,hk5⟩:=hf.pos hp
  have Wk:=Gv hp
  have lT:R.fl.length+s.mv.length<=160:=by have:=h.fll;omega
  have hg:=KO h.fI h.dx lT hm
  have hSG:SG R s:=⟨hf.aL,by omega,hf.ps,by omega,fun i=>(hg i).1.1.rg,Wk,hk5⟩
  obtain⟨cN,tJ,ya⟩:=QN hS h lT hm s.mv.length (acN _)
  by_cases h0:(eJ R s s.mv.length).1=0
  ·have hx:=Gr R s hSG hp h0
   have ht:=Mz P s hf.aL oQ (by omega) TV (AS.trans hp) (by omega) cN fun i m hi=>by
    have Fs:=(aci.1 hi).1
    have:=ya i m Fs hi (qz (Nat.le_of_lt Fs) h0)
    rw[qz (show i+1<=s.mv.length from Fs) h0]at this
    exact this
   have hs:=tJ s.mv.length (acN _) h0
   generalize IW P s cN s.mv.length=c at ht hs
   have aap:=uW R s s.mv.length
   have hi:=Inv.next h hs (hg s.mv.length).1.1 (hg s.mv.length).1.2 ⟨aap.2,aap.1⟩ (by have:=(hg s.mv.length).2;omega) ⟨hlen,hf.ps⟩ lU (by
    simp only[jv,acU,decide_eq_true_eq]at hp
    exact hp.1.1.2.1)
   have hcf:=congrArg List.length hs.fl
   have nt:=(hg s.mv.length).1.1.fl
   rw[acw]at hcf
   have U3:=IX P s c ⟨h.nk.2.1,h.nk.2.2.1,h.nk.2.2.2,hs.nk.2.1,hs.nk.2.2.1,hs.nk.2.2.2⟩ ⟨by omega,by omega,by omega⟩ ⟨h.nk.1,hs.nk.1⟩ ht
   have qH:c.sp.id=R.sh*4294967296+R.sp.length:=by rw[hs.TL,<-h.sh,<-h.sp];rfl
   rw[qH]at U3
   exact .inr ⟨h0,_,hi,Qq U3,hx⟩
  ·obtain⟨k,hk,JF,hke⟩:=Gw s.mv.length h0
   have hx:=Gs R s hSG hp h0
   have ht:=My P s hf.aL oQ (by omega) TV (AS.trans hp) (by omega) cN k hk (eJ R s s.mv.length).1 h0 (cN k) (fun i m hi hx=>by
    have:=ya i m (by omega) hx (qz (Nat.le_of_lt hi) JF)
    rw[qz (show i+1<=k from hi) JF]at this
    exact this) fun m hx=>by
    have:=ya k m hk hx JF
    rw[hke]at this
    exact this
   exact .inl ⟨h0,zk P s _ h0 ht,.inr hx⟩
end
section
open Go.TM
def MJ(f:gC)(n:List Int)(p:Int):di:=⟨0,1+pick n (p+4) 4,f.it,1+pick n (p+3) (f.n-pick n (p+2) f.n),[⟨f.id,pick n (p+2) f.n,1+pick n (p+3) (f.n-pick n (p+2) f.n)⟩]⟩
def Xi(n:List Int)(p:Int)(i:Nat)(f:gC):Bool:=decide (f.kind≠6/\f.to=0)&&decide (pick n (p+1+(i:Int).tmod 4) 2=0)
def D6(fl:List gC)(n:List Int)(p:Int):Nat->List di
 |0=>[]
 |i+1=>match D6 fl n p i with
  |[]=>match fl[i]? with
   |some f=>bif Xi n p i f then[MJ f n p]else[]
   |none=>[]
  |m::l=>m::l
def wE(k:Ky)(y:Lt)(n:List Int)(p:Int):di:=⟨k.1,if pick n (p+5) 4=k.1 then 0 else pick n (p+5) 4,k.2,1+pick n (p+4) (y.n-pick n (p+3) y.n),[⟨y.f,y.a+pick n (p+3) y.n,1+pick n (p+4) (y.n-pick n (p+3) y.n)⟩]⟩
def Va(R:RL)(n:List Int)(p:Int):List di:=match R.st[(pick n (p+1) R.st.length).toNat]? with
 |none=>[]
 |some (k,l)=>match l[(pick n (p+2) l.length).toNat]? with
  |none=>[]
  |some y=>[wE k y n p]
def r7(R:RL)(n:List Int)(p:Int):cM:=if pick n p 3=0 then⟨0,9,9,(R.sp.length:Int).tdiv 2,-1,0,D6 R.fl n p R.fl.length⟩else⟨0,7,9,(R.sp.length:Int).tdiv 2,-1,0,Va R n p⟩
theorem aaq{fl:List gC}{n:List Int}{p:Int}{i:Nat}{f:gC}(hf:fl[i]?=some f)(h:(bif bif bif f.kind !=6 then f.to==0 else false then(((D6 fl n p i).map aq).length:Int)==0 else false then pick n (p+1+(i:Int).tmod 4) 2==0 else false)=true):D6 fl n p (i+1)=[MJ f n p]:=by
 have h0:D6 fl n p i=[]:=by
  cases hr:D6 fl n p i with
  |nil=>rfl
  |cons m l=>rw[hr]at h;simp at h;omega
 rw[D6,h0,hf]
 simp only[h0]at h
 have hc:Xi n p i f=true:=by
  unfold Xi
  simp at h⊢
  omega
 simp only[hc];rfl
theorem aar{fl:List gC}{n:List Int}{p:Int}{i:Nat}{f:gC}(hf:fl[i]?=some f)(h:(bif bif bif f.kind !=6 then f.to==0 else false then(((D6 fl n p i).map aq).length:Int)==0 else false then pick n (p+1+(i:Int).tmod 4) 2==0 else false)=false):D6 fl n p (i+1)=D6 fl n p i:=by
 cases h0:D6 fl n p i with
 |cons m l=>rw[D6,h0]
 |nil=>
  rw[D6,h0,hf]
  simp only[h0]at h
  have hc:Xi n p i f=false:=by
   unfold Xi
   simp at h⊢
   omega
  simp only[hc];rfl
end
section
open Go.TM
theorem QO{fl:List gC}{n:List Int}{p:Int}:∀i,D6 fl n p i=[]\/∃f∈fl,f.kind≠6/\f.to=0/\D6 fl n p i=[MJ f n p]
 |0=>.inl rfl
 |i+1=>by
  rcases QO (fl:=fl) (n:=n) (p:=p) i with h|⟨f,h1,h2,h3,h4⟩
  ·unfold D6
   rw[h]
   cases hx:fl[i]? with
   |none=>exact .inl rfl
   |some f=>
    simp only
    cases hc:Xi n p i f with
    |false=>exact .inl rfl
    |true=>
     unfold Xi at hc
     rw[acU,acS,acS]at hc
     exact .inr ⟨f,ack hx,hc.1.1,hc.1.2,rfl⟩
  ·refine .inr ⟨f,h1,h2,h3,?_⟩
   unfold D6
   rw[h4]
theorem KP{R:RL}{k:Int}{t:Int}{ms:List di}(hk:k≠5)(h:ms=[]\/∃m,ms=[m]/\m.ps.length<=20/\∃x,MG R ⟨0,k,9,t,-1,0,ms⟩ m x\/∃f,MH R ⟨0,k,9,t,-1,0,ms⟩ m x f):fQ R ⟨0,k,9,t,-1,0,ms⟩:=by
 rcases h with h|⟨m,h,hp,x,hx⟩
 ·subst h
  refine⟨by unfold vD;simp,by simp,fun m hm=>(by cases hm),fun hc=>?_⟩
  unfold jv Am at hc
  simp at hc
 ·have h':=h
  refine⟨by unfold vD;simp,by rw[h];simp,fun q hq=>?_,fun _=>⟨.inr ⟨m,x,h,hx⟩,fun k5=>absurd k5 hk⟩⟩
  rw[h,aco]at hq;subst hq;exact hp
theorem QP{R:RL}(hG:Good R)(hD:Dx R)(n:List Int)(p:Int):fQ R (r7 R n p):=by
 unfold r7
 split
 ·refine KP (by decide) ?_
  rcases QO (fl:=R.fl) (n:=n) (p:=p) R.fl.length with h|⟨f,h1,h2,h3,h4⟩
  ·exact .inl h
  ·refine .inr ⟨_,h4,by simp[MJ],⟨f.id,pick n (p+2) f.n,1+pick n (p+3) (f.n-pick n (p+2) f.n)⟩,.inr ⟨f,?_⟩⟩
   have hn:=hD.fn f h1
   have qH:=(hG.D5 f h1).2.2.1
   have oQ:=hG.sh
   have b2:=kz n (p+2) f.n (by omega)
   have b3:=kz n (p+3) (f.n-pick n (p+2) f.n) (by omega)
   have b4:=kz n (p+4) 4 (by omega)
   refine⟨acG (by simp only[MJ];omega),rfl,rfl,rfl,ai.2 (by simp only;omega),h1,rfl,h3,h2,rfl,by simp only;omega⟩
 ·refine KP (by decide) ?_
  unfold Va
  cases hs:R.st[(pick n (p+1) R.st.length).toNat]? with
  |none=>exact .inl rfl
  |some q=>
   obtain⟨k,l⟩:=q
   simp only
   cases hy:l[(pick n (p+2) l.length).toNat]? with
   |none=>exact .inl rfl
   |some y=>
    have hq:=ack hs
    have RJ:=ack hy
    have hk:=hD.ky _ hq
    have hyp:=ai.1 ((hG.pL _ hq).1 y RJ)
    have ak:bP R.st k=l:=by unfold bP;rw[qq hG.nk hq];rfl
    have b3:=kz n (p+3) y.n (by omega)
    have b4:=kz n (p+4) (y.n-pick n (p+3) y.n) (by omega)
    have b5:=kz n (p+5) 4 (by omega)
    simp only at hk
    refine .inr ⟨_,rfl,by simp[wE],⟨y.f,y.a+pick n (p+3) y.n,1+pick n (p+4) (y.n-pick n (p+3) y.n)⟩,.inl ⟨acG ?_,rfl,?_,rfl,ai.2 (by simp only;omega),rfl,y,?_,rfl,by simp only;omega,by simp only;omega⟩⟩
    ·simp only[wE]
     split<;>omega
    ·simp only[wE];omega
    ·rw[show((wE k y n p).fr,(wE k y n p).it)=k from rfl,ak];exact RJ
end
section
open Go.TM
variable [bp]
end
end Go.Proofs.YtmojfblpbcficaaGreatDoor
