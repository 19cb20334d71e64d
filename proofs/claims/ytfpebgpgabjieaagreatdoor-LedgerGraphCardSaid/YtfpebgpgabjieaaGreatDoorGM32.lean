import Derived.Test.YtfpebgpgabjieaaGreatDoorGM31
set_option linter.all false
open Go.TM.oA Go.TM.oB Go.TM.oC Go.TM.oD Go.TM.oE
namespace Go.Proofs.YtfpebgpgabjieaaGreatDoor
set_option maxRecDepth 100000
set_option maxHeartbeats 4000000
section
open Go.TM
def cpK(a b:IM Int):ad:=[(0,.tree 0 0 (.omap bX (j4 a))),(1,.tree 0 0 (.omap bX (j4 b)))]
variable [bj]
structure LpC where
 left:IM Int
 done:IM Int
def UZ(a b:IM Int):IM Int:=b.foldl (fun m p=>aH m p.1 p.2) a
theorem tK{α:Type}:∀{l:List α} {i:Nat} {x:α},l[i]?=some x->l.Perm (x::l.eraseIdx i)
 |[],i,x,h=>by simp at h
 |y::l,0,x,h=>by simp at h;subst h;simp
 |y::l,i+1,x,h=>by
  have:=tK (l:=l) (i:=i) (x:=x) (by simpa using h)
  rw[List.eraseIdx_cons_succ]
  exact(this.cons y).trans (List.Perm.swap x y _)
theorem qG{α β:Type}(f:α->β):∀(l:List α) (i:Nat),(l.eraseIdx i).map f=(l.map f).eraseIdx i
 |[],_=>rfl
 |_::_,0=>rfl
 |_::l,i+1=>by simp only[List.eraseIdx_cons_succ,List.map_cons,qG f l i]
theorem DE(a b:IM Int):bU Tryz.prog 52 [.own 0 0 0 [],.own 1 0 0 []] 2 (cpK a b) 0 (fun rs k=>∃done:IM Int,done.Perm b/\rs=[]/\k=cpK (UZ a done) b):=by
 refine mS fO mixed (eu _) (fh _) Tryz.func52 rfl rfl (by kernel_rfl) ?_
 refine⟨LpC,fun z=>⟨3,[(0,.own 0 0 0 []),(7,.ptr 2 0)],[(0,.tree 0 0 (.omap bX (j4 (UZ a z.done)))),(1,.held),(2,.lL 1 [] (.omap bX (j4 b)) (j4 z.left) none)]⟩,fun z=>(z.done++z.left).Perm b,fun z=>z.left.length,⟨b,[]⟩,fun z=>rfl,?_,List.Perm.refl _,?_⟩
 ·exact⟨⟨rfl,rfl,tv⟩,⟨⟨rfl,rfl⟩,tv,⟨rfl,rfl,rfl,rfl,.inl rfl,tv⟩,tv⟩,rfl,rfl⟩
 ·rintro⟨left,done⟩ g1
  simp only at g1
  refine⟨tv,fun h5=>⟨(fun h6=>by cases h6),fun _=>?_⟩,fun pos cc mw=>⟨fun _=>?_,fun h6=>by cases h6⟩⟩
  ·have hz:left=[]:=List.map_eq_nil_iff.1 h5
   subst hz
   rw[List.append_nil]at g1
   exact⟨_,_,⟨done,g1,rfl,rfl⟩,by kernel_rfl,tv,⟨rfl,rfl⟩,⟨rfl,rfl⟩,tv⟩
  ·have mw:(left.map fun p=>DV.fT (eI p.1) (eI p.2))[pos]?=some cc:=mw
   rw[adQ]at mw
   obtain⟨⟨k,x⟩,hk,rfl⟩:∃p,left[pos]?=some p/\cc=DV.fT (eI p.1) (eI p.2):=by
    cases hq:left[pos]? with
    |none=>rw[hq]at mw;cases mw
    |some p=>rw[hq]at mw;exact⟨p,rfl,by simpa using mw.symm⟩
   have HV:((done++[(k,x)])++left.eraseIdx pos).Perm b:=by
    rw[aef];exact((tK hk).append_left done).symm.trans g1
   have hc:UZ a (done++[(k,x)])=aH (UZ a done) k x:=by unfold UZ;rw[aee];rfl
   refine⟨tJ x,gf,eI k,rfl,rfl,I x,⟨rf,tv⟩,rfl,false,fun _=>⟨mF (UZ a done) _,tJ _⟩,?_⟩
   rw[show cW (j4 (UZ a done)) (eI k) (I x)=j4 (UZ a (done++[(k,x)]))by rw[hc];exact cP eT (UZ a done) k x]
   rw[show(j4 left).eraseIdx pos=j4 (left.eraseIdx pos)from(qG _ left pos).symm]
   refine⟨⟨left.eraseIdx pos,done++[(k,x)]⟩,?_,HV,?_⟩
   ·exact⟨⟨rfl,rfl,tv⟩,⟨⟨rfl,rfl⟩,tv,⟨rfl,rfl,rfl,rfl,.inl rfl,tv⟩,tv⟩,rfl,rfl⟩
   ·have:=(adP.1 hk).1
    show(left.eraseIdx pos).length<left.length
    rw[List.length_eraseIdx_of_lt this];omega
structure LpM where
 left:IM (List Lt)
 done:IM (List Lt)
def DF(a b:IM (List Lt)):IM (List Lt):=b.foldl (fun m p=>aH m p.1 p.2) a
def U0(a b:IM (List Lt)):ad:=[(0,.tree 0 0 (.omap bX (ni a))),(1,.tree 0 0 (.omap bX (ni b)))]
theorem DG(a b:IM (List Lt)):bU Tryz.prog 53 [.own 0 0 0 [],.own 1 0 0 []] 2 (U0 a b) 0 (fun rs k=>∃done:IM (List Lt),done.Perm b/\rs=[]/\k=U0 (DF a done) b):=by
 refine mS fO mixed (eu _) (fh _) Tryz.func53 rfl rfl (by kernel_rfl) ?_
 refine⟨LpM,fun z=>⟨3,[(0,.own 0 0 0 []),(7,.ptr 2 0)],[(0,.tree 0 0 (.omap bX (ni (DF a z.done)))),(1,.held),(2,.lL 1 [] (.omap bX (ni b)) (ni z.left) none)]⟩,fun z=>(z.done++z.left).Perm b,fun z=>z.left.length,⟨b,[]⟩,fun z=>rfl,?_,List.Perm.refl _,?_⟩
 ·exact⟨⟨rfl,rfl,tv⟩,⟨⟨rfl,rfl⟩,tv,⟨rfl,rfl,rfl,rfl,.inl rfl,tv⟩,tv⟩,rfl,rfl⟩
 ·rintro⟨left,done⟩ g1
  simp only at g1
  refine⟨tv,fun h5=>⟨(fun h6=>by cases h6),fun _=>?_⟩,fun pos cc mw=>⟨fun _=>?_,fun h6=>by cases h6⟩⟩
  ·have hz:left=[]:=List.map_eq_nil_iff.1 h5
   subst hz
   rw[List.append_nil]at g1
   exact⟨_,_,⟨done,g1,rfl,rfl⟩,by kernel_rfl,tv,⟨rfl,rfl⟩,⟨rfl,rfl⟩,tv⟩
  ·have mw:(left.map fun p=>DV.fT (eI p.1) (aQ p.2))[pos]?=some cc:=mw
   rw[adQ]at mw
   obtain⟨⟨k,x⟩,hk,rfl⟩:∃p,left[pos]?=some p/\cc=DV.fT (eI p.1) (aQ p.2):=by
    cases hq:left[pos]? with
    |none=>rw[hq]at mw;cases mw
    |some p=>rw[hq]at mw;exact⟨p,rfl,by simpa using mw.symm⟩
   have HV:((done++[(k,x)])++left.eraseIdx pos).Perm b:=by
    rw[aef];exact((tK hk).append_left done).symm.trans g1
   have hc:DF a (done++[(k,x)])=aH (DF a done) k x:=by unfold DF;rw[aee];rfl
   refine⟨gh x,gf,eI k,rfl,rfl,aQ x,⟨rf,tv⟩,rfl,false,fun _=>⟨DC (DF a done) _,gh _⟩,?_⟩
   rw[show cW (ni (DF a done)) (eI k) (aQ x)=ni (DF a (done++[(k,x)]))by rw[hc];exact cP eT (DF a done) k x]
   rw[show(ni left).eraseIdx pos=ni (left.eraseIdx pos)from(qG _ left pos).symm]
   refine⟨⟨left.eraseIdx pos,done++[(k,x)]⟩,?_,HV,?_⟩
   ·exact⟨⟨rfl,rfl,tv⟩,⟨⟨rfl,rfl⟩,tv,⟨rfl,rfl,rfl,rfl,.inl rfl,tv⟩,tv⟩,rfl,rfl⟩
   ·have:=(adP.1 hk).1
    show(left.eraseIdx pos).length<left.length
    rw[List.length_eraseIdx_of_lt this];omega
end
section
open Go.TM
section
variable {κ β:Type} [DecidableEq κ]
def Nc(a b:List (κ×β)):List (κ×β):=b.foldl (fun m p=>aH m p.1 p.2) a
theorem BT{m m':List (κ×β)}(h:Nk m)(h':Nk m')(e:∀k,aU m k=aU m' k):m.Perm m':=by
 have nd:∀{l:List (κ×β)},Nk l->l.Nodup:=fun hl=>(List.pairwise_map.1 hl).imp fun h e=>h (congrArg _ e)
 refine(List.perm_ext_iff_of_nodup (nd h) (nd h')).2 fun⟨k,x⟩=>⟨fun hm=>?_,fun hm=>?_⟩
 ·exact lC (by rw[<-e k];exact xe h hm)
 ·exact lC (by rw[e k];exact xe h' hm)
theorem vj:∀(b a:List (κ×β)),Nk a->Nk (Nc a b)
 |[],_,h=>h
 |p::b,a,h=>vj b _ (h.put p.1 p.2)
theorem np:∀(b a:List (κ×β)),Nk b->∀k,aU (Nc a b) k=(aU b k).or (aU a k)
 |[],_,_,_=>rfl
 |(q,x)::b,a,h,k=>by
  have hb:Nk b:=(List.nodup_cons.1 h).2
  have hq:q∉b.map (·.1):=(List.nodup_cons.1 h).1
  show aU (Nc (aH a q x) b) k=_
  rw[np b _ hb k,iY]
  by_cases hk:q=k
  ·subst hk
   rw[kQ hq,if_pos rfl]
   simp[aU]
  ·rw[if_neg hk]
   simp[aU,hk]
theorem GG{a b d:List (κ×β)}(ha:Nk a)(hb:Nk b)(h:d.Perm b):(Nc a d).Perm (Nc a b):=by
 have hd:Nk d:=hb.perm h.symm
 refine BT (vj d a ha) (vj b a ha) fun k=>?_
 rw[np d a hd,np b a hb,Bt hd h]
end
theorem mj{P:Program}{f:Nat}{a:List AV}{m ex:Nat}{K:ad}{R R':List AV->ad->Prop}[bj](h:bU P f a m K ex R)(hi:∀r k,R r k->R' r k):bU P f a m K ex R':=
 ⟨h.1,fun w G vs nM cY hr=>Calls.mono (h.2 w G vs nM cY hr) fun e w' ⟨v,r,k,G',h1,h2,h3⟩=>⟨v,r,k,G',h1,hi r k h2,h3⟩⟩
variable [bj]
theorem GH(a b:IM Int)(ha:Nk a)(hb:Nk b):aj Tryz.prog 52 [.own 0 0 0 [],.own 1 0 0 []] 2 (cpK a b) 0 [] (cpK (Nc a b) b):=
 rT (mj (DE a b) fun r k ⟨done,hp,h1,h2⟩=>⟨h1,h2▸.cons (.omap 0 0 bX ((GG ha hb hp).map _)) (.refl _)⟩)
theorem wc(a b:IM (List Lt))(ha:Nk a)(hb:Nk b):aj Tryz.prog 53 [.own 0 0 0 [],.own 1 0 0 []] 2 (U0 a b) 0 [] (U0 (Nc a b) b):=
 rT (mj (DG a b) fun r k ⟨done,hp,h1,h2⟩=>⟨h1,h2▸.cons (.omap 0 0 bX ((GG ha hb hp).map _)) (.refl _)⟩)
end
section
open Go.TM
def zx(a b:Nat)(P:PL):ad:=[(0,.cells (.dv (I P.sh)::eP iG++[.own 1 0 0 [],.own 2 0 0 [],.own 3 a 0 [],.own 4 b 0 [],.own 5 0 0 [],.own 6 0 0 []])),(1,.tree 0 0 (.omap eE (oZ P.st))),(2,.tree 0 0 (.omap bX (j4 P.bZ))),(3,.tree a 0 (.aD 7 (P.sp.map aP))),(4,.tree b 0 (.aD 11 (P.fl.map ar))),(5,.tree 0 0 (.omap bX (ni P.imp))),(6,.tree 0 0 (.omap bX (ni P.ret)))]
def BU(m:SM)(d:SM):SM:=d.foldl (fun m p=>if p.2=[]then td m p.1 else aH m p.1 p.2) m
def Ww(P:PL)(c:Ch)(d:SM):PL:={ P with st:=BU P.st d,bZ:=Nc P.bZ c.bZ,imp:=Nc P.imp c.imp,ret:=Nc P.ret c.ret,fl:=P.fl++c.fl,sp:=P.sp++[c.sp] }
structure LpS where
 left:SM
 done:SM
def poK(P:PL)(c:Ch)(z:LpS):ad:=zx 1 1 { P with st:=BU P.st z.done }++[(9,.held),(10,.tree 0 0 (.omap bX (j4 c.bZ))),(11,.tree 0 0 (.omap bX (ni c.imp))),(12,.tree 0 0 (.omap bX (ni c.ret))),(13,.cells (.ptr 0 0::(eP (aP c.sp).cells++[.own 9 0 0 [],.own 10 0 0 [],.own 11 0 0 [],.own 12 0 0 [],.own 14 0 0 [],.own 15 0 0 []]))),(14,.tree 0 0 (.aD 11 (c.fl.map ar))),(15,.tree 0 0 (.aD 1 (c.sk.map I))),(16,.lL 9 [] (.omap eE (oZ c.st)) (oZ z.left) none)]
def Lq(a b:Nat)(P:PL)(S F:List DV):ad:=[(0,.cells (.dv (I P.sh)::eP iG++[.own 1 0 0 [],.own 2 0 0 [],.own 3 a 0 [],.own 4 b 0 [],.own 5 0 0 [],.own 6 0 0 []])),(1,.tree 0 0 (.omap eE (oZ P.st))),(2,.tree 0 0 (.omap bX (j4 P.bZ))),(3,.tree a 0 (.aD 7 S)),(4,.tree b 0 (.aD 11 F)),(5,.tree 0 0 (.omap bX (ni P.imp))),(6,.tree 0 0 (.omap bX (ni P.ret)))]
theorem QP(P:PL)(c:Ch)(d:SM):Lq 1 1 (Ww P c d) (P.sp.map aP++[aP c.sp]) (P.fl.map ar++c.fl.map ar)=zx 1 1 (Ww P c d):=by
 unfold Lq zx Ww;simp only[ad7,List.map_cons,List.map_nil]
variable [bj]
theorem GI(P:PL)(s:cG)(c:Ch)(hn:Nk P.bZ/\Nk P.imp/\Nk P.ret/\Nk c.bZ/\Nk c.imp/\Nk c.ret)(hf:P.fl.length<=800000/\c.fl.length<=100000/\P.sp.length<=900000)(h:aj Tryz.prog 51 [.ptr 0 0,cx (aP s)] 7 (lF P) 8 [.ptr 12 0,.dv (I 0)] (QO P c)):bU Tryz.prog 17 [.ptr 0 0,cx (aP s)] 7 (zx 1 1 P) 0 (fun rs k=>∃done:SM,done.Perm c.st/\rs=[.dv (I c.sp.id),.dv (I 0)]/\k=zx 1 1 (Ww P c done)):=by
 refine mS fO mixed (eu _) (fh _) Tryz.func17 rfl rfl (by kernel_rfl) ?_
 repeat refine gG ?_
 refine .inr (cl [0,1,2,3,4,5,6] h (by kernel_rfl) rfl rfl ?_)
 refine adN (fun h=>(by cases h)) fun _=>?_
 refine⟨LpS,fun z=>⟨17,[(0,.ptr 0 0),(6,.ptr 13 0),(23,.ptr 16 0)],poK P c z⟩,fun z=>(z.done++z.left).Perm c.st,fun z=>z.left.length,⟨c.st,[]⟩,fun z=>rfl,?_,List.Perm.refl _,?_⟩
 ·refine⟨⟨rfl,rfl,rfl,tv⟩,?_,rfl,rfl⟩
  repeat' first|exact trivial|rfl|exact rf|refine adN ?_ ?_
  all_goals exact .inl rfl
 ·rintro⟨left,done⟩ g1
  simp only at g1
  refine⟨tv,fun h5=>⟨(fun h6=>by cases h6),fun _=>?_⟩,fun pos cc mw=>⟨fun _=>?_,fun h6=>by cases h6⟩⟩
  ·have hz:left=[]:=List.map_eq_nil_iff.1 h5
   subst hz
   rw[List.append_nil]at g1
   refine .inr (cl [2,10] (GH P.bZ c.bZ hn.1 hn.2.2.2.1) (by kernel_rfl) rfl rfl ?_)
   refine adN (by kernel_rfl) ?_
   refine .inr (cl [5,11] (wc P.imp c.imp hn.2.1 hn.2.2.2.2.1) (by kernel_rfl) rfl rfl ?_)
   refine adN (by kernel_rfl) ?_
   refine .inr (cl [6,12] (wc P.ret c.ret hn.2.2.1 hn.2.2.2.2.2) (by kernel_rfl) rfl rfl ?_)
   refine adN (by kernel_rfl) ?_
   refine .inr (.inl ⟨BI Wj c.fl,c.fl.map ar,bV.refl _,bF (by simp;omega),by simp;omega,?_⟩)
   refine adN (by kernel_rfl) ?_
   refine .inl ⟨[aP c.sp],rfl,⟨rf,rf,rf,rf,rf,rf,rf,tv⟩,(by simp;rfl),?_⟩
   refine .inr ⟨[aP c.sp],bV.refl _,bS (by simp;omega),by simp;omega,?_⟩
   refine adN (by kernel_rfl) ?_
   exact⟨_,Lq 1 1 (Ww P c done) (P.sp.map aP++[aP c.sp]) (P.fl.map ar++c.fl.map ar),⟨done,g1,rfl,QP P c done⟩,by kernel_rfl,⟨rf,rf,tv⟩,aZ (k:=Lq 1 1 (Ww P c done) (P.sp.map aP++[aP c.sp]) (P.fl.map ar++c.fl.map ar)) rfl⟩
  ·have mw:(left.map fun p=>DV.fT (sa p.1) (aQ p.2))[pos]?=some cc:=mw
   rw[adQ]at mw
   obtain⟨⟨k,l⟩,hk,rfl⟩:∃p,left[pos]?=some p/\cc=DV.fT (sa p.1) (aQ p.2):=by
    cases hq:left[pos]? with
    |none=>rw[hq]at mw;cases mw
    |some p=>rw[hq]at mw;exact⟨p,rfl,by simpa using mw.symm⟩
   have HV:((done++[(k,l)])++left.eraseIdx pos).Perm c.st:=by
    rw[aef];exact((tK hk).append_left done).symm.trans g1
   have hc:BU P.st (done++[(k,l)])=if l=[]then td (BU P.st done) k else aH (BU P.st done) k l:=by unfold BU;rw[aee];rfl
   refine⟨gh l,?_⟩
   rw[show(oZ left).eraseIdx pos=oZ (left.eraseIdx pos)from(qG _ left pos).symm]
   refine adN (fun h=>?_) fun h=>?_
   ·have hl:l=[]:=by cases l with
     |nil=>rfl
     |cons=>cases h
    rw[if_pos hl]at hc
    refine⟨nj,sa k,rfl,rfl,?_⟩
    rw[show iJ (oZ (BU P.st done)) (sa k)=oZ (BU P.st (done++[(k,l)]))by rw[hc];exact Ub ja (BU P.st done) k]
    refine adN (by kernel_rfl) ?_
    refine⟨⟨left.eraseIdx pos,done++[(k,l)]⟩,?_,HV,?_⟩
    ·refine⟨⟨rfl,rfl,rfl,tv⟩,?_,rfl,rfl⟩
     repeat' first|exact trivial|rfl|exact rf|refine adN ?_ ?_
     all_goals exact .inl rfl
    ·have:=(adP.1 hk).1
     show(left.eraseIdx pos).length<left.length
     rw[List.length_eraseIdx_of_lt this];omega
   ·have hl:l≠[]:=fun e=>by subst e;cases h
    rw[if_neg hl]at hc
    refine⟨nj,sa k,rfl,rfl,aQ l,⟨rf,tv⟩,rfl,false,fun _=>⟨n9 (BU P.st done) _,gh _⟩,?_⟩
    rw[show cW (oZ (BU P.st done)) (sa k) (aQ l)=oZ (BU P.st (done++[(k,l)]))by rw[hc];exact cP ja (BU P.st done) k l]
    refine adN (by kernel_rfl) ?_
    refine⟨⟨left.eraseIdx pos,done++[(k,l)]⟩,?_,HV,?_⟩
    ·refine⟨⟨rfl,rfl,rfl,tv⟩,?_,rfl,rfl⟩
     repeat' first|exact trivial|rfl|exact rf|refine adN ?_ ?_
     all_goals exact .inl rfl
    ·have:=(adP.1 hk).1
     show(left.eraseIdx pos).length<left.length
     rw[List.length_eraseIdx_of_lt this];omega
end
section
open Go.TM
theorem DH:∀(d m:SM),Nk m->Nk (BU m d)
 |[],_,h=>h
 |p::d,m,h=>by
  show Nk (BU (if p.2=[]then td m p.1 else aH m p.1 p.2) d)
  refine DH d _ ?_
  split
  ·exact h.del _
  ·exact h.put _ _
theorem tL:∀(d m:SM),Nk m->Nk d->∀k,aU (BU m d) k=(match aU d k with
 |some l=>if l=[]then none else some l
 |none=>aU m k)
 |[],_,_,_,_=>rfl
 |(q,l)::d,m,hm,h,k=>by
  have hd:Nk d:=(List.nodup_cons.1 h).2
  have hq:q∉d.map (·.1):=(List.nodup_cons.1 h).1
  show aU (BU (if l=[]then td m q else aH m q l) d) k=_
  have SY:Nk (if l=[]then td m q else aH m q l):=by
   split
   ·exact hm.del _
   ·exact hm.put _ _
  rw[tL d _ SY hd k]
  by_cases hk:q=k
  ·subst hk
   rw[kQ hq]
   simp only[aU,if_true]
   split
   ·rw[FF hm,if_pos rfl]
   ·rw[iY,if_pos rfl]
  ·simp only[aU,if_neg hk]
   cases aU d k with
   |some x=>rfl
   |none=>
    simp only
    split
    ·rw[FF hm,if_neg hk]
    ·rw[iY,if_neg hk]
theorem QQ{m d b:SM}(hm:Nk m)(hb:Nk b)(h:d.Perm b):(BU m d).Perm (BU m b):=by
 have hd:Nk d:=hb.perm h.symm
 refine BT (DH d m hm) (DH b m hm) fun k=>?_
 rw[tL d m hm hd,tL b m hm hb,Bt hd h]
variable [bj]
theorem Jt(P:PL)(s:cG)(c:Ch)(hn:Nk P.bZ/\Nk P.imp/\Nk P.ret/\Nk c.bZ/\Nk c.imp/\Nk c.ret)(hf:P.fl.length<=800000/\c.fl.length<=100000/\P.sp.length<=900000)(ak:Nk P.st/\Nk c.st)(h:aj Tryz.prog 51 [.ptr 0 0,cx (aP s)] 7 (lF P) 8 [.ptr 12 0,.dv (I 0)] (QO P c)):aj Tryz.prog 17 [.ptr 0 0,cx (aP s)] 7 (zx 1 1 P) 0 [.dv (I c.sp.id),.dv (I 0)] (zx 1 1 (Ww P c c.st)):=
 rT (mj (GI P s c hn hf h) fun r k ⟨done,hp,h1,h2⟩=>⟨h1,h2▸.cons (.refl _) (.cons (.omap 0 0 eE ((QQ ak.1 ak.2 hp).map _)) (.refl _))⟩)
end
section
open Go.TM
variable [bj]
theorem jb{f:Nat}{P:PL}{c:Ch}{a rs:List AV}{K':ad}{ex:Nat}(h:aj Tryz.prog f a 14 (dJ 1 1 P c) ex rs K'):aj Tryz.prog f a 14 (dJ 0 0 P c) ex rs K':=
 cH 5 (K0:=dJ 0 0 P c) (cH 6 (K0:=dJ 1 0 P c) h ⟨⟨_,rfl,rfl,fun j hj=>(by match j,hj with|0,_=>exact .cells (.same _ (.same _ (.same _ (.same _ (.same _ (.same _ (.same _ (.same _ (.same _ (.same _ (.same _ (.same _ (.same _ (.rU .nil))))))))))))))|1,_=>exact .refl _|2,_=>exact .refl _|3,_=>exact .refl _|4,_=>exact .refl _|5,_=>exact .refl _|j+7,_=>exact .refl _)⟩,iW.refl _ _ _ _⟩)
  ⟨⟨_,rfl,rfl,fun j hj=>(by match j,hj with|0,_=>exact .cells (.same _ (.same _ (.same _ (.same _ (.same _ (.same _ (.same _ (.same _ (.same _ (.same _ (.same _ (.same _ (.rU (.same _ .nil))))))))))))))|1,_=>exact .refl _|2,_=>exact .refl _|3,_=>exact .refl _|4,_=>exact .refl _|6,_=>exact .refl _|j+7,_=>exact .refl _)⟩,iW.refl _ _ _ _⟩
theorem QR{f:Nat}{P:PL}{a rs:List AV}{K':ad}{ex:Nat}(h:aj Tryz.prog f a 7 (zx 1 1 P) ex rs K'):aj Tryz.prog f a 7 (lF P) ex rs K':=
 cH 3 (K0:=lF P) (cH 4 (K0:=zx 1 0 P) h ⟨⟨_,rfl,rfl,fun j hj=>(by match j,hj with|0,_=>exact .cells (.same _ (.same _ (.same _ (.same _ (.same _ (.same _ (.same _ (.same _ (.rU (.same _ (.same _ .nil)))))))))))|1,_=>exact .refl _|2,_=>exact .refl _|3,_=>exact .refl _|5,_=>exact .refl _|6,_=>exact .refl _|j+7,_=>exact .refl _)⟩,iW.refl _ _ _ _⟩)
  ⟨⟨_,rfl,rfl,fun j hj=>(by match j,hj with|0,_=>exact .cells (.same _ (.same _ (.same _ (.same _ (.same _ (.same _ (.same _ (.rU (.same _ (.same _ (.same _ .nil)))))))))))|1,_=>exact .refl _|2,_=>exact .refl _|4,_=>exact .refl _|5,_=>exact .refl _|6,_=>exact .refl _|j+7,_=>exact .refl _)⟩,iW.refl _ _ _ _⟩
end
section
open Go.TM
variable [bj]
theorem we(l:List Int)(hl:l.length<=1000000):aj Tryz.prog 93 [.own 0 0 0 []] 1 [(0,.tree 0 0 (.aD 1 (l.map I)))] 0 [.dv (Ints l)] [(0,.tree 0 0 (.aD 1 (l.map I)))]:=by
 refine cO Tryz.func93 rfl (by kernel_rfl) ?_
 by_cases hn:l=[]
 ·subst hn
  refine .inl ⟨⟨_,_,⟨rfl,rfl⟩,by kernel_rfl,⟨DV.aL 1,tv⟩,aZ (k:=[(0,.tree 0 0 (.aD 1 []))]) rfl⟩,?_⟩
  refine .inr (.inl ⟨[],rfl,tv,(fun _ h=>by cases h),?_⟩)
  refine .inr (.inl ⟨BI tJ [],[],bV.refl _,bI (by simp),by simp,?_⟩)
  exact⟨_,_,⟨rfl,rfl⟩,by kernel_rfl,⟨zf 1 (fun _=>rfl) (l:=([]:List Int)) (e:=I),tv⟩,aZ (k:=[(0,.tree 0 0 (.aD 1 []))]) rfl⟩
 ·refine .inr ⟨fun h=>hn (List.map_eq_nil_iff.1 h),adN (fun h=>by cases h) fun _=>?_⟩
  refine .inr (.inl ⟨[],rfl,tv,(fun _ h=>by cases h),?_⟩)
  refine .inr (.inl ⟨BI tJ l,l.map I,bV.refl _,bI (by simp;omega),by simp;omega,?_⟩)
  exact⟨_,_,⟨rfl,rfl⟩,by kernel_rfl,⟨zf 1 (fun _=>rfl),tv⟩,aZ (k:=[(0,.tree 0 0 (.aD 1 (l.map I)))]) rfl⟩
end
end Go.Proofs.YtfpebgpgabjieaaGreatDoor
