import Derived.Test.YtknnpcfhekkjjaaGreatDoorFM36
set_option linter.all false
namespace Go.Proofs.YtknnpcfhekkjjaaGreatDoor
set_option maxRecDepth 100000
set_option maxHeartbeats 8000000
section
open Go.TM
def spI(P:PL)(s:dW):dW:={ s with id:=P.sh*4294967296+P.sp.length }
def ch0(P:PL)(s:dW):Ch:=⟨spI P s,[],[],[],[],[],[]⟩
def PV(P:PL)(c:Ch):ae:=kJ P++[(8,.tree 0 0 (.omap eX (qO c.st))),(9,.tree 0 0 (.omap cH (ou c.cb))),(10,.tree 0 0 (.omap cH (qA c.imp))),(11,.tree 0 0 (.omap cH (qA c.ret))),(12,.cells (.ptr 0 0::(fc (aP c.sp).cells++[.own 8 0 0 [],.own 9 0 0 [],.own 10 0 0 [],.own 11 0 0 [],.own 13 0 0 [],.own 14 0 0 []]))),(13,.tree 0 0 (.aB 11 (c.fl.map bB))),(14,.tree 0 0 (.aB 1 (c.sk.map I)))]
def Km(P:PL)(s:dW)(cN:Nat->Ch):Nat->Ch
 |0=>ch0 P s
 |i+1=>cN i
variable [bG]
theorem Mf(P:PL)(s:dW)(hr:vU s.aL)(hs:0<=P.sh/\P.sh<=12)(hl:s.mv.length<=1000)(lP:∀m∈s.mv,m.ps.length<=4000)(hp:rX (dS P.sp) s=true)(au:(P.sp.length:Int)<65536)
 (cN:Nat->Ch) (k:Nat) (hk:k<s.mv.length) (e:Int) (he:e≠0) (c':Ch)
 (hH:∀i m,i<k->s.mv[i]?=some m->ar Tryz.prog 81 [.ptr 0 0,cY (ak m)] 14 (fg 0 0 P (Km P s cN i)) 0 [.dv (I 0)] (fg 1 1 P (Km P s cN (i+1))))
 (hE:∀m,s.mv[k]?=some m->ar Tryz.prog 81 [.ptr 0 0,cY (ak m)] 14 (fg 0 0 P (Km P s cN k)) 0 [.dv (I e)] (fg 1 1 P c')):
 ar Tryz.prog 49 [.ptr 0 0,cY (aP s)] 7 (kJ P) 0 [.dv .eL,.dv (I e)] (kJ P):=by
 have lp:(P.sp.map aP).length=P.sp.length:=abH ..
 have lm:(s.mv.map ak).length=s.mv.length:=abH ..
 have Un:=mf P s hr (by omega) hl lP
 rw[hp]at Un
 refine cO Tryz.func49 rfl (by kernel_rfl) ?_
 repeat first|apply g1|apply g2|apply g3|apply g4|apply g5
 refine abG (fun h2=>absurd (abY h2) (by omega)) fun _=>?_
 refine .inr (cl [0,1,2,3,4,5,6] Un (by kernel_rfl) rfl rfl ?_)
 refine abG (fun h=>(by cases h)) fun _=>?_
 refine .inl ⟨_,fun _=>(BH s (by omega) fun m hm=>by have:=lP m hm;omega).ok,?_⟩
 refine⟨eX,cH,cH,cH,fun _=>⟨by omega,by omega⟩,fun _=>⟨by omega,by omega⟩,?_⟩
 refine abG (by kernel_rfl) ?_
 refine⟨Nat,fun i=>⟨15,[(0,.ptr 0 0),(6,.ptr 12 0),(48,.dv (.sl 5 (s.mv.map ak))),(49,.dv (I (s.mv.map ak).length)),(50,.dv (I i))],PV P (Km P s cN i)⟩,fun i=>i<=k,fun i=>s.mv.length-i,0,fun _=>rfl,?_,abW _,?_⟩
 ·refine⟨⟨rfl,rfl,rf,rf,rf,tv⟩,?_,?_,?_⟩
  ·repeat' first|exact trivial|rfl|exact rf|refine abG ?_ ?_
   all_goals first|exact⟨11,rfl⟩|exact⟨1,rfl⟩|exact aF (by rw[lp];rfl)
  ·rfl
  ·rfl
 intro i hi
 refine abG ?_ ?_
 ·intro h
  have au:i<s.mv.length:=by have:=abY h;omega
  obtain⟨m,hm⟩:∃m,s.mv[i]?=some m:=⟨_,aaj au⟩
  have im:(s.mv.map ak)[(i:Int).toNat]?=some (ak m):=by rw[abJ];exact congrArg (Option.map ak) hm
  refine⟨ak m,fun _=>⟨by omega,im⟩,?_⟩
  by_cases HX:i=k
  ·subst HX
   refine .inr (cl [12,8,9,10,11,13,14,0,1,2,3,4,5,6] (hE m hm) (by kernel_rfl) rfl rfl ?_)
   refine abG (fun _=>ext (by kernel_rfl) rfl rfl) fun h=>absurd (by simpa using h) he
  ·have uY:i<k:=by have:i<=k:=hi;omega
   refine .inr (cl [12,8,9,10,11,13,14,0,1,2,3,4,5,6] (hH i m uY hm) (by kernel_rfl) rfl rfl ?_)
   refine abG (fun h=>(by cases h)) fun _=>?_
   exact⟨fun _=>⟨by omega,by omega⟩,i+1,jn rfl rfl rfl rfl,uY,mlt au⟩
 ·intro h
  have:=abZ h
  have:i<=k:=hi
  omega
theorem Mg(P:PL)(s:dW)(hr:vU s.aL)(hs:0<=P.sh/\P.sh<=12)(hl:s.mv.length<=1000)(lP:∀m∈s.mv,m.ps.length<=4000)(hp:rX (dS P.sp) s=true)(au:(P.sp.length:Int)<65536)
 (cN:Nat->Ch)
 (hH:∀i m,s.mv[i]?=some m->ar Tryz.prog 81 [.ptr 0 0,cY (ak m)] 14 (fg 0 0 P (Km P s cN i)) 0 [.dv (I 0)] (fg 1 1 P (Km P s cN (i+1)))):
 ar Tryz.prog 49 [.ptr 0 0,cY (aP s)] 7 (kJ P) 8 [.ptr 12 0,.dv (I 0)] (PV P (Km P s cN s.mv.length)):=by
 have lp:(P.sp.map aP).length=P.sp.length:=abH ..
 have lm:(s.mv.map ak).length=s.mv.length:=abH ..
 have Un:=mf P s hr (by omega) hl lP
 rw[hp]at Un
 refine cO Tryz.func49 rfl (by kernel_rfl) ?_
 repeat first|apply g1|apply g2|apply g3|apply g4|apply g5
 refine abG (fun h2=>absurd (abY h2) (by omega)) fun _=>?_
 refine .inr (cl [0,1,2,3,4,5,6] Un (by kernel_rfl) rfl rfl ?_)
 refine abG (fun h=>(by cases h)) fun _=>?_
 refine .inl ⟨_,fun _=>(BH s (by omega) fun m hm=>by have:=lP m hm;omega).ok,?_⟩
 refine⟨eX,cH,cH,cH,fun _=>⟨by omega,by omega⟩,fun _=>⟨by omega,by omega⟩,?_⟩
 refine abG (by kernel_rfl) ?_
 refine⟨Nat,fun i=>⟨15,[(0,.ptr 0 0),(6,.ptr 12 0),(48,.dv (.sl 5 (s.mv.map ak))),(49,.dv (I (s.mv.map ak).length)),(50,.dv (I i))],PV P (Km P s cN i)⟩,fun i=>i<=s.mv.length,fun i=>s.mv.length-i,0,fun _=>rfl,?_,abW _,?_⟩
 ·refine⟨⟨rfl,rfl,rf,rf,rf,tv⟩,?_,?_,?_⟩
  ·repeat' first|exact trivial|rfl|exact rf|refine abG ?_ ?_
   all_goals first|exact⟨11,rfl⟩|exact⟨1,rfl⟩|exact aF (by rw[lp];rfl)
  ·rfl
  ·rfl
 intro i hi
 refine abG ?_ ?_
 ·intro h
  have au:i<s.mv.length:=by have:=abY h;omega
  obtain⟨m,hm⟩:∃m,s.mv[i]?=some m:=⟨_,aaj au⟩
  have im:(s.mv.map ak)[(i:Int).toNat]?=some (ak m):=by rw[abJ];exact congrArg (Option.map ak) hm
  refine⟨ak m,fun _=>⟨by omega,im⟩,?_⟩
  refine .inr (cl [12,8,9,10,11,13,14,0,1,2,3,4,5,6] (hH i m hm) (by kernel_rfl) rfl rfl ?_)
  refine abG (fun h=>(by cases h)) fun _=>?_
  exact⟨fun _=>⟨by omega,by omega⟩,i+1,jn rfl rfl rfl rfl,au,mlt au⟩
 ·intro h
  have hi:i<=s.mv.length:=hi
  have he:i=s.mv.length:=by have:=abZ h;omega
  subst he
  exact ext (by kernel_rfl) rfl rfl
end
section
open Go.TM
variable [bG]
theorem zm(P:PL)(s:dW)(e:Int)(he:e≠0)(h:ar Tryz.prog 49 [.ptr 0 0,cY (aP s)] 7 (kJ P) 0 [.dv .eL,.dv (I e)] (kJ P)):ar Tryz.prog 15 [.ptr 0 0,cY (aP s)] 7 (kJ P) 0 [.dv (I 0),.dv (I e)] (kJ P):=by
 refine cO Tryz.func15 rfl (by kernel_rfl) ?_
 repeat first|apply g1|apply g2|apply g3|apply g4|apply g5
 refine .inr (cl [0,1,2,3,4,5,6] h (by kernel_rfl) rfl rfl ?_)
 exact abG (fun _=>ext (by kernel_rfl) rfl rfl) fun h=>absurd (by simpa using h) he
end
section
open Go.TM
def cpK(a b:IM Int):ae:=[(0,.tree 0 0 (.omap cH (ou a))),(1,.tree 0 0 (.omap cH (ou b)))]
variable [bG]
structure LpC where
 left:IM Int
 done:IM Int
def SZ(a b:IM Int):IM Int:=b.foldl (fun m p=>aS m p.1 p.2) a
theorem tA{α:Type}:∀{l:List α} {i:Nat} {x:α},l[i]?=some x->l.Perm (x::l.eraseIdx i)
 |[],i,x,h=>by simp at h
 |y::l,0,x,h=>by simp at h;subst h;simp
 |y::l,i+1,x,h=>by
  have:=tA (l:=l) (i:=i) (x:=x) (by simpa using h)
  rw[List.eraseIdx_cons_succ]
  exact(this.cons y).trans (List.Perm.swap x y _)
theorem qk{α β:Type}(f:α->β):∀(l:List α) (i:Nat),(l.eraseIdx i).map f=(l.map f).eraseIdx i
 |[],_=>rfl
 |_::_,0=>rfl
 |_::l,i+1=>by simp only[List.eraseIdx_cons_succ,List.map_cons,qk f l i]
theorem Dq(a b:IM Int):bV Tryz.prog 50 [.own 0 0 0 [],.own 1 0 0 []] 2 (cpK a b) 0 (fun rs k=>∃done:IM Int,done.Perm b/\rs=[]/\k=cpK (SZ a done) b):=by
 refine mF gy mixed (eW _) (fB _) Tryz.func50 rfl rfl (by kernel_rfl) ?_
 refine⟨LpC,fun z=>⟨3,[(0,.own 0 0 0 []),(7,.ptr 2 0)],[(0,.tree 0 0 (.omap cH (ou (SZ a z.done)))),(1,.held),(2,.kz 1 [] (.omap cH (ou b)) (ou z.left) none)]⟩,fun z=>(z.done++z.left).Perm b,fun z=>z.left.length,⟨b,[]⟩,fun z=>rfl,?_,List.Perm.refl _,?_⟩
 ·exact⟨⟨rfl,rfl,tv⟩,⟨⟨rfl,rfl⟩,tv,⟨rfl,rfl,rfl,rfl,.inl rfl,tv⟩,tv⟩,rfl,rfl⟩
 ·rintro⟨left,done⟩ g1
  simp only at g1
  refine⟨tv,fun h5=>⟨(fun h6=>by cases h6),fun _=>?_⟩,fun pos cc lF=>⟨fun _=>?_,fun h6=>by cases h6⟩⟩
  ·have hz:left=[]:=List.map_eq_nil_iff.1 h5
   subst hz
   rw[List.append_nil]at g1
   exact⟨_,_,⟨done,g1,rfl,rfl⟩,by kernel_rfl,tv,⟨rfl,rfl⟩,⟨rfl,rfl⟩,tv⟩
  ·have lF:(left.map fun p=>DV.fE (eI p.1) (eI p.2))[pos]?=some cc:=lF
   rw[abJ]at lF
   obtain⟨⟨k,x⟩,hk,rfl⟩:∃p,left[pos]?=some p/\cc=DV.fE (eI p.1) (eI p.2):=by
    cases hq:left[pos]? with
    |none=>rw[hq]at lF;cases lF
    |some p=>rw[hq]at lF;exact⟨p,rfl,by simpa using lF.symm⟩
   have EI:((done++[(k,x)])++left.eraseIdx pos).Perm b:=by
    rw[ab8];exact((tA hk).append_left done).symm.trans g1
   have hc:SZ a (done++[(k,x)])=aS (SZ a done) k x:=by unfold SZ;rw[ab7];rfl
   refine⟨u9 x,kr,eI k,rfl,rfl,I x,⟨rf,tv⟩,rfl,false,fun _=>⟨nW (SZ a done) _,u9 _⟩,?_⟩
   rw[show c7 (ou (SZ a done)) (eI k) (I x)=ou (SZ a (done++[(k,x)]))by rw[hc];exact dE jO (SZ a done) k x]
   rw[show(ou left).eraseIdx pos=ou (left.eraseIdx pos)from(qk _ left pos).symm]
   refine⟨⟨left.eraseIdx pos,done++[(k,x)]⟩,?_,EI,?_⟩
   ·exact⟨⟨rfl,rfl,tv⟩,⟨⟨rfl,rfl⟩,tv,⟨rfl,rfl,rfl,rfl,.inl rfl,tv⟩,tv⟩,rfl,rfl⟩
   ·have:=(abI.1 hk).1
    show(left.eraseIdx pos).length<left.length
    rw[List.length_eraseIdx_of_lt this];omega
structure LpM where
 left:IM (List Lt)
 done:IM (List Lt)
def Dr(a b:IM (List Lt)):IM (List Lt):=b.foldl (fun m p=>aS m p.1 p.2) a
def S0(a b:IM (List Lt)):ae:=[(0,.tree 0 0 (.omap cH (qA a))),(1,.tree 0 0 (.omap cH (qA b)))]
theorem Ds(a b:IM (List Lt)):bV Tryz.prog 51 [.own 0 0 0 [],.own 1 0 0 []] 2 (S0 a b) 0 (fun rs k=>∃done:IM (List Lt),done.Perm b/\rs=[]/\k=S0 (Dr a done) b):=by
 refine mF gy mixed (eW _) (fB _) Tryz.func51 rfl rfl (by kernel_rfl) ?_
 refine⟨LpM,fun z=>⟨3,[(0,.own 0 0 0 []),(7,.ptr 2 0)],[(0,.tree 0 0 (.omap cH (qA (Dr a z.done)))),(1,.held),(2,.kz 1 [] (.omap cH (qA b)) (qA z.left) none)]⟩,fun z=>(z.done++z.left).Perm b,fun z=>z.left.length,⟨b,[]⟩,fun z=>rfl,?_,List.Perm.refl _,?_⟩
 ·exact⟨⟨rfl,rfl,tv⟩,⟨⟨rfl,rfl⟩,tv,⟨rfl,rfl,rfl,rfl,.inl rfl,tv⟩,tv⟩,rfl,rfl⟩
 ·rintro⟨left,done⟩ g1
  simp only at g1
  refine⟨tv,fun h5=>⟨(fun h6=>by cases h6),fun _=>?_⟩,fun pos cc lF=>⟨fun _=>?_,fun h6=>by cases h6⟩⟩
  ·have hz:left=[]:=List.map_eq_nil_iff.1 h5
   subst hz
   rw[List.append_nil]at g1
   exact⟨_,_,⟨done,g1,rfl,rfl⟩,by kernel_rfl,tv,⟨rfl,rfl⟩,⟨rfl,rfl⟩,tv⟩
  ·have lF:(left.map fun p=>DV.fE (eI p.1) (aU p.2))[pos]?=some cc:=lF
   rw[abJ]at lF
   obtain⟨⟨k,x⟩,hk,rfl⟩:∃p,left[pos]?=some p/\cc=DV.fE (eI p.1) (aU p.2):=by
    cases hq:left[pos]? with
    |none=>rw[hq]at lF;cases lF
    |some p=>rw[hq]at lF;exact⟨p,rfl,by simpa using lF.symm⟩
   have EI:((done++[(k,x)])++left.eraseIdx pos).Perm b:=by
    rw[ab8];exact((tA hk).append_left done).symm.trans g1
   have hc:Dr a (done++[(k,x)])=aS (Dr a done) k x:=by unfold Dr;rw[ab7];rfl
   refine⟨iP x,kr,eI k,rfl,rfl,aU x,⟨rf,tv⟩,rfl,false,fun _=>⟨PO (Dr a done) _,iP _⟩,?_⟩
   rw[show c7 (qA (Dr a done)) (eI k) (aU x)=qA (Dr a (done++[(k,x)]))by rw[hc];exact dE jO (Dr a done) k x]
   rw[show(qA left).eraseIdx pos=qA (left.eraseIdx pos)from(qk _ left pos).symm]
   refine⟨⟨left.eraseIdx pos,done++[(k,x)]⟩,?_,EI,?_⟩
   ·exact⟨⟨rfl,rfl,tv⟩,⟨⟨rfl,rfl⟩,tv,⟨rfl,rfl,rfl,rfl,.inl rfl,tv⟩,tv⟩,rfl,rfl⟩
   ·have:=(abI.1 hk).1
    show(left.eraseIdx pos).length<left.length
    rw[List.length_eraseIdx_of_lt this];omega
end
section
open Go.TM
section
variable {κ β:Type} [DecidableEq κ]
def Mh(a b:List (κ×β)):List (κ×β):=b.foldl (fun m p=>aS m p.1 p.2) a
theorem BM{m m':List (κ×β)}(h:Nk m)(h':Nk m')(e:∀k,aR m k=aR m' k):m.Perm m':=by
 have nd:∀{l:List (κ×β)},Nk l->l.Nodup:=fun hl=>(List.pairwise_map.1 hl).imp fun h e=>h (congrArg _ e)
 refine(List.perm_ext_iff_of_nodup (nd h) (nd h')).2 fun⟨k,x⟩=>⟨fun hm=>?_,fun hm=>?_⟩
 ·exact mO (by rw[<-e k];exact CU h hm)
 ·exact mO (by rw[e k];exact CU h' hm)
theorem zn:∀(b a:List (κ×β)),Nk a->Nk (Mh a b)
 |[],_,h=>h
 |p::b,a,h=>zn b _ (h.put p.1 p.2)
theorem pJ:∀(b a:List (κ×β)),Nk b->∀k,aR (Mh a b) k=(aR b k).or (aR a k)
 |[],_,_,_=>rfl
 |(q,x)::b,a,h,k=>by
  have hb:Nk b:=(List.nodup_cons.1 h).2
  have hq:q∉b.map (·.1):=(List.nodup_cons.1 h).1
  show aR (Mh (aS a q x) b) k=_
  rw[pJ b _ hb k,lk]
  by_cases hk:q=k
  ·subst hk
   rw[mP hq,if_pos rfl]
   simp[aR]
  ·rw[if_neg hk]
   simp[aR,hk]
theorem F3{a b d:List (κ×β)}(ha:Nk a)(hb:Nk b)(h:d.Perm b):(Mh a d).Perm (Mh a b):=by
 have hd:Nk d:=hb.perm h.symm
 refine BM (zn d a ha) (zn b a ha) fun k=>?_
 rw[pJ d a hd,pJ b a hb,Bl hd h]
end
theorem lT{P:Program}{f:Nat}{a:List AV}{m ex:Nat}{K:ae}{R R':List AV->ae->Prop}[bG](h:bV P f a m K ex R)(hi:∀r k,R r k->R' r k):bV P f a m K ex R':=
 ⟨h.1,fun w G vs nF cP hr=>Calls.mono (h.2 w G vs nF cP hr) fun e w' ⟨v,r,k,G',h1,h2,h3⟩=>⟨v,r,k,G',h1,hi r k h2,h3⟩⟩
variable [bG]
theorem F4(a b:IM Int)(ha:Nk a)(hb:Nk b):ar Tryz.prog 50 [.own 0 0 0 [],.own 1 0 0 []] 2 (cpK a b) 0 [] (cpK (Mh a b) b):=
 rH (lT (Dq a b) fun r k ⟨done,hp,h1,h2⟩=>⟨h1,h2▸.cons (.omap 0 0 cH ((F3 ha hb hp).map _)) (.refl _)⟩)
theorem wg(a b:IM (List Lt))(ha:Nk a)(hb:Nk b):ar Tryz.prog 51 [.own 0 0 0 [],.own 1 0 0 []] 2 (S0 a b) 0 [] (S0 (Mh a b) b):=
 rH (lT (Ds a b) fun r k ⟨done,hp,h1,h2⟩=>⟨h1,h2▸.cons (.omap 0 0 cH ((F3 ha hb hp).map _)) (.refl _)⟩)
end
section
open Go.TM
def Av(a b:Nat)(P:PL):ae:=[(0,.cells (.dv (I P.sh)::fc jc++[.own 1 0 0 [],.own 2 0 0 [],.own 3 a 0 [],.own 4 b 0 [],.own 5 0 0 [],.own 6 0 0 []])),(1,.tree 0 0 (.omap eX (qO P.st))),(2,.tree 0 0 (.omap cH (ou P.cb))),(3,.tree a 0 (.aB 7 (P.sp.map aP))),(4,.tree b 0 (.aB 11 (P.fl.map bB))),(5,.tree 0 0 (.omap cH (qA P.imp))),(6,.tree 0 0 (.omap cH (qA P.ret)))]
def BN(m:SM)(d:SM):SM:=d.foldl (fun m p=>if p.2=[]then s6 m p.1 else aS m p.1 p.2) m
def Uo(P:PL)(c:Ch)(d:SM):PL:={ P with st:=BN P.st d,cb:=Mh P.cb c.cb,imp:=Mh P.imp c.imp,ret:=Mh P.ret c.ret,fl:=P.fl++c.fl,sp:=P.sp++[c.sp] }
structure LpS where
 left:SM
 done:SM
def poK(P:PL)(c:Ch)(z:LpS):ae:=Av 1 1 { P with st:=BN P.st z.done }++[(9,.held),(10,.tree 0 0 (.omap cH (ou c.cb))),(11,.tree 0 0 (.omap cH (qA c.imp))),(12,.tree 0 0 (.omap cH (qA c.ret))),(13,.cells (.ptr 0 0::(fc (aP c.sp).cells++[.own 9 0 0 [],.own 10 0 0 [],.own 11 0 0 [],.own 12 0 0 [],.own 14 0 0 [],.own 15 0 0 []]))),(14,.tree 0 0 (.aB 11 (c.fl.map bB))),(15,.tree 0 0 (.aB 1 (c.sk.map I))),(16,.kz 9 [] (.omap eX (qO c.st)) (qO z.left) none)]
def Ko(a b:Nat)(P:PL)(S F:List DV):ae:=[(0,.cells (.dv (I P.sh)::fc jc++[.own 1 0 0 [],.own 2 0 0 [],.own 3 a 0 [],.own 4 b 0 [],.own 5 0 0 [],.own 6 0 0 []])),(1,.tree 0 0 (.omap eX (qO P.st))),(2,.tree 0 0 (.omap cH (ou P.cb))),(3,.tree a 0 (.aB 7 S)),(4,.tree b 0 (.aB 11 F)),(5,.tree 0 0 (.omap cH (qA P.imp))),(6,.tree 0 0 (.omap cH (qA P.ret)))]
theorem PW(P:PL)(c:Ch)(d:SM):Ko 1 1 (Uo P c d) (P.sp.map aP++[aP c.sp]) (P.fl.map bB++c.fl.map bB)=Av 1 1 (Uo P c d):=by
 unfold Ko Av Uo;simp only[ab0,List.map_cons,List.map_nil]
variable [bG]
theorem F5(P:PL)(s:dW)(c:Ch)(hn:Nk P.cb/\Nk P.imp/\Nk P.ret/\Nk c.cb/\Nk c.imp/\Nk c.ret)(hf:P.fl.length<=800000/\c.fl.length<=100000/\P.sp.length<=900000)(h:ar Tryz.prog 49 [.ptr 0 0,cY (aP s)] 7 (kJ P) 8 [.ptr 12 0,.dv (I 0)] (PV P c)):bV Tryz.prog 15 [.ptr 0 0,cY (aP s)] 7 (Av 1 1 P) 0 (fun rs k=>∃done:SM,done.Perm c.st/\rs=[.dv (I c.sp.id),.dv (I 0)]/\k=Av 1 1 (Uo P c done)):=by
 refine mF gy mixed (eW _) (fB _) Tryz.func15 rfl rfl (by kernel_rfl) ?_
 repeat first|apply g1|apply g2|apply g3|apply g4|apply g5
 refine .inr (cl [0,1,2,3,4,5,6] h (by kernel_rfl) rfl rfl ?_)
 refine abG (fun h=>(by cases h)) fun _=>?_
 refine⟨LpS,fun z=>⟨17,[(0,.ptr 0 0),(6,.ptr 13 0),(23,.ptr 16 0)],poK P c z⟩,fun z=>(z.done++z.left).Perm c.st,fun z=>z.left.length,⟨c.st,[]⟩,fun z=>rfl,?_,List.Perm.refl _,?_⟩
 ·refine⟨⟨rfl,rfl,rfl,tv⟩,?_,rfl,rfl⟩
  repeat' first|exact trivial|rfl|exact rf|refine abG ?_ ?_
  all_goals exact .inl rfl
 ·rintro⟨left,done⟩ g1
  simp only at g1
  refine⟨tv,fun h5=>⟨(fun h6=>by cases h6),fun _=>?_⟩,fun pos cc lF=>⟨fun _=>?_,fun h6=>by cases h6⟩⟩
  ·have hz:left=[]:=List.map_eq_nil_iff.1 h5
   subst hz
   rw[List.append_nil]at g1
   refine .inr (cl [2,10] (F4 P.cb c.cb hn.1 hn.2.2.2.1) (by kernel_rfl) rfl rfl ?_)
   refine abG (by kernel_rfl) ?_
   refine .inr (cl [5,11] (wg P.imp c.imp hn.2.1 hn.2.2.2.2.1) (by kernel_rfl) rfl rfl ?_)
   refine abG (by kernel_rfl) ?_
   refine .inr (cl [6,12] (wg P.ret c.ret hn.2.2.1 hn.2.2.2.2.2) (by kernel_rfl) rfl rfl ?_)
   refine abG (by kernel_rfl) ?_
   refine .inr (.inl ⟨By Uc c.fl,c.fl.map bB,cd.refl _,bF (by simp;omega),by simp;omega,?_⟩)
   refine abG (by kernel_rfl) ?_
   refine .inl ⟨[aP c.sp],rfl,⟨rf,rf,rf,rf,rf,rf,rf,tv⟩,(by simp;rfl),?_⟩
   refine .inr ⟨[aP c.sp],cd.refl _,bS (by simp;omega),by simp;omega,?_⟩
   refine abG (by kernel_rfl) ?_
   exact⟨_,Ko 1 1 (Uo P c done) (P.sp.map aP++[aP c.sp]) (P.fl.map bB++c.fl.map bB),⟨done,g1,rfl,PW P c done⟩,by kernel_rfl,⟨rf,rf,tv⟩,bp (k:=Ko 1 1 (Uo P c done) (P.sp.map aP++[aP c.sp]) (P.fl.map bB++c.fl.map bB)) rfl⟩
  ·have lF:(left.map fun p=>DV.fE (se p.1) (aU p.2))[pos]?=some cc:=lF
   rw[abJ]at lF
   obtain⟨⟨k,l⟩,hk,rfl⟩:∃p,left[pos]?=some p/\cc=DV.fE (se p.1) (aU p.2):=by
    cases hq:left[pos]? with
    |none=>rw[hq]at lF;cases lF
    |some p=>rw[hq]at lF;exact⟨p,rfl,by simpa using lF.symm⟩
   have EI:((done++[(k,l)])++left.eraseIdx pos).Perm c.st:=by
    rw[ab8];exact((tA hk).append_left done).symm.trans g1
   have hc:BN P.st (done++[(k,l)])=if l=[]then s6 (BN P.st done) k else aS (BN P.st done) k l:=by unfold BN;rw[ab7];rfl
   refine⟨iP l,?_⟩
   rw[show(qO left).eraseIdx pos=qO (left.eraseIdx pos)from(qk _ left pos).symm]
   refine abG (fun h=>?_) fun h=>?_
   ·have hl:l=[]:=by cases l with
     |nil=>rfl
     |cons=>cases h
    rw[if_pos hl]at hc
    refine⟨mT,se k,rfl,rfl,?_⟩
    rw[show gS (qO (BN P.st done)) (se k)=qO (BN P.st (done++[(k,l)]))by rw[hc];exact Sk iO (BN P.st done) k]
    refine abG (by kernel_rfl) ?_
    refine⟨⟨left.eraseIdx pos,done++[(k,l)]⟩,?_,EI,?_⟩
    ·refine⟨⟨rfl,rfl,rfl,tv⟩,?_,rfl,rfl⟩
     repeat' first|exact trivial|rfl|exact rf|refine abG ?_ ?_
     all_goals exact .inl rfl
    ·have:=(abI.1 hk).1
     show(left.eraseIdx pos).length<left.length
     rw[List.length_eraseIdx_of_lt this];omega
   ·have hl:l≠[]:=fun e=>by subst e;cases h
    rw[if_neg hl]at hc
    refine⟨mT,se k,rfl,rfl,aU l,⟨rf,tv⟩,rfl,false,fun _=>⟨pI (BN P.st done) _,iP _⟩,?_⟩
    rw[show c7 (qO (BN P.st done)) (se k) (aU l)=qO (BN P.st (done++[(k,l)]))by rw[hc];exact dE iO (BN P.st done) k l]
    refine abG (by kernel_rfl) ?_
    refine⟨⟨left.eraseIdx pos,done++[(k,l)]⟩,?_,EI,?_⟩
    ·refine⟨⟨rfl,rfl,rfl,tv⟩,?_,rfl,rfl⟩
     repeat' first|exact trivial|rfl|exact rf|refine abG ?_ ?_
     all_goals exact .inl rfl
    ·have:=(abI.1 hk).1
     show(left.eraseIdx pos).length<left.length
     rw[List.length_eraseIdx_of_lt this];omega
end
section
open Go.TM
theorem Dt:∀(d m:SM),Nk m->Nk (BN m d)
 |[],_,h=>h
 |p::d,m,h=>by
  show Nk (BN (if p.2=[]then s6 m p.1 else aS m p.1 p.2) d)
  refine Dt d _ ?_
  split
  ·exact h.del _
  ·exact h.put _ _
theorem tB:∀(d m:SM),Nk m->Nk d->∀k,aR (BN m d) k=(match aR d k with
 |some l=>if l=[]then none else some l
 |none=>aR m k)
 |[],_,_,_,_=>rfl
 |(q,l)::d,m,hm,h,k=>by
  have hd:Nk d:=(List.nodup_cons.1 h).2
  have hq:q∉d.map (·.1):=(List.nodup_cons.1 h).1
  show aR (BN (if l=[]then s6 m q else aS m q l) d) k=_
  have J6:Nk (if l=[]then s6 m q else aS m q l):=by
   split
   ·exact hm.del _
   ·exact hm.put _ _
  rw[tB d _ J6 hd k]
  by_cases hk:q=k
  ·subst hk
   rw[mP hq]
   simp only[aR,if_true]
   split
   ·rw[Fk hm,if_pos rfl]
   ·rw[lk,if_pos rfl]
  ·simp only[aR,if_neg hk]
   cases aR d k with
   |some x=>rfl
   |none=>
    simp only
    split
    ·rw[Fk hm,if_neg hk]
    ·rw[lk,if_neg hk]
theorem PX{m d b:SM}(hm:Nk m)(hb:Nk b)(h:d.Perm b):(BN m d).Perm (BN m b):=by
 have hd:Nk d:=hb.perm h.symm
 refine BM (Dt d m hm) (Dt b m hm) fun k=>?_
 rw[tB d m hm hd,tB b m hm hb,Bl hd h]
variable [bG]
theorem ID(P:PL)(s:dW)(c:Ch)(hn:Nk P.cb/\Nk P.imp/\Nk P.ret/\Nk c.cb/\Nk c.imp/\Nk c.ret)(hf:P.fl.length<=800000/\c.fl.length<=100000/\P.sp.length<=900000)(ai:Nk P.st/\Nk c.st)(h:ar Tryz.prog 49 [.ptr 0 0,cY (aP s)] 7 (kJ P) 8 [.ptr 12 0,.dv (I 0)] (PV P c)):ar Tryz.prog 15 [.ptr 0 0,cY (aP s)] 7 (Av 1 1 P) 0 [.dv (I c.sp.id),.dv (I 0)] (Av 1 1 (Uo P c c.st)):=
 rH (lT (F5 P s c hn hf h) fun r k ⟨done,hp,h1,h2⟩=>⟨h1,h2▸.cons (.refl _) (.cons (.omap 0 0 eX ((PX ai.1 ai.2 hp).map _)) (.refl _))⟩)
end
section
open Go.TM
variable [bG]
theorem jQ{f:Nat}{P:PL}{c:Ch}{a rs:List AV}{K':ae}{ex:Nat}(h:ar Tryz.prog f a 14 (fg 1 1 P c) ex rs K'):ar Tryz.prog f a 14 (fg 0 0 P c) ex rs K':=
 cR 5 (K0:=fg 0 0 P c) (cR 6 (K0:=fg 1 0 P c) h ⟨⟨_,rfl,rfl,fun j hj=>(by match j,hj with|0,_=>exact .cells (.same _ (.same _ (.same _ (.same _ (.same _ (.same _ (.same _ (.same _ (.same _ (.same _ (.same _ (.same _ (.same _ (.sb .nil))))))))))))))|1,_=>exact .refl _|2,_=>exact .refl _|3,_=>exact .refl _|4,_=>exact .refl _|5,_=>exact .refl _|j+7,_=>exact .refl _)⟩,iV.refl _ _ _ _⟩)
  ⟨⟨_,rfl,rfl,fun j hj=>(by match j,hj with|0,_=>exact .cells (.same _ (.same _ (.same _ (.same _ (.same _ (.same _ (.same _ (.same _ (.same _ (.same _ (.same _ (.same _ (.sb (.same _ .nil))))))))))))))|1,_=>exact .refl _|2,_=>exact .refl _|3,_=>exact .refl _|4,_=>exact .refl _|6,_=>exact .refl _|j+7,_=>exact .refl _)⟩,iV.refl _ _ _ _⟩
theorem PY{f:Nat}{P:PL}{a rs:List AV}{K':ae}{ex:Nat}(h:ar Tryz.prog f a 7 (Av 1 1 P) ex rs K'):ar Tryz.prog f a 7 (kJ P) ex rs K':=
 cR 3 (K0:=kJ P) (cR 4 (K0:=Av 1 0 P) h ⟨⟨_,rfl,rfl,fun j hj=>(by match j,hj with|0,_=>exact .cells (.same _ (.same _ (.same _ (.same _ (.same _ (.same _ (.same _ (.same _ (.sb (.same _ (.same _ .nil)))))))))))|1,_=>exact .refl _|2,_=>exact .refl _|3,_=>exact .refl _|5,_=>exact .refl _|6,_=>exact .refl _|j+7,_=>exact .refl _)⟩,iV.refl _ _ _ _⟩)
  ⟨⟨_,rfl,rfl,fun j hj=>(by match j,hj with|0,_=>exact .cells (.same _ (.same _ (.same _ (.same _ (.same _ (.same _ (.same _ (.sb (.same _ (.same _ (.same _ .nil)))))))))))|1,_=>exact .refl _|2,_=>exact .refl _|4,_=>exact .refl _|5,_=>exact .refl _|6,_=>exact .refl _|j+7,_=>exact .refl _)⟩,iV.refl _ _ _ _⟩
end
section
open Go.TM
variable [bG]
theorem wh(l:List Int)(hl:l.length<=1000000):ar Tryz.prog 148 [.own 0 0 0 []] 1 [(0,.tree 0 0 (.aB 1 (l.map I)))] 0 [.dv (Ints l)] [(0,.tree 0 0 (.aB 1 (l.map I)))]:=by
 refine cO Tryz.func148 rfl (by kernel_rfl) ?_
 by_cases hn:l=[]
 ·subst hn
  refine .inl ⟨⟨_,_,⟨rfl,rfl⟩,by kernel_rfl,⟨DV.aK 1,tv⟩,bp (k:=[(0,.tree 0 0 (.aB 1 []))]) rfl⟩,?_⟩
  refine .inr (.inl ⟨[],rfl,tv,(fun _ h=>by cases h),?_⟩)
  refine .inr (.inl ⟨By u9 [],[],cd.refl _,bI (by simp),by simp,?_⟩)
  exact⟨_,_,⟨rfl,rfl⟩,by kernel_rfl,⟨Im 1 (fun _=>rfl) (l:=([]:List Int)) (e:=I),tv⟩,bp (k:=[(0,.tree 0 0 (.aB 1 []))]) rfl⟩
 ·refine .inr ⟨fun h=>hn (List.map_eq_nil_iff.1 h),abG (fun h=>by cases h) fun _=>?_⟩
  refine .inr (.inl ⟨[],rfl,tv,(fun _ h=>by cases h),?_⟩)
  refine .inr (.inl ⟨By u9 l,l.map I,cd.refl _,bI (by simp;omega),by simp;omega,?_⟩)
  exact⟨_,_,⟨rfl,rfl⟩,by kernel_rfl,⟨Im 1 (fun _=>rfl),tv⟩,bp (k:=[(0,.tree 0 0 (.aB 1 (l.map I)))]) rfl⟩
end
end Go.Proofs.YtknnpcfhekkjjaaGreatDoor
