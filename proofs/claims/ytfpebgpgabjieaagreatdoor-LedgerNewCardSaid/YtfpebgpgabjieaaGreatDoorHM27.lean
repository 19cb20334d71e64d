import Derived.Test.YtfpebgpgabjieaaGreatDoorHM26
set_option linter.all false
open Go.TM.oA Go.TM.oB Go.TM.oC Go.TM.oD Go.TM.oE
namespace Go.Proofs.YtfpebgpgabjieaaGreatDoor
set_option maxHeartbeats 4000000
section
open Go.TM
def zQ(s:ByteArray)(a:Nat):Nat:=Mq s (s.size+1) false a
def G4(s:ByteArray)(a:Nat):Tok:=⟨if kd s a=3 then 0 else if kd s a=4 then 1 else 2,s.extract a (cb s a),if kd s a=4 then r6 (s.extract a (cb s a)) (s.extract a (cb s a)).size 0 0 else 0,a⟩
def rN(s:ByteArray)(a:Nat):Tok×Int:=if cb s a=a then(G4 s a,2)else if((G4 s a).kind=0/\16<(G4 s a).text.size)\/1099511627776<(G4 s a).n then(G4 s a,4)else(G4 s a,0)
theorem Kt{s:ByteArray}{a:Nat}(h:a<s.size):a<=cb s a/\cb s a<=s.size:=by
 have h1:=Kg h
 have h2:=Px h
 have h3:s[a+1]?=some 62->a+1<s.size:=fun h=>by
  by_cases hl:a+1<s.size
  ·exact hl
  ·rw[show s[a+1]?=none by simp;omega]at h;cases h
 unfold cb
 repeat' split
 all_goals first|omega|(have:=h3 (by assumption);omega)
theorem UA(s:ByteArray):(if 8192<s.size then false else wv s (A6 s (rN s) (zQ s) (s.size+1) (zQ s 0) []))=iw s:=
 aaG (fun a ha h1 h2 h3=>by
  have hr:=Kt ha
  have e1:(rN s a).1=G4 s a:=by
   unfold rN
   split
   ·rfl
   ·split<;>rfl
  rw[e1]at h2 h3
  have hs:=congrArg ByteArray.size h3
  have lH:=hs
  have h22:=h2
  unfold G4 at hs h2
  simp only[ByteArray.size_extract]at hs
  have h0:a=0:=by omega
  subst h0
  have k3:kd s 0=3:=by
   by_cases k3:kd s 0=3
   ·exact k3
   ·dsimp only at h2;rw[if_neg k3]at h2;split at h2<;>cases h2
  have hw:cb s 0=wE s 0:=by unfold cb;rw[if_pos k3]
  refine pI.2 ⟨ha,?_,k3,by omega⟩
  unfold rN at h1
  rw[if_neg (by omega)]at h1
  split at h1
  ·cases h1
  ·rename_i hn
   by_cases h16:16<s.size
   ·exact absurd (.inl ⟨h22,by rw[lH];exact h16⟩) hn
   omega) fun h=>by
  obtain⟨h1,h2,h3,h4⟩:=pI.1 h
  have hr:cb s 0=s.size:=by unfold cb;rw[if_pos h3];exact h4
  have ht:G4 s 0=⟨0,s,0,0⟩:=by
   unfold G4
   rw[hr,if_pos h3,ByteArray.extract_zero_size,if_neg (by omega)]
  refine⟨?_,?_,?_⟩
  ·obtain⟨b,hb⟩:∃b,s[0]?=some b:=⟨_,by simp[h1];rfl⟩
   have hk:=yT hb
   have h35:b.toNat≠35:=fun e=>by rw[hk]at h3;unfold bk at h3;rw[e]at h3;cases h3
   have NK:b.toNat≠10:=fun e=>by rw[hk]at h3;unfold bk at h3;rw[e]at h3;cases h3
   show Mq s (s.size+1) false 0=0
   unfold Mq
   rw[hb]
   dsimp only
   rw[if_pos]
   refine⟨by unfold SV;rw[if_neg NK,if_neg h35],?_⟩
   rw[<-hk,h3];decide
  ·unfold rN
   rw[hr,if_neg (by omega),ht,if_neg]
   rintro(⟨_,h⟩|h)
   ·exact absurd (show 16<s.size from h) (by omega)
   ·exact absurd (show(1099511627776:Int)<0 from h) (by omega)
  ·show Mq s (s.size+1) false s.size=_
   have:=CZ s (s.size+1) s.size false (adM _);omega
variable [aW]
theorem bRt{n:Nat}(h:n<=1000000):n*(nth jk (nth jk 185).elem).bytes<=140737488355328:=by
 rw[show(nth jk (nth jk 185).elem).bytes=40 by kernel_rfl];omega
def yV(s:ByteArray):List Tok×Nat×Int:=if 8192<s.size then([],0,4)else if(A6 s (rN s) (zQ s) (s.size+1) (zQ s 0) []).2.2=0 then((A6 s (rN s) (zQ s) (s.size+1) (zQ s 0) []).1,0,0)else([],(A6 s (rN s) (zQ s) (s.size+1) (zQ s 0) []).2)
theorem C0(s:ByteArray):ai Tryz.prog 100 [.str s] [.sl 4 ((yV s).1.map dW),I (yV s).2.1,I (yV s).2.2]:=by
 unfold yV
 obtain⟨r,hr⟩:∃r,r=A6 s (rN s) (zQ s) (s.size+1) (zQ s 0) []:=⟨_,rfl⟩
 rw[<-hr]
 by_cases hs:8192<s.size
 ·rw[if_pos hs]
  refine pO Tryz.func100 rfl (by kernel_rfl) rfl ?_
  refine adh (fun _=>?_) fun h=>?_
  ·exact⟨DV.aY 4,rf,rf,tv⟩
  ·have:=adA h;omega
 rw[if_neg hs]
 refine pO Tryz.func100 rfl (by kernel_rfl) rfl ?_
 refine adh (fun h=>?_) fun _=>?_
 ·have:=adz h;omega
 have hk:=yU s 0 (adx _) (by omega)
 refine .inl ⟨[I (zQ s 0:Nat)],fun _=>hk.ok,?_⟩
 refine⟨TkS,fun z=>⟨1,[(0,.dv (.str s)),(2,.dv .aH),(3,.dv (I 0)),(4,.dv (I 0)),(5,.own 0 0 0 []),(6,.dv (I z.a))],[(0,.tree 0 0 (.aI 4 (z.l.map dW)))]⟩,fun z=>z.a<=s.size/\z.l.length<=z.a/\A6 s (rN s) (zQ s) z.m z.a z.l=r/\s.size-z.a<z.m,fun z=>s.size-z.a,⟨s.size+1,zQ s 0,[]⟩,fun _=>rfl,?_,⟨(CZ s _ 0 false (adx _)).2,adx _,hr.symm,by dsimp only;omega⟩,?_⟩
 ·exact⟨⟨rf,rf,rf,rf,⟨rfl,rfl,rfl,rfl,_,rfl⟩,rf,tv⟩,⟨⟨rfl,rfl,_,rfl⟩,tv⟩,rfl,rfl⟩
 rintro⟨m,a,l⟩ ⟨h1,h2,h3,h4⟩
 dsimp only at h1 h2 h3 h4⊢
 obtain⟨m,rfl⟩:∃n,m=n+1:=⟨m-1,by omega⟩
 unfold A6 at h3
 refine adh (fun h=>?_) fun h=>?_
 ·have ha:a<s.size:=by have:=adz h;omega
  rw[if_pos ha]at h3
  have SQ:=Kt ha
  obtain⟨b,hb⟩:∃b,s[a]?=some b:=⟨_,by simp[ha];rfl⟩
  refine .inl ⟨_,fun _=>(Mr s a ha (by omega)).ok,?_⟩
  obtain⟨q,vz⟩:∃q,q=rN s a:=⟨_,rfl⟩
  rw[<-vz]at h3
  unfold rN at vz
  refine adh (fun h=>?_) fun h=>?_
  ·have e:cb s a=a:=by have:=beq_iff_eq.1 h;omega
   rw[if_pos e]at vz
   subst vz
   rw[if_neg (show¬((2:Int)=0)by decide)]at h3
   subst h3
   exact⟨DV.aY 4,rf,rf,tv⟩
  ·have e:cb s a≠a:=by have:=beq_eq_false_iff_ne.1 h;omega
   rw[if_neg e]at vz
   refine⟨fun _=>⟨by show(0:Int)<=a;omega,by show(a:Int)<=cb s a;omega,by show(cb s a:Int)<=s.size;omega⟩,?_⟩
   refine⟨b,fun _=>⟨by omega,hb⟩,?_⟩
   refine .inl ⟨_,fun _=>(eO b).ok,?_⟩
   have S6:=yT hb
   have hsx:(s.extract a (cb s a)).size=cb s a-a:=by simp only[ByteArray.size_extract];omega
   have ck:a+(s.extract a (cb s a)).size=cb s a:=by omega
   have JK:=yU s (cb s a) SQ.2 (by omega)
   have SR:=CZ s (s.size+1) (cb s a) false SQ.2
   rw[show Mq s (s.size+1) false (cb s a)=zQ s (cb s a)from rfl]at SR
   have hq:∀T:Tok,(bif (bif T.kind==0 then decide ((16:Int)<(T.text.size:Int))else false)then true else decide (1099511627776<T.n))=true↔((T.kind=0/\16<T.text.size)\/1099511627776<T.n):=fun T=>by
    simp only[cond_eq_ite,Bool.if_true_left,Bool.if_false_right,Bool.or_eq_true,adT,decide_eq_true_eq,beq_iff_eq]
    omega
   obtain⟨c1,c2,_,_⟩:=w7 (bk b)
   rw[<-S6]at c1 c2
   refine adh (fun h=>?_) fun h=>?_
   ·have k3:=c1.1 (by have:=beq_iff_eq.1 h;rw[S6];exact this)
    refine⟨b,fun _=>⟨by omega,hb⟩,?_⟩
    refine .inl ⟨_,fun _=>(eO b).ok,?_⟩
    refine adh (fun h=>?_) fun h=>?_
    ·have:=c2.1 (by have:=beq_iff_eq.1 h;rw[S6];exact this);omega
    have ht:G4 s a=⟨0,s.extract a (cb s a),0,a⟩:=by unfold G4;rw[if_pos k3,if_neg (by omega)]
    rw[ht]at vz
    repeat refine gG ?_
    refine adh (fun h=>?_) fun h=>?_
    ·rw[if_pos ((hq ⟨0,s.extract a (cb s a),0,a⟩).1 h)]at vz
     subst vz
     rw[if_neg (show¬((4:Int)=0)by decide)]at h3
     subst h3
     rw[if_neg (show¬((4:Int)=0)by decide)]
     exact⟨DV.aY 4,rf,rf,tv⟩
    ·rw[if_neg (fun hc=>Bool.eq_false_iff.1 h ((hq ⟨0,s.extract a (cb s a),0,a⟩).2 hc))]at vz
     subst vz
     rw[if_pos rfl]at h3
     refine .inl ⟨[dW ⟨0,s.extract a (cb s a),0,a⟩],rfl,⟨rf,rf,rf,rf,tv⟩,(by simp;rfl),?_⟩
     refine .inr ⟨[dW ⟨0,s.extract a (cb s a),0,a⟩],bW.refl _,bRt (by simp;omega),by simp;omega,?_⟩
     rw[show l.map dW++[dW ⟨0,s.extract a (cb s a),0,a⟩]=(l++[(⟨0,s.extract a (cb s a),0,a⟩:Tok)]).map dW by simp]
     refine .inl ⟨[I (zQ s (cb s a):Nat)],fun _=>JK.ok,?_⟩
     exact⟨⟨m,zQ s (cb s a),l++[⟨0,s.extract a (cb s a),0,a⟩]⟩,jn rfl rfl rfl rfl,⟨SR.2,by simp;omega,by dsimp only at h3⊢;rw[ck]at h3;exact h3,by dsimp only;omega⟩,by dsimp only;omega⟩
   ·have k3:kd s a≠3:=fun e=>beq_eq_false_iff_ne.1 h (by rw[<-S6];exact c1.2 e)
    refine⟨b,fun _=>⟨by omega,hb⟩,?_⟩
    refine .inl ⟨_,fun _=>(eO b).ok,?_⟩
    refine adh (fun h=>?_) fun h=>?_
    ·have k4:=c2.1 (by have:=beq_iff_eq.1 h;rw[S6];exact this)
     have ht:G4 s a=⟨1,s.extract a (cb s a),r6 (s.extract a (cb s a)) (s.extract a (cb s a)).size 0 0,a⟩:=by unfold G4;rw[if_neg k3,if_pos k4,if_pos k4]
     rw[ht]at vz
     refine .inl ⟨[I (r6 (s.extract a (cb s a)) (s.extract a (cb s a)).size 0 0)],fun _=>(Iy (s.extract a (cb s a)) (by rw[hsx];omega)).ok,?_⟩
     repeat refine gG ?_
     refine adh (fun h=>?_) fun h=>?_
     ·rw[if_pos ((hq ⟨1,s.extract a (cb s a),r6 (s.extract a (cb s a)) (s.extract a (cb s a)).size 0 0,a⟩).1 h)]at vz
      subst vz
      rw[if_neg (show¬((4:Int)=0)by decide)]at h3
      subst h3
      rw[if_neg (show¬((4:Int)=0)by decide)]
      exact⟨DV.aY 4,rf,rf,tv⟩
     ·rw[if_neg (fun hc=>Bool.eq_false_iff.1 h ((hq ⟨1,s.extract a (cb s a),r6 (s.extract a (cb s a)) (s.extract a (cb s a)).size 0 0,a⟩).2 hc))]at vz
      subst vz
      rw[if_pos rfl]at h3
      refine .inl ⟨[dW ⟨1,s.extract a (cb s a),r6 (s.extract a (cb s a)) (s.extract a (cb s a)).size 0 0,a⟩],rfl,⟨rf,rf,rf,rf,tv⟩,(by simp;rfl),?_⟩
      refine .inr ⟨[dW ⟨1,s.extract a (cb s a),r6 (s.extract a (cb s a)) (s.extract a (cb s a)).size 0 0,a⟩],bW.refl _,bRt (by simp;omega),by simp;omega,?_⟩
      rw[show l.map dW++[dW ⟨1,s.extract a (cb s a),r6 (s.extract a (cb s a)) (s.extract a (cb s a)).size 0 0,a⟩]=(l++[(⟨1,s.extract a (cb s a),r6 (s.extract a (cb s a)) (s.extract a (cb s a)).size 0 0,a⟩:Tok)]).map dW by simp]
      refine .inl ⟨[I (zQ s (cb s a):Nat)],fun _=>JK.ok,?_⟩
      exact⟨⟨m,zQ s (cb s a),l++[⟨1,s.extract a (cb s a),r6 (s.extract a (cb s a)) (s.extract a (cb s a)).size 0 0,a⟩]⟩,jn rfl rfl rfl rfl,⟨SR.2,by simp;omega,by dsimp only at h3⊢;rw[ck]at h3;exact h3,by dsimp only;omega⟩,by dsimp only;omega⟩
    ·have k4:kd s a≠4:=fun e=>beq_eq_false_iff_ne.1 h (by rw[<-S6];exact c2.2 e)
     have ht:G4 s a=⟨2,s.extract a (cb s a),0,a⟩:=by unfold G4;rw[if_neg k3,if_neg k4,if_neg k4]
     rw[ht]at vz
     repeat refine gG ?_
     refine adh (fun h=>?_) fun h=>?_
     ·rw[if_pos ((hq ⟨2,s.extract a (cb s a),0,a⟩).1 h)]at vz
      subst vz
      rw[if_neg (show¬((4:Int)=0)by decide)]at h3
      subst h3
      rw[if_neg (show¬((4:Int)=0)by decide)]
      exact⟨DV.aY 4,rf,rf,tv⟩
     ·rw[if_neg (fun hc=>Bool.eq_false_iff.1 h ((hq ⟨2,s.extract a (cb s a),0,a⟩).2 hc))]at vz
      subst vz
      rw[if_pos rfl]at h3
      refine .inl ⟨[dW ⟨2,s.extract a (cb s a),0,a⟩],rfl,⟨rf,rf,rf,rf,tv⟩,(by simp;rfl),?_⟩
      refine .inr ⟨[dW ⟨2,s.extract a (cb s a),0,a⟩],bW.refl _,bRt (by simp;omega),by simp;omega,?_⟩
      rw[show l.map dW++[dW ⟨2,s.extract a (cb s a),0,a⟩]=(l++[(⟨2,s.extract a (cb s a),0,a⟩:Tok)]).map dW by simp]
      refine .inl ⟨[I (zQ s (cb s a):Nat)],fun _=>JK.ok,?_⟩
      exact⟨⟨m,zQ s (cb s a),l++[⟨2,s.extract a (cb s a),0,a⟩]⟩,jn rfl rfl rfl rfl,⟨SR.2,by simp;omega,by dsimp only at h3⊢;rw[ck]at h3;exact h3,by dsimp only;omega⟩,by dsimp only;omega⟩
 ·have ha:¬a<s.size:=by have:=adA h;omega
  rw[if_neg ha]at h3
  subst h3
  rw[if_pos rfl]
  exact⟨PX _,rf,rf,tv⟩
theorem Ql(s:ByteArray):wv s (yV s)=iw s:=by
 rw[<-UA]
 unfold yV
 split
 ·rfl
 ·generalize A6 s (rN s) (zQ s) (s.size+1) (zQ s 0) []=r
  obtain⟨ts,p,e⟩:=r
  dsimp only
  split
  ·rename_i h;subst h;rfl
  ·rename_i h;unfold wv;rw[show(e==0)=false from beq_eq_false_iff_ne.2 h];rfl
end
section
open Go.TM
variable [aW]
theorem Ms(s:ByteArray):ai Tryz.prog 56 [.str s] [B (iw s)]:=by
 have hf:=Ql s
 have ht:=C0 s
 generalize yV s=r at hf ht
 obtain⟨ts,p,e⟩:=r
 dsimp only at ht
 refine pO Tryz.func56 rfl (by kernel_rfl) rfl ?_
 refine .inl ⟨_,fun _=>ht.ok,?_⟩
 have lt:(ts.map dW).length=ts.length:=adi ..
 obtain⟨t,h0⟩:∃t,0<ts.length->ts[0]?=some t:=by
  by_cases h:0<ts.length
  ·exact⟨ts[0],fun _=>abK h⟩
  ·exact⟨⟨0,s,0,0⟩,fun h2=>absurd h2 h⟩
 have hc:∀h:bw (bif e==0 then(((ts.map dW).length:Nat):Int)==1 else false) true=true,(0:Int)<=0/\(ts.map dW)[Int.toNat 0]?=some (dW t):=fun h=>by
  have h2:=(bZ (gL h)).2
  rw[lt]at h2
  have:(ts.length:Int)=1:=beq_iff_eq.1 h2
  exact⟨by omega,by rw[adk];show(ts[0]?).map _=_;rw[h0 (by omega)];rfl⟩
 repeat refine gG ?_
 refine⟨dW t,hc,?_⟩
 repeat refine gG ?_
 refine⟨dW t,fun h=>hc (nP (bZ (gL h)).1),?_⟩
 repeat refine gG ?_
 refine⟨DV.Le.of_eq (congrArg DV.bool ?_),tv⟩
 rw[<-hf]
 have h1:((((ts.map dW).length:Nat):Int)==1)=(ts.length==1):=by
  rw[lt,adO,beq_iff_eq,beq_iff_eq];omega
 rw[h1]
 unfold wv
 cases he:e==0 with
 |false=>rfl
 |true=>
  cases hl:ts.length==1 with
  |false=>simp[hl]
  |true=>
   have w4:=beq_iff_eq.1 hl
   match ts,w4,h0 with
   |[u],_,h0=>
    have:=h0 (by simp)
    injection this with this
    subst this
    simp only[List.length_singleton,beq_self_eq_true,Bool.true_and,cond_true]
    cases u.kind==0<;>rfl
theorem UB(l:List ByteArray)(s:ByteArray)(hl:l.length<=100):ai Tryz.prog 57 [.sl 1 (l.map DV.str),.str s] [B (Kf l s)]:=by
 refine pO Tryz.func57 rfl (by kernel_rfl) rfl ?_
 have ll:(l.map DV.str).length=l.length:=adi ..
 refine⟨Nat,fun i=>⟨0,[(0,.dv (.sl 1 (l.map DV.str))),(1,.dv (.str s)),(5,.dv (I i))],[]⟩,fun i=>i<=l.length/\Kf (l.take i) s=false,fun i=>l.length-i,0,fun _=>rfl,jn rfl rfl rfl rfl,⟨adx _,rfl⟩,?_⟩
 rintro i ⟨hi,h0⟩
 refine adh (fun h=>?_) fun h=>?_
 ·have aB:i<l.length:=by have:=adz h;omega
  obtain⟨x,hx⟩:∃x,l[i]?=some x:=⟨_,abK aB⟩
  have ix:(l.map DV.str)[(i:Int).toNat]?=some (.str x):=by rw[adk];simp[hx]
  refine⟨_,fun _=>⟨by omega,ix⟩,adh (fun h=>?_) fun h=>?_⟩
  ·have:Kf l s=true:=List.any_eq_true.2 ⟨x,adl hx,h⟩
   rw[this]
   exact⟨rf,tv⟩
  ·have ht:Kf (l.take (i+1)) s=false:=by
    unfold Kf at h0⊢
    rw[ads,hx,List.any_append,h0]
    simpa using h
   exact⟨fun _=>by omega,i+1,jn rfl rfl rfl rfl,⟨aB,ht⟩,mlt aB⟩
 ·have he:i=l.length:=by have:=adA h;omega
  subst he
  rw[ady]at h0
  rw[h0]
  exact⟨rf,tv⟩
end
end Go.Proofs.YtfpebgpgabjieaaGreatDoor
