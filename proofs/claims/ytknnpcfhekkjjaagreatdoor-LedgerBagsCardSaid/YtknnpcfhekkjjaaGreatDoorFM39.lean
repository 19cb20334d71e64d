import Derived.Test.YtknnpcfhekkjjaaGreatDoorFM38
import Derived.Test.YtknnpcfhekkjjaaGreatDoorFM22
import Derived.Test.YtknnpcfhekkjjaaGreatDoorFM30
import Derived.Lib.ItoaNum
import Derived.Shelf.SlSortCmp.Xorshift
import Derived.Shelf.SlSortCmp.Whole1
import Derived.Test.YtknnpcfhekkjjaaGreatDoorFM35
import Derived.Test.YtknnpcfhekkjjaaGreatDoorFM37
import Derived.Test.YtknnpcfhekkjjaaGreatDoorFM34
set_option linter.all false
namespace Go.Proofs.YtknnpcfhekkjjaaGreatDoor
set_option maxRecDepth 100000
set_option maxHeartbeats 4000000
section
open Go.TM
theorem Kq(n:Int):0<=IntKind.u64.wrap n:=by rw[IntKind.wrap_u64];omega
theorem Uq{s:Nat}(h:s<=64):min (s:Int).toNat IntKind.u64.bits=s:=by
 rw[Int.toNat_natCast];exact Nat.min_eq_left h
theorem Zz(s:Nat):(2:Int)^s=((2^s:Nat):Int):=by simp
theorem Qi(a s:Nat)(h:s<=64):IntKind.u64.wrap ((a:Int)*2^min (IntKind.u64.wrap (s:Int)).toNat IntKind.u64.bits)=((a*2^s%18446744073709551616:Nat):Int):=by
 rw[cC s (by omega),Uq h,Zz,tF,BO]
theorem Ur(a s:Nat)(h:s<=64):(a:Int)/2^min (s:Int).toNat IntKind.u64.bits=((a/2^s:Nat):Int):=by
 rw[Uq h,Zz]
 exact(Int.natCast_ediv a (2^s)).symm
structure Kn(Y u d q r:Nat):Prop where
 a:q*(Y/4294967296)+r=u
 b:r<4294967296
 c:(u*4294967296+d)/Y<=q
theorem Dw(Y:Nat):Y/4294967296*4294967296+Y%4294967296=Y:=by rw[Nat.mul_comm];exact Nat.div_add_mod ..
theorem Kn.yes{Y u d q r:Nat}(h:Kn Y u d q r)(hu:u<Y)(hd:d<4294967296)(ht:4294967296<=q\/4294967296*r+d<q*(Y%4294967296)):1<=q/\(q-1)*(Y/4294967296)+(r+Y/4294967296)=u/\(u*4294967296+d)/Y<=q-1/\(4294967296<=r+Y/4294967296->q-1=(u*4294967296+d)/Y):=by
 have e:=Dw Y
 have h1:u*4294967296+d<q*Y:=by
  rcases ht with ht|ht
  ·exact Wq hu hd ht
  ·have:=Zy h.a ht;rwa[e]at this
 have hq:1<=q:=by
  cases q with
  |zero=>rw[Nat.zero_mul]at h1;omega
  |succ q=>omega
 have ha:(q-1)*(Y/4294967296)+(r+Y/4294967296)=u:=by
  have:=h.a
  rw[Nat.sub_mul,Nat.one_mul]
  have:Y/4294967296<=q*(Y/4294967296):=Nat.le_mul_of_pos_left _ hq
  omega
 refine⟨hq,ha,Qf (by omega) h1,fun hb=>?_⟩
 have hk:=Wr (d:=d) ha hb (by rw[e];exact hu) (Nat.mod_lt _ (by omega))
 have:=Qe (Kp ha hk) (by rw[e];exact Qf (by omega) h1) (by rw[e];omega)
 rwa[e]at this
theorem Kn.no{Y u d q r:Nat}(h:Kn Y u d q r)(hu:u<Y)(ht:¬(4294967296<=q\/4294967296*r+d<q*(Y%4294967296))):q=(u*4294967296+d)/Y:=by
 have e:=Dw Y
 have:=Qe (Kp (b:=4294967296) (d:=d) (z:=Y%4294967296) h.a (by omega)) (by rw[e];exact h.c) (by rw[e];omega)
 rwa[e]at this
theorem Dx{Y d q r:Nat}(hr:r<4294967296)(hd:d<4294967296):(bif decide ((4294967296:Int)<=q)then true else decide (IntKind.u64.wrap (IntKind.u64.wrap (4294967296*(r:Int))+(d:Int))<IntKind.u64.wrap ((q:Int)*((Y%4294967296:Nat):Int))))=decide (4294967296<=q\/4294967296*r+d<q*(Y%4294967296)):=by
 by_cases h:4294967296<=q
 ·rw[ab4 (show(4294967296:Int)<=q by omega),ab4 (Or.inl h)];rfl
 ·have hm:q*(Y%4294967296)<18446744073709551616:=by
   have h1:Y%4294967296<=4294967295:=by omega
   have:=Nat.mul_le_mul (show q<=4294967295 by omega) h1
   omega
  rw[ab5 (show¬(4294967296:Int)<=q by omega),tF,cC _ hm,IntKind.wrap_u64,IntKind.wrap_u64]
  simp only[cond_false,decide_eq_decide]
  omega
theorem Kn.init{Y u d:Nat}(hY:9223372036854775808<=Y)(hd:d<4294967296)(h2:Y<18446744073709551616):Kn Y u d (u/(Y/4294967296)) (u%(Y/4294967296))where
 a:=by rw[Nat.mul_comm];exact Nat.div_add_mod ..
 b:=by have:=Nat.mod_lt u (show 0<Y/4294967296 by omega);omega
 c:=by
  have:=Qg (b:=4294967296) (x:=Y/4294967296) (z:=Y%4294967296) (u:=u) (by omega) hd
  rwa[Dw]at this
theorem Qj{Y u d:Nat}(h2:Y<18446744073709551616)(h0:0<Y):IntKind.u64.wrap (IntKind.u64.wrap (IntKind.u64.wrap ((u:Int)*4294967296)+(d:Int))-IntKind.u64.wrap ((((u*4294967296+d)/Y:Nat):Int)*(Y:Int)))=(((u*4294967296+d)%Y:Nat):Int):=by
 have h1:=Nat.div_add_mod (u*4294967296+d) Y
 have h3:=Nat.mod_lt (u*4294967296+d) h0
 rw[Nat.mul_comm]at h1
 rw[tF]
 simp only[IntKind.wrap_u64]
 omega
theorem Gf{hi lo y s:Nat}(hs:s<=63)(h:hi<y)(mj:lo<18446744073709551616):lo/2^(64-s)<2^s/\hi*2^s+lo/2^(64-s)<y*2^s/\(hi*2^s+lo/2^(64-s))*18446744073709551616+lo*2^s%18446744073709551616=(hi*18446744073709551616+lo)*2^s:=by
 have hp:2^s*2^(64-s)=18446744073709551616:=by rw[<-Nat.pow_add,show s+(64-s)=64 by omega]
 have h1:lo/2^(64-s)<2^s:=(Nat.div_lt_iff_lt_mul (Nat.pos_of_ne_zero (by simp))).2 (by rw[hp];exact mj)
 refine⟨h1,?_,?_⟩
 ·have:(hi+1)*2^s<=y*2^s:=acd _ h
  rw[Nat.add_mul,Nat.one_mul]at this;omega
 ·have h2:lo*2^s/18446744073709551616=lo/2^(64-s):=by
   rw[<-hp,Nat.mul_comm (2^s),Nat.mul_div_mul_right _ _ (Nat.pos_of_ne_zero (by simp))]
  have h3:=Nat.div_add_mod (lo*2^s) 18446744073709551616
  rw[h2]at h3
  rw[Nat.add_mul,Nat.add_mul,Nat.mul_right_comm hi]
  omega
theorem ZA{hi lo s:Nat}(hs:4<=s/\s<=63)(h:hi*2^s<18446744073709551616)(mj:lo<18446744073709551616):bits .or .u64 (IntKind.u64.wrap ((hi:Int)*2^min (IntKind.u64.wrap (s:Int)).toNat IntKind.u64.bits)) ((lo:Int)/2^min (IntKind.u64.wrap (64-IntKind.u64.wrap (s:Int))).toNat IntKind.u64.bits)=((hi*2^s+lo/2^(64-s):Nat):Int):=by
 have e:IntKind.u64.wrap (64-IntKind.u64.wrap (s:Int))=((64-s:Nat):Int):=by
  rw[cC s (by omega),IntKind.wrap_u64];omega
 have hl:=(Gf (hi:=0) (y:=1) hs.2 (by omega) mj).1
 rw[Qi hi s (by omega),e,Ur lo (64-s) (by omega),Nat.mod_eq_of_lt h,bits_or_u64_nat _ _ h (by have:=Nat.div_le_self lo (2^(64-s));omega)]
 rw[Nat.mul_comm hi,<-Nat.two_pow_add_eq_or_of_lt hl]
theorem ZB{A B C:Nat}(h:A*4294967296+B=C)(hC:C<18446744073709551616):IntKind.u64.wrap (IntKind.u64.wrap ((A:Int)*4294967296)+(B:Int))=(C:Int):=by
 rw[IntKind.wrap_u64,IntKind.wrap_u64];omega
theorem Wt{u d e Y y s hi lo:Nat}(hY:Y=y*2^s)(hw:u*18446744073709551616+(d*4294967296+e)=(hi*18446744073709551616+lo)*2^s)(h:hi<y)(mj:lo<18446744073709551616)(h2:Y<18446744073709551616)(h0:0<Y):
 IntKind.u64.wrap (IntKind.u64.wrap ((((u*4294967296+d)/Y:Nat):Int)*4294967296)+((((u*4294967296+d)%Y*4294967296+e)/Y:Nat):Int))=(((hi*18446744073709551616+lo)/y:Nat):Int)/\((u*4294967296+d)%Y*4294967296+e)%Y/2^s=(hi*18446744073709551616+lo)%y:=by
 have hs:0<2^s:=Nat.pos_of_ne_zero (by simp)
 obtain⟨t1,t2⟩:=Ws (b:=4294967296) (y:=Y) (w:=u*4294967296+d) (u:=e) h0
 obtain⟨t3,t4⟩:=Qh (U:=hi*18446744073709551616+lo) (y:=y) (k:=2^s) hs
 have e1:(u*4294967296+d)*4294967296+e=(hi*18446744073709551616+lo)*2^s:=by
  rw[<-hw,Nat.add_mul,Nat.mul_assoc u]
  exact Nat.add_assoc _ _ _
 rw[e1,hY,t3]at t1
 rw[e1,hY]at t2
 rw[t2]at t4
 have au:(hi*18446744073709551616+lo)/y<18446744073709551616:=(Nat.div_lt_iff_lt_mul (by omega)).2 (by
  have:(hi+1)*18446744073709551616<=y*18446744073709551616:=acd _ h
  rw[Nat.mul_comm 18446744073709551616 y];omega)
 rw[hY]
 refine⟨?_,t4⟩
 exact ZB t1.symm au
variable [bG]
theorem Gg(hi lo y s:Nat)(h0:0<hi)(h:hi<y)(mj:lo<18446744073709551616)(hz:aI Tryz.prog 246 [U y] [I s])(hs:4<=s/\s<=63)(lJ:9223372036854775808<=y*2^s/\y*2^s<18446744073709551616):aI Tryz.prog 240 [U hi,U lo,U y] [U ((hi*18446744073709551616+lo)/y),U ((hi*18446744073709551616+lo)%y)]:=by
 refine pO Tryz.func240 rfl (by kernel_rfl) rfl ?_
 have e1:¬(y:Int)=0:=by omega
 have e2:¬(hi:Int)=0:=by omega
 refine⟨fun h=>absurd (eq_of_beq h) e1,fun _=>⟨fun h=>absurd (abY h) (by show¬(y:Int)<=hi;omega),fun _=>⟨fun h=>absurd (eq_of_beq h) e2,fun _=>?_⟩⟩⟩
 refine .inl ⟨_,fun _=>hz.ok,?_⟩
 have a1:=Qi y s (by omega)
 rw[Nat.mod_eq_of_lt lJ.2]at a1
 have a2:=Qi lo s (by omega)
 obtain⟨Q7,TK,hw3⟩:=Gf hs.2 h mj
 have a3:=ZA (hi:=hi) hs (by have:=acd (2^s) (Nat.le_of_lt h);omega) mj
 obtain⟨Y,hY⟩:∃Y,Y=y*2^s:=⟨_,rfl⟩
 obtain⟨L,hL⟩:∃L,L=lo*2^s%18446744073709551616:=⟨_,rfl⟩
 rw[<-hY]at a1 lJ TK
 rw[<-hL]at a2 hw3
 generalize hi*2^s+lo/2^(64-s)=u at*
 have hLb:L<18446744073709551616:=by omega
 have a4:(Y:Int)/2^min (Int.toNat 32) IntKind.u64.bits=((Y/4294967296:Nat):Int):=Dv Y
 have a5:=pK Y lJ.2
 have a6:(L:Int)/2^min (Int.toNat 32) IntKind.u64.bits=((L/4294967296:Nat):Int):=Dv L
 have a7:=pK L hLb
 have hd:L/4294967296<4294967296:=by omega
 have hde:L/4294967296*4294967296+L%4294967296=L:=Dw L
 generalize L/4294967296=d at*
 have he:L%4294967296<4294967296:=by omega
 generalize L%4294967296=e at*
 have hX:2147483648<=Y/4294967296/\Y/4294967296<4294967296:=by omega
 have dv:∀n:Nat,n<18446744073709551616->IntKind.u64.wrap ((n:Int).tdiv ((Y/4294967296:Nat):Int))=((n/(Y/4294967296):Nat):Int):=fun n hn=>by
  rw[<-Int.ofNat_tdiv];exact cC _ (Nat.lt_of_le_of_lt (Nat.div_le_self _ _) hn)
 have rm:∀n:Nat,n<18446744073709551616->IntKind.u64.wrap ((n:Int)-IntKind.u64.wrap (((n/(Y/4294967296):Nat):Int)*((Y/4294967296:Nat):Int)))=((n%(Y/4294967296):Nat):Int):=fun n hn=>by
  have h1:=Nat.div_add_mod n (Y/4294967296)
  rw[Nat.mul_comm]at h1
  rw[tF,cC _ (by omega),IntKind.wrap_u64]
  omega
 have a8:=cC s (by omega)
 obtain⟨v,hv⟩:∃v,v=(u*4294967296+d)%Y:=⟨_,rfl⟩
 have Gi:=Qj (u:=u) (d:=d) lJ.2 (by omega)
 rw[<-hv]at Gi
 have hf:=Wt (u:=u) (d:=d) (e:=e) hY (by rw[hde];exact hw3) h mj lJ.2 (by omega)
 have MC:=Qj (u:=v) (d:=e) lJ.2 (by omega)
 rw[<-hv]at hf
 have I9:=hf.1
 have hf3:=(Ur ((v*4294967296+e)%Y) s (by omega)).trans (congrArg (fun n:Nat=>(n:Int)) hf.2)
 have dK:v<Y:=by rw[hv];exact Nat.mod_lt _ (by omega)
 have Wf:((Y/4294967296:Nat):Int)≠0:=by omega
 have Xi:∀r,r<4294967296->r+Y/4294967296<18446744073709551616:=by omega
 have Us:∀n q r,n<Y->q*(Y/4294967296)+r=n->q<18446744073709551616:=fun n q r h1 h2=>by
  have:=Nat.le_mul_of_pos_right q (show 0<Y/4294967296 by omega)
  omega
 have hw:∀q:Nat,1<=q->q<18446744073709551616->IntKind.u64.wrap ((q:Int)-1)=((q-1:Nat):Int):=fun q h1 h2=>by rw[IntKind.wrap_u64];omega
 have Wu:∀n:Nat,(4294967296:Int)<=n->4294967296<=n:=fun n h=>by omega
 have Wv:∀n:Nat,¬(4294967296:Int)<=n->n<4294967296:=fun n h=>by omega
 have Qk:∀q,1<=q->q-1<q:=fun q h=>by omega
 refine⟨fun _=>Kq _,fun _=>by omega,fun _=>Kq _,fun _=>Kq _,fun _=>Kq _,fun _=>by omega,fun _ hh=>?_,?_⟩
 ·rw[a1,a4]at hh;exact Wf hh
 refine⟨Nat×Nat,fun x=>⟨0,[(2,.dv (U Y)),(8,.dv (U s)),(9,.dv (U (Y/4294967296))),(10,.dv (U (Y%4294967296))),(11,.dv (U u)),(13,.dv (U d)),(14,.dv (U e)),(15,.dv (U x.1)),(16,.dv (U x.2))],[]⟩,fun x=>Kn Y u d x.1 x.2,fun x=>x.1,(u/(Y/4294967296),u%(Y/4294967296)),fun _=>rfl,⟨⟨aF a1,aF a8,aF (by rw[a1];exact a4),aF (by rw[a1];exact a5),aF a3,aF (by rw[a2];exact a6),aF (by rw[a2];exact a7),aF ?_,aF ?_,tv⟩,tv,rfl,rfl⟩,Kn.init lJ.1 hd lJ.2,?_⟩
 ·rw[a3,a1,a4];exact dv u (by omega)
 ·rw[a3,a1,a4,dv u (by omega)];exact rm u (by omega)
 rintro⟨q,r⟩ hk
 have hk:Kn Y u d q r:=hk
 repeat first|apply g1|apply g2|apply g3|apply g4|apply g5
 have ht:=Dx (Y:=Y) (q:=q) hk.b hd
 have Ry:=Xi r hk.b
 refine abG (fun hc=>?_) fun hc=>?_
 ·obtain⟨q1,q2,q3,q4⟩:=hk.yes TK hd (abY (ht.symm.trans hc))
  have w1:IntKind.u64.wrap ((q:Int)-1)=((q-1:Nat):Int):=hw q q1 (Us u q r TK hk.a)
  have w2:IntKind.u64.wrap ((r:Int)+((Y/4294967296:Nat):Int))=((r+Y/4294967296:Nat):Int):=by rw[xf,cC _ Ry]
  refine abG (fun hb=>?_) fun hb=>?_
  rotate_left
  ·have hb:¬(4294967296:Int)<=IntKind.u64.wrap ((r:Int)+((Y/4294967296:Nat):Int)):=abZ hb
   rw[w2]at hb
   exact⟨(q-1,r+Y/4294967296),⟨⟨rf,rf,rf,rf,rf,rf,rf,aF w1,aF w2,tv⟩,tv,rfl,rfl⟩,⟨q2,Wv _ hb,q3⟩,Qk q q1⟩
  have hb:(4294967296:Int)<=IntKind.u64.wrap ((r:Int)+((Y/4294967296:Nat):Int)):=abY hb
  rw[w2]at hb
  have hQ:=w1.trans (congrArg (fun n:Nat=>(n:Int)) (q4 (Wu _ hb)))
  clear w1 w2 q1 q2 q3 q4 hb Ry ht hc hk
  refine abG (fun _=>Wf) ?_
  refine⟨Nat×Nat,fun x=>⟨0,[(2,.dv (U Y)),(8,.dv (U s)),(9,.dv (U (Y/4294967296))),(10,.dv (U (Y%4294967296))),(14,.dv (U e)),(15,.dv (U ((u*4294967296+d)/Y))),(16,.dv (U x.2)),(17,.dv (U v)),(18,.dv (U x.1))],[]⟩,fun x=>Kn Y v e x.1 x.2,fun x=>x.1,(v/(Y/4294967296),v%(Y/4294967296)),fun _=>rfl,?_,Kn.init lJ.1 he lJ.2,?_⟩
  ·refine⟨?_,tv,rfl,rfl⟩
   have vb:v<18446744073709551616:=Nat.lt_trans dK lJ.2
   refine⟨rf,rf,rf,rf,rf,aF hQ,aF ?_,aF ?_,aF ?_,tv⟩
   ·simp only[hQ,Gi,dv v vb];exact rm v vb
   ·simp only[hQ,Gi]
   ·simp only[hQ,Gi];exact dv v vb
  clear hQ hk
  rintro⟨q,r⟩ hk
  have hk:Kn Y v e q r:=hk
  repeat first|apply g1|apply g2|apply g3|apply g4|apply g5
  have ht:=Dx (Y:=Y) (q:=q) hk.b he
  have Ry:=Xi r hk.b
  refine abG (fun hc=>?_) fun hc=>?_
  ·obtain⟨q1,q2,q3,q4⟩:=hk.yes dK he (abY (ht.symm.trans hc))
   have w1:IntKind.u64.wrap ((q:Int)-1)=((q-1:Nat):Int):=hw q q1 (Us v q r dK hk.a)
   have w2:IntKind.u64.wrap ((r:Int)+((Y/4294967296:Nat):Int))=((r+Y/4294967296:Nat):Int):=by rw[xf,cC _ Ry]
   refine abG (fun hb=>?_) fun hb=>?_
   ·have hb:(4294967296:Int)<=IntKind.u64.wrap ((r:Int)+((Y/4294967296:Nat):Int)):=abY hb
    rw[w2]at hb
    have Ql:=w1.trans (congrArg (fun n:Nat=>(n:Int)) (q4 (Wu _ hb)))
    exact⟨fun _=>Int.natCast_nonneg _,aF (by simp only[Ql];exact I9),aF (by simp only[Ql,MC];exact hf3),tv⟩
   ·have hb:¬(4294967296:Int)<=IntKind.u64.wrap ((r:Int)+((Y/4294967296:Nat):Int)):=abZ hb
    rw[w2]at hb
    exact⟨(q-1,r+Y/4294967296),⟨⟨rf,rf,rf,rf,rf,rf,aF w2,rf,aF w1,tv⟩,tv,rfl,rfl⟩,⟨q2,Wv _ hb,q3⟩,Qk q q1⟩
  ·have Ql:=congrArg (fun n:Nat=>(n:Int)) (hk.no dK (abZ (ht.symm.trans hc)))
   exact⟨fun _=>Int.natCast_nonneg _,aF (by simp only[Ql];exact I9),aF (by simp only[Ql,MC];exact hf3),tv⟩
 ·have hQ:=congrArg (fun n:Nat=>(n:Int)) (hk.no TK (abZ (ht.symm.trans hc)))
  clear Ry ht hc
  refine abG (fun _=>Wf) ?_
  refine⟨Nat×Nat,fun x=>⟨0,[(2,.dv (U Y)),(8,.dv (U s)),(9,.dv (U (Y/4294967296))),(10,.dv (U (Y%4294967296))),(14,.dv (U e)),(15,.dv (U ((u*4294967296+d)/Y))),(16,.dv (U x.2)),(17,.dv (U v)),(18,.dv (U x.1))],[]⟩,fun x=>Kn Y v e x.1 x.2,fun x=>x.1,(v/(Y/4294967296),v%(Y/4294967296)),fun _=>rfl,?_,Kn.init lJ.1 he lJ.2,?_⟩
  ·refine⟨?_,tv,rfl,rfl⟩
   have vb:v<18446744073709551616:=Nat.lt_trans dK lJ.2
   refine⟨rf,rf,rf,rf,rf,aF hQ,aF ?_,aF ?_,aF ?_,tv⟩
   ·simp only[hQ,Gi,dv v vb];exact rm v vb
   ·simp only[hQ,Gi]
   ·simp only[hQ,Gi];exact dv v vb
  clear hQ hk
  rintro⟨q,r⟩ hk
  have hk:Kn Y v e q r:=hk
  repeat first|apply g1|apply g2|apply g3|apply g4|apply g5
  have ht:=Dx (Y:=Y) (q:=q) hk.b he
  have Ry:=Xi r hk.b
  refine abG (fun hc=>?_) fun hc=>?_
  ·obtain⟨q1,q2,q3,q4⟩:=hk.yes dK he (abY (ht.symm.trans hc))
   have w1:IntKind.u64.wrap ((q:Int)-1)=((q-1:Nat):Int):=hw q q1 (Us v q r dK hk.a)
   have w2:IntKind.u64.wrap ((r:Int)+((Y/4294967296:Nat):Int))=((r+Y/4294967296:Nat):Int):=by rw[xf,cC _ Ry]
   refine abG (fun hb=>?_) fun hb=>?_
   ·have hb:(4294967296:Int)<=IntKind.u64.wrap ((r:Int)+((Y/4294967296:Nat):Int)):=abY hb
    rw[w2]at hb
    have Ql:=w1.trans (congrArg (fun n:Nat=>(n:Int)) (q4 (Wu _ hb)))
    exact⟨fun _=>Int.natCast_nonneg _,aF (by simp only[Ql];exact I9),aF (by simp only[Ql,MC];exact hf3),tv⟩
   ·have hb:¬(4294967296:Int)<=IntKind.u64.wrap ((r:Int)+((Y/4294967296:Nat):Int)):=abZ hb
    rw[w2]at hb
    exact⟨(q-1,r+Y/4294967296),⟨⟨rf,rf,rf,rf,rf,rf,aF w2,rf,aF w1,tv⟩,tv,rfl,rfl⟩,⟨q2,Wv _ hb,q3⟩,Qk q q1⟩
  ·have Ql:=congrArg (fun n:Nat=>(n:Int)) (hk.no dK (abZ (ht.symm.trans hc)))
   exact⟨fun _=>Int.natCast_nonneg _,aF (by simp only[Ql];exact I9),aF (by simp only[Ql,MC];exact hf3),tv⟩
end
section
open Go.TM
variable [bG]
theorem mg(n:Int):aI Tryz.prog 223 [I n] [B (decide (0<=n)&&decide (n<=1099511627776))]:=by
 refine pO Tryz.func223 rfl (by kernel_rfl) rfl ?_
 repeat first|apply g1|apply g2|apply g3|apply g4|apply g5
 refine⟨DV.Le.of_eq ?_,tv⟩
 cases decide (0<=n)<;>rfl
theorem tG(n:Int):aI Tryz.prog 238 [I n] [B (decide (0<=n)&&decide (n<=1152921504606846976))]:=by
 refine pO Tryz.func238 rfl (by kernel_rfl) rfl ?_
 repeat first|apply g1|apply g2|apply g3|apply g4|apply g5
 refine⟨DV.Le.of_eq ?_,tv⟩
 cases decide (0<=n)<;>rfl
end
section
open Go.TM Go.Proofs Go.RowKit
variable [bG]
theorem IH(x:Nat)(hx:x<18446744073709551616):aI Tryz.prog 221 [U x] [I (Lib.bitLen x:Nat)]:=by
 refine⟨⟨_,Tryz.func221,by kernel_rfl,rfl⟩,fun w M vs dX nF hr=>?_⟩
 obtain⟨v0,rfl⟩:∃v0,vs=[v0]:=by
  match vs,hr.1 with
  |[a],_=>exact⟨a,rfl⟩
 have h0:=hr.2 0 _ v0 rfl rfl
 cases h0 with|int=>
 have hc:=Any.bits_Len64 (P:=Tryz.prog) (ρ:=rQ.viaSlsf) { SlLaysF0.n15.bits (P:=Tryz.prog) (ρ:=rQ) { Px with }with } (x:Int) w (by omega) (by omega)
 rw[Int.toNat_natCast]at hc
 refine Calls.mono hc ?_
 rintro e w' ⟨rfl,rfl⟩
 exact⟨_,M,rfl,Below.refl _ _,Mem.Le.refl _,dX,fun _ _=>rfl,.int _ _⟩
theorem Mj(x:Nat)(hx:x<18446744073709551616):aI Tryz.prog 246 [U x] [I ((64-Lib.bitLen x:Nat):Int)]:=by
 have h:=Lib.bitLen_le x 64 (by omega) hx
 refine pO Tryz.func246 rfl (by kernel_rfl) rfl ?_
 refine .inl ⟨_,fun _=>(IH x hx).ok,?_⟩
 exact⟨fun _=>⟨by omega,by omega⟩,aF (by omega),tv⟩
theorem ZC{d:Nat}(h0:0<d)(hd:d<1152921504606846976):(4<=64-Lib.bitLen d/\64-Lib.bitLen d<=63)/\9223372036854775808<=d*2^(64-Lib.bitLen d)/\d*2^(64-Lib.bitLen d)<18446744073709551616:=by
 have h1:=Lib.bitLenAux_bounds 64 d (Nat.lt_trans hd (by decide)) (by omega)
 have h2:=Lib.bitLen_le d 60 (by omega) hd
 have e:Lib.bitLen d=Lib.bitLenAux 64 d:=rfl
 rw[<-e]at h1
 generalize Lib.bitLen d=L at*
 refine⟨by omega,?_,?_⟩
 ·have:=acd (2^(64-L)) h1.2.1
  rw[<-Nat.pow_add,show L-1+(64-L)=63 by omega]at this
  exact this
 ·have:=Nat.mul_lt_mul_of_pos_right h1.2.2 (show 0<2^(64-L)from Nat.pos_of_ne_zero (by simp))
  rw[<-Nat.pow_add,show L+(64-L)=64 by omega]at this
  exact this
theorem Gj(hi lo d:Nat)(h:hi<d)(hd:d<1152921504606846976)(mj:lo<18446744073709551616):aI Tryz.prog 240 [U hi,U lo,U d] [U ((hi*18446744073709551616+lo)/d),U ((hi*18446744073709551616+lo)%d)]:=by
 by_cases h0:0<hi
 ·have hb:=ZC (d:=d) (by omega) hd
  exact Gg hi lo d _ h0 h mj (Mj d (by omega)) hb.1 hb.2
 ·have:hi=0:=by omega
  subst this
  rw[Nat.zero_mul,Nat.zero_add]
  exact IG lo d mj h (by omega)
theorem Dy(t n d:Nat)(ht:t<=1099511627776)(hn:n<=d)(h0:0<d)(hd:d<1152921504606846976):aI Tryz.prog 224 [I t,I n,I d] [U (t*n/d),U (t*n%d),I 0]:=by
 refine pO Tryz.func224 rfl (by kernel_rfl) rfl ?_
 refine .inl ⟨_,fun _=>(mg t).ok,?_⟩
 repeat first|apply g1|apply g2|apply g3|apply g4|apply g5
 refine .inl ⟨_,fun _=>(tG n).ok,?_⟩
 repeat first|apply g1|apply g2|apply g3|apply g4|apply g5
 refine .inl ⟨_,fun _=>(tG d).ok,?_⟩
 repeat first|apply g1|apply g2|apply g3|apply g4|apply g5
 refine abG (fun h=>?_) fun _=>?_
 ·simp[bw]at h;omega
 have w1:=cC t (by omega)
 have w2:=cC n (by omega)
 have w3:=cC d (by omega)
 have au:t*n<d*18446744073709551616:=by
  have h1:t*n<=1099511627776*d:=Nat.mul_le_mul ht hn
  omega
 have hq:t*n/d<=1099511627776:=Nat.div_le_of_le_mul (by rw[Nat.mul_comm d];exact Nat.mul_le_mul ht hn)
 have hm:=IF t n (by omega) (by omega)
 have Q5:=Gj (t*n/18446744073709551616) (t*n%18446744073709551616) d ((Nat.div_lt_iff_lt_mul (by omega)).2 au) hd (Nat.mod_lt _ (by omega))
 rw[show t*n/18446744073709551616*18446744073709551616+t*n%18446744073709551616=t*n by omega]at Q5
 have Pm:t*n/18446744073709551616<d:=(Nat.div_lt_iff_lt_mul (by omega)).2 au
 generalize t*n/18446744073709551616=hi at*
 generalize t*n%18446744073709551616=lo at*
 unfold U at hm Q5
 rw[<-w1,<-w2]at hm
 rw[<-w3]at Q5
 refine .inl ⟨_,fun _=>hm.ok,?_⟩
 refine abG (fun h=>?_) fun _=>?_
 ·have h:IntKind.u64.wrap (d:Int)<=hi:=abY h
  rw[w3]at h;omega
 refine .inl ⟨_,fun _=>Q5.ok,?_⟩
 refine abG (fun h=>?_) fun _=>?_
 ·have h:(1099511627776:Int)<((t*n/d:Nat):Int):=abY h
  omega
 exact⟨rf,rf,rf,tv⟩
end
section
open Go.Proofs Go.Sort Go.RowKit
def Qm(a b x y:Int):Int:=if qz b a=0 then qz x y else qz b a
theorem ZD(x y N cap:Nat)(a b:Int)(cF rb ro:Nat)(W:World)(hx:x<N)(hy:y<N)(h0:W.cell? ⟨cF,0,none⟩=some (.slice (some ⟨rb,ro,none⟩) N cap))(h1:W.cell? ⟨rb,ro+x,none⟩=some (.int .u64 a))(h2:W.cell? ⟨rb,ro+y,none⟩=some (.int .u64 b)):
 Calls Tryz.prog 226 #[.int .i64 x,.int .i64 y,.pointer (some ⟨cF,0,none⟩)] W fun e w'=>e=.returned (.int .i64 (Qm a b x y))/\∃q FI,w'=grow (W.drewN q) FI:=by
 obtain⟨r,hr⟩:∃r,r=Qm a b x y:=⟨_,rfl⟩
 rw[<-hr]
 have mixed:Tryz.prog.follows .mixedOrders=true:=mixed
 have tY:=fun W'=>Ij b a W'
 have A3:=fun W'=>rR x y W'
 have hx1:(x:Int)<N:=by omega
 have hy1:(y:Int)<N:=by omega
 have GI:¬(x:Int)<0:=by omega
 have hy0:¬(y:Int)<0:=by omega
 go_enter Tryz.func226,Tryz.ntmps226
 go_wp2
 have f0:W.drew.cell? ⟨cF,0,none⟩=some (.slice (some ⟨rb,ro,none⟩) N cap):=h0
 have f1:W.drew.cell? ⟨rb,ro+x,none⟩=some (.int .u64 a):=h1
 have f2:W.drew.cell? ⟨rb,ro+y,none⟩=some (.int .u64 b):=h2
 have hg:∃q FI,W.drew=grow (W.drewN q) FI:=⟨1,#[],by rw[grow_empty];rfl⟩
 refine wp_region_still_tail 12 mixed (by kernel_rfl) ?_
 simp only[List.take_succ_cons,List.take_zero,List.drop_succ_cons,List.drop_zero]
 change wpStill _ _ (World.drew W) _ _ _
 generalize hW3:World.drew W=W3 at*
 repeat still_step
 still_call (tY _)
 repeat still_step
 still_call (A3 _)
 refine wpStill_nil ?_
 clear f0 f1 f2 h0 h1 h2 tY A3
 unfold Qm at hr
 generalize qz b a=r1 at*
 generalize qz x y=r2 at*
 have HG:Hid (∃q FI,W3=grow (W.drewN q) FI):=hg
 have HR:Hid (r=if r1=0 then r2 else r1):=hr
 clear hg hr mixed
 refine wpList_step (fun K hK=>?_)
 go_simp
 refine hK _ _ ?_
 clear hK K
 have hc:∀j,(W3.alloc (Obj.cells #[Value.int .i64 r1,Value.int .i64 r2] 3)).cell? ⟨W3.heap.size,j,none⟩=(#[Value.int .i64 r1,Value.int .i64 r2]:Array Value)[j]?:=fun j=>Uf W3 _ _ j
 have hgw:Hid (∃q FI,W3.alloc (Obj.cells #[Value.int .i64 r1,Value.int .i64 r2] 3)=grow (W.drewN q) FI):=by
  obtain⟨q,os,h⟩:=HG.out
  exact⟨q,_,by rw[h,alloc_eq_grow,grow_grow]⟩
 generalize W3.alloc (Obj.cells #[Value.int .i64 r1,Value.int .i64 r2] 3)=W4 at*
 generalize W3.heap.size=sz at*
 have c0:=hc 0
 have c1:=hc 1
 clear hc HG hW3
 refine wpList_step (fun K hK=>?_)
 go_simp
 refine(BC r1 r2 sz W4 c0 c1).mono ?_
 rintro e w' ⟨rfl,rfl⟩
 refine hK _ _ ?_
 clear hK K
 refine wpList_step (fun K hK=>?_)
 go_simp
 refine hK _ _ ?_
 clear hK K c0 c1
 rw[show(if r1=0 then r2 else r1)=r from HR.out.symm]
 clear HR
 go_wp2
 go_ret
 exact⟨rfl,hgw.out⟩
end
section
open Go.TM Go.Proofs Go.Sort Go.Shelf
def ZE(rs:List Nat)(x y:Fin rs.length):Int:=Qm (rs.getD x 0:Nat) (rs.getD y 0:Nat) (x:Nat) (y:Nat)
theorem Dz(rs:List Nat)(x y:Fin rs.length):ltOf (ZE rs) x y=decide (rs.getD y.val 0<rs.getD x.val 0\/rs.getD x.val 0=rs.getD y.val 0/\x.val<y.val):=by
 unfold ltOf ZE Qm qz
 generalize rs.getD x.val 0=a
 generalize rs.getD y.val 0=b
 by_cases h1:(b:Int)<a
 ·simp[h1];omega
 ·by_cases h2:(a:Int)<b
  ·simp[h1,h2];omega
  ·have:a=b:=by omega
   subst this
   simp
   split<;>rename_i h3
   ·simp;omega
   ·split<;>simp<;>omega
theorem ZF(rs:List Nat):SWO (ltOf (ZE rs))where
 irrefl x:=by rw[Dz];simp
 trans x y z h1 h2:=by rw[Dz]at *; simp at *; omega
 ntrans x y z h1 h2:=by rw[Dz]at *; simp at *; omega
def idx(n:Nat):List DV:=(List.range n).map fun i:Nat=>I i
def S5(l:List DV)(rs:List Nat):ae:=[(0,.tree 0 0 (.aB 1 l)),(1,.cells [.own 2 0 0 []]),(2,.tree 0 0 (.aB 1 (rs.map U)))]
variable [bG]
theorem Gk(rs:List Nat)(b7:rs≠[])(hl:rs.length<=1000000):bV Tryz.prog 225 [.own 0 0 0 [],.fn 226 [.ptr 1 0]] 3 (S5 (idx rs.length) rs) 0 fun r K'=>r=[]/\∃o:List Nat,Ord (rs.map fun n:Nat=>(n:Int)) o/\K'=S5 (o.map fun i:Nat=>I i) rs:=by
 have hlen:0<rs.length:=List.length_pos_iff.2 b7
 haveI:Inhabited (Fin rs.length):=⟨⟨0,hlen⟩⟩
 have aaX:idx rs.length=(List.finRange rs.length).map fun x=>I (x.val:Nat):=by
  unfold idx
  refine List.ext_getElem (by simp) fun i h1 h2=>by simp
 have h1:=v7 (P:=Tryz.prog) (f:=225) ⟨_,Tryz.func225,by kernel_rfl,rfl⟩ (α:=Fin rs.length) (vals:=fun x=>[(x.val:Int)]) (e:=fun x=>I (x.val:Nat)) (k:=1) (fun _=>rfl) (fun _=>rfl) (rest:=[.fn 226 [.ptr 1 0]]) (m:=3) (K3:=[(1,.cells [.own 2 0 0 []]),(2,.tree 0 0 (.aB 1 (rs.map U)))]) (l:=List.finRange rs.length)
  (by intro h;have:=congrArg List.length h;rw[List.length_finRange,List.length_nil]at this;omega) (by omega) (fun i hi=>(by match i,hi with|i+3,_=>rfl))
  (fun l':List (Fin rs.length)=>l'.Perm (List.finRange rs.length)/\l'.Pairwise fun x y=>ltOf (ZE rs) y x=false) (fun l' h=>h.1.length_eq) ?_
 ·refine nT (by rw[aaX];exact h1) fun r k hk=>?_
  obtain⟨hr,l',⟨hp,hs⟩,rfl⟩:=hk
  refine⟨hr,l'.map Fin.val,⟨?_,?_⟩,by rw[List.map_map];rfl⟩
  ·rw[abH]
   have:=hp.map Fin.val
   rwa[show(List.finRange rs.length).map Fin.val=List.range rs.length from List.ext_getElem (by simp) fun i h1 h2=>by simp]at this
  ·have dj:l'.Nodup:=hp.nodup_iff.2 (List.nodup_finRange _)
   rw[List.pairwise_map]
   refine(hs.and dj).imp fun {x y} h=>?_
   obtain⟨h2,h3⟩:=h
   rw[Dz]at h2
   have hx:(rs.map fun n:Nat=>(n:Int)).getD x.val 0=(rs.getD x.val 0:Nat):=by simp[abM]
   have hy:(rs.map fun n:Nat=>(n:Int)).getD y.val 0=(rs.getD y.val 0:Nat):=by simp[abM]
   unfold fe
   rw[hx,hy]
   have h4:x.val≠y.val:=fun e=>h3 (Fin.ext e)
   simp at h2⊢
   omega
 ·rintro w G cF off cap xs cP nF hr gw ⟨c,t,hblk,cK⟩
  obtain⟨fv,rfl⟩:∃fv,xs=[fv]:=by
   match xs,hr.1 with
   |[a],_=>exact⟨a,rfl⟩
  have hfv:=hr.2 0 _ fv rfl rfl
  cases hfv with|fn _ _ vs Yh UE=>
  obtain⟨pv,rfl⟩:∃pv,vs=[pv]:=by
   match vs,Yh with
   |[a],_=>exact⟨a,rfl⟩
  have Xp:=UE 0 _ pv rfl rfl
  cases Xp with|ptr _ _ b hb=>
  obtain⟨b',c1,t1,dV,Q7,iY,_,Gi⟩:=cP.box 1
  rw[hb]at dV;injection dV with dV;subst dV
  obtain⟨sv,Zs⟩:∃sv,c1[0]?=some sv:=⟨_,aci (by rw[iY];exact Nat.zero_lt_one)⟩
  have GS:=Gi 0 _ sv rfl Zs
  cases GS with|own _ _ _ _ _ hu OF=>
  obtain⟨u0,Kf,_,aZ⟩:=cP.node (p:=[]) (show aa _ 2=.tree 0 0 (.aB 1 (rs.map U))from rfl) rfl rfl
  rw[hu]at Kf;injection Kf with Kf;subst Kf
  rcases eP.1 aZ with⟨h2,_⟩|⟨rb,ro,ZG,rc,rt,rfl,hrc,Ut,aby,hrel⟩
  ·rw[List.map_eq_nil_iff]at h2;exact absurd h2 b7
  have hrl:(rs.map U).length=rs.length:=abH ..
  rw[hrl]at Zs hu
  have dI:w.cell? ⟨b,0,none⟩=some (.slice (some ⟨rb,ro,none⟩) rs.length ZG):=by
   unfold World.cell?;rw[Q7];exact Zs
  have ZH:∀x,x<rs.length->w.cell? ⟨rb,ro+x,none⟩=some (.int .u64 (rs.getD x 0:Nat)):=fun x hx=>by
   have h3:=(hrel x (U (rs.getD x 0)) (by rw[abJ,aaj hx,abM,aaj hx];rfl)).2 0 _ rfl
   obtain⟨_,u,h4,h5⟩:=h3
   rw[Nat.mul_one,Nat.add_zero]at h4
   rcases h5 with⟨h6,_⟩|⟨_,h6⟩
   ·cases h6
   ·cases h6
    unfold World.cell?;rw[Ut];exact h4
  have iZ:b≠cF:=fun e=>by
   have:=cP.inj 0 1 cF gw (by subst e;exact hb)
   cases this
  have ca:rb≠cF:=fun e=>by
   have:=cP.inj 0 2 cF gw ⟨[],_,_,rfl,rfl,hu,by subst e;rfl⟩
   cases this
  have DP:cF<w.heap.size:=(abV.1 hblk).1
  have Bk:b<w.heap.size:=(abV.1 Q7).1
  have wA:rb<w.heap.size:=(abV.1 Ut).1
  have fin:∀(j:Nat),j<rs.length->((List.finRange rs.length).toArray)[j]!.val=j:=fun j hj=>by
   rw[getElem!_pos _ j (by simpa using hj)];simp
  have hH:Holds (fun x:Fin rs.length=>Value.int .i64 (x.val:Nat)) w cF off (List.finRange rs.length).toArray:=fun j hj=>by
   have u4:j<rs.length:=by simpa using hj
   have h3:=cK j ⟨j,u4⟩ 0 (j:Int) (by rw[aaj (by simpa using u4)];simp) rfl
   rw[Nat.mul_one,Nat.add_zero]at h3
   refine⟨?_,tp hblk _⟩
   show w.cell? _=some (.int .i64 ((List.finRange rs.length).toArray[j]!.val:Nat))
   rw[fin j u4]
   unfold World.cell?;rw[hblk];exact h3
  have SH:=Any.slices_SortFunc Px (fun x:Fin rs.length=>Value.int .i64 (x.val:Nat)) (fun _=>rfl) (ZE rs) (ZF rs) 226 #[.pointer (some ⟨b,0,none⟩)] cF off cap (List.finRange rs.length).toArray w (enters_of Tryz.func226 (by kernel_rfl) rfl) (fun m os dk hs x y=>?_) hH DP (by simp;omega)
  rotate_left
  ·have ot:∀a:Addr,a.block≠cF->a.block<w.heap.size->(sortWorld (fun x:Fin rs.length=>Value.int .i64 (x.val:Nat)) w cF off m dk os).cell? a=w.cell? a:=fun a h1 h2=>by
    unfold sortWorld
    rw[cell?_grow _ _ _ (by rw[size_putRow];exact h2),cell?_putRow_other _ _ cF off dk a (Or.inl h1)]
    rfl
   exact ZD x.val y.val rs.length ZG _ _ b rb ro _ x.isLt y.isLt ((ot _ iZ Bk).trans dI) ((ot _ ca wA).trans (ZH _ x.isLt)) ((ot _ ca wA).trans (ZH _ y.isLt))
  rw[show(List.finRange rs.length).toArray.size=(List.finRange rs.length).length by simp]at SH
  refine Calls.mono SH ?_
  rintro en w' ⟨rfl,d',n,os,hp,hs,rfl⟩
  have zM:d'.size=rs.length:=by simpa using hp.1
  have y8:d'.toList.Perm (List.finRange rs.length):=by
   have:=hp.2.2
   rw[show(List.finRange rs.length).length=d'.size by simp[zM],show d'.extract 0 d'.size=d' by simp]at this
   rw[show(List.finRange rs.length).toArray.extract 0 d'.size=(List.finRange rs.length).toArray by simp[zM];exact List.take_of_length_le (by simp)]at this
   simpa using this
  refine⟨rfl,d'.toList,⟨y8,?_⟩,?_⟩
  ·rw[List.pairwise_iff_getElem]
   intro i j hi hj DQ
   have:=hs i j (abW _) DQ (by simpa[zM]using hj)
   rw[getElem!_pos d' j (by simpa using hj),getElem!_pos d' i (by simpa using hi)]at this
   simpa using this
  ·refine v8 (F:=d') DP (fun i x j n hx hn=>?_) fun c' t' fr' oh=>?_
   ·have hj:j=0:=by have:=(abI.1 hn).1;simpa using this
    subst hj
    have hi:i<d'.size:=by have:=(abI.1 hx).1;simpa using this
    rw[Nat.mul_one,Nat.add_zero]
    refine⟨hi,?_⟩
    rw[getElem!_pos d' i hi]
    have h5:d'[i]=x:=by simpa[hi]using hx
    rw[h5]
    injection hn with hn;rw[<-hn]
   ·rw[hblk]at oh;injection oh with oh;injection oh with tY _ _;subst tY
    have h3:=cK (rs.length-1) ⟨rs.length-1,by omega⟩ 0 ((rs.length-1:Nat):Int) (by rw[aaj (by simp;omega)];simp) rfl
    have:=(abV.1 h3).1
    omega
end
section
open Go.TM
theorem II:∀{l:List Int},(∀x∈l,0<=x/\x<=1099511627776)->0<=l.sum/\l.sum<=1099511627776*l.length
 |[],_=>by simp
 |x::l,h=>by
  have h1:=h x abT
  have h2:=II fun y hy=>h y (abP x hy)
  simp only[List.sum_cons,List.length_cons]at*
  omega
theorem Qn{l:List Int}{i:Nat}{x:Int}(h:l[i]?=some x):(l.take (i+1)).sum=(l.take i).sum+x:=by
 rw[abR,h,List.sum_append];simp
theorem xg{l:List Int}(h:∀x∈l,0<=x/\x<=1099511627776)(hl:l.length<=5000)(i:Nat):0<=(l.take i).sum/\(l.take i).sum<=5497558138880000:=by
 have:=II fun x hx=>h x (List.mem_of_mem_take (i:=i) hx)
 have h2:(l.take i).length<=5000:=by rw[ab2];omega
 omega
def DZ(l:List DV)(z:DV)(i:Nat):List DV:=l.take i++List.replicate (l.length-i) z
theorem zq{l:List DV}{z x:DV}{i:Nat}(h:l[i]?=some x):(DZ l z i).set i x=DZ l z (i+1):=by
 have hi:=(abI.1 h).1
 unfold DZ
 have:l.length-i=(l.length-(i+1))+1:=by omega
 rw[List.set_append,if_neg (by rw[ab2];omega),abR,h,this,List.replicate_succ]
 simp[Nat.min_eq_left (Nat.le_of_lt hi)]
theorem DA{l:List DV}{z:DV}{i:Nat}(h:i<=l.length):(DZ l z i).length=l.length:=by simp[DZ];omega
theorem DB{l:List DV}{z:DV}{i:Nat}(h:i<l.length):(DZ l z i)[i]?=some z:=by
 unfold DZ
 rw[List.getElem?_append_right (by rw[ab2];omega),List.getElem?_replicate,if_pos (by simp;omega)]
theorem Kr:∀{W:List Nat} {w:Nat},w∈W->w<=W.sum
 |a::l,w,h=>by
  rw[List.sum_cons]
  rcases abO.1 h with rfl|h
  ·omega
  ·have:=Kr h;omega
theorem Qo{rs:List Int}{o o':List Nat}(h:Ord rs o)(h':Ord rs o'):o'=o:=by
 refine List.ext_getElem (by rw[h.len,h'.len]) fun k h1 h2=>?_
 have e1:=h'.Lr (aaj h1)
 have hm:o'[k]∈o:=h.perm.mem_iff.2 (h'.perm.mem_iff.1 (acf h1))
 obtain⟨j,hj,e⟩:=List.getElem_of_mem hm
 have e2:=h.Lr (aaj hj)
 rw[e,e1]at e2
 subst e2
 exact e.symm
theorem pL:∀W:List Nat,(W.map fun w:Nat=>(w:Int)).sum=((W.sum:Nat):Int)
 |[]=>rfl
 |a::l=>by simp only[List.map_cons,List.sum_cons,pL l];omega
theorem DC{l:List DV}{z:DV}{n:Nat}(h:n=l.length):DZ l z n=l:=by subst h;simp[DZ]
variable [bG]
theorem Mk(T:Nat)(W:List Nat)(hT:T<=1099511627776)(hW:∀w∈W,w<=1099511627776)(hl:W.length<=5000)(h0:0<W.sum):aI Tryz.prog 202 [I T,.sl 1 (W.map fun w:Nat=>I w)] [Ints (zR T (W.map fun w:Nat=>(w:Int))),I 0]:=by
 obtain⟨ws,MO⟩:∃ws,ws=W.map fun w:Nat=>(w:Int):=⟨_,rfl⟩
 have hwl:ws.length=W.length:=by rw[MO,abH]
 have ll:(W.map fun w:Nat=>I w).length=W.length:=abH ..
 have DP:∀x∈ws,0<=x/\x<=1099511627776:=fun x hx=>by
  rw[MO]at hx
  obtain⟨w,hw,rfl⟩:=ab9.1 hx
  have:=hW w hw
  omega
 rw[<-MO]
 refine pO Tryz.func202 rfl (by kernel_rfl) rfl ?_
 refine .inl ⟨_,fun _=>(mg T).ok,?_⟩
 repeat first|apply g1|apply g2|apply g3|apply g4|apply g5
 refine abG (fun h=>?_) fun _=>?_
 ·simp at h;omega
 refine⟨Nat,fun i=>⟨0,[(0,.dv (I T)),(1,.dv (.sl 1 (W.map fun w:Nat=>I w))),(6,.dv (I (ws.take i).sum)),(21,.dv (.sl 1 (W.map fun w:Nat=>I w))),(22,.dv (I W.length)),(23,.dv (I i))],[]⟩,fun i=>i<=W.length,fun i=>W.length-i,0,fun _=>rfl,jn (by simp only[ll];rfl) rfl rfl rfl,abW _,?_⟩
 rintro i hi
 have b1:=xg DP (by omega) i
 refine abG (fun h=>?_) fun h=>?_
 ·have au:i<W.length:=by have:=abY h;omega
  obtain⟨w,hw⟩:∃w,W[i]?=some w:=⟨_,aaj au⟩
  have YI:ws[i]?=some (w:Int):=by rw[MO,abJ,hw];rfl
  have hb:=DP _ (abK YI)
  have dZ:=Qn YI
  have b2:=xg DP (by omega) (i+1)
  refine⟨I w,fun _=>⟨by omega,by rw[abJ];simp[hw]⟩,?_⟩
  refine .inl ⟨_,fun _=>(mg w).ok,?_⟩
  refine abG (fun h=>?_) fun _=>?_
  ·simp at h;omega
  refine⟨fun _=>⟨by omega,by omega⟩,?_⟩
  refine abG (fun h=>?_) fun _=>?_
  ·have:=abY h;omega
  exact⟨fun _=>⟨by omega,by omega⟩,i+1,jn (by simp only[dZ];rfl) rfl rfl rfl,au,mlt au⟩
 have he:i=W.length:=by have:=abZ h;omega
 subst he
 rw[<-hwl,abX]
 have Wk:ws.sum≠0:=by
  rw[MO,pL]
  omega
 refine abG (fun h=>absurd (beq_iff_eq.1 h) Wk) fun _=>?_
 have Bp:∀{n:Nat},n<=5000->(n:Int)*(8:Nat)<=140737488355328:=fun h=>by omega
 have e22:(nth lR (nth lR 40).elem).bytes=8:=by kernel_rfl
 have aaY:(nth lR (nth lR 257).elem).bytes=8:=by kernel_rfl
 refine⟨I 0,⟨rf,tv⟩,by omega,by omega,by rw[e22,ll];exact Bp hl,by omega,false,(fun h=>by cases h),?_⟩
 refine⟨U 0,⟨rf,tv⟩,by omega,by omega,by rw[aaY,ll];exact Bp hl,by omega,false,(fun h=>by cases h),?_⟩
 refine⟨I 0,⟨rf,tv⟩,by omega,by omega,by rw[e22,ll];exact Bp hl,by omega,false,(fun h=>by cases h),?_⟩
 obtain⟨qs,VY⟩:∃qs,qs=W.map fun w:Nat=>((T*w/W.sum:Nat):Int):=⟨_,rfl⟩
 obtain⟨rs,wA⟩:∃rs,rs=W.map fun w:Nat=>T*w%W.sum:=⟨_,rfl⟩
 have lq:qs.length=W.length:=by rw[VY,abH]
 have lr:rs.length=W.length:=by rw[wA,abH]
 have lqm:(qs.map I).length=W.length:=by rw[abH,lq]
 have lrm:(rs.map U).length=W.length:=by rw[abH,lr]
 have lix:(idx W.length).length=W.length:=by simp[idx]
 have ZI:∀w∈W,w<=W.sum:=fun w hw=>Kr hw
 have hS:W.sum<1152921504606846976:=by
  have:=II DP
  rw[MO,pL,<-MO]at this
  omega
 have Us:∀x∈qs,0<=x/\x<=1099511627776:=fun x hx=>by
  rw[VY]at hx
  obtain⟨w,hw,rfl⟩:=ab9.1 hx
  have:T*w/W.sum<=T:=Nat.div_le_of_le_mul (by rw[Nat.mul_comm W.sum];exact Nat.mul_le_mul_left T (ZI w hw))
  generalize T*w/W.sum=z at*
  omega
 have z1:DZ (qs.map I) (I 0) 0=List.replicate W.length (I 0):=by simp[DZ,lq]
 have z2:DZ (rs.map U) (U 0) 0=List.replicate W.length (U 0):=by simp[DZ,lr]
 have z3:DZ (idx W.length) (I 0) 0=List.replicate W.length (I 0):=by simp[DZ,lix]
 have U3:ws.sum=((W.sum:Nat):Int):=by rw[MO,pL]
 refine⟨Nat,fun i=>⟨4,[(0,.dv (I T)),(1,.dv (.sl 1 (W.map fun w:Nat=>I w))),(6,.dv (I W.sum)),(9,.own 0 0 0 []),(10,.ptr 2 0),(11,.own 3 0 0 []),(12,.dv (I (T-(qs.take i).sum))),(49,.dv (I W.length)),(50,.dv (I i))],[(0,.tree 0 0 (.aB 1 (DZ (qs.map I) (I 0) i))),(1,.tree 0 0 (.aB 1 (DZ (rs.map U) (U 0) i))),(2,.cells [.own 1 0 0 []]),(3,.tree 0 0 (.aB 1 (DZ (idx W.length) (I 0) i)))]⟩,fun i=>i<=W.length,fun i=>W.length-i,0,fun _=>rfl,jn (by simp only[ll,U3,List.take_zero,List.sum_nil,Int.sub_zero];rfl) (by simp only[z1,z2,z3,ll,Int.toNat_natCast];rfl) rfl rfl,abW _,?_⟩
 rintro i hi
 have b1:=xg Us (by omega) i
 refine abG (fun h=>?_) fun h=>?_
 ·have au:i<W.length:=by have:=abY h;omega
  obtain⟨w,hw⟩:∃w,W[i]?=some w:=⟨_,aaj au⟩
  have hwm:=abK hw
  have Va:qs[i]?=some ((T*w/W.sum:Nat):Int):=by rw[VY,abJ,hw];rfl
  have hri:rs[i]?=some (T*w%W.sum):=by rw[wA,abJ,hw];rfl
  have Q5:=Dy T w W.sum hT (ZI w hwm) h0 hS
  refine⟨I w,fun _=>⟨by omega,by rw[abJ];simp[hw]⟩,?_⟩
  refine .inl ⟨_,fun _=>Q5.ok,?_⟩
  have hq1:=Us _ (abK Va)
  have wq:IntKind.i64.wrap ((T*w/W.sum:Nat):Int)=((T*w/W.sum:Nat):Int):=by
   generalize T*w/W.sum=z at*
   exact wi (by omega)
  have CO:(qs.map I)[i]?=some (I ((T*w/W.sum:Nat):Int)):=by rw[abJ,Va];rfl
  have NT:(rs.map U)[i]?=some (U (T*w%W.sum)):=by rw[abJ,hri];rfl
  have Ug:(idx W.length)[i]?=some (I (i:Nat)):=by unfold idx;rw[abJ,List.getElem?_range au];rfl
  have ZJ:=Qn Va
  have b2:=xg Us (by omega) (i+1)
  have g1:=DB (l:=qs.map I) (z:=I 0) (i:=i) (by omega)
  have g2:=DB (l:=rs.map U) (z:=U 0) (i:=i) (by omega)
  have g3:=DB (l:=idx W.length) (z:=I 0) (i:=i) (by omega)
  have n1:=zq (z:=I 0) CO
  have n2:=zq (z:=U 0) NT
  have n3:=zq (z:=I 0) Ug
  have f1:=DA (l:=qs.map I) (z:=I 0) (i:=i) (by omega)
  have f2:=DA (l:=rs.map U) (z:=U 0) (i:=i) (by omega)
  have f3:=DA (l:=idx W.length) (z:=I 0) (i:=i) (by omega)
  generalize T*w/W.sum=q at*
  generalize T*w%W.sum=r at*
  refine⟨fun _=>⟨by omega,by rw[f1];omega⟩,[I q],⟨aF wq,tv⟩,I 0,by simpa using g1,?_⟩
  refine⟨fun _=>⟨by omega,by rw[f2];omega⟩,[U r],⟨rf,tv⟩,U 0,by simpa using g2,?_⟩
  refine⟨fun _=>⟨by omega,by rw[f3];omega⟩,[I i],⟨rf,tv⟩,I 0,by simpa using g3,?_⟩
  refine⟨by kernel_rfl,fun _=>⟨by rw[wq];omega,by rw[wq];omega⟩,fun _=>⟨by omega,by omega⟩,?_⟩
  have ZK:(T:Int)-(qs.take i).sum-IntKind.i64.wrap (q:Int)=T-(qs.take (i+1)).sum:=by rw[wq,ZJ];omega
  refine⟨i+1,jn (by simp only[ZK];rfl) (by simp only[<-n1,<-n2,<-n3];rfl) rfl rfl,au,mlt au⟩
 have he:i=W.length:=by have:=abZ h;omega
 subst he
 obtain⟨o,ho⟩:=HW (rs.map fun n:Nat=>(n:Int))
 have SJ:ar Tryz.prog 225 [.own 0 0 0 [],.fn 226 [.ptr 1 0]] 3 (S5 (idx rs.length) rs) 0 [] (S5 (o.map fun i:Nat=>I i) rs):=
  lT (Gk rs (fun e=>by rw[e]at lr;have:W=[]:=List.length_eq_zero_iff.1 lr.symm;rw[this]at h0;cases h0) (by omega)) fun r k ⟨h1,o',h2,h3⟩=>⟨h1,by rw[h3,Qo ho h2]⟩
 rw[DC lqm.symm,DC lrm.symm,DC lix.symm]
 rw[lr]at SJ
 refine .inr (cl [3,2,1] SJ (by kernel_rfl) rfl rfl ?_)
 have hqL:qL T ws.sum ws=qs:=by
  rw[VY,U3,MO];unfold qL
  rw[List.map_map];exact List.map_congr_left fun w _=>by simp
 have hrL:rL T ws.sum ws=rs.map fun n:Nat=>(n:Int):=by
  rw[wA,U3,MO];unfold rL
  rw[List.map_map,List.map_map];exact List.map_congr_left fun w _=>by simp
 have mj:=xb (t:=T) (ws:=ws) (by omega)
 have hcp:(rL T ws.sum ws).countP (fun x=>decide (0<x))<=(rL T ws.sum ws).length:=List.countP_le_length
 rw[hrL]at hcp mj
 rw[abH,lr]at hcp
 have my:zR T ws=(o.take (fV T ws.sum ws).toNat).foldl kp qs:=by
  unfold zR
  rw[hrL,hqL]
  exact(yH ho (by rw[abH,lq,lr]) _).symm
 rw[my]
 have hlm:(T:Int)-(qs.take W.length).sum=((fV T ws.sum ws).toNat:Nat):=by
  rw[show qs.take W.length=qs by rw[<-lq,abX]]
  have:fV T ws.sum ws=T-qs.sum:=by unfold fV;rw[hqL]
  omega
 have hm:(fV T ws.sum ws).toNat<=W.length:=by omega
 have VZ:o.length=W.length:=by rw[ho.len,abH,lr]
 generalize (fV T ws.sum ws).toNat=m at*
 rw[hlm]
 refine⟨Nat,fun i=>⟨4,[(9,.own 0 0 0 []),(11,.own 3 0 0 []),(85,.dv (I m)),(86,.dv (I i))],[(0,.tree 0 0 (.aB 1 (((o.take i).foldl kp qs).map I))),(3,.tree 0 0 (.aB 1 (o.map fun i:Nat=>I i)))]⟩,fun i=>i<=m,fun i=>m-i,0,fun _=>rfl,jn rfl rfl rfl rfl,abW _,?_⟩
 rintro i hi
 have dX:∀j∈o.take i,j<qs.length:=fun j hj=>by
  have:=ho.perm.mem_iff.1 (List.mem_of_mem_take hj)
  rw[aca,abH,lr]at this;omega
 obtain⟨p1,p2⟩:=yF (o.take i) qs (ho.nodup.sublist (List.take_sublist i o)) dX
 refine abG (fun h=>?_) fun h=>?_
 ·have au:i<m:=by have:=abY h;omega
  obtain⟨k,hk⟩:∃k,o[i]?=some k:=⟨_,aaj (show i<o.length by omega)⟩
  have hkn:k<W.length:=by
   have:=ho.perm.mem_iff.1 (abK hk)
   rw[aca,abH,lr]at this;omega
  have dZ:(o.take (i+1)).foldl kp qs=kp ((o.take i).foldl kp qs) k:=by
   rw[abR,hk,ab7];rfl
  have hv:=p2 k
  have hqk:0<=qs.getD k 0/\qs.getD k 0<=1099511627776:=by
   rw[abM,aaj (by omega)]
   exact Us _ (acf _)
  generalize (o.take i).foldl kp qs=ps at*
  have Xr:0<=ps.getD k 0/\ps.getD k 0<=1099511627777:=by rw[hv];split<;>omega
  have gk:(ps.map I)[((k:Int)).toNat]?=some (I (ps.getD k 0)):=by
   rw[abJ,Int.toNat_natCast,abM,aaj (by omega)];rfl
  have abz:(o.map fun i:Nat=>I i).length=o.length:=abH ..
  have KP:(ps.map I).length=ps.length:=abH ..
  refine⟨fun _=>⟨by omega,by omega⟩,I k,fun _=>by rw[abJ,Int.toNat_natCast,hk];rfl,?_⟩
  refine⟨fun _=>⟨by omega,by omega⟩,I (ps.getD k 0),fun _=>gk,?_⟩
  refine⟨fun _=>⟨by omega,by omega⟩,?_⟩
  refine⟨fun _=>⟨by omega,by omega⟩,[I (ps.getD k 0+1)],⟨rf,tv⟩,I (ps.getD k 0),gk,?_⟩
  refine⟨fun _=>⟨by omega,by omega⟩,i+1,jn rfl ?_ rfl rfl,au,mlt au⟩
  simp only[dZ,kp,List.map_set];rfl
 ·have he:i=m:=by have:=abZ h;omega
  subst he
  exact⟨Kk _,rf,tv⟩
theorem tH:nU:=fun t ws ht hw hl hs GK=>by
 obtain⟨T,rfl⟩:=Int.eq_ofNat_of_zero_le ht.1
 obtain⟨W,rfl⟩:∃W:List Nat,ws=W.map fun w:Nat=>(w:Int):=⟨ws.map Int.toNat,by
  rw[List.map_map]
  refine(List.map_id' ws).symm.trans (List.map_congr_left fun x hx=>?_)
  have:=hw x hx
  show x=((x.toNat:Nat):Int)
  omega⟩
 have h:=Mk T W (by omega) (fun w hwm=>by have:=(hw _ (List.mem_map_of_mem hwm)).2;omega) (by rwa[abH]at hl) (by rw[pL]at hs;omega)
 show aI _ _ [I T,.sl 1 ((W.map fun w:Nat=>(w:Int)).map I)] _
 rw[List.map_map]
 exact h
end
section
open Go.TM
def ZL(sh:Int):ae:=[(1,.tree 0 0 (.omap eX [])),(2,.tree 0 0 (.omap cH [])),(3,.tree 0 0 (.omap cH [])),(4,.tree 0 0 (.omap cH [])),(5,.cells (.dv (I sh)::fc jc++[.own 1 0 0 [],.own 2 0 0 [],.dv .az,.dv .az,.own 3 0 0 [],.own 4 0 0 []]))]
variable [bG]
theorem Ml(sh:Int)(h:0<=sh/\sh<=11):ar Tryz.prog 8 [.dv (I sh),cY Fl] 0 [] 6 [.ptr 5 0,.dv (I 0)] (ZL sh):=by
 refine cO Tryz.func8 rfl (by kernel_rfl) ?_
 repeat first|apply g1|apply g2|apply g3|apply g4|apply g5
 refine abG (fun hc=>?_) fun _=>?_
 ·simp[bw]at hc;omega
 refine .inl ⟨_,fun _=>yN.ok,?_⟩
 refine abG (fun h=>by cases h) fun _=>?_
 refine .inl ⟨_,fun _=>Bn.ok,?_⟩
 refine⟨eX,cH,cH,cH,?_⟩
 refine⟨_,_,⟨rfl,rfl⟩,by kernel_rfl,⟨rfl,rf,tv⟩,?_⟩
 repeat' first|exact trivial|rfl|exact rf|exact za|refine abG ?_ ?_
end
section
open Go.TM
variable [bG]
end
section
open Go.TM
def aaZ(sh:Int):ae:=ZL sh++[(7,.cells (.dv (I sh)::fc jc++[.dv .az,.dv .az,.dv .az]))]
theorem ZM{sh:Int}(h:0<=sh/\sh<=11):Inv ⟨sh,[],[],[],[],[],[]⟩ ⟨sh,[],[],[]⟩where
 nX:=⟨h,by simp,by simp,List.nodup_nil,by simp,fun p hp=>(by cases hp),fun it=>(by simp[cE]),fun f hf=>(by cases hf)⟩
 sh:=rfl
 fl:=rfl
 sp:=rfl
 nk:=⟨List.nodup_nil,List.nodup_nil,List.nodup_nil⟩
 ret:=rfl
 st k:=rfl
 cb j:=rfl
 imp g:=rfl
 step f hf:=by cases hf
 Zx:=by simp
 sps s hs:=by cases hs
 now:=by simp[dS]
variable [bG]
theorem Mm(n:Int):ar Tryz.prog 13 [.dv (I n)] 0 [] 8 [.ptr 5 0,.ptr 7 0,.dv (B true)] (aaZ (jr n 12)):=by
 have hb:=BD n 12 (by omega)
 refine cO Tryz.func13 rfl (by kernel_rfl) ?_
 refine .inl ⟨_,fun _=>(wa n 12 (by omega) (by omega)).ok,?_⟩
 refine .inl ⟨_,fun _=>yM.ok,?_⟩
 refine .inr (cl [] (Ml (jr n 12) ⟨hb.1,by omega⟩) (by kernel_rfl) rfl rfl ?_)
 refine .inl ⟨_,fun _=>yM.ok,?_⟩
 refine .inr (cl [] (L3 (jr n 12) ⟨hb.1,by omega⟩) (by kernel_rfl) rfl rfl ?_)
 repeat first|apply g1|apply g2|apply g3|apply g4|apply g5
 exact ext (by kernel_rfl) rfl rfl
end
section
open Go.TM
variable [bG]
theorem mV(hS:nU){P:PL}{R:RL}{s:dW}(h:Inv P R)(my:R.sp.length<40)(hf:pw R s):
 (tE R s≠0/\ar Tryz.prog 15 [.ptr 0 0,cY (aP s)] 7 (kJ P) 0 [.dv (I 0),.dv (I (tE R s))] (kJ P)/\
  (ar Tryz.prog 16 [.ptr 0 0,cY (aP s)] 4 (dU R) 0 [.dv (I 0),.dv (I (tE R s))] (dU R)\/ar Tryz.prog 16 [.ptr 0 0,cY (aP s)] 4 (dU R) 5 [.dv (I 0),.dv (I (tE R s))] (rlY R)))\/
 (tE R s=0/\∃P':PL,Inv P' (GN R s)/\ar Tryz.prog 15 [.ptr 0 0,cY (aP s)] 7 (kJ P) 0 [.dv (I (R.sh*4294967296+R.sp.length)),.dv (I 0)] (Av 1 1 P')/\
  ar Tryz.prog 16 [.ptr 0 0,cY (aP s)] 4 (dU R) 5 [.dv (I (R.sh*4294967296+R.sp.length)),.dv (I 0)] (jN 1 1 1 (GN R s))):=by
 have hlen:=hf.len
 have S6:∀m∈s.mv,m.ps.length<=4000:=fun m hm=>by have:=hf.ps m hm;omega
 have abA:=congrArg List.length h.sp
 have abB:=congrArg List.length h.fl
 have hgf:=h.nX.fl
 have sa:0<=P.sh/\P.sh<=12:=by have:=h.nX.sh;rw[h.sh];omega
 have EI:rX (dS P.sp) s=iM (dS R.sp) s:=by rw[h.sp];exact pos_eq _ s h.now
 unfold tE
 cases hp:iM (dS R.sp) s with
 |false=>
  have hr:=F8 R s (by omega) hf.aL (by omega) S6 (.inr hp)
  rw[if_neg (by omega)]at hr
  have ht:=Md P s hf.aL (by omega) (by omega) S6 (EI.trans hp) (by omega)
  exact .inl ⟨show(1:Int)≠0 by decide,zm P s 1 (by decide) ht,.inl hr⟩
 |true=>
  have hm:=hf.pos hp
  have oH:R.fl.length+s.mv.length<=160:=by have:=h.Zx;omega
  have hg:=nY h.nX oH hm
  have hk5:s.kind=5->∀m∈s.mv,∀x∈m.ps,0<=x.f/\x.f<=9223372036854775807:=fun k5 m pE x hx=>by
   rcases(hm m pE).ps with⟨_,_,g,g0,g1,e⟩|⟨k9,_⟩|⟨k,_⟩
   ·rw[e,abN]at hx;subst hx;exact⟨g0,g1⟩
   ·rw[k5]at k9;cases k9
   ·exact absurd k5 k
  have hSG:SG R s:=⟨hf.aL,by omega,hf.ps,by omega,fun i=>(hg i).1.rg,fun m pE=>(hm m pE).base,hk5⟩
  obtain⟨cN,tY,A3⟩:=Qc hS h oH hm s.mv.length (acb _)
  by_cases h0:(cI R s s.mv.length).1=0
  ·have hx:=F9 R s hSG hp h0
   have ht:=Mg P s hf.aL sa (by omega) S6 (EI.trans hp) (by omega) cN fun i m hi=>by
    have Fs:=(abI.1 hi).1
    have:=A3 i m Fs hi (tD (Nat.le_of_lt Fs) h0)
    rw[tD (show i+1<=s.mv.length from Fs) h0]at this
    exact this
   have hs:=tY s.mv.length (acb _) h0
   generalize Km P s cN s.mv.length=c at ht hs
   have ZN:=rY R s s.mv.length
   have hi:=Inv.next h hs (hg s.mv.length).1 ⟨ZN.2,ZN.1⟩ (by have:=(hg s.mv.length).2;omega) ⟨hlen,hf.ps⟩ my (by
    simp only[iM,acj,decide_eq_true_eq]at hp
    exact hp.1.1.2.1)
   have hcf:=congrArg List.length hs.fl
   have nF:=(hg s.mv.length).1.fl
   rw[abU]at hcf
   have Un:=ID P s c ⟨h.nk.2.1,h.nk.2.2,by rw[h.ret];exact List.nodup_nil,hs.nk.2.1,hs.nk.2.2,by rw[hs.ret];exact List.nodup_nil⟩ ⟨by omega,by omega,by omega⟩ ⟨h.nk.1,hs.nk.1⟩ ht
   have vJ:c.sp.id=R.sh*4294967296+R.sp.length:=by rw[hs.Up,<-h.sh,<-h.sp];rfl
   rw[vJ]at Un
   exact .inr ⟨h0,_,hi,PY Un,hx⟩
  ·obtain⟨k,hk,Js,hke⟩:=Gc s.mv.length h0
   have hx:=Ga R s hSG hp h0
   have ht:=Mf P s hf.aL sa (by omega) S6 (EI.trans hp) (by omega) cN k hk (cI R s s.mv.length).1 h0 (cN k) (fun i m hi hx=>by
    have:=A3 i m (by omega) hx (tD (Nat.le_of_lt hi) Js)
    rw[tD (show i+1<=k from hi) Js]at this
    exact this) fun m hx=>by
    have:=A3 k m hk hx Js
    rw[hke]at this
    exact this
   exact .inl ⟨h0,zm P s _ h0 ht,.inr hx⟩
end
section
open Go.TM
variable [bG]
end
end Go.Proofs.YtknnpcfhekkjjaaGreatDoor
