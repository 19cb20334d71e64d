import Derived.Test.YtpbiiigpphehbaaGreatDoorFM28
set_option linter.all false
namespace Go.Proofs.YtpbiiigpphehbaaGreatDoor
set_option maxRecDepth 100000
set_option maxHeartbeats 2000000
section
open Go.TM
theorem Pg{x:Lt}(h:x.n≠0):bj [] x=[x]:=by unfold bj;rw[if_neg h];rfl
theorem LN{r:List Lt}{x y:Lt}(h:x.n≠0)(hc:y.f=x.f/\y.a+y.n=x.a):bj (r++[y]) x=r++[⟨y.f,y.a,y.n+x.n⟩]:=by
 unfold bj;rw[if_neg h];simp[hc]
theorem LO{r:List Lt}{x y:Lt}(h:x.n≠0)(hc:¬(y.f=x.f/\y.a+y.n=x.a)):bj (r++[y]) x=r++[y]++[x]:=by
 unfold bj;rw[if_neg h];simp[hc]
variable [bJ]
theorem bL{n:Nat}(h:n<=1000000):n*(nth j4 (nth j4 58).elem).bytes<=140737488355328:=by
 rw[show(nth j4 (nth j4 58).elem).bytes=24 by kernel_rfl];omega
theorem aaH(l:List Lt):w8 (l.map aF)=l.map aF:=fE (fun _=>rfl) l
theorem qh(l:List Lt):(oo (.aB 3 (l.map aF))).Le (aS l):=DV.Le.of_eq (by show DV.sl 3 (w8 (l.map aF))=_;rw[aaH])
theorem pA(s:List Lt)(x:Lt)(hs:s.length<=100000)(hb:∀y∈s,0<=y.a/\y.a<=1099511627776/\0<=y.n/\y.n<=1099511627776)(hx:0<=x.n/\x.n<=1099511627776):aO Tryz.prog 54 [aS s,aF x] [aS (bj s x)]:=by
 refine pO Tryz.func54 rfl (by kernel_rfl) rfl ?_
 refine .inr ⟨s.map aF,b7.refl _,bL (by rw[abz];omega),by rw[abz];omega,?_⟩
 refine⟨fun h=>?_,fun h=>?_⟩
 ·have h0:x.n=0:=abQ h
  rw[show bj s x=s from if_pos h0]
  exact⟨qh s,tv⟩
 have h0:x.n≠0:=abR h
 rcases List.eq_nil_or_concat s with rfl|⟨r,y,rfl⟩
 ·have c6:∀{p:Prop},bw (decide (0<((List.map aF []).length:Int))) true=true->p:=fun h=>by simp[bw]at h
  repeat first|refine g1 ?_|refine g3 ?_|refine⟨c6,?_⟩|refine⟨aF x,c6,?_⟩
  refine⟨by kernel_rfl,fun h=>by simp at h,fun _=>?_⟩
  refine .inl ⟨[aF x],rfl,⟨rf,rf,rf,tv⟩,(by simp;rfl),?_⟩
  refine .inr ⟨[aF x],b7.refl _,bL (by simp),by simp,?_⟩
  rw[Pg h0]
  exact⟨qh [x],tv⟩
 ·rw[List.concat_eq_append]at*
  have e1:((r++[y]).map aF).length=r.length+1:=by simp
  have hy:((r++[y]).map aF)[((((r++[y]).map aF).length:Int)-1).toNat]?=some (aF y):=by rw[e1,show(((r.length+1:Nat):Int)-1).toNat=r.length by omega];simp
  have AA:=hb y (by simp)
  have iQ:r.length+1<=100000:=by simpa using hs
  repeat first|refine g1 ?_|refine g3 ?_|refine⟨aF y,fun _=>hy,?_⟩|refine⟨fun _=>⟨by omega,by omega⟩,?_⟩
  refine⟨by kernel_rfl,fun h=>?_,fun h=>?_⟩
  ·repeat first|refine g1 ?_|refine g3 ?_|refine⟨aF y,fun _=>hy,?_⟩|refine⟨fun _=>⟨by omega,by omega⟩,?_⟩
   refine⟨[I (y.n+x.n)],⟨rf,tv⟩,aF y,hy,?_⟩
   rw[LN h0 (by simpa using h)]
   have e3:((r++[y]).map aF).set ((((r++[y]).map aF).length:Int)-1).toNat (DV.agg [I y.f,I y.a,I (y.n+x.n)])=(r++[(⟨y.f,y.a,y.n+x.n⟩:Lt)]).map aF:=by
    rw[e1,show(((r.length+1:Nat):Int)-1).toNat=r.length by omega];simp[aF]
   have:=qh (r++[(⟨y.f,y.a,y.n+x.n⟩:Lt)])
   rw[<-e3]at this
   exact⟨by kernel_rfl,this,tv⟩
  ·refine .inl ⟨[aF x],rfl,⟨rf,rf,rf,tv⟩,(by simp;rfl),?_⟩
   refine .inr ⟨[aF x],b7.refl _,bL (by simp;omega),by simp;omega,?_⟩
   rw[LO h0 (by simpa using h)]
   refine⟨?_,tv⟩
   have:=qh (r++[y]++[x])
   rw[abS (l₂:=[x])]at this
   exact this
end
section
open Go.TM
structure DS where
 a:Int
 q:Int
 r:Int
def dH(d:Int)(q r:Int):Int×Int:=if d<=r then(q+1,r-d)else(q,r)
def vK(b d bit:Int)(s:DS):DS:=
 if bit<=s.a then⟨s.a-bit,(dH d ((dH d (2*s.q) (2*s.r)).1+b.tdiv d) ((dH d (2*s.q) (2*s.r)).2+b.tmod d)).1,(dH d ((dH d (2*s.q) (2*s.r)).1+b.tdiv d) ((dH d (2*s.q) (2*s.r)).2+b.tmod d)).2⟩
 else⟨s.a,(dH d (2*s.q) (2*s.r)).1,(dH d (2*s.q) (2*s.r)).2⟩
def uR(k:Nat):Int:=1152921504606846976/2^k
def MO(a b d:Int):Nat->DS
 |0=>⟨a,0,0⟩
 |k+1=>vK b d (uR k) (MO a b d k)
theorem T1{d q r X:Int}(h:q*d+r=X)(h0:0<=r)(h1:r<2*d):(dH d q r).1*d+(dH d q r).2=X/\0<=(dH d q r).2/\(dH d q r).2<d/\q<=(dH d q r).1/\(dH d q r).1<=q+1:=by
 unfold dH
 split
 ·simp only;rw[Int.add_mul];omega
 ·simp only;omega
structure Xc(a b d:Int)(k:Nat)(s:DS):Prop where
 ex:∃A,0<=A/\a=A*2^(61-k)+s.a/\s.q*d+s.r=A*b
 a0:0<=s.a
 a1:s.a<2^(61-k)
 r0:0<=s.r
 r1:s.r<d
 q0:0<=s.q
theorem FF{k:Nat}(hk:k<=60):uR k=2^(60-k)/\(2:Int)^(61-k)=2*2^(60-k):=by
 refine⟨?_,by rw[show 61-k=(60-k)+1 by omega,Int.pow_succ];omega⟩
 unfold uR
 rw[show(1152921504606846976:Int)=2^(60-k)*2^k by rw[<-Int.pow_add,show 60-k+k=60 by omega];rfl]
 exact Int.mul_ediv_cancel _ (Int.ne_of_gt (Int.pow_pos (by omega)))
theorem H6{a b d:Int}(ha:0<=a/\a<2^61)(hb:0<=b)(hd:0<d):∀k,k<=61->Xc a b d k (MO a b d k)
 |0,_=>⟨⟨0,by omega,by show a=0*_+a;omega,by show(0:Int)*d+0=0*b;omega⟩,ha.1,ha.2,Int.le_refl _,hd,Int.le_refl _⟩
 |k+1,hk=>by
  obtain⟨⟨A,hA,e1,e2⟩,a0,a1,r0,r1,q0⟩:=H6 ha hb hd k (by omega)
  obtain⟨b1,b2⟩:=FF (k:=k) (by omega)
  show Xc a b d (k+1) (vK b d (uR k) (MO a b d k))
  generalize MO a b d k=s at*
  rw[b1]
  rw[b2]at e1 a1
  have e61:61-(k+1)=60-k:=by omega
  have hp:(0:Int)<2^(60-k):=Int.pow_pos (by omega)
  have h2:(2*s.q)*d+2*s.r=2*A*b:=by rw[Int.mul_assoc,Int.mul_assoc,<-e2];omega
  have hh:=T1 h2 (by omega) (by omega)
  unfold vK
  generalize dH d (2*s.q) (2*s.r)=z at hh⊢
  have hAA:A*(2*2^(60-k))=2*A*2^(60-k):=by rw[<-Int.mul_assoc,Int.mul_comm A 2]
  split
  ·rename_i hc
   have hm:=Int.tmod_nonneg d hb
   have T2:=Int.tmod_lt_of_pos b hd
   have hq:=Int.tdiv_nonneg hb (Int.le_of_lt hd)
   have hmd:=Int.mul_tdiv_add_tmod b d
   have h3:(z.1+b.tdiv d)*d+(z.2+b.tmod d)=(2*A+1)*b:=by
    have hX:(2*A+1)*b=2*A*b+b:=by rw[Int.add_mul];omega
    have hY:(z.1+b.tdiv d)*d=z.1*d+d*b.tdiv d:=by rw[Int.add_mul,Int.mul_comm (b.tdiv d) d]
    omega
   have h4:=T1 h3 (by omega) (by omega)
   refine⟨⟨2*A+1,by omega,?_,h4.1⟩,by show 0<=s.a-2^(60-k);omega,by show s.a-2^(60-k)<_;rw[e61];omega,h4.2.1,h4.2.2.1,by have:=h4.2.2.2.1;simp only;omega⟩
   rw[e61]
   show a=(2*A+1)*2^(60-k)+(s.a-2^(60-k))
   rw[Int.add_mul];omega
  ·rename_i hc
   refine⟨⟨2*A,by omega,?_,hh.1⟩,a0,by rw[e61];show s.a<_;omega,hh.2.1,hh.2.2.1,by show 0<=z.1;omega⟩
   rw[e61]
   show a=2*A*2^(60-k)+s.a
   omega
theorem Xc.q1{a b d:Int}{k:Nat}{s:DS}(h:Xc a b d k s)(hk:k<=61)(hb:b<=d)(lk:0<=b)(hd:0<d)(ha:a<=1152921504606846976):s.q<=1152921504606846976:=by
 obtain⟨⟨A,hA,e1,e2⟩,a0,a1,r0,r1,q0⟩:=h
 have h1:A*b<=A*d:=Int.mul_le_mul_of_nonneg_left hb hA
 have h2:s.q*d<=A*d:=by omega
 have h3:s.q<=A:=Int.le_of_mul_le_mul_right h2 hd
 have h4:(1:Int)<=2^(61-k):=by have:(0:Int)<2^(61-k):=Int.pow_pos (by omega);omega
 have h5:A*1<=A*2^(61-k):=Int.mul_le_mul_of_nonneg_left h4 hA
 omega
theorem Xc.a9{a b d:Int}{k:Nat}{s:DS}(h:Xc a b d k s):s.a<=a:=by
 obtain⟨⟨A,hA,e1,e2⟩,a0,a1,r0,r1,q0⟩:=h
 have h4:(0:Int)<2^(61-k):=Int.pow_pos (by omega)
 have:=Int.mul_nonneg hA (Int.le_of_lt h4)
 omega
theorem Sl{a b d:Int}(ha:0<=a/\a<2^61)(hb:0<=b)(hd:0<d):(MO a b d 61).q=a*b/d/\(MO a b d 61).r=a*b%d:=by
 obtain⟨⟨A,hA,e1,e2⟩,a0,a1,r0,r1,q0⟩:=H6 ha hb hd 61 (by omega)
 generalize MO a b d 61=s at*
 have:s.a=0:=by have:s.a<1:=a1;omega
 have eA:a=A:=by have e1:a=A*1+s.a:=e1;omega
 subst eA
 have:=Int.ediv_emod_unique (a:=a*b) (b:=d) (q:=s.q) (r:=s.r) hd
 have h6:=this.2 ⟨by rw[Int.mul_comm d];omega,r0,r1⟩
 exact⟨h6.1.symm,h6.2.symm⟩
theorem H7(k:Nat):0<=uR k/\uR k<=1152921504606846976:=by
 unfold uR
 have:(0:Int)<2^k:=Int.pow_pos (by omega)
 exact⟨Int.ediv_nonneg (by omega) (by omega),Int.ediv_le_self _ (by omega)⟩
theorem LP(k:Nat):(uR k).tdiv 2=uR (k+1):=by
 rw[Int.tdiv_eq_ediv_of_nonneg (H7 k).1]
 unfold uR
 rw[Int.pow_succ,Int.ediv_ediv_of_nonneg (Int.le_of_lt (Int.pow_pos (by omega)))]
theorem Ph{k:Nat}(h:k<=61):0<uR k↔k<61:=by
 rcases abT k 61 with hl|hg
 ·have:=(FF (k:=k) (by omega)).1
  rw[this]
  exact⟨fun _=>hl,fun _=>Int.pow_pos (by omega)⟩
 ·have:k=61:=by omega
  subst this
  exact⟨fun h=>absurd h (by decide),fun h=>by omega⟩
variable [bJ]
theorem LQ(a b d:Int)(ha:0<=a/\a<=1152921504606846976)(hb:0<=b/\b<=d)(hd:0<d/\d<=1152921504606846976):aO Tryz.prog 216 [I a,I b,I d] [I (a*b/d),I (a*b%d),B true]:=by
 refine pO Tryz.func216 rfl (by kernel_rfl) rfl ?_
 have cB:=H6 (a:=a) (b:=b) (d:=d) ⟨ha.1,by omega⟩ hb.1 hd.1
 refine⟨Nat,fun k=>⟨0,[(0,.dv (I (MO a b d k).a)),(1,.dv (I b)),(2,.dv (I d)),(9,.dv (I (MO a b d k).q)),(10,.dv (I (MO a b d k).r)),(11,.dv (I (uR k)))],[]⟩,fun k=>k<=61,fun k=>61-k,0,fun _=>rfl,jn (by rfl) rfl rfl rfl,abO _,?_⟩
 rintro k hk
 have oP:=cB k hk
 have hq1:=oP.q1 hk hb.2 hb.1 hd.1 ha.2
 have cd:=H7 k
 have G7:=LP k
 have hbp:=Ph hk
 have q0:=oP.q0
 have r0:=oP.r0
 have r1:=oP.r1
 have a0:=oP.a0
 have a9:=oP.a9
 have m0:=Int.tmod_nonneg d hb.1
 have m1:=Int.tmod_lt_of_pos b hd.1
 have t0:=Int.tdiv_nonneg hb.1 (Int.le_of_lt hd.1)
 have t1:b.tdiv d<=b:=Int.tdiv_le_self d hb.1
 refine aby ?_ ?_
 ·intro h
  have au:k<61:=hbp.1 (abQ h)
  have B1:=(cB (k+1) (by omega)).q1 (by omega) hb.2 hb.1 hd.1 ha.2
  have T3:=(cB (k+1) (by omega)).q0
  have b3:=H7 (k+1)
  have hn:MO a b d (k+1)=vK b d (uR k) (MO a b d k):=rfl
  refine⟨fun _=>⟨by omega,by omega⟩,fun _=>⟨by omega,by omega⟩,?_⟩
  refine aby ?_ ?_
  all_goals intro h1
  all_goals first|have h1:=abQ h1|have h1:=abR h1
  all_goals repeat first|refine⟨fun _=>⟨by omega,by omega⟩,?_⟩
  all_goals refine aby ?_ ?_
  all_goals intro h2
  all_goals first|have h2:=abQ h2|have h2:=abR h2
  all_goals repeat first|refine⟨fun _=>⟨by omega,by omega⟩,?_⟩|refine⟨fun _ _=>by omega,?_⟩
  ·refine aby ?_ ?_
   all_goals intro h3
   all_goals first|have h3:=abQ h3|have h3:=abR h3
   all_goals repeat first|refine⟨fun _=>⟨by omega,by omega⟩,?_⟩
   all_goals simp only[vK,dH,h1,h2,h3,if_true,if_false]at hn
   all_goals rw[hn]at B1 T3
   all_goals simp only at B1 T3
   all_goals refine aby (fun h4=>absurd (abQ h4) (by omega)) ?_
   all_goals intro _
   all_goals refine⟨fun _ h=>by omega,fun _=>⟨by omega,by omega⟩,k+1,jn ?_ rfl rfl rfl,by omega,by show 61-(k+1)<61-k;omega⟩
   all_goals simp only[hn,<-G7]
   all_goals rfl
  ·simp only[vK,dH,h1,h2,if_true,if_false]at hn
   rw[hn]at B1 T3
   simp only at B1 T3
   refine aby (fun h4=>absurd (abQ h4) (by omega)) ?_
   intro _
   refine⟨fun _ h=>by omega,fun _=>⟨by omega,by omega⟩,k+1,jn ?_ rfl rfl rfl,by omega,by show 61-(k+1)<61-k;omega⟩
   simp only[hn,<-G7]
   rfl
  ·refine aby ?_ ?_
   all_goals intro h3
   all_goals first|have h3:=abQ h3|have h3:=abR h3
   all_goals repeat first|refine⟨fun _=>⟨by omega,by omega⟩,?_⟩
   all_goals simp only[vK,dH,h1,h2,h3,if_true,if_false]at hn
   all_goals rw[hn]at B1 T3
   all_goals simp only at B1 T3
   all_goals refine aby (fun h4=>absurd (abQ h4) (by omega)) ?_
   all_goals intro _
   all_goals refine⟨fun _ h=>by omega,fun _=>⟨by omega,by omega⟩,k+1,jn ?_ rfl rfl rfl,by omega,by show 61-(k+1)<61-k;omega⟩
   all_goals simp only[hn,<-G7]
   all_goals rfl
  ·simp only[vK,dH,h1,h2,if_true,if_false]at hn
   rw[hn]at B1 T3
   simp only at B1 T3
   refine aby (fun h4=>absurd (abQ h4) (by omega)) ?_
   intro _
   refine⟨fun _ h=>by omega,fun _=>⟨by omega,by omega⟩,k+1,jn ?_ rfl rfl rfl,by omega,by show 61-(k+1)<61-k;omega⟩
   simp only[hn,<-G7]
   rfl
 ·intro h
  have aaI:k=61:=by
   have:=abR h
   rw[hbp]at this;omega
  subst aaI
  obtain⟨e1,e2⟩:=Sl (a:=a) (b:=b) (d:=d) ⟨ha.1,by omega⟩ hb.1 hd.1
  exact⟨aG e1,aG e2,rf,tv⟩
end
section
open Go.TM
theorem yU{l:List Int}{j:Nat}{x:Int}(hx:l[j]?=some x):(l.take (j+1)).sum=(l.take j).sum+x:=by
 rw[abJ,hx,List.sum_append];simp
theorem T4:∀{l:List Int},(∀x∈l,0<=x/\x<=1099511627776)->0<=l.sum/\l.sum<=1099511627776*l.length
 |[],_=>by simp
 |x::l,h=>by
  have h1:=h x abL
  have h2:=T4 fun y hy=>h y (abH x hy)
  simp only[List.sum_cons,List.length_cons]at*
  omega
theorem VT{l:List Int}(h:∀x∈l,0<=x/\x<=1099511627776)(hl:l.length<=5000)(j:Nat):0<=(l.take j).sum/\(l.take j).sum<=5497558138880000:=by
 have h1:=T4 fun x hx=>h x (List.mem_of_mem_take (i:=j) hx)
 have h2:(l.take j).length<=l.length:=by rw[abU];omega
 omega
theorem H8:∀{l:List Int},(∀x∈l,0<=x)->∀x∈l,x<=l.sum
 |y::l,h,x,hx=>by
  have h1:=h y abL
  have h3:=yO fun z hz=>h z (abH y hz)
  rw[List.sum_cons]
  rcases abG.1 hx with rfl|hx
  ·omega
  ·have h2:=H8 (fun z hz=>h z (abH y hz)) x hx
   omega
theorem s6:∀{l:List Int} (j:Nat),(∀x∈l,0<=x)->0<=(l.take j).sum/\(l.take j).sum<=l.sum
 |l,0,h=>by simpa using yO h
 |[],j+1,_=>by simp
 |x::l,j+1,h=>by
  have h1:=h x abL
  have h2:=s6 (l:=l) j fun y hy=>h y (abH x hy)
  simp only[List.take_succ_cons,List.sum_cons];omega
def rK(rs:List Int)(i:Nat):Nat:=(List.range' 1 (i-1)).foldl (Ao rs) 0
theorem LR(rs:List Int){i:Nat}(h:1<=i):rK rs (i+1)=Ao rs (rK rs i) i:=by
 unfold rK
 rw[show i+1-1=(i-1)+1 by omega,List.range'_1_concat,abZ]
 rw[show 1+(i-1)=i by omega];rfl
theorem Sm(rs:List Int){i:Nat}(h:1<=i):rK rs i<i:=by
 have:=(yN rs (i-1) 1 0 (by omega) fun j hj=>by
  have:j=0:=by omega
  subst this;simp[eX]).1
 unfold rK;omega
variable [bJ]
theorem bI{n:Nat}(h:n<=1000000):n*(nth j4 (nth j4 22).elem).bytes<=140737488355328:=by
 rw[show(nth j4 (nth j4 22).elem).bytes=8 by kernel_rfl];omega
theorem Bt(n:Int):aO Tryz.prog 215 [I n] [B (decide (0<=n/\n<=1099511627776))]:=by
 refine pO Tryz.func215 rfl (by kernel_rfl) rfl ?_
 repeat first|apply g1|apply g2|apply g3|apply g4|apply g5
 refine⟨DV.Le.of_eq ?_,tv⟩
 congr 1
 rw[ab5];simp
theorem FG(t:Int)(ws:List Int)(ht:0<=t/\t<=1099511627776)(hw:∀w∈ws,0<=w/\w<=1099511627776)(hl:ws.length<=5000)(hs:0<ws.sum)(GK:t<=ws.sum):aO Tryz.prog 200 [I t,Ints ws] [Ints (zT t ws),I 0]:=by
 refine pO Tryz.func200 rfl (by kernel_rfl) rfl ?_
 have aj:=VT hw hl
 have hsm:=aj ws.length
 rw[abP]at hsm
 refine⟨Nat,fun i=>⟨0,[(0,.dv (I t)),(1,.dv (Ints ws)),(6,.dv (I (ws.take i).sum)),(7,.dv (I i))],[]⟩,fun i=>i<=ws.length,fun i=>ws.length-i,0,fun _=>rfl,jn rfl rfl rfl rfl,abO _,?_⟩
 rintro i hi
 have b1:=aj i
 refine aby ?_ ?_
 ·intro h
  have au:i<ws.length:=by have:=abQ h;rw[abz]at this;omega
  have hx:=aaa au
  generalize ws[i]=x at hx
  have LS:=hw x (abC hx)
  refine⟨I x,fun _=>⟨by omega,by rw[abB];simp[hx]⟩,?_⟩
  refine .inl ⟨_,fun _=>(Bt x).ok,?_⟩
  rw[abW LS]
  repeat first|apply g1|apply g2|apply g3|apply g4|apply g5
  refine aby (fun h=>by simp at h;omega) fun _=>?_
  refine⟨I x,fun _=>⟨by omega,by rw[abB];simp[hx]⟩,?_⟩
  exact⟨fun _=>⟨by omega,by omega⟩,fun _=>⟨by omega,by omega⟩,i+1,jn (by simp only[yU hx];rfl) rfl rfl rfl,by omega,mlt au⟩
 intro h
 have he:i=ws.length:=by have:=abR h;rw[abz]at this;omega
 subst he
 simp only[abP]
 refine .inl ⟨_,fun _=>(Bt t).ok,?_⟩
 rw[abW ht]
 repeat first|apply g1|apply g2|apply g3|apply g4|apply g5
 refine aby (fun h=>by simp at h;omega) fun _=>?_
 have G4:(qL t ws.sum ws).length=ws.length:=by simp[qL]
 have hrl:(rL t ws.sum ws).length=ws.length:=by simp[rL]
 have YP:∀x∈qL t ws.sum ws,0<=x:=fun x hx=>by
  obtain⟨w,KP,rfl⟩:=ab1.1 hx
  exact Int.ediv_nonneg (Int.mul_nonneg ht.1 (hw w KP).1) (by omega)
 have Yo:=VL (t:=t) hs (ws:=ws)
 obtain⟨l1,l2,l3⟩:=w7 (t:=t) hs
 have Ux:(qL t ws.sum ws).sum<=t:=by unfold fT at l1;omega
 have hw0:∀w∈ws,0<=w:=fun w KP=>(hw w KP).1
 have hqe:∀{i:Nat} {x:Int},ws[i]?=some x->(qL t ws.sum ws)[i]?=some (t*x/ws.sum)/\(rL t ws.sum ws)[i]?=some (t*x%ws.sum):=fun h=>by simp[qL,rL,h]
 have Sn:zT t ws=plus (rL t ws.sum ws) (qL t ws.sum ws) (fT t ws.sum ws).toNat:=rfl
 have hLd:fT t ws.sum ws=t-(qL t ws.sum ws).sum:=rfl
 have hLl:(fT t ws.sum ws).toNat<=ws.length:=by
  have:(rL t ws.sum ws).countP (fun x=>decide (0<x))<=(rL t ws.sum ws).length:=List.countP_le_length
  omega
 generalize zT t ws=res at*
 generalize fT t ws.sum ws=L at*
 generalize qL t ws.sum ws=Q at*
 generalize rL t ws.sum ws=R at*
 refine⟨Nat,fun i=>⟨2,[(0,.dv (I t)),(1,.dv (Ints ws)),(6,.dv (I ws.sum)),(10,.own 0 0 0 []),(11,.own 1 0 0 []),(12,.dv (I (t-(Q.take i).sum))),(13,.dv (I i))],[(0,.tree 0 0 (.aB 1 ((Q.take i).map I))),(1,.tree 0 0 (.aB 1 ((R.take i).map I)))]⟩,fun i=>i<=ws.length,fun i=>ws.length-i,0,fun _=>rfl,⟨⟨rf,rf,rf,⟨rfl,rfl,rfl,rfl,1,rfl⟩,⟨rfl,rfl,rfl,rfl,1,rfl⟩,aG (by simp),rf,tv⟩,⟨⟨rfl,rfl,1,rfl⟩,⟨rfl,rfl,1,rfl⟩,tv⟩,rfl,rfl⟩,abO _,?_⟩
 rintro i hi
 have c1:=s6 i YP
 refine aby ?_ ?_
 ·intro h
  have au:i<ws.length:=by have:=abQ h;rw[abz]at this;omega
  have hx:=aaa au
  generalize ws[i]=x at hx
  have hxm:=abC hx
  have LS:=hw x hxm
  have DU:=H8 hw0 x hxm
  obtain⟨e1,e2⟩:=hqe hx
  have c2:=s6 (i+1) YP
  have e3:=yU e1
  rw[e3]at c2
  refine⟨I x,fun _=>⟨by omega,by rw[abB];simp[hx]⟩,?_⟩
  refine .inl ⟨_,fun _=>(LQ t x ws.sum ⟨by omega,by omega⟩ ⟨by omega,DU⟩ ⟨by omega,by omega⟩).ok,?_⟩
  generalize t*x/ws.sum=q at*
  generalize t*x%ws.sum=r at*
  have f1:(Q.take (i+1)).map I=(Q.take i).map I++[I q]:=by rw[abJ,e1];simp
  have f2:(R.take (i+1)).map I=(R.take i).map I++[I r]:=by rw[abJ,e2];simp
  have g1':((Q.take i).map I).length<=5000:=by rw[abz,abU];omega
  have g2':((R.take i).map I).length<=5000:=by rw[abz,abU];omega
  refine .inl ⟨[I q],rfl,⟨rf,tv⟩,(by simp;rfl),?_⟩
  refine .inr ⟨[I q],b7.refl _,bI (by simp only[List.length_cons,List.length_nil];omega),by simp only[List.length_cons,List.length_nil];omega,?_⟩
  refine .inl ⟨[I r],rfl,⟨rf,tv⟩,(by simp;rfl),?_⟩
  refine .inr ⟨[I r],b7.refl _,bI (by simp only[List.length_cons,List.length_nil];omega),by simp only[List.length_cons,List.length_nil];omega,?_⟩
  exact⟨fun _=>⟨by omega,by omega⟩,fun _=>⟨by omega,by omega⟩,i+1,jn (by simp only[e3,<-Int.sub_sub];rfl) (by simp only[f1,f2];rfl) rfl rfl,by omega,mlt au⟩
 intro h
 have he:i=ws.length:=by have:=abR h;rw[abz]at this;omega
 subst he
 have eQ:Q.take ws.length=Q:=List.take_of_length_le (by omega)
 have eR:R.take ws.length=R:=List.take_of_length_le (by omega)
 have hRn:∀r∈R,0<=r:=fun r hr=>(Yo r hr).1
 have hon:=fun k=>@O7 R Q hRn (by omega) k
 have VU:∀k,(Ap (Q,R) k).1.length=ws.length/\(Ap (Q,R) k).2.length=ws.length:=fun k=>by
  induction k with
  |zero=>exact⟨G4,hrl⟩
  |succ k ih=>exact⟨(w6 _ _).trans ih.1,(List.length_set ..).trans ih.2⟩
 refine⟨Nat,fun k=>⟨2,[(10,.own 0 0 0 []),(11,.own 1 0 0 []),(12,.dv (I (L-k)))],[(0,.tree 0 0 (.aB 1 ((Ap (Q,R) k).1.map I))),(1,.tree 0 0 (.aB 1 ((Ap (Q,R) k).2.map I)))]⟩,fun k=>k<=L.toNat,fun k=>L.toNat-k,0,fun _=>rfl,⟨⟨rfl,rfl,aG (by rw[eQ,<-hLd];simp),tv⟩,⟨⟨rfl,by rw[eQ];rfl⟩,⟨rfl,by rw[eR];rfl⟩,tv⟩,rfl,rfl⟩,abO _,?_⟩
 rintro k hk
 refine aby ?_ ?_
 ·intro h
  have au:k<L.toNat:=by have:=abQ h;omega
  obtain⟨n1,n2⟩:=VU k
  have dQ:Ap (Q,R) (k+1)=onR (Ap (Q,R) k):=rfl
  have Hx:=hon (k+1) (by omega)
  have MP:=hon k (by omega)
  generalize Cg:Ap (Q,R) k=o at*
  obtain⟨o1,o2⟩:=o
  simp only at n1 n2
  refine⟨Nat,fun i=>⟨2,[(10,.own 0 0 0 []),(11,.own 1 0 0 []),(12,.dv (I (L-k))),(17,.dv (I (rK o2 i))),(18,.dv (I i))],[(0,.tree 0 0 (.aB 1 (o1.map I))),(1,.tree 0 0 (.aB 1 (o2.map I)))]⟩,fun i=>1<=i/\i<=ws.length,fun i=>ws.length-i,1,fun _=>rfl,jn (by simp only[Cg];rfl) (by simp only[Cg];rfl) rfl rfl,⟨by omega,by omega⟩,?_⟩
  rintro i ⟨MQ,wB⟩
  have UC:=Sm o2 MQ
  have G7:=LR o2 MQ
  refine aby ?_ ?_
  ·intro h
   have AE:i<ws.length:=by have:=abQ h;rw[abz]at this;omega
   have hx:=aaa (show i<o2.length by omega)
   have hy:=aaa (show rK o2 i<o2.length by omega)
   have dx:o2.getD i 0=o2[i]:=by rw[abE,hx];rfl
   have dy:o2.getD (rK o2 i) 0=o2[rK o2 i]:=by rw[abE,hy];rfl
   generalize o2[i]=x at hx dx
   generalize o2[rK o2 i]=y at hy dy
   refine⟨fun _=>⟨by omega,by rw[abz];omega⟩,I x,fun _=>by rw[abB];simp[hx],?_⟩
   refine⟨fun _=>⟨by omega,by rw[abz];omega⟩,I y,fun _=>by rw[abB];simp[hy],?_⟩
   refine aby (by kernel_rfl) (aby ?_ ?_)
   ·intro h
    have h:=abQ h
    have hb:rK o2 (i+1)=i:=by rw[G7];unfold Ao;rw[dx,dy,if_pos h]
    exact⟨fun _=>⟨by omega,by omega⟩,i+1,jn (by simp only[hb];rfl) rfl rfl rfl,⟨by omega,by omega⟩,mlt AE⟩
   ·intro h
    have h:=abR h
    have hb:rK o2 (i+1)=rK o2 i:=by rw[G7];unfold Ao;rw[dx,dy,if_neg h]
    exact⟨fun _=>⟨by omega,by omega⟩,i+1,jn (by simp only[hb];rfl) rfl rfl rfl,⟨by omega,by omega⟩,mlt AE⟩
  ·intro h
   have AE:i=ws.length:=by have:=abR h;rw[abz]at this;omega
   subst AE
   have YN:rK o2 ws.length=yM o2:=by unfold rK yM;rw[n2]
   simp only[YN]
   rw[YN]at UC
   simp only at MP
   have Y8:Ap (Q,R) (k+1)=(kf o1 (yM o2),o2.set (yM o2) (-1)):=dQ
   clear dQ Hx
   generalize yM o2=b at*
   have hx:=aaa (show b<o1.length by omega)
   have hy:=aaa (show b<o2.length by omega)
   have dx:o1.getD b 0=o1[b]:=by rw[abE,hx];rfl
   have LS:0<=o1[b]/\o1[b]<=t+1:=by
    rw[<-dx,MP,yK (by omega)]
    have hq:Q.getD b 0∈Q:=by rw[abE,aaa (by omega)];exact ab6 _
    have h1:=H8 YP _ hq
    have h2:=YP _ hq
    split<;>omega
   generalize o1[b]=x at hx dx LS
   generalize o2[b]=y at hy
   refine⟨fun _=>⟨by omega,by rw[abz];omega⟩,I x,fun _=>by rw[abB];simp[hx],?_⟩
   refine⟨fun _=>⟨by omega,by omega⟩,fun _=>⟨by omega,by rw[abz];omega⟩,?_⟩
   refine⟨[I (x+1)],⟨rf,tv⟩,I x,by rw[abB];simp[hx],?_⟩
   refine⟨fun _=>⟨by omega,by rw[abz];omega⟩,?_⟩
   refine⟨[I (-1)],⟨rf,tv⟩,I y,by rw[abB];simp[hy],?_⟩
   have f1:(o1.map I).set (b:Int).toNat (I (x+1))=(kf o1 b).map I:=by
    rw[Int.toNat_natCast];unfold kf;rw[dx,List.map_set]
   have f2:(o2.map I).set (b:Int).toNat (I (-1))=(o2.set b (-1)).map I:=by
    rw[Int.toNat_natCast,List.map_set]
   exact⟨fun _=>⟨by omega,by omega⟩,k+1,⟨⟨rfl,rfl,aG (by omega),tv⟩,⟨⟨rfl,by rw[Y8];exact congrArg (DV.aB 1) f1⟩,⟨rfl,by rw[Y8];exact congrArg (DV.aB 1) f2⟩,tv⟩,rfl,rfl⟩,by omega,mlt au⟩
 ·intro h
  have hkL:k=L.toNat:=by have:=abR h;omega
  subst hkL
  refine⟨?_,rf,tv⟩
  rw[hon _ (by omega),<-Sn]
  exact DV.Le.of_eq (by show DV.sl 1 (w8 (res.map I))=_;rw[fE (fun _=>rfl)])
end
section
open Go.TM
def cg:Int->List Lt->List Int
 |_,[]=>[]
 |n,x::r=>min n x.n::cg (n-min n x.n) r
theorem yV:∀(n:Int) (s:List Lt),(cg n s).length=s.length
 |_,[]=>rfl
 |n,x::r=>by simp[cg,yV]
theorem yW:∀{n:Int} {s:List Lt} {i:Nat} {x:Lt},s[i]?=some x->(cg n s)[i]?=some (min (n-((cg n s).take i).sum) x.n)
 |n,y::r,0,x,h=>by simp at h;subst h;simp[cg]
 |n,y::r,i+1,x,h=>by
  have ih:=yW (n:=n-min n y.n) (s:=r) (i:=i) (by simpa using h)
  simp only[cg,List.getElem?_cons_succ,List.take_succ_cons,List.sum_cons]
  rw[ih,<-Int.sub_sub]
theorem yX:∀{n:Int} {s:List Lt},0<=n->(∀x∈s,0<=x.n)->(∀k∈cg n s,0<=k)/\(cg n s).sum<=n/\(n<=du s->(cg n s).sum=n)
 |n,[],h,_=>by refine⟨by simp[cg],by simpa[cg]using h,fun h2=>?_⟩;simp[du]at h2;simp[cg];omega
 |n,x::r,h,hx=>by
  have h1:=hx x abL
  obtain⟨a1,a2,a3⟩:=yX (n:=n-min n x.n) (s:=r) (by omega) fun y hy=>hx y (abH _ hy)
  refine⟨fun k hk=>?_,by simp only[cg,List.sum_cons];omega,fun h2=>?_⟩
  ·simp only[cg,abG]at hk
   rcases hk with rfl|hk
   ·omega
   ·exact a1 k hk
  ·simp only[du,List.map_cons,List.sum_cons]at h2 a3
   simp only[cg,List.sum_cons]
   by_cases hc:n<=x.n
   ·have:min n x.n=n:=by omega
    rw[this]at a2⊢
    have:=yO a1
    rw[show min n x.n=n by omega]at this
    omega
   ·have:=a3 (by omega)
    omega
def qq(s:List Lt)(n:Int)(mixed:Bool):List Int:=bif mixed&&decide (0<n)then zT n (s.map (·.n))else cg n s
def tkF(p:List Lt×List Lt)(q:Lt×Int):List Lt×List Lt:=(bj p.1 ⟨q.1.f,q.1.a,q.2⟩,bj p.2 ⟨q.1.f,q.1.a+q.2,q.1.n-q.2⟩)
def mo(s:List Lt)(ks:List Int)(i:Nat):List Lt×List Lt:=((s.zip ks).take i).foldl tkF ([],[])
def gj(s:List Lt)(n:Int)(mixed:Bool):List Lt×List Lt:=mo s (qq s n mixed) s.length
def T5(s:List Lt)(ks:List Int):Prop:=ks.length=s.length/\∀(i:Nat) (x:Lt),s[i]?=some x->0<=ks.getD i 0/\ks.getD i 0<=x.n
theorem pB(s:List Lt):(s.map (·.n)).sum=du s:=rfl
theorem C6{s:List Lt}{n:Int}(mixed:Bool)(hn:0<=n)(hs:∀x∈s,aQ x=true)(ht:n<=du s):T5 s (qq s n mixed):=by
 have hp:∀x∈s,0<=x.n:=fun x hx=>(lR (hs x hx)).1
 unfold qq
 cases hc:mixed&&decide (0<n)with
 |true=>
  have h0:0<n:=by simp at hc;exact hc.2
  refine⟨by simp[Ka],fun i x hx=>?_⟩
  have hl:=(abA.1 hx).1
  have:=TZ (t:=n) (ws:=s.map (·.n)) hn (fun w hw=>by obtain⟨y,hy,rfl⟩:=ab1.1 hw;exact hp y hy) (by rw[pB];omega) (by rw[pB];exact ht) (i:=i) (by simpa using hl)
  rw[show(s.map (·.n)).getD i 0=x.n by simp[abE,hx]]at this
  exact this
 |false=>
  refine⟨yV _ _,fun i x hx=>?_⟩
  have h1:=yW (n:=n) hx
  obtain⟨a1,a2,_⟩:=yX (s:=s) hn hp
  have h2:=s6 i a1
  have h3:=hp x (abC hx)
  show 0<=(cg n s).getD i 0/\(cg n s).getD i 0<=x.n
  rw[abE,h1]
  simp only[Option.getD_some]
  omega
theorem ic{l:List Lt}{x:Lt}(hl:∀y∈l,aQ y=true)(hx:0<=x.f/\0<=x.a/\0<=x.n/\x.a+x.n<=1099511627776):∀y∈bj l x,aQ y=true:=by
 have h1:=Fv (l:=l) (x:=x) (fun y hy=>(aw.1 (hl y hy)).2.2.1) hx.2.2.1
 intro y hy
 have h2:=h1 y hy
 unfold bj at hy
 split at hy
 ·exact hl y hy
 split at hy
 ·rename_i h0 z hz
  have hzp:=aw.1 (hl z (List.mem_of_getLast? hz))
  split at hy
  ·rename_i hc
   rcases abI.1 hy with h|h
   ·exact hl y (List.dropLast_subset _ h)
   ·rw[abF]at h;subst h;rw[aw];simp only;omega
  ·rcases abI.1 hy with h|h
   ·exact hl y h
   ·rw[abF]at h;subst h;rw[aw];omega
 ·rw[abF]at hy;subst hy;rw[aw];omega
theorem yY{s:List Lt}{ks:List Int}{i:Nat}{x:Lt}{k:Int}(hx:s[i]?=some x)(hk:ks[i]?=some k):mo s ks (i+1)=tkF (mo s ks i) (x,k):=by
 unfold mo
 rw[abJ,List.getElem?_zip_eq_some (z:=(x,k)) |>.2 ⟨hx,hk⟩,abZ];rfl
theorem H9{s:List Lt}{ks:List Int}(hs:∀x∈s,aQ x=true)(hk:T5 s ks):∀i,i<=s.length->(∀y∈(mo s ks i).1,aQ y=true)/\(∀y∈(mo s ks i).2,aQ y=true)/\(mo s ks i).1.length<=i/\(mo s ks i).2.length<=i
 |0,_=>by simp[mo]
 |i+1,h=>by
  obtain⟨h1,h2,h3,h4⟩:=H9 hs hk i (by omega)
  obtain⟨x,hx⟩:∃x,s[i]?=some x:=⟨_,aaa (show i<s.length by omega)⟩
  obtain⟨k,AL⟩:∃k,ks[i]?=some k:=⟨_,aaa (show i<ks.length by rw[hk.1];omega)⟩
  have hb:=hk.2 i _ hx
  rw[abE,AL]at hb
  simp only[Option.getD_some]at hb
  have hp:=aw.1 (hs _ (abC hx))
  rw[yY hx AL]
  generalize mo s ks i=p at*
  refine⟨ic h1 ⟨hp.1,hp.2.1,hb.1,by simp only;omega⟩,ic h2 ⟨hp.1,by simp only;omega,by simp only;omega,by simp only;omega⟩,?_,?_⟩
  ·exact Nat.le_trans (fj p.1 _) (by omega)
  ·exact Nat.le_trans (fj p.2 _) (by omega)
variable [bJ]
theorem FH(s:List Lt)(n:Int)(mixed:Bool)(hn:0<=n/\n<=1099511627776)(hs:ca s=true)(ht:n<=du s):aO Tryz.prog 170 [aS s,I n,B mixed] [Ints (qq s n mixed)]:=by
 refine pO Tryz.func170 rfl (by kernel_rfl) rfl ?_
 obtain⟨hl,hp⟩:=hZ hs
 have hp0:∀x∈s,0<=x.n:=fun x hx=>(lR (hp x hx)).1
 obtain⟨a1,a2,_⟩:=yX (s:=s) hn.1 hp0
 have oe:=yV n s
 refine⟨Nat,fun i=>⟨2,[(0,.dv (aS s)),(1,.dv (I n)),(2,.dv (B mixed)),(7,.own 0 0 0 []),(8,.own 1 0 0 []),(9,.dv (I (n-((cg n s).take i).sum))),(10,.dv (I i))],[(0,.tree 0 0 (.aB 1 ((s.take i).map fun x=>I x.n))),(1,.tree 0 0 (.aB 1 (((cg n s).take i).map I)))]⟩,fun i=>i<=s.length,fun i=>s.length-i,0,fun _=>rfl,⟨⟨rf,rf,rf,⟨rfl,rfl,rfl,rfl,1,rfl⟩,⟨rfl,rfl,rfl,rfl,1,rfl⟩,aG (by simp),rf,tv⟩,⟨⟨rfl,rfl,1,rfl⟩,⟨rfl,rfl,1,rfl⟩,tv⟩,rfl,rfl⟩,abO _,?_⟩
 rintro i hi
 have c1:=s6 i a1
 refine aby ?_ ?_
 ·intro h
  have au:i<s.length:=by have:=abQ h;rw[abz]at this;omega
  have hx:=aaa au
  generalize s[i]=x at hx
  have T6:=lR (hp x (abC hx))
  have e1:=yW (n:=n) hx
  have e3:=yU e1
  have f1:((s.take (i+1)).map fun x=>I x.n)=((s.take i).map fun x=>I x.n)++[I x.n]:=by rw[abJ,hx];simp
  have f2:((cg n s).take (i+1)).map I=((cg n s).take i).map I++[I (min (n-((cg n s).take i).sum) x.n)]:=by rw[abJ,e1];simp
  have l1:((s.take i).map fun x=>I x.n).length<=5000:=by rw[abz,abU];omega
  have l2:(((cg n s).take i).map I).length<=5000:=by rw[abz,abU];omega
  refine⟨aF x,fun _=>⟨by omega,by rw[abB];simp[hx]⟩,?_⟩
  refine .inl ⟨[I x.n],rfl,⟨rf,tv⟩,(by simp;rfl),?_⟩
  refine .inr ⟨[I x.n],b7.refl _,bI (by simp only[List.length_cons,List.length_nil];omega),by simp only[List.length_cons,List.length_nil];omega,?_⟩
  refine⟨aF x,fun _=>⟨by omega,by rw[abB];simp[hx]⟩,?_⟩
  have em:(if x.n<n-((cg n s).take i).sum then x.n else n-((cg n s).take i).sum)=min (n-((cg n s).take i).sum) x.n:=by split<;>omega
  refine .inl ⟨[I (min (n-((cg n s).take i).sum) x.n)],rfl,⟨aG em,tv⟩,(by simp;rfl),?_⟩
  refine .inr ⟨[I (min (n-((cg n s).take i).sum) x.n)],b7.refl _,bI (by simp only[List.length_cons,List.length_nil];omega),by simp only[List.length_cons,List.length_nil];omega,?_⟩
  exact⟨fun _=>by rw[em];omega,fun _=>⟨by omega,by omega⟩,i+1,⟨⟨rf,rf,rf,rfl,rfl,aG (by rw[em];omega),rf,tv⟩,⟨⟨rfl,by rw[f1]⟩,⟨rfl,by rw[f2]⟩,tv⟩,rfl,rfl⟩,by omega,mlt au⟩
 intro h
 have he:i=s.length:=by have:=abR h;rw[abz]at this;omega
 subst he
 have eF:(cg n s).take s.length=cg n s:=List.take_of_length_le (by omega)
 simp only[abP,eF]
 repeat first|apply g1|apply g2|apply g3|apply g4|apply g5
 refine aby ?_ ?_
 ·intro h
  have h:=dV h
  have h0:0<n:=abQ h.2
  have hm:mixed=true:=h.1
  have hc:qq s n mixed=zT n (s.map (·.n)):=by unfold qq;rw[hm,abW h0];rfl
  have l6:=(FG n (s.map (·.n)) hn (fun w hw=>by obtain⟨y,hy,rfl⟩:=ab1.1 hw;exact lR (hp y hy)) (by rw[abz];omega) (by rw[pB];omega) (by rw[pB];exact ht)).ok
  have hz:oo (.aB 1 (s.map fun x=>I x.n))=Ints (s.map (·.n)):=by
   show DV.sl 1 (w8 _)=DV.sl 1 _
   rw[fE (fun _=>rfl),List.map_map];rfl
  rw[<-hz]at l6
  refine .inl (.inr ⟨_,fun _=>l6,?_⟩)
  rw[hc]
  exact⟨rf,tv⟩
 ·intro h
  have hc:qq s n mixed=cg n s:=by
   unfold qq
   have:=lQ h
   cases mixed with
   |false=>rfl
   |true=>
    have:¬0<n:=fun h0=>this ⟨rfl,abW h0⟩
    rw[abX this];rfl
  rw[hc]
  exact⟨DV.Le.of_eq (by show DV.sl 1 (w8 ((cg n s).map I))=_;rw[fE (fun _=>rfl)]),tv⟩
def FI(s:List Lt)(n:Int)(mixed:Bool):List DV:=bif decide (bQ s<n)then[aS [],aS [],I 10]else[aS (gj s n mixed).1,aS (gj s n mixed).2,I 0]
theorem Sp{s:List Lt}(h:ca s=true):bQ s=du s:=by unfold bQ;rw[h];rfl
theorem Ia(s:List Lt)(n:Int)(mixed:Bool)(hn:0<=n/\n<=1099511627776)(hs:ca s=true):aO Tryz.prog 101 [aS s,I n,B mixed] (FI s n mixed):=by
 refine pO Tryz.func101 rfl (by kernel_rfl) rfl ?_
 obtain⟨hl,hp⟩:=hZ hs
 refine .inl ⟨_,fun _=>(gh s (by omega)).ok,?_⟩
 rw[hs]
 repeat first|apply g1|apply g2|apply g3|apply g4|apply g5
 refine aby (fun h=>by simp at h;omega) fun _=>?_
 refine .inl ⟨_,fun _=>(kz s (by omega)).ok,?_⟩
 refine aby ?_ ?_
 ·intro h
  unfold FI
  rw[h]
  exact⟨DV.aL 3,DV.aL 3,rf,tv⟩
 intro h
 have ht:n<=du s:=by have:=abR h;rw[Sp hs]at this;omega
 unfold FI
 rw[h]
 have hk:=C6 mixed hn.1 hp ht
 refine .inl ⟨_,fun _=>(FH s n mixed hn hs ht).ok,?_⟩
 have hM:gj s n mixed=mo s (qq s n mixed) s.length:=rfl
 generalize qq s n mixed=ks at*
 refine⟨Nat,fun i=>⟨0,[(0,.dv (aS s)),(10,.dv (Ints ks)),(11,.dv (aS (mo s ks i).1)),(12,.dv (aS (mo s ks i).2)),(13,.dv (I i))],[]⟩,fun i=>i<=s.length,fun i=>s.length-i,0,fun _=>rfl,⟨⟨rf,rf,DV.aL 3,DV.aL 3,rf,tv⟩,tv,rfl,rfl⟩,abO _,?_⟩
 rintro i hi
 refine aby ?_ ?_
 ·intro h
  have au:i<s.length:=by have:=abQ h;rw[abz]at this;omega
  obtain⟨x,hx⟩:∃x,s[i]?=some x:=⟨_,aaa au⟩
  obtain⟨k,AL⟩:∃k,ks[i]?=some k:=⟨_,aaa (show i<ks.length by rw[hk.1];omega)⟩
  have hb:=hk.2 i _ hx
  rw[abE,AL]at hb
  simp only[Option.getD_some]at hb
  have T6:=aw.1 (hp x (abC hx))
  obtain⟨p1,p2,p3,p4⟩:=H9 hp hk i (by omega)
  have dQ:=yY hx AL
  generalize hq:mo s ks i=q at*
  have ab:∀{l:List Lt},(∀y∈l,aQ y=true)->∀y∈l,0<=y.a/\y.a<=1099511627776/\0<=y.n/\y.n<=1099511627776:=fun h y hy=>by have:=aw.1 (h y hy);omega
  have ix:(s.map aF)[(i:Int).toNat]?=some (aF x):=by rw[abB];simp[hx]
  have ik:(ks.map I)[(i:Int).toNat]?=some (I k):=by rw[abB];simp[AL]
  have js:=(pA q.1 ⟨x.f,x.a,k⟩ (by omega) (ab p1) (by simp only;omega)).ok
  have lJ:=(pA q.2 ⟨x.f,x.a+k,x.n-k⟩ (by omega) (ab p2) (by simp only;omega)).ok
  refine⟨aF x,fun _=>⟨by omega,ix⟩,aF x,fun _=>⟨by omega,ix⟩,I k,fun _=>⟨by omega,ik⟩,?_⟩
  simp only[hq]
  refine .inl ⟨_,fun _=>js,?_⟩
  refine⟨by kernel_rfl,?_⟩
  refine⟨aF x,fun _=>⟨by omega,ix⟩,aF x,fun _=>⟨by omega,ix⟩,I k,fun _=>⟨by omega,ik⟩,fun _=>⟨by omega,by omega⟩,aF x,fun _=>⟨by omega,ix⟩,I k,fun _=>⟨by omega,ik⟩,fun _=>⟨by omega,by omega⟩,?_⟩
  refine .inl ⟨_,fun _=>lJ,?_⟩
  exact⟨by kernel_rfl,fun _=>⟨by omega,by omega⟩,i+1,jn (by simp only[dQ];rfl) rfl rfl rfl,by omega,mlt au⟩
 ·intro h
  have he:i=s.length:=by have:=abR h;rw[abz]at this;omega
  subst he
  rw[hM]
  exact⟨rf,rf,rf,tv⟩
end
end Go.Proofs.YtpbiiigpphehbaaGreatDoor
