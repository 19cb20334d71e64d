import Derived.Test.YtpbiiigpphehbaaGreatDoorFM28
import Derived.Test.YtpbiiigpphehbaaGreatDoorFM37
import Derived.Lib.ItoaNum
import Derived.Shelf.SlSortCmp.Xorshift
import Derived.Shelf.SlSortCmp.Whole1
import Derived.Test.YtpbiiigpphehbaaGreatDoorFM43
import Derived.Test.YtpbiiigpphehbaaGreatDoorFM45
import Derived.Test.YtpbiiigpphehbaaGreatDoorFM35
import Derived.Test.YtpbiiigpphehbaaGreatDoorFM41
import Derived.WalkKit
import Derived.Lib.Mul64
import Derived.Laws.Bits64b
set_option linter.all false
namespace Go.Proofs.YtpbiiigpphehbaaGreatDoor
set_option maxRecDepth 100000
set_option maxHeartbeats 4000000
section
open Go.TM
def pfF(s:dJ)(a:Int×RL)(m:dX):Int×RL:=if a.1=0 then cE a.2 s m else a
def fF(R:RL)(s:dJ)(i:Nat):Int×RL:=(s.mv.take i).foldl (pfF s) (0,R)
theorem mW{R:RL}{s:dJ}{i:Nat}{m:dX}(h:s.mv[i]?=some m)(h0:(fF R s i).1=0):fF R s (i+1)=cE (fF R s i).2 s m:=by
 unfold fF at*
 rw[abJ,h,abZ]
 exact if_pos h0
theorem qj{R:RL}{s:dJ}{i:Nat}(h0:(fF R s i).1≠0):∀j,fF R s (i+j)=fF R s i
 |0=>rfl
 |j+1=>by
  have ih:=qj h0 j
  unfold fF at*
  rw[show i+(j+1)=i+j+1 by omega,abJ,abZ,ih]
  cases s.mv[i+j]? with
  |none=>rfl
  |some m=>exact if_neg h0
theorem qk(R:RL)(s:dJ)(m:dX):(cE R s m).2.sp=R.sp/\(cE R s m).2.sh=R.sh:=by
 unfold cE;split;exact⟨rfl,rfl⟩;split<;>exact⟨rfl,rfl⟩
theorem zA(R:RL)(s:dJ):∀i,(fF R s i).2.sp=R.sp/\(fF R s i).2.sh=R.sh
 |0=>⟨rfl,rfl⟩
 |i+1=>by
  have ih:=zA R s i
  unfold fF at*
  rw[abJ,abZ]
  cases s.mv[i]? with
  |none=>exact ih
  |some m=>
   show(pfF s _ m).2.sp=_/\(pfF s _ m).2.sh=_
   unfold pfF
   split
   ·rw[(qk _ s m).1,(qk _ s m).2];exact ih
   ·exact ih
theorem Qp{n:Int}{s:dJ}(h:lC n s=true):1<=s.mv.length:=by
 simp only[lC,aca,decide_eq_true_eq]at h
 exact h.1.1.2.2.2.1
def jY(R:RL)(s:dJ):dJ:={ s with id:=R.sh*4294967296+R.sp.length }
def Xm(R R1:RL):ae:=[(0,.cells (.dv (I R1.sh)::eB iO++[.own 6 0 0 [],.own 7 0 0 [],.own 3 0 0 []])),(1,.tree 1 0 (.aB 3 (R1.st.map gy))),(2,.tree 1 0 (.aB 11 (R1.fl.map aM))),(3,.tree 0 0 (.aB 7 (R1.sp.map aC))),(6,.tree 0 0 (.aB 3 (R.st.map gy))),(7,.tree 0 0 (.aB 11 (R.fl.map aM)))]
variable [bJ]
theorem cOR{f:Nat}{fn:Func}{c:Code}{args:List AV}{m ex:Nat}{K:ae}{Q:List AV->ae->Prop}(hf:Tryz.prog.funcs[f]?=some fn)(hb:fn.body=some c)
 (ha:((!(fn.name== "runtime.NumGoroutine"))&&(Nat.ble args.length fn.ntmps&&cI.wf ⟨m,de 0 args,K⟩))=true) (h:fg Tryz.prog j4 .fn fn.ntmps m c (pd j4 fn m ex Q) m (de 0 args) K):bV Tryz.prog f args m K ex Q:=by
 rw[aca,acd]at ha
 exact mJ gx mixed (eU _) (fq _) hf hb ha.1 ha.2 h
theorem Gm(R:RL)(s:dJ)(hn:R.sp.length<=900000)(hr:oC s.aD)(hl:s.mv.length<=1000)(lu:∀m∈s.mv,m.ps.length<=4000)(hc:65536<=R.sp.length\/lC (eC R.sp) s=false):aq Tryz.prog 8 [.ptr 0 0,cJ (aC s)] 4 (dE R) 0 [.dv (I 0),.dv (I (if 65536<=R.sp.length then 4 else 1))] (dE R):=by
 refine cO Tryz.func8 rfl (by kernel_rfl) ?_
 have lp:(R.sp.map aC).length=R.sp.length:=abz ..
 refine aby (fun h=>?_) fun h=>?_
 ·have h:65536<=R.sp.length:=by have:=abQ h;omega
  rw[if_pos h]
  exact ext (by kernel_rfl) rfl rfl
 ·have h:¬65536<=R.sp.length:=by have:=abR h;omega
  rw[if_neg h]
  refine .inr (cl [0,1,2,3] (y7 R s hr (by omega) hl lu) (by kernel_rfl) rfl rfl ?_)
  rw[hc.resolve_left h]
  refine aby (fun _=>?_) fun h=>by cases h
  exact ext (by kernel_rfl) rfl rfl
theorem Qq(R:RL)(s:dJ)(hr:oC s.aD)(hl:s.mv.length<=1000)(lu:∀m∈s.mv,m.ps.length<=20)(hn:R.sp.length<65536)(hp:lC (eC R.sp) s=true)(hG:∀i,RG (fF R s i).2)(hB:∀m∈s.mv,fV m=true)(hb:s.kind=5->∀m∈s.mv,∀x∈m.ps,0<=x.f/\x.f<=9223372036854775807):bV Tryz.prog 8 [.ptr 0 0,cJ (aC s)] 4 (dE R) 5 fun rs k=>
 ((fF R s s.mv.length).1=0/\rs=[.dv (I (R.sh*4294967296+R.sp.length)),.dv (I 0)]/\k=jI 1 1 1 { (fF R s s.mv.length).2 with sp:=R.sp++[jY R s] })\/
 ((fF R s s.mv.length).1≠0/\rs=[.dv (I 0),.dv (I (fF R s s.mv.length).1)]/\∃R1:RL,k=Xm R R1/\R1.sh=R.sh/\R1.sp=R.sp):=by
 refine cOR Tryz.func8 rfl (by kernel_rfl) ?_
 have lp:(R.sp.map aC).length=R.sp.length:=abz ..
 have lm:(s.mv.map ak).length=s.mv.length:=abz ..
 have hR:=hG 0
 have aj:=hR.st
 have oe:=hR.fl
 have wV:=hR.sh
 have aj:R.st.length<=900:=aj
 have oe:R.fl.length<=900000:=oe
 have wV:0<=R.sh/\R.sh<=1000:=wV
 refine aby (fun h=>?_) fun h=>?_
 ·have:=abQ h;omega
 refine .inr (cl [0,1,2,3] (y7 R s hr (by omega) hl fun m hm=>by have:=lu m hm;omega) (by kernel_rfl) rfl rfl ?_)
 rw[hp]
 refine aby (fun h=>by cases h) fun _=>?_
 refine .inr (cl [0,1,2,3] (Im R (by omega) (by omega) (by omega)) (by kernel_rfl) rfl rfl ?_)
 refine⟨Bool×Nat,fun x=>⟨9,[(0,.ptr 0 0),(3,.ptr 4 0),(7,.ptr 5 0),(8,.dv (I x.2))],jI (bif x.1 then 1 else 0) (bif x.1 then 1 else 0) 0 (fF R s x.2).2++[(4,.cells (eB (aC s).cells)),(5,.cells (.dv (I R.sh)::eB iO++[.own 6 0 0 [],.own 7 0 0 [],.own 8 0 0 []])),(6,.tree 0 0 (.aB 3 (R.st.map gy))),(7,.tree 0 0 (.aB 11 (R.fl.map aM))),(8,.tree 0 0 (.aB 7 (R.sp.map aC)))]⟩,fun x=>x.2<=s.mv.length/\(fF R s x.2).1=0/\(x.1=false->x.2=0),fun x=>s.mv.length-x.2,(false,0),(fun x=>(by rcases x with⟨_|_,i⟩<;>rfl)),jn rfl rfl rfl rfl,⟨abO _,rfl,fun _=>rfl⟩,?_⟩
 rintro⟨b,i⟩ ⟨hi,h0,mY⟩
 have mY:b=false->i=0:=mY
 have hi:i<=s.mv.length:=hi
 have h0:(fF R s i).1=0:=h0
 have l6:=zA R s i
 cases b
 ·refine aby ?_ ?_
  ·intro h
   have au:i<s.mv.length:=by have:=abQ h;omega
   obtain⟨m,hm⟩:∃m,s.mv[i]?=some m:=⟨_,aaa au⟩
   have rP:=abC hm
   have im:(s.mv.map ak)[(i:Int).toNat]?=some (ak m):=by rw[abB];simp[hm]
   have dQ:=mW hm h0
   have hpf:=y9 (fF R s i).2 s m (hG i) (hB m rP) (lu m rP) fun hk=>hb hk m rP
   refine⟨ak m,fun _=>⟨Int.natCast_nonneg _,im⟩,?_⟩
   refine .inr (cl [0,1,2,3] hpf (by kernel_rfl) rfl rfl ?_)
   refine⟨by kernel_rfl,aby (fun he=>?_) fun he=>?_⟩
   ·have he:(cE (fF R s i).2 s m).1≠0:=fun h=>(by rw[h]at he;cases he)
    have iW:fF R s s.mv.length=cE (fF R s i).2 s m:=by
     have:=qj (R:=R) (s:=s) (i:=i+1) (by rw[dQ];exact he) (s.mv.length-(i+1))
     rw[show i+1+(s.mv.length-(i+1))=s.mv.length by omega]at this
     rw[this,dQ]
    refine⟨[.dv (I 0),.dv (I (cE (fF R s i).2 s m).1)],Xm R (cE (fF R s i).2 s m).2,.inr ⟨by rw[iW];exact he,by rw[iW],_,rfl,(qk _ s m).2.trans l6.2,(qk _ s m).1.trans l6.1⟩,by kernel_rfl,⟨rf,rf,tv⟩,bl (k:=Xm R (cE (fF R s i).2 s m).2) rfl⟩
   ·have he:(cE (fF R s i).2 s m).1=0:=by simpa using he
    exact⟨fun _=>⟨by omega,by omega⟩,(true,i+1),jn rfl (by simp only[dQ];rfl) rfl rfl,⟨au,by rw[dQ];exact he,fun h=>(by cases h)⟩,mlt au⟩
  ·intro h
   have:=abR h
   have FP:=mY rfl
   have:1<=s.mv.length:=Qp hp
   omega
 ·refine aby ?_ ?_
  ·intro h
   have au:i<s.mv.length:=by have:=abQ h;omega
   obtain⟨m,hm⟩:∃m,s.mv[i]?=some m:=⟨_,aaa au⟩
   have rP:=abC hm
   have im:(s.mv.map ak)[(i:Int).toNat]?=some (ak m):=by rw[abB];simp[hm]
   have dQ:=mW hm h0
   have hpf:=y9 (fF R s i).2 s m (hG i) (hB m rP) (lu m rP) fun hk=>hb hk m rP
   refine⟨ak m,fun _=>⟨Int.natCast_nonneg _,im⟩,?_⟩
   refine .inr (cl [0,1,2,3] hpf (by kernel_rfl) rfl rfl ?_)
   refine⟨by kernel_rfl,aby (fun he=>?_) fun he=>?_⟩
   ·have he:(cE (fF R s i).2 s m).1≠0:=fun h=>(by rw[h]at he;cases he)
    have iW:fF R s s.mv.length=cE (fF R s i).2 s m:=by
     have:=qj (R:=R) (s:=s) (i:=i+1) (by rw[dQ];exact he) (s.mv.length-(i+1))
     rw[show i+1+(s.mv.length-(i+1))=s.mv.length by omega]at this
     rw[this,dQ]
    refine⟨[.dv (I 0),.dv (I (cE (fF R s i).2 s m).1)],Xm R (cE (fF R s i).2 s m).2,.inr ⟨by rw[iW];exact he,by rw[iW],_,rfl,(qk _ s m).2.trans l6.2,(qk _ s m).1.trans l6.1⟩,by kernel_rfl,⟨rf,rf,tv⟩,bl (k:=Xm R (cE (fF R s i).2 s m).2) rfl⟩
   ·have he:(cE (fF R s i).2 s m).1=0:=by simpa using he
    exact⟨fun _=>⟨by omega,by omega⟩,(true,i+1),jn rfl (by simp only[dQ];rfl) rfl rfl,⟨au,by rw[dQ];exact he,fun h=>(by cases h)⟩,mlt au⟩
  intro h
  have he:i=s.mv.length:=by have:=abR h;omega
  subst he
  have x1:-9223372036854775808<=(fF R s s.mv.length).2.sh*4294967296/\(fF R s s.mv.length).2.sh*4294967296<=9223372036854775807:=by rw[l6.2];omega
  have x2:-9223372036854775808<=(fF R s s.mv.length).2.sh*4294967296+(((fF R s s.mv.length).2.sp.map aC).length:Int)/\(fF R s s.mv.length).2.sh*4294967296+(((fF R s s.mv.length).2.sp.map aC).length:Int)<=9223372036854775807:=by rw[l6.2,l6.1];omega
  refine⟨fun _=>x1,fun _=>x2,by kernel_rfl,?_⟩
  have Sn:(((fF R s s.mv.length).2.sp.map aC).length:Int)=R.sp.length:=by rw[l6.1,lp]
  refine .inl ⟨[aC (jY R s)],rfl,⟨aG (by rw[l6.2,Sn];rfl),rf,rf,rf,rf,rf,rf,tv⟩,(by simp;rfl),?_⟩
  refine .inr ⟨[aC (jY R s)],b7.refl _,bS (by simp[l6.1];omega),by simp[l6.1];omega,?_⟩
  refine⟨by kernel_rfl,?_⟩
  refine⟨[.dv (I (R.sh*4294967296+R.sp.length)),.dv (I 0)],jI 1 1 1 { (fF R s s.mv.length).2 with sp:=R.sp++[jY R s] },.inl ⟨h0,rfl,rfl⟩,by kernel_rfl,⟨aG (by rw[l6.2,Sn]),rf,tv⟩,bl (k:=jI 1 1 1 { (fF R s s.mv.length).2 with sp:=R.sp++[jY R s] }) ?_⟩
  simp only[jI,abS,<-l6.1]
  rfl
end
section
open Go.TM
def rlY(R:RL):ae:=[(0,.cells (Ze 2 2 0 R)),(1,.tree 2 0 (.aB 3 (R.st.map gy))),(2,.tree 2 0 (.aB 11 (R.fl.map aM))),(3,.tree 0 0 (.aB 7 (R.sp.map aC))),(6,.dead),(7,.dead)]
variable [bJ]
theorem zB{P:Program}{f:Nat}{args:List AV}{m ex:Nat}{K:ae}{Q Q':List AV->ae->Prop}(h:bV P f args m K ex Q)(hQ:∀r k,Q r k->Q' r k):bV P f args m K ex Q':=
 ⟨h.1,fun w G vs a b c=>Calls.mono (h.2 w G vs a b c) fun _ _ ⟨v,r,k,G',h1,h2,h3⟩=>⟨v,r,k,G',h1,hQ r k h2,h3⟩⟩
structure SG(R:RL)(s:dJ):Prop where
 aD:oC s.aD
 len:s.mv.length<=1000
 ps:∀m∈s.mv,m.ps.length<=20
 sp:R.sp.length<65536
 mg:∀i,RG (fF R s i).2
 base:∀m∈s.mv,fV m=true
 imp:s.kind=5->∀m∈s.mv,∀x∈m.ps,0<=x.f/\x.f<=9223372036854775807
theorem Gn(R:RL)(s:dJ)(h:SG R s)(hp:lC (eC R.sp) s=true)(h0:(fF R s s.mv.length).1=0):aq Tryz.prog 8 [.ptr 0 0,cJ (aC s)] 4 (dE R) 5 [.dv (I (R.sh*4294967296+R.sp.length)),.dv (I 0)] (jI 1 1 1 { (fF R s s.mv.length).2 with sp:=R.sp++[jY R s] }):=
 zB (Qq R s h.aD h.len h.ps h.sp hp h.mg h.base h.imp) fun r k hk=>by
  rcases hk with⟨_,h2,h3⟩|⟨h1,_⟩
  ·exact⟨h2,h3⟩
  ·exact absurd h0 h1
theorem Gp(R:RL)(s:dJ)(h:SG R s)(hp:lC (eC R.sp) s=true)(h0:(fF R s s.mv.length).1≠0):aq Tryz.prog 8 [.ptr 0 0,cJ (aC s)] 4 (dE R) 5 [.dv (I 0),.dv (I (fF R s s.mv.length).1)] (rlY R):=by
 have h1:=zB (Qq R s h.aD h.len h.ps h.sp hp h.mg h.base h.imp) (Q':=fun r k=>r=[.dv (I 0),.dv (I (fF R s s.mv.length).1)]/\∃R1:RL,k=Xm R R1/\R1.sh=R.sh/\R1.sp=R.sp) fun r k hk=>by
  rcases hk with⟨h1,_⟩|⟨_,h2,h3⟩
  ·exact absurd h1 h0
  ·exact⟨h2,h3⟩
 have h2:=vO (i:=1) (j:=6) (R':=fun r k=>r=[.dv (I 0),.dv (I (fF R s s.mv.length).1)]/\∃fl1:List oj,k=[(0,ar.cells (.dv (I R.sh)::eB iO++[.own 1 2 0 [],.own 7 0 0 [],.own 3 0 0 []])),(1,.tree 2 0 (.aB 3 (R.st.map gy))),(2,.tree 1 0 (.aB 11 (fl1.map aM))),(3,.tree 0 0 (.aB 7 (R.sp.map aC))),(6,.dead),(7,.tree 0 0 (.aB 11 (R.fl.map aM)))]) h1 (by omega) (by omega) (by omega) fun r k hk=>by
  obtain⟨hr,R1,rfl,hs,hp⟩:=hk
  refine⟨_,⟨hr,R1.fl,rfl⟩,1,0,_,_,rfl,rfl,rfl,rfl,fun q h1 h2=>?_⟩
  match q,h1,h2 with
  |0,_,_=>
   show L6 1 2 6 (.cells _) (.cells _)
   rw[hs]
   exact .cells (.same _ (.same _ (.same _ (.same _ (.same _ (.rY (.same _ (.same _ .nil))))))))
  |2,_,_=>exact .refl _
  |3,_,_=>show L6 1 2 6 (.tree 0 0 _) (.tree 0 0 _);rw[hp];exact .refl _
  |4,_,_=>exact .refl _
  |5,_,_=>exact .refl _
  |7,_,_=>exact .refl _
  |q+8,_,_=>exact .refl _
 exact vO (i:=2) (j:=7) h2 (by omega) (by omega) (by omega) fun r k hk=>by
  obtain⟨hr,fl1,rfl⟩:=hk
  refine⟨_,⟨hr,rfl⟩,1,0,_,_,rfl,rfl,rfl,rfl,fun q h1 h2=>?_⟩
  match q,h1,h2 with
  |0,_,_=>exact .cells (.same _ (.same _ (.same _ (.same _ (.same _ (.same _ (.rY (.same _ .nil))))))))
  |1,_,_=>exact .refl _
  |3,_,_=>exact .refl _
  |4,_,_=>exact .refl _
  |5,_,_=>exact .refl _
  |6,_,_=>exact .refl _
  |q+8,_,_=>exact .refl _
end
section
open Go.TM
def MU(p:Ky×List Lt):Ky×Int:=(p.1,du p.2)
def pQ(l:List (Ky×Int)):Prop:=l.Pairwise fun x y=>¬(y.1.1<x.1.1\/y.1.1=x.1.1/\y.1.2<x.1.2)
variable [bJ]
theorem bHo{n:Nat}(h:n<=1000000):n*(nth j4 (nth j4 91).elem).bytes<=140737488355328:=by
 rw[show(nth j4 (nth j4 91).elem).bytes=24 by kernel_rfl];omega
theorem I0(P:PL)(L:List (Ky×Int))(hL:∀l',l'.Perm (P.st.map MU)->pQ l'->l'=L)(h1:P.st.length<=900000)(hl:∀p∈P.st,p.2.length<=1000000/\∀x∈p.2,0<=x.n/\x.n<=1099511627776):aq Tryz.prog 34 [.ptr 0 0] 7 (fG P) 0 [.dv (.sl 3 (L.map eW))] (fG P):=by
 have ls:(pI P.st).length=P.st.length:=abz ..
 refine cX Tryz.func34 rfl (by kernel_rfl) ?_
 refine⟨eW ((0,0),0),⟨rf,rf,rf,tv⟩,Int.le_refl _,Int.natCast_nonneg _,(by rw[show(nth j4 (nth j4 91).elem).bytes=24 by kernel_rfl];omega),by omega,false,(fun h=>by cases h),?_⟩
 refine⟨LpS,fun z=>⟨9,[(0,.ptr 0 0),(3,.own 7 0 0 []),(16,.ptr 8 0)],[(0,.cells (plC P)),(1,.held),(2,.tree 0 0 (.omap cC (nZ P.b8))),(3,.tree 0 0 (.aB 7 (P.sp.map aC))),(4,.tree 0 0 (.aB 11 (P.fl.map aM))),(5,.tree 0 0 (.omap cC (pJ P.imp))),(6,.tree 0 0 (.omap cC (pJ P.ret))),(7,.tree 0 0 (.aB 3 ((z.done.map MU).map eW))),(8,.ka 1 [] (.omap ey (pI P.st)) (pI z.left) none)]⟩,fun z=>(z.done++z.left).Perm P.st,fun z=>z.left.length,⟨P.st,[]⟩,fun z=>rfl,?_,List.Perm.refl _,?_⟩
 ·refine⟨⟨rfl,rfl,rfl,tv⟩,?_,rfl,rfl⟩
  repeat' first|exact trivial|rfl|exact rf|refine aby ?_ ?_
  all_goals exact .inl rfl
 ·rintro⟨left,done⟩ g1
  simp only at g1
  refine⟨tv,fun h5=>⟨(fun h6=>by cases h6),fun _=>?_⟩,fun pos cc jt=>⟨fun _=>?_,fun h6=>by cases h6⟩⟩
  ·have hz:left=[]:=List.map_eq_nil_iff.1 h5
   subst hz
   rw[List.append_nil]at g1
   refine .inr ⟨[7],[.own 0 0 0 [],.dv (.fn 63 [])],_,0,_,FV (done.map MU) (by rw[abz,g1.length_eq];omega),by kernel_rfl,⟨rfl,rf,tv⟩,⟨⟨rfl,rfl⟩,tv⟩,?_⟩
   rintro rs K2 ⟨rfl,l',⟨hp,hs⟩,rfl⟩
   have DQ:l'=L:=hL l' (hp.trans (g1.map MU)) hs
   subst DQ
   refine⟨by kernel_rfl,?_⟩
   exact⟨_,_,⟨rfl,rfl⟩,by kernel_rfl,⟨pH 3 (fun _=>rfl),tv⟩,bl (k:=fG P) rfl⟩
  ·have jt:(left.map fun p=>DV.fe (qF p.1) (aS p.2))[pos]?=some cc:=jt
   rw[abB]at jt
   obtain⟨⟨k,l⟩,hk,rfl⟩:∃p,left[pos]?=some p/\cc=DV.fe (qF p.1) (aS p.2):=by
    cases hq:left[pos]? with
    |none=>rw[hq]at jt;cases jt
    |some p=>rw[hq]at jt;exact⟨p,rfl,by simpa using jt.symm⟩
   have A5:((done++[(k,l)])++left.eraseIdx pos).Perm P.st:=by
    rw[ab0];exact((pN hk).append_left done).symm.trans g1
   have Tw:=hl (k,l) (A5.mem_iff.1 (by simp))
   refine⟨gU l,?_⟩
   have na:done.length<=900000:=by have:=g1.length_eq;rw[abM]at this;omega
   have hap:((done++[(k,l)]).map MU).map eW=(done.map MU).map eW++[eW (MU (k,l))]:=by simp
   refine .inl ⟨_,fun _=>(mR l Tw.1 Tw.2).ok,?_⟩
   refine .inl ⟨[eW (MU (k,l))],rfl,⟨rf,rf,rf,tv⟩,(by simp;rfl),?_⟩
   refine .inr ⟨[eW (MU (k,l))],b7.refl _,bHo (by simp;omega),by simp;omega,?_⟩
   refine .inl ⟨by kernel_rfl,?_⟩
   refine⟨⟨left.eraseIdx pos,done++[(k,l)]⟩,?_,A5,?_⟩
   ·refine⟨⟨rfl,rfl,rfl,tv⟩,?_,rfl,rfl⟩
    repeat' first|exact trivial|rfl|exact rf|refine aby ?_ ?_
    all_goals first|exact .inl rfl|exact congrArg (DV.aB 3) hap.symm|exact congrArg (DV.aB 3) hap|exact kB _ left pos|exact(kB _ left pos).symm
   ·have:=(abA.1 hk).1
    show(left.eraseIdx pos).length<left.length
    rw[List.length_eraseIdx_of_lt this];omega
end
section
theorem BR{α:Type}{r:α->α->Prop}:∀{l l':List α},(∀a∈l,∀b∈l,r a b->r b a->a=b)->l.Perm l'->l.Pairwise r->l'.Pairwise r->l=l'
 |[],l',_,h,_,_=>h.nil_eq
 |a::t,[],_,h,_,_=>by have:=h.length_eq;simp at this
 |a::t,b::t',ZL,h,h1,h2=>by
  have X8:a=b:=by
   have ha:a∈b::t':=h.mem_iff.1 abL
   have hb:b∈a::t:=h.mem_iff.2 abL
   rcases abG.1 ha with e|ha'
   ·exact e
   rcases abG.1 hb with e|dI
   ·exact e.symm
   exact ZL a abL b hb ((List.pairwise_cons.1 h1).1 b dI) ((List.pairwise_cons.1 h2).1 a ha')
  subst X8
  have ht:t.Perm t':=List.Perm.cons_inv h
  rw[BR (fun x hx y hy=>ZL x (abH _ hx) y (abH _ hy)) ht (List.pairwise_cons.1 h1).2 (List.pairwise_cons.1 h2).2]
theorem Gq:∀{l:List (Ky×Int)},(l.map (·.1)).Nodup->∀a∈l,∀b∈l,a.1=b.1->a=b
 |x::l,h,a,ha,b,hb,e=>by
  have h1:=(List.nodup_cons.1 h).1
  have h2:=(List.nodup_cons.1 h).2
  rcases abG.1 ha with rfl|ha'<;>rcases abG.1 hb with rfl|dI
  ·rfl
  ·exact absurd (show a.1∈l.map (·.1)by rw[e];exact List.mem_map_of_mem dI) h1
  ·exact absurd (show b.1∈l.map (·.1)by rw[<-e];exact List.mem_map_of_mem ha') h1
  ·exact Gq h2 a ha' b dI e
theorem Ws{l l':List (Ky×Int)}(hk:(l.map (·.1)).Nodup)(h:l.Perm l')(h1:pQ l)(h2:pQ l'):l=l':=
 BR (fun a ha b hb X8 hba=>Gq hk a ha b hb (by
  obtain⟨⟨a1,a2⟩,a3⟩:=a
  obtain⟨⟨b1,b2⟩,b3⟩:=b
  simp only at X8 hba⊢
  rw[Prod.mk.injEq]
  omega)) h h1 h2
end
section
def S8(a b:Ky):Prop:=a.1<b.1\/a.1=b.1/\a.2<b.2
theorem Gr{a b:Ky}:IC a b=true↔S8 a b:=by
 unfold IC S8
 by_cases h1:a.1<b.1
 ·simp[h1]
 ·by_cases h2:a.1=b.1
  ·simp[h2]
  ·simp[h1,h2]
theorem Mw(p:Ky×Int)(r:HL)(x:Ky×Int):uZ (p::r) x=if IC p.1 x.1 then p::uZ r x else x::p::r:=by
 unfold uZ
 simp only[rR]
 split<;>simp
theorem BS(L:HL)(x:Ky×Int):(uZ L x).Perm (x::L):=by
 unfold uZ
 refine List.perm_middle.trans ?_
 rw[List.take_append_drop]
theorem vZ:∀{L:HL} {x:Ky×Int},L.Pairwise (fun x y=>¬S8 y.1 x.1)->(uZ L x).Pairwise (fun x y=>¬S8 y.1 x.1)
 |[],x,_=>by simp[uZ,rR]
 |p::r,x,h=>by
  obtain⟨h1,h2⟩:=List.pairwise_cons.1 h
  rw[Mw]
  split
  ·rename_i hp
   have hp:=Gr.1 hp
   refine List.pairwise_cons.2 ⟨fun y hy=>?_,vZ h2⟩
   rcases abG.1 ((BS r x).mem_iff.1 hy)with rfl|hy
   ·unfold S8 at hp⊢;omega
   ·exact h1 y hy
  ·rename_i hp
   have hp:¬S8 p.1 x.1:=fun h=>hp (Gr.2 h)
   refine List.pairwise_cons.2 ⟨fun y hy=>?_,h⟩
   rcases abG.1 hy with rfl|hy
   ·exact hp
   ·have:=h1 y hy
    unfold S8 at this hp⊢;omega
theorem rV:∀(m:SM) (L:HL),L.Pairwise (fun x y=>¬S8 y.1 x.1)->(m.foldl V8 L).Pairwise (fun x y=>¬S8 y.1 x.1)/\(m.foldl V8 L).Perm ((m.filter fun p=>decide (bQ p.2≠0)).map (fun p=>(p.1,bQ p.2))++L)
 |[],L,h=>⟨h,by simp⟩
 |p::m,L,h=>by
  simp only[List.foldl_cons,List.filter_cons]
  unfold V8
  by_cases h0:bQ p.2=0
  ·rw[if_pos h0]
   simp only[h0,ne_eq,not_true_eq_false,decide_false,Bool.false_eq_true,if_false]
   exact rV m L h
  ·rw[if_neg h0]
   have:=rV m _ (vZ (x:=(p.1,bQ p.2)) h)
   refine⟨this.1,this.2.trans ?_⟩
   simp only[h0,ne_eq,not_false_eq_true,decide_true,if_true,List.map_cons,List.cons_append]
   exact((BS L (p.1,bQ p.2)).append_left _).trans List.perm_middle
theorem Gs(m:SM):pQ (tr m)/\(tr m).Perm ((m.filter fun p=>decide (bQ p.2≠0)).map fun p=>(p.1,bQ p.2)):=by
 have:=rV m [] .nil
 rw[List.append_nil]at this
 exact⟨this.1.imp fun {x y} h=>h,this.2⟩
end
section
open Go.TM Go.RowKit
theorem pR(a:Nat)(ha:a<18446744073709551616):bits .and .u64 (a:Int) 4294967295=((a%4294967296:Nat):Int):=by
 have h:=bits_and_u64_nat a 4294967295 ha (by omega)
 have e:a &&& 4294967295=a%4294967296:=Nat.and_two_pow_sub_one_eq_mod a 32
 rw[e]at h
 exact h
theorem DC(a:Nat):(a:Int)/4294967296=((a/4294967296:Nat):Int):=by omega
theorem tE(a b:Nat):(a:Int)*(b:Int)=((a*b:Nat):Int):=(Int.natCast_mul a b).symm
theorem xe(a b:Nat):(a:Int)+(b:Int)=((a+b:Nat):Int):=(Int.natCast_add a b).symm
theorem cA(a:Nat)(ha:a<18446744073709551616):IntKind.u64.wrap (a:Int)=(a:Int):=by rw[IntKind.wrap_u64];omega
theorem BT(a:Nat):IntKind.u64.wrap (a:Int)=((a%18446744073709551616:Nat):Int):=by rw[IntKind.wrap_u64];omega
theorem Gu(x y:Nat)(hx:x<18446744073709551616)(hy:y<18446744073709551616)(w:World):
 Calls Tryz.prog 245 #[.int .u64 x,.int .u64 y] w fun e w'=>e=.returned (.tuple #[.int .u64 ((x*y/18446744073709551616:Nat):Int),.int .u64 ((x*y%18446744073709551616:Nat):Int)])/\w'=w:=by
 obtain⟨bd,bt,bw,Ep⟩:=Lib.mul64_hi x y hx hy
 have ba:=Lib.half_mul_le (a:=x/4294967296) (b:=y/4294967296) (by omega) (by omega)
 have bb:=Lib.half_mul_le (a:=x/4294967296) (b:=y%4294967296) (by omega) (by omega)
 have bc:=Lib.half_mul_le (a:=x%4294967296) (b:=y/4294967296) (by omega) (by omega)
 have ba':x/4294967296*(y/4294967296)<18446744073709551616:=by omega
 have bb':x/4294967296*(y%4294967296)<18446744073709551616:=by omega
 have bc':x%4294967296*(y/4294967296)<18446744073709551616:=by omega
 have bh1:x/4294967296*(y/4294967296)+(x/4294967296*(y%4294967296)+x%4294967296*(y%4294967296)/4294967296)/4294967296<18446744073709551616:=by omega
 have bh:x/4294967296*(y/4294967296)+(x/4294967296*(y%4294967296)+x%4294967296*(y%4294967296)/4294967296)/4294967296+((x/4294967296*(y%4294967296)+x%4294967296*(y%4294967296)/4294967296)%4294967296+x%4294967296*(y/4294967296))/4294967296<18446744073709551616:=by omega
 go_enter Tryz.func245,Tryz.ntmps245
 go_wp2
 simp only[pR x hx,pR y hy,DC,tE,xe,cA _ bd,cA _ bb',cA _ bt,pR _ bt,cA _ bc',cA _ bw,cA _ ba',cA _ bh1,cA _ bh,BT (x*y)]
 rw[Ep]
 go_ret2
 exact⟨rfl,rfl⟩
variable [bJ]
abbrev U(n:Nat):DV:=.int .u64 (n:Int)
theorem I1(x y:Nat)(hx:x<18446744073709551616)(hy:y<18446744073709551616):aO Tryz.prog 245 [U x,U y] [U (x*y/18446744073709551616),U (x*y%18446744073709551616)]:=by
 refine⟨⟨_,Tryz.func245,by kernel_rfl,rfl⟩,fun w M vs dP na hr=>?_⟩
 obtain⟨v0,v1,rfl⟩:∃v0 v1,vs=[v0,v1]:=by
  match vs,hr.1 with
  |[a,b],_=>exact⟨a,b,rfl⟩
 have h0:=hr.2 0 _ v0 rfl rfl
 have h1:=hr.2 1 _ v1 rfl rfl
 cases h0 with|int=>cases h1 with|int=>
 refine(Gu x y hx hy w).mono ?_
 rintro e w' ⟨rfl,rfl⟩
 exact⟨_,M,rfl,Below.refl _ _,Mem.Le.refl _,dP,fun _ _=>rfl,[_,_],rfl,.cons (.int _ _) (.cons (.int _ _) (.nil _))⟩
theorem I2(x y:Nat)(hx:x<18446744073709551616)(hy:0<y)(hy2:y<18446744073709551616):aO Tryz.prog 246 [U 0,U x,U y] [U (x/y),U (x%y)]:=by
 refine EW gx mixed (eU _) (fq _) Tryz.func246 rfl (by kernel_rfl) rfl ?_
 have h0:¬(y:Int)=0:=by omega
 refine⟨fun h=>absurd (eq_of_beq h) h0,fun _=>⟨fun h=>absurd (abQ h) (by show¬(y:Int)<=0;omega),fun _=>⟨fun _=>?_,fun h=>by cases h⟩⟩⟩
 refine⟨fun _=>h0,fun _=>h0,by kernel_rfl,aG ?_,aG ?_,tv⟩
 ·rw[<-Int.ofNat_tdiv]
  exact cA _ (Nat.lt_of_le_of_lt (Nat.div_le_self x y) hx)
 ·exact(Int.ofNat_tmod x y).symm
end
section
theorem Qu{b q r x z u:Nat}(hi:q*x+r=u):q*(x*b+z)+b*r=u*b+q*z:=by
 subst hi
 rw[Nat.mul_add,Nat.add_mul,Nat.mul_assoc,Nat.mul_comm b r];omega
theorem KF{b q r x z u d:Nat}(hi:q*x+r=u)(h:q*z<=b*r+d):q*(x*b+z)<=u*b+d:=by
 have:=Qu (b:=b) (z:=z) hi
 omega
theorem ZN{b q r x z u d:Nat}(hi:q*x+r=u)(h:b*r+d<q*z):u*b+d<q*(x*b+z):=by
 have:=Qu (b:=b) (z:=z) hi
 omega
theorem Wu{b q u d y:Nat}(hu:u<y)(hd:d<b)(hq:b<=q):u*b+d<q*y:=by
 have h1:(u+1)*b<=y*b:=ab4 b hu
 have h2:y*b<=y*q:=Nat.mul_le_mul_left y hq
 rw[Nat.add_mul,Nat.one_mul]at h1
 rw[Nat.mul_comm q y]
 omega
theorem Wv{b q r x z u d:Nat}(hi:q*x+r=u)(hr:b<=r)(hu:u<x*b+z)(hz:z<b):q*z<=b*r+d:=by
 have h1:q*x<b*x:=by rw[Nat.mul_comm b x];omega
 have h2:q<b:=Nat.lt_of_mul_lt_mul_right h1
 have h3:q*z<=b*z:=ab4 z (by omega)
 have h4:b*z<=b*r:=Nat.mul_le_mul_left b (by omega)
 omega
theorem Qv{b q x z u d:Nat}(h:q*(x*b+z)<=u*b+d)(h2:(u*b+d)/(x*b+z)<=q)(hy:0<x*b+z):q=(u*b+d)/(x*b+z):=
 Nat.le_antisymm ((Nat.le_div_iff_mul_le hy).2 h) h2
theorem Qw{q U y:Nat}(hy:0<y)(h:U<q*y):U/y<=q-1:=by
 have:U/y<q:=(Nat.div_lt_iff_lt_mul hy).2 h
 omega
theorem Qx{b x z u d:Nat}(hx:0<x)(hd:d<b):(u*b+d)/(x*b+z)<=u/x:=by
 have hb:0<b:=by omega
 have h1:u<(u/x+1)*x:=by
  have:=Nat.div_add_mod u x
  have:=Nat.mod_lt u hx
  rw[Nat.add_mul,Nat.one_mul,Nat.mul_comm (u/x) x];omega
 have h2:(u*b+d)<(u/x+1)*(x*b+z):=by
  have h3:(u+1)*b<=((u/x+1)*x)*b:=ab4 b h1
  rw[Nat.mul_add,<-Nat.mul_assoc]
  rw[Nat.add_mul,Nat.one_mul]at h3
  omega
 have h4:0<x*b+z:=by have:=Nat.mul_pos hx hb;omega
 have:=(Nat.div_lt_iff_lt_mul h4).2 h2
 omega
theorem Ww{b y w u:Nat}(hy:0<y):(w*b+u)/y=w/y*b+(w%y*b+u)/y/\(w*b+u)%y=(w%y*b+u)%y:=by
 have h:w*b+u=(w%y*b+u)+y*(w/y*b):=by
  have h1:=Nat.div_add_mod w y
  have h2:w*b=(y*(w/y))*b+w%y*b:=by rw[<-Nat.add_mul,h1]
  rw[h2,Nat.mul_assoc];omega
 rw[h,Nat.add_mul_div_left _ _ hy,Nat.add_mul_mod_self_left]
 exact⟨by omega,rfl⟩
theorem Qy{U y k:Nat}(hk:0<k):U*k/(y*k)=U/y/\U*k%(y*k)/k=U%y:=by
 rw[Nat.mul_div_mul_right _ _ hk,Nat.mul_mod_mul_right]
 exact⟨rfl,Nat.mul_div_cancel _ hk⟩
end
section
open Go.TM
theorem KG(n:Int):0<=IntKind.u64.wrap n:=by rw[IntKind.wrap_u64];omega
theorem Ui{s:Nat}(h:s<=64):min (s:Int).toNat IntKind.u64.bits=s:=by
 rw[Int.toNat_natCast];exact Nat.min_eq_left h
theorem ZO(s:Nat):(2:Int)^s=((2^s:Nat):Int):=by simp
theorem Qz(a s:Nat)(h:s<=64):IntKind.u64.wrap ((a:Int)*2^min (IntKind.u64.wrap (s:Int)).toNat IntKind.u64.bits)=((a*2^s%18446744073709551616:Nat):Int):=by
 rw[cA s (by omega),Ui h,ZO,tE,BT]
theorem Uj(a s:Nat)(h:s<=64):(a:Int)/2^min (s:Int).toNat IntKind.u64.bits=((a/2^s:Nat):Int):=by
 rw[Ui h,ZO]
 exact(Int.natCast_ediv a (2^s)).symm
structure Kn(Y u d q r:Nat):Prop where
 a:q*(Y/4294967296)+r=u
 b:r<4294967296
 c:(u*4294967296+d)/Y<=q
theorem DD(Y:Nat):Y/4294967296*4294967296+Y%4294967296=Y:=by rw[Nat.mul_comm];exact Nat.div_add_mod ..
theorem Kn.yes{Y u d q r:Nat}(h:Kn Y u d q r)(hu:u<Y)(hd:d<4294967296)(ht:4294967296<=q\/4294967296*r+d<q*(Y%4294967296)):1<=q/\(q-1)*(Y/4294967296)+(r+Y/4294967296)=u/\(u*4294967296+d)/Y<=q-1/\(4294967296<=r+Y/4294967296->q-1=(u*4294967296+d)/Y):=by
 have e:=DD Y
 have h1:u*4294967296+d<q*Y:=by
  rcases ht with ht|ht
  ·exact Wu hu hd ht
  ·have:=ZN h.a ht;rwa[e]at this
 have hq:1<=q:=by
  cases q with
  |zero=>rw[Nat.zero_mul]at h1;omega
  |succ q=>omega
 have ha:(q-1)*(Y/4294967296)+(r+Y/4294967296)=u:=by
  have:=h.a
  rw[Nat.sub_mul,Nat.one_mul]
  have:Y/4294967296<=q*(Y/4294967296):=Nat.le_mul_of_pos_left _ hq
  omega
 refine⟨hq,ha,Qw (by omega) h1,fun hb=>?_⟩
 have hk:=Wv (d:=d) ha hb (by rw[e];exact hu) (Nat.mod_lt _ (by omega))
 have:=Qv (KF ha hk) (by rw[e];exact Qw (by omega) h1) (by rw[e];omega)
 rwa[e]at this
theorem Kn.no{Y u d q r:Nat}(h:Kn Y u d q r)(hu:u<Y)(ht:¬(4294967296<=q\/4294967296*r+d<q*(Y%4294967296))):q=(u*4294967296+d)/Y:=by
 have e:=DD Y
 have:=Qv (KF (b:=4294967296) (d:=d) (z:=Y%4294967296) h.a (by omega)) (by rw[e];exact h.c) (by rw[e];omega)
 rwa[e]at this
theorem DE{Y d q r:Nat}(hr:r<4294967296)(hd:d<4294967296):(bif decide ((4294967296:Int)<=q)then true else decide (IntKind.u64.wrap (IntKind.u64.wrap (4294967296*(r:Int))+(d:Int))<IntKind.u64.wrap ((q:Int)*((Y%4294967296:Nat):Int))))=decide (4294967296<=q\/4294967296*r+d<q*(Y%4294967296)):=by
 by_cases h:4294967296<=q
 ·rw[abW (show(4294967296:Int)<=q by omega),abW (Or.inl h)];rfl
 ·have hm:q*(Y%4294967296)<18446744073709551616:=by
   have h1:Y%4294967296<=4294967295:=by omega
   have:=Nat.mul_le_mul (show q<=4294967295 by omega) h1
   omega
  rw[abX (show¬(4294967296:Int)<=q by omega),tE,cA _ hm,IntKind.wrap_u64,IntKind.wrap_u64]
  simp only[cond_false,decide_eq_decide]
  omega
theorem Kn.init{Y u d:Nat}(hY:9223372036854775808<=Y)(hd:d<4294967296)(h2:Y<18446744073709551616):Kn Y u d (u/(Y/4294967296)) (u%(Y/4294967296))where
 a:=by rw[Nat.mul_comm];exact Nat.div_add_mod ..
 b:=by have:=Nat.mod_lt u (show 0<Y/4294967296 by omega);omega
 c:=by
  have:=Qx (b:=4294967296) (x:=Y/4294967296) (z:=Y%4294967296) (u:=u) (by omega) hd
  rwa[DD]at this
theorem QA{Y u d:Nat}(h2:Y<18446744073709551616)(h0:0<Y):IntKind.u64.wrap (IntKind.u64.wrap (IntKind.u64.wrap ((u:Int)*4294967296)+(d:Int))-IntKind.u64.wrap ((((u*4294967296+d)/Y:Nat):Int)*(Y:Int)))=(((u*4294967296+d)%Y:Nat):Int):=by
 have h1:=Nat.div_add_mod (u*4294967296+d) Y
 have h3:=Nat.mod_lt (u*4294967296+d) h0
 rw[Nat.mul_comm]at h1
 rw[tE]
 simp only[IntKind.wrap_u64]
 omega
theorem Gv{hi lo y s:Nat}(hs:s<=63)(h:hi<y)(mj:lo<18446744073709551616):lo/2^(64-s)<2^s/\hi*2^s+lo/2^(64-s)<y*2^s/\(hi*2^s+lo/2^(64-s))*18446744073709551616+lo*2^s%18446744073709551616=(hi*18446744073709551616+lo)*2^s:=by
 have hp:2^s*2^(64-s)=18446744073709551616:=by rw[<-Nat.pow_add,show s+(64-s)=64 by omega]
 have h1:lo/2^(64-s)<2^s:=(Nat.div_lt_iff_lt_mul (Nat.pos_of_ne_zero (by simp))).2 (by rw[hp];exact mj)
 refine⟨h1,?_,?_⟩
 ·have:(hi+1)*2^s<=y*2^s:=ab4 _ h
  rw[Nat.add_mul,Nat.one_mul]at this;omega
 ·have h2:lo*2^s/18446744073709551616=lo/2^(64-s):=by
   rw[<-hp,Nat.mul_comm (2^s),Nat.mul_div_mul_right _ _ (Nat.pos_of_ne_zero (by simp))]
  have h3:=Nat.div_add_mod (lo*2^s) 18446744073709551616
  rw[h2]at h3
  rw[Nat.add_mul,Nat.add_mul,Nat.mul_right_comm hi]
  omega
theorem ZP{hi lo s:Nat}(hs:4<=s/\s<=63)(h:hi*2^s<18446744073709551616)(mj:lo<18446744073709551616):bits .or .u64 (IntKind.u64.wrap ((hi:Int)*2^min (IntKind.u64.wrap (s:Int)).toNat IntKind.u64.bits)) ((lo:Int)/2^min (IntKind.u64.wrap (64-IntKind.u64.wrap (s:Int))).toNat IntKind.u64.bits)=((hi*2^s+lo/2^(64-s):Nat):Int):=by
 have e:IntKind.u64.wrap (64-IntKind.u64.wrap (s:Int))=((64-s:Nat):Int):=by
  rw[cA s (by omega),IntKind.wrap_u64];omega
 have hl:=(Gv (hi:=0) (y:=1) hs.2 (by omega) mj).1
 rw[Qz hi s (by omega),e,Uj lo (64-s) (by omega),Nat.mod_eq_of_lt h,bits_or_u64_nat _ _ h (by have:=Nat.div_le_self lo (2^(64-s));omega)]
 rw[Nat.mul_comm hi,<-Nat.two_pow_add_eq_or_of_lt hl]
theorem ZQ{A B C:Nat}(h:A*4294967296+B=C)(hC:C<18446744073709551616):IntKind.u64.wrap (IntKind.u64.wrap ((A:Int)*4294967296)+(B:Int))=(C:Int):=by
 rw[IntKind.wrap_u64,IntKind.wrap_u64];omega
theorem Wx{u d e Y y s hi lo:Nat}(hY:Y=y*2^s)(hw:u*18446744073709551616+(d*4294967296+e)=(hi*18446744073709551616+lo)*2^s)(h:hi<y)(mj:lo<18446744073709551616)(h2:Y<18446744073709551616)(h0:0<Y):
 IntKind.u64.wrap (IntKind.u64.wrap ((((u*4294967296+d)/Y:Nat):Int)*4294967296)+((((u*4294967296+d)%Y*4294967296+e)/Y:Nat):Int))=(((hi*18446744073709551616+lo)/y:Nat):Int)/\((u*4294967296+d)%Y*4294967296+e)%Y/2^s=(hi*18446744073709551616+lo)%y:=by
 have hs:0<2^s:=Nat.pos_of_ne_zero (by simp)
 obtain⟨t1,t2⟩:=Ww (b:=4294967296) (y:=Y) (w:=u*4294967296+d) (u:=e) h0
 obtain⟨t3,t4⟩:=Qy (U:=hi*18446744073709551616+lo) (y:=y) (k:=2^s) hs
 have e1:(u*4294967296+d)*4294967296+e=(hi*18446744073709551616+lo)*2^s:=by
  rw[<-hw,Nat.add_mul,Nat.mul_assoc u]
  exact Nat.add_assoc _ _ _
 rw[e1,hY,t3]at t1
 rw[e1,hY]at t2
 rw[t2]at t4
 have au:(hi*18446744073709551616+lo)/y<18446744073709551616:=(Nat.div_lt_iff_lt_mul (by omega)).2 (by
  have:(hi+1)*18446744073709551616<=y*18446744073709551616:=ab4 _ h
  rw[Nat.mul_comm 18446744073709551616 y];omega)
 rw[hY]
 refine⟨?_,t4⟩
 exact ZQ t1.symm au
variable [bJ]
theorem Gw(hi lo y s:Nat)(h0:0<hi)(h:hi<y)(mj:lo<18446744073709551616)(hz:aO Tryz.prog 252 [U y] [I s])(hs:4<=s/\s<=63)(lJ:9223372036854775808<=y*2^s/\y*2^s<18446744073709551616):aO Tryz.prog 246 [U hi,U lo,U y] [U ((hi*18446744073709551616+lo)/y),U ((hi*18446744073709551616+lo)%y)]:=by
 refine pO Tryz.func246 rfl (by kernel_rfl) rfl ?_
 have e1:¬(y:Int)=0:=by omega
 have e2:¬(hi:Int)=0:=by omega
 refine⟨fun h=>absurd (eq_of_beq h) e1,fun _=>⟨fun h=>absurd (abQ h) (by show¬(y:Int)<=hi;omega),fun _=>⟨fun h=>absurd (eq_of_beq h) e2,fun _=>?_⟩⟩⟩
 refine .inl ⟨_,fun _=>hz.ok,?_⟩
 have a1:=Qz y s (by omega)
 rw[Nat.mod_eq_of_lt lJ.2]at a1
 have a2:=Qz lo s (by omega)
 obtain⟨QZ,TD,hw3⟩:=Gv hs.2 h mj
 have a3:=ZP (hi:=hi) hs (by have:=ab4 (2^s) (Nat.le_of_lt h);omega) mj
 obtain⟨Y,hY⟩:∃Y,Y=y*2^s:=⟨_,rfl⟩
 obtain⟨L,hL⟩:∃L,L=lo*2^s%18446744073709551616:=⟨_,rfl⟩
 rw[<-hY]at a1 lJ TD
 rw[<-hL]at a2 hw3
 generalize hi*2^s+lo/2^(64-s)=u at*
 have hLb:L<18446744073709551616:=by omega
 have a4:(Y:Int)/2^min (Int.toNat 32) IntKind.u64.bits=((Y/4294967296:Nat):Int):=DC Y
 have a5:=pR Y lJ.2
 have a6:(L:Int)/2^min (Int.toNat 32) IntKind.u64.bits=((L/4294967296:Nat):Int):=DC L
 have a7:=pR L hLb
 have hd:L/4294967296<4294967296:=by omega
 have hde:L/4294967296*4294967296+L%4294967296=L:=DD L
 generalize L/4294967296=d at*
 have he:L%4294967296<4294967296:=by omega
 generalize L%4294967296=e at*
 have hX:2147483648<=Y/4294967296/\Y/4294967296<4294967296:=by omega
 have dv:∀n:Nat,n<18446744073709551616->IntKind.u64.wrap ((n:Int).tdiv ((Y/4294967296:Nat):Int))=((n/(Y/4294967296):Nat):Int):=fun n hn=>by
  rw[<-Int.ofNat_tdiv];exact cA _ (Nat.lt_of_le_of_lt (Nat.div_le_self _ _) hn)
 have rm:∀n:Nat,n<18446744073709551616->IntKind.u64.wrap ((n:Int)-IntKind.u64.wrap (((n/(Y/4294967296):Nat):Int)*((Y/4294967296:Nat):Int)))=((n%(Y/4294967296):Nat):Int):=fun n hn=>by
  have h1:=Nat.div_add_mod n (Y/4294967296)
  rw[Nat.mul_comm]at h1
  rw[tE,cA _ (by omega),IntKind.wrap_u64]
  omega
 have a8:=cA s (by omega)
 obtain⟨v,hv⟩:∃v,v=(u*4294967296+d)%Y:=⟨_,rfl⟩
 have Ej:=QA (u:=u) (d:=d) lJ.2 (by omega)
 rw[<-hv]at Ej
 have hf:=Wx (u:=u) (d:=d) (e:=e) hY (by rw[hde];exact hw3) h mj lJ.2 (by omega)
 have M1:=QA (u:=v) (d:=e) lJ.2 (by omega)
 rw[<-hv]at hf
 have KR:=hf.1
 have hf3:=(Uj ((v*4294967296+e)%Y) s (by omega)).trans (congrArg (fun n:Nat=>(n:Int)) hf.2)
 have dF:v<Y:=by rw[hv];exact Nat.mod_lt _ (by omega)
 have Wh:((Y/4294967296:Nat):Int)≠0:=by omega
 have Xb:∀r,r<4294967296->r+Y/4294967296<18446744073709551616:=by omega
 have Uk:∀n q r,n<Y->q*(Y/4294967296)+r=n->q<18446744073709551616:=fun n q r h1 h2=>by
  have:=Nat.le_mul_of_pos_right q (show 0<Y/4294967296 by omega)
  omega
 have hw:∀q:Nat,1<=q->q<18446744073709551616->IntKind.u64.wrap ((q:Int)-1)=((q-1:Nat):Int):=fun q h1 h2=>by rw[IntKind.wrap_u64];omega
 have Wy:∀n:Nat,(4294967296:Int)<=n->4294967296<=n:=fun n h=>by omega
 have Wz:∀n:Nat,¬(4294967296:Int)<=n->n<4294967296:=fun n h=>by omega
 have QB:∀q,1<=q->q-1<q:=fun q h=>by omega
 refine⟨fun _=>KG _,fun _=>by omega,fun _=>KG _,fun _=>KG _,fun _=>KG _,fun _=>by omega,fun _ hh=>?_,?_⟩
 ·rw[a1,a4]at hh;exact Wh hh
 refine⟨Nat×Nat,fun x=>⟨0,[(2,.dv (U Y)),(8,.dv (U s)),(9,.dv (U (Y/4294967296))),(10,.dv (U (Y%4294967296))),(11,.dv (U u)),(13,.dv (U d)),(14,.dv (U e)),(15,.dv (U x.1)),(16,.dv (U x.2))],[]⟩,fun x=>Kn Y u d x.1 x.2,fun x=>x.1,(u/(Y/4294967296),u%(Y/4294967296)),fun _=>rfl,⟨⟨aG a1,aG a8,aG (by rw[a1];exact a4),aG (by rw[a1];exact a5),aG a3,aG (by rw[a2];exact a6),aG (by rw[a2];exact a7),aG ?_,aG ?_,tv⟩,tv,rfl,rfl⟩,Kn.init lJ.1 hd lJ.2,?_⟩
 ·rw[a3,a1,a4];exact dv u (by omega)
 ·rw[a3,a1,a4,dv u (by omega)];exact rm u (by omega)
 rintro⟨q,r⟩ hk
 have hk:Kn Y u d q r:=hk
 repeat first|apply g1|apply g2|apply g3|apply g4|apply g5
 have ht:=DE (Y:=Y) (q:=q) hk.b hd
 have Rz:=Xb r hk.b
 refine aby (fun hc=>?_) fun hc=>?_
 ·obtain⟨q1,q2,q3,q4⟩:=hk.yes TD hd (abQ (ht.symm.trans hc))
  have w1:IntKind.u64.wrap ((q:Int)-1)=((q-1:Nat):Int):=hw q q1 (Uk u q r TD hk.a)
  have w2:IntKind.u64.wrap ((r:Int)+((Y/4294967296:Nat):Int))=((r+Y/4294967296:Nat):Int):=by rw[xe,cA _ Rz]
  refine aby (fun hb=>?_) fun hb=>?_
  rotate_left
  ·have hb:¬(4294967296:Int)<=IntKind.u64.wrap ((r:Int)+((Y/4294967296:Nat):Int)):=abR hb
   rw[w2]at hb
   exact⟨(q-1,r+Y/4294967296),⟨⟨rf,rf,rf,rf,rf,rf,rf,aG w1,aG w2,tv⟩,tv,rfl,rfl⟩,⟨q2,Wz _ hb,q3⟩,QB q q1⟩
  have hb:(4294967296:Int)<=IntKind.u64.wrap ((r:Int)+((Y/4294967296:Nat):Int)):=abQ hb
  rw[w2]at hb
  have hQ:=w1.trans (congrArg (fun n:Nat=>(n:Int)) (q4 (Wy _ hb)))
  clear w1 w2 q1 q2 q3 q4 hb Rz ht hc hk
  refine aby (fun _=>Wh) ?_
  refine⟨Nat×Nat,fun x=>⟨0,[(2,.dv (U Y)),(8,.dv (U s)),(9,.dv (U (Y/4294967296))),(10,.dv (U (Y%4294967296))),(14,.dv (U e)),(15,.dv (U ((u*4294967296+d)/Y))),(16,.dv (U x.2)),(17,.dv (U v)),(18,.dv (U x.1))],[]⟩,fun x=>Kn Y v e x.1 x.2,fun x=>x.1,(v/(Y/4294967296),v%(Y/4294967296)),fun _=>rfl,?_,Kn.init lJ.1 he lJ.2,?_⟩
  ·refine⟨?_,tv,rfl,rfl⟩
   have vb:v<18446744073709551616:=Nat.lt_trans dF lJ.2
   refine⟨rf,rf,rf,rf,rf,aG hQ,aG ?_,aG ?_,aG ?_,tv⟩
   ·simp only[hQ,Ej,dv v vb];exact rm v vb
   ·simp only[hQ,Ej]
   ·simp only[hQ,Ej];exact dv v vb
  clear hQ hk
  rintro⟨q,r⟩ hk
  have hk:Kn Y v e q r:=hk
  repeat first|apply g1|apply g2|apply g3|apply g4|apply g5
  have ht:=DE (Y:=Y) (q:=q) hk.b he
  have Rz:=Xb r hk.b
  refine aby (fun hc=>?_) fun hc=>?_
  ·obtain⟨q1,q2,q3,q4⟩:=hk.yes dF he (abQ (ht.symm.trans hc))
   have w1:IntKind.u64.wrap ((q:Int)-1)=((q-1:Nat):Int):=hw q q1 (Uk v q r dF hk.a)
   have w2:IntKind.u64.wrap ((r:Int)+((Y/4294967296:Nat):Int))=((r+Y/4294967296:Nat):Int):=by rw[xe,cA _ Rz]
   refine aby (fun hb=>?_) fun hb=>?_
   ·have hb:(4294967296:Int)<=IntKind.u64.wrap ((r:Int)+((Y/4294967296:Nat):Int)):=abQ hb
    rw[w2]at hb
    have QC:=w1.trans (congrArg (fun n:Nat=>(n:Int)) (q4 (Wy _ hb)))
    exact⟨fun _=>Int.natCast_nonneg _,aG (by simp only[QC];exact KR),aG (by simp only[QC,M1];exact hf3),tv⟩
   ·have hb:¬(4294967296:Int)<=IntKind.u64.wrap ((r:Int)+((Y/4294967296:Nat):Int)):=abR hb
    rw[w2]at hb
    exact⟨(q-1,r+Y/4294967296),⟨⟨rf,rf,rf,rf,rf,rf,aG w2,rf,aG w1,tv⟩,tv,rfl,rfl⟩,⟨q2,Wz _ hb,q3⟩,QB q q1⟩
  ·have QC:=congrArg (fun n:Nat=>(n:Int)) (hk.no dF (abR (ht.symm.trans hc)))
   exact⟨fun _=>Int.natCast_nonneg _,aG (by simp only[QC];exact KR),aG (by simp only[QC,M1];exact hf3),tv⟩
 ·have hQ:=congrArg (fun n:Nat=>(n:Int)) (hk.no TD (abR (ht.symm.trans hc)))
  clear Rz ht hc
  refine aby (fun _=>Wh) ?_
  refine⟨Nat×Nat,fun x=>⟨0,[(2,.dv (U Y)),(8,.dv (U s)),(9,.dv (U (Y/4294967296))),(10,.dv (U (Y%4294967296))),(14,.dv (U e)),(15,.dv (U ((u*4294967296+d)/Y))),(16,.dv (U x.2)),(17,.dv (U v)),(18,.dv (U x.1))],[]⟩,fun x=>Kn Y v e x.1 x.2,fun x=>x.1,(v/(Y/4294967296),v%(Y/4294967296)),fun _=>rfl,?_,Kn.init lJ.1 he lJ.2,?_⟩
  ·refine⟨?_,tv,rfl,rfl⟩
   have vb:v<18446744073709551616:=Nat.lt_trans dF lJ.2
   refine⟨rf,rf,rf,rf,rf,aG hQ,aG ?_,aG ?_,aG ?_,tv⟩
   ·simp only[hQ,Ej,dv v vb];exact rm v vb
   ·simp only[hQ,Ej]
   ·simp only[hQ,Ej];exact dv v vb
  clear hQ hk
  rintro⟨q,r⟩ hk
  have hk:Kn Y v e q r:=hk
  repeat first|apply g1|apply g2|apply g3|apply g4|apply g5
  have ht:=DE (Y:=Y) (q:=q) hk.b he
  have Rz:=Xb r hk.b
  refine aby (fun hc=>?_) fun hc=>?_
  ·obtain⟨q1,q2,q3,q4⟩:=hk.yes dF he (abQ (ht.symm.trans hc))
   have w1:IntKind.u64.wrap ((q:Int)-1)=((q-1:Nat):Int):=hw q q1 (Uk v q r dF hk.a)
   have w2:IntKind.u64.wrap ((r:Int)+((Y/4294967296:Nat):Int))=((r+Y/4294967296:Nat):Int):=by rw[xe,cA _ Rz]
   refine aby (fun hb=>?_) fun hb=>?_
   ·have hb:(4294967296:Int)<=IntKind.u64.wrap ((r:Int)+((Y/4294967296:Nat):Int)):=abQ hb
    rw[w2]at hb
    have QC:=w1.trans (congrArg (fun n:Nat=>(n:Int)) (q4 (Wy _ hb)))
    exact⟨fun _=>Int.natCast_nonneg _,aG (by simp only[QC];exact KR),aG (by simp only[QC,M1];exact hf3),tv⟩
   ·have hb:¬(4294967296:Int)<=IntKind.u64.wrap ((r:Int)+((Y/4294967296:Nat):Int)):=abR hb
    rw[w2]at hb
    exact⟨(q-1,r+Y/4294967296),⟨⟨rf,rf,rf,rf,rf,rf,aG w2,rf,aG w1,tv⟩,tv,rfl,rfl⟩,⟨q2,Wz _ hb,q3⟩,QB q q1⟩
  ·have QC:=congrArg (fun n:Nat=>(n:Int)) (hk.no dF (abR (ht.symm.trans hc)))
   exact⟨fun _=>Int.natCast_nonneg _,aG (by simp only[QC];exact KR),aG (by simp only[QC,M1];exact hf3),tv⟩
end
section
open Go.TM
variable [bJ]
theorem mi(n:Int):aO Tryz.prog 230 [I n] [B (decide (0<=n)&&decide (n<=1099511627776))]:=by
 refine pO Tryz.func230 rfl (by kernel_rfl) rfl ?_
 repeat first|apply g1|apply g2|apply g3|apply g4|apply g5
 refine⟨DV.Le.of_eq ?_,tv⟩
 cases decide (0<=n)<;>rfl
theorem tF(n:Int):aO Tryz.prog 244 [I n] [B (decide (0<=n)&&decide (n<=1152921504606846976))]:=by
 refine pO Tryz.func244 rfl (by kernel_rfl) rfl ?_
 repeat first|apply g1|apply g2|apply g3|apply g4|apply g5
 refine⟨DV.Le.of_eq ?_,tv⟩
 cases decide (0<=n)<;>rfl
end
section
open Go.TM Go.Proofs Go.RowKit
variable [bJ]
theorem I3(x:Nat)(hx:x<18446744073709551616):aO Tryz.prog 181 [U x] [I (Lib.bitLen x:Nat)]:=by
 refine⟨⟨_,Tryz.func181,by kernel_rfl,rfl⟩,fun w M vs dP na hr=>?_⟩
 obtain⟨v0,rfl⟩:∃v0,vs=[v0]:=by
  match vs,hr.1 with
  |[a],_=>exact⟨a,rfl⟩
 have h0:=hr.2 0 _ v0 rfl rfl
 cases h0 with|int=>
 have hc:=Any.bits_Len64 (P:=Tryz.prog) (ρ:=rQ.viaSlsf) { SlLaysF0.n15.bits (P:=Tryz.prog) (ρ:=rQ) { PN with }with } (x:Int) w (by omega) (by omega)
 rw[Int.toNat_natCast]at hc
 refine Calls.mono hc ?_
 rintro e w' ⟨rfl,rfl⟩
 exact⟨_,M,rfl,Below.refl _ _,Mem.Le.refl _,dP,fun _ _=>rfl,.int _ _⟩
theorem Mx(x:Nat)(hx:x<18446744073709551616):aO Tryz.prog 252 [U x] [I ((64-Lib.bitLen x:Nat):Int)]:=by
 have h:=Lib.bitLen_le x 64 (by omega) hx
 refine pO Tryz.func252 rfl (by kernel_rfl) rfl ?_
 refine .inl ⟨_,fun _=>(I3 x hx).ok,?_⟩
 exact⟨fun _=>⟨by omega,by omega⟩,aG (by omega),tv⟩
theorem ZR{d:Nat}(h0:0<d)(hd:d<1152921504606846976):(4<=64-Lib.bitLen d/\64-Lib.bitLen d<=63)/\9223372036854775808<=d*2^(64-Lib.bitLen d)/\d*2^(64-Lib.bitLen d)<18446744073709551616:=by
 have h1:=Lib.bitLenAux_bounds 64 d (Nat.lt_trans hd (by decide)) (by omega)
 have h2:=Lib.bitLen_le d 60 (by omega) hd
 have e:Lib.bitLen d=Lib.bitLenAux 64 d:=rfl
 rw[<-e]at h1
 generalize Lib.bitLen d=L at*
 refine⟨by omega,?_,?_⟩
 ·have:=ab4 (2^(64-L)) h1.2.1
  rw[<-Nat.pow_add,show L-1+(64-L)=63 by omega]at this
  exact this
 ·have:=Nat.mul_lt_mul_of_pos_right h1.2.2 (show 0<2^(64-L)from Nat.pos_of_ne_zero (by simp))
  rw[<-Nat.pow_add,show L+(64-L)=64 by omega]at this
  exact this
theorem Gx(hi lo d:Nat)(h:hi<d)(hd:d<1152921504606846976)(mj:lo<18446744073709551616):aO Tryz.prog 246 [U hi,U lo,U d] [U ((hi*18446744073709551616+lo)/d),U ((hi*18446744073709551616+lo)%d)]:=by
 by_cases h0:0<hi
 ·have hb:=ZR (d:=d) (by omega) hd
  exact Gw hi lo d _ h0 h mj (Mx d (by omega)) hb.1 hb.2
 ·have:hi=0:=by omega
  subst this
  rw[Nat.zero_mul,Nat.zero_add]
  exact I2 lo d mj h (by omega)
theorem DF(t n d:Nat)(ht:t<=1099511627776)(hn:n<=d)(h0:0<d)(hd:d<1152921504606846976):aO Tryz.prog 231 [I t,I n,I d] [U (t*n/d),U (t*n%d),I 0]:=by
 refine pO Tryz.func231 rfl (by kernel_rfl) rfl ?_
 refine .inl ⟨_,fun _=>(mi t).ok,?_⟩
 repeat first|apply g1|apply g2|apply g3|apply g4|apply g5
 refine .inl ⟨_,fun _=>(tF n).ok,?_⟩
 repeat first|apply g1|apply g2|apply g3|apply g4|apply g5
 refine .inl ⟨_,fun _=>(tF d).ok,?_⟩
 repeat first|apply g1|apply g2|apply g3|apply g4|apply g5
 refine aby (fun h=>?_) fun _=>?_
 ·simp[bw]at h;omega
 have w1:=cA t (by omega)
 have w2:=cA n (by omega)
 have w3:=cA d (by omega)
 have au:t*n<d*18446744073709551616:=by
  have h1:t*n<=1099511627776*d:=Nat.mul_le_mul ht hn
  omega
 have hq:t*n/d<=1099511627776:=Nat.div_le_of_le_mul (by rw[Nat.mul_comm d];exact Nat.mul_le_mul ht hn)
 have hm:=I1 t n (by omega) (by omega)
 have QY:=Gx (t*n/18446744073709551616) (t*n%18446744073709551616) d ((Nat.div_lt_iff_lt_mul (by omega)).2 au) hd (Nat.mod_lt _ (by omega))
 rw[show t*n/18446744073709551616*18446744073709551616+t*n%18446744073709551616=t*n by omega]at QY
 have PD:t*n/18446744073709551616<d:=(Nat.div_lt_iff_lt_mul (by omega)).2 au
 generalize t*n/18446744073709551616=hi at*
 generalize t*n%18446744073709551616=lo at*
 unfold U at hm QY
 rw[<-w1,<-w2]at hm
 rw[<-w3]at QY
 refine .inl ⟨_,fun _=>hm.ok,?_⟩
 refine aby (fun h=>?_) fun _=>?_
 ·have h:IntKind.u64.wrap (d:Int)<=hi:=abQ h
  rw[w3]at h;omega
 refine .inl ⟨_,fun _=>QY.ok,?_⟩
 refine aby (fun h=>?_) fun _=>?_
 ·have h:(1099511627776:Int)<((t*n/d:Nat):Int):=abQ h
  omega
 exact⟨rf,rf,rf,tv⟩
end
section
open Go.Proofs Go.Sort Go.RowKit
def QD(a b x y:Int):Int:=if lD b a=0 then lD x y else lD b a
theorem ZS(x y N cap:Nat)(a b:Int)(cS rb ro:Nat)(W:World)(hx:x<N)(hy:y<N)(h0:W.cell? ⟨cS,0,none⟩=some (.slice (some ⟨rb,ro,none⟩) N cap))(h1:W.cell? ⟨rb,ro+x,none⟩=some (.int .u64 a))(h2:W.cell? ⟨rb,ro+y,none⟩=some (.int .u64 b)):
 Calls Tryz.prog 233 #[.int .i64 x,.int .i64 y,.pointer (some ⟨cS,0,none⟩)] W fun e w'=>e=.returned (.int .i64 (QD a b x y))/\∃q wH,w'=grow (W.drewN q) wH:=by
 obtain⟨r,hr⟩:∃r,r=QD a b x y:=⟨_,rfl⟩
 rw[<-hr]
 have mixed:Tryz.prog.follows .mixedOrders=true:=mixed
 have tJ:=fun W'=>Iu b a W'
 have yx:=fun W'=>kY x y W'
 have hx1:(x:Int)<N:=by omega
 have hy1:(y:Int)<N:=by omega
 have K4:¬(x:Int)<0:=by omega
 have hy0:¬(y:Int)<0:=by omega
 go_enter Tryz.func233,Tryz.ntmps233
 go_wp2
 have f0:W.drew.cell? ⟨cS,0,none⟩=some (.slice (some ⟨rb,ro,none⟩) N cap):=h0
 have f1:W.drew.cell? ⟨rb,ro+x,none⟩=some (.int .u64 a):=h1
 have f2:W.drew.cell? ⟨rb,ro+y,none⟩=some (.int .u64 b):=h2
 have hg:∃q wH,W.drew=grow (W.drewN q) wH:=⟨1,#[],by rw[grow_empty];rfl⟩
 refine wp_region_still_tail 12 mixed (by kernel_rfl) ?_
 simp only[List.take_succ_cons,List.take_zero,List.drop_succ_cons,List.drop_zero]
 change wpStill _ _ (World.drew W) _ _ _
 generalize Zp:World.drew W=W3 at*
 repeat still_step
 still_call (tJ _)
 repeat still_step
 still_call (yx _)
 refine wpStill_nil ?_
 clear f0 f1 f2 h0 h1 h2 tJ yx
 unfold QD at hr
 generalize lD b a=r1 at*
 generalize lD x y=r2 at*
 have HG:Hid (∃q wH,W3=grow (W.drewN q) wH):=hg
 have HR:Hid (r=if r1=0 then r2 else r1):=hr
 clear hg hr mixed
 refine wpList_step (fun K hK=>?_)
 go_simp
 refine hK _ _ ?_
 clear hK K
 have hc:∀j,(W3.alloc (Obj.cells #[Value.int .i64 r1,Value.int .i64 r2] 3)).cell? ⟨W3.heap.size,j,none⟩=(#[Value.int .i64 r1,Value.int .i64 r2]:Array Value)[j]?:=fun j=>PO W3 _ _ j
 have Zq:Hid (∃q wH,W3.alloc (Obj.cells #[Value.int .i64 r1,Value.int .i64 r2] 3)=grow (W.drewN q) wH):=by
  obtain⟨q,os,h⟩:=HG.out
  exact⟨q,_,by rw[h,alloc_eq_grow,grow_grow]⟩
 generalize W3.alloc (Obj.cells #[Value.int .i64 r1,Value.int .i64 r2] 3)=W4 at*
 generalize W3.heap.size=sz at*
 have c0:=hc 0
 have c1:=hc 1
 clear hc HG Zp
 refine wpList_step (fun K hK=>?_)
 go_simp
 refine(uX r1 r2 sz W4 c0 c1).mono ?_
 rintro e w' ⟨rfl,rfl⟩
 refine hK _ _ ?_
 clear hK K
 refine wpList_step (fun K hK=>?_)
 go_simp
 refine hK _ _ ?_
 clear hK K c0 c1
 rw[show(if r1=0 then r2 else r1)=r from HR.out.symm]
 clear HR
 go_wp2
 go_ret
 exact⟨rfl,Zq.out⟩
end
section
open Go.TM Go.Proofs Go.Sort Go.Shelf
def ZT(rs:List Nat)(x y:Fin rs.length):Int:=QD (rs.getD x 0:Nat) (rs.getD y 0:Nat) (x:Nat) (y:Nat)
theorem DG(rs:List Nat)(x y:Fin rs.length):ltOf (ZT rs) x y=decide (rs.getD y.val 0<rs.getD x.val 0\/rs.getD x.val 0=rs.getD y.val 0/\x.val<y.val):=by
 unfold ltOf ZT QD lD
 generalize rs.getD x.val 0=a
 generalize rs.getD y.val 0=b
 by_cases h1:(b:Int)<a
 ·simp[h1];omega
 ·by_cases h2:(a:Int)<b
  ·simp[h1,h2];omega
  ·have:a=b:=by omega
   subst this
   simp
   split<;>rename_i h3
   ·simp;omega
   ·split<;>simp<;>omega
theorem ZU(rs:List Nat):SWO (ltOf (ZT rs))where
 irrefl x:=by rw[DG];simp
 trans x y z h1 h2:=by rw[DG]at *; simp at *; omega
 ntrans x y z h1 h2:=by rw[DG]at *; simp at *; omega
def idx(n:Nat):List DV:=(List.range n).map fun i:Nat=>I i
def Tb(l:List DV)(rs:List Nat):ae:=[(0,.tree 0 0 (.aB 1 l)),(1,.cells [.own 2 0 0 []]),(2,.tree 0 0 (.aB 1 (rs.map U)))]
variable [bJ]
theorem Gy(rs:List Nat)(ck:rs≠[])(hl:rs.length<=1000000):bV Tryz.prog 232 [.own 0 0 0 [],.fn 233 [.ptr 1 0]] 3 (Tb (idx rs.length) rs) 0 fun r K'=>r=[]/\∃o:List Nat,Ord (rs.map fun n:Nat=>(n:Int)) o/\K'=Tb (o.map fun i:Nat=>I i) rs:=by
 have hlen:0<rs.length:=List.length_pos_iff.2 ck
 haveI:Inhabited (Fin rs.length):=⟨⟨0,hlen⟩⟩
 have aaY:idx rs.length=(List.finRange rs.length).map fun x=>I (x.val:Nat):=by
  unfold idx
  refine List.ext_getElem (by simp) fun i h1 h2=>by simp
 have h1:=vP (P:=Tryz.prog) (f:=232) ⟨_,Tryz.func232,by kernel_rfl,rfl⟩ (α:=Fin rs.length) (vals:=fun x=>[(x.val:Int)]) (e:=fun x=>I (x.val:Nat)) (k:=1) (fun _=>rfl) (fun _=>rfl) (rest:=[.fn 233 [.ptr 1 0]]) (m:=3) (K3:=[(1,.cells [.own 2 0 0 []]),(2,.tree 0 0 (.aB 1 (rs.map U)))]) (l:=List.finRange rs.length)
  (by intro h;have:=congrArg List.length h;rw[List.length_finRange,List.length_nil]at this;omega) (by omega) (fun i hi=>(by match i,hi with|i+3,_=>rfl))
  (fun l':List (Fin rs.length)=>l'.Perm (List.finRange rs.length)/\l'.Pairwise fun x y=>ltOf (ZT rs) y x=false) (fun l' h=>h.1.length_eq) ?_
 ·refine kZ (by rw[aaY];exact h1) fun r k hk=>?_
  obtain⟨hr,l',⟨hp,hs⟩,rfl⟩:=hk
  refine⟨hr,l'.map Fin.val,⟨?_,?_⟩,by rw[List.map_map];rfl⟩
  ·rw[abz]
   have:=hp.map Fin.val
   rwa[show(List.finRange rs.length).map Fin.val=List.range rs.length from List.ext_getElem (by simp) fun i h1 h2=>by simp]at this
  ·have dh:l'.Nodup:=hp.nodup_iff.2 (List.nodup_finRange _)
   rw[List.pairwise_map]
   refine(hs.and dh).imp fun {x y} h=>?_
   obtain⟨h2,h3⟩:=h
   rw[DG]at h2
   have hx:(rs.map fun n:Nat=>(n:Int)).getD x.val 0=(rs.getD x.val 0:Nat):=by simp[abE]
   have hy:(rs.map fun n:Nat=>(n:Int)).getD y.val 0=(rs.getD y.val 0:Nat):=by simp[abE]
   unfold eX
   rw[hx,hy]
   have h4:x.val≠y.val:=fun e=>h3 (Fin.ext e)
   simp at h2⊢
   omega
 ·rintro w G cS off cap xs cL na hr gn ⟨c,t,hblk,cH⟩
  obtain⟨fv,rfl⟩:∃fv,xs=[fv]:=by
   match xs,hr.1 with
   |[a],_=>exact⟨a,rfl⟩
  have hfv:=hr.2 0 _ fv rfl rfl
  cases hfv with|fn _ _ vs Yp UD=>
  obtain⟨pv,rfl⟩:∃pv,vs=[pv]:=by
   match vs,Yp with
   |[a],_=>exact⟨a,rfl⟩
  have Xj:=UD 0 _ pv rfl rfl
  cases Xj with|ptr _ _ b hb=>
  obtain⟨b',c1,t1,dI,QZ,js,_,Ej⟩:=cL.box 1
  rw[hb]at dI;injection dI with dI;subst dI
  obtain⟨sv,ZG⟩:∃sv,c1[0]?=some sv:=⟨_,ab9 (by rw[js];exact Nat.zero_lt_one)⟩
  have KM:=Ej 0 _ sv rfl ZG
  cases KM with|own _ _ _ _ _ hu Pk=>
  obtain⟨u0,Ko,_,bn⟩:=cL.node (p:=[]) (show aa _ 2=.tree 0 0 (.aB 1 (rs.map U))from rfl) rfl rfl
  rw[hu]at Ko;injection Ko with Ko;subst Ko
  rcases fM.1 bn with⟨h2,_⟩|⟨rb,ro,ZV,rc,rt,rfl,hrc,Ul,abw,hrel⟩
  ·rw[List.map_eq_nil_iff]at h2;exact absurd h2 ck
  have hrl:(rs.map U).length=rs.length:=abz ..
  rw[hrl]at ZG hu
  have dW:w.cell? ⟨b,0,none⟩=some (.slice (some ⟨rb,ro,none⟩) rs.length ZV):=by
   unfold World.cell?;rw[QZ];exact ZG
  have ZW:∀x,x<rs.length->w.cell? ⟨rb,ro+x,none⟩=some (.int .u64 (rs.getD x 0:Nat)):=fun x hx=>by
   have h3:=(hrel x (U (rs.getD x 0)) (by rw[abB,aaa hx,abE,aaa hx];rfl)).2 0 _ rfl
   obtain⟨_,u,h4,h5⟩:=h3
   rw[Nat.mul_one,Nat.add_zero]at h4
   rcases h5 with⟨h6,_⟩|⟨_,h6⟩
   ·cases h6
   ·cases h6
    unfold World.cell?;rw[Ul];exact h4
  have jP:b≠cS:=fun e=>by
   have:=cL.inj 0 1 cS gn (by subst e;exact hb)
   cases this
  have cd:rb≠cS:=fun e=>by
   have:=cL.inj 0 2 cS gn ⟨[],_,_,rfl,rfl,hu,by subst e;rfl⟩
   cases this
  have DX:cS<w.heap.size:=(abN.1 hblk).1
  have YN:b<w.heap.size:=(abN.1 QZ).1
  have wm:rb<w.heap.size:=(abN.1 Ul).1
  have fin:∀(j:Nat),j<rs.length->((List.finRange rs.length).toArray)[j]!.val=j:=fun j hj=>by
   rw[getElem!_pos _ j (by simpa using hj)];simp
  have hH:Holds (fun x:Fin rs.length=>Value.int .i64 (x.val:Nat)) w cS off (List.finRange rs.length).toArray:=fun j hj=>by
   have uU:j<rs.length:=by simpa using hj
   have h3:=cH j ⟨j,uU⟩ 0 (j:Int) (by rw[aaa (by simpa using uU)];simp) rfl
   rw[Nat.mul_one,Nat.add_zero]at h3
   refine⟨?_,tl hblk _⟩
   show w.cell? _=some (.int .i64 ((List.finRange rs.length).toArray[j]!.val:Nat))
   rw[fin j uU]
   unfold World.cell?;rw[hblk];exact h3
  have SI:=Any.slices_SortFunc PN (fun x:Fin rs.length=>Value.int .i64 (x.val:Nat)) (fun _=>rfl) (ZT rs) (ZU rs) 233 #[.pointer (some ⟨b,0,none⟩)] cS off cap (List.finRange rs.length).toArray w (enters_of Tryz.func233 (by kernel_rfl) rfl) (fun m os dk hs x y=>?_) hH DX (by simp;omega)
  rotate_left
  ·have ot:∀a:Addr,a.block≠cS->a.block<w.heap.size->(sortWorld (fun x:Fin rs.length=>Value.int .i64 (x.val:Nat)) w cS off m dk os).cell? a=w.cell? a:=fun a h1 h2=>by
    unfold sortWorld
    rw[cell?_grow _ _ _ (by rw[size_putRow];exact h2),cell?_putRow_other _ _ cS off dk a (Or.inl h1)]
    rfl
   exact ZS x.val y.val rs.length ZV _ _ b rb ro _ x.isLt y.isLt ((ot _ jP YN).trans dW) ((ot _ cd wm).trans (ZW _ x.isLt)) ((ot _ cd wm).trans (ZW _ y.isLt))
  rw[show(List.finRange rs.length).toArray.size=(List.finRange rs.length).length by simp]at SI
  refine Calls.mono SI ?_
  rintro en w' ⟨rfl,d',n,os,hp,hs,rfl⟩
  have zM:d'.size=rs.length:=by simpa using hp.1
  have zf:d'.toList.Perm (List.finRange rs.length):=by
   have:=hp.2.2
   rw[show(List.finRange rs.length).length=d'.size by simp[zM],show d'.extract 0 d'.size=d' by simp]at this
   rw[show(List.finRange rs.length).toArray.extract 0 d'.size=(List.finRange rs.length).toArray by simp[zM];exact List.take_of_length_le (by simp)]at this
   simpa using this
  refine⟨rfl,d'.toList,⟨zf,?_⟩,?_⟩
  ·rw[List.pairwise_iff_getElem]
   intro i j hi hj DW
   have:=hs i j (abO _) DW (by simpa[zM]using hj)
   rw[getElem!_pos d' j (by simpa using hj),getElem!_pos d' i (by simpa using hi)]at this
   simpa using this
  ·refine vQ (F:=d') DX (fun i x j n hx hn=>?_) fun c' t' fr' oc=>?_
   ·have hj:j=0:=by have:=(abA.1 hn).1;simpa using this
    subst hj
    have hi:i<d'.size:=by have:=(abA.1 hx).1;simpa using this
    rw[Nat.mul_one,Nat.add_zero]
    refine⟨hi,?_⟩
    rw[getElem!_pos d' i hi]
    have h5:d'[i]=x:=by simpa[hi]using hx
    rw[h5]
    injection hn with hn;rw[<-hn]
   ·rw[hblk]at oc;injection oc with oc;injection oc with tJ _ _;subst tJ
    have h3:=cH (rs.length-1) ⟨rs.length-1,by omega⟩ 0 ((rs.length-1:Nat):Int) (by rw[aaa (by simp;omega)];simp) rfl
    have:=(abN.1 h3).1
    omega
end
section
open Go.TM
theorem I4:∀{l:List Int},(∀x∈l,0<=x/\x<=1099511627776)->0<=l.sum/\l.sum<=1099511627776*l.length
 |[],_=>by simp
 |x::l,h=>by
  have h1:=h x abL
  have h2:=I4 fun y hy=>h y (abH x hy)
  simp only[List.sum_cons,List.length_cons]at*
  omega
theorem QE{l:List Int}{i:Nat}{x:Int}(h:l[i]?=some x):(l.take (i+1)).sum=(l.take i).sum+x:=by
 rw[abJ,h,List.sum_append];simp
theorem xf{l:List Int}(h:∀x∈l,0<=x/\x<=1099511627776)(hl:l.length<=5000)(i:Nat):0<=(l.take i).sum/\(l.take i).sum<=5497558138880000:=by
 have:=I4 fun x hx=>h x (List.mem_of_mem_take (i:=i) hx)
 have h2:(l.take i).length<=5000:=by rw[abU];omega
 omega
def D4(l:List DV)(z:DV)(i:Nat):List DV:=l.take i++List.replicate (l.length-i) z
theorem zD{l:List DV}{z x:DV}{i:Nat}(h:l[i]?=some x):(D4 l z i).set i x=D4 l z (i+1):=by
 have hi:=(abA.1 h).1
 unfold D4
 have:l.length-i=(l.length-(i+1))+1:=by omega
 rw[List.set_append,if_neg (by rw[abU];omega),abJ,h,this,List.replicate_succ]
 simp[Nat.min_eq_left (Nat.le_of_lt hi)]
theorem DH{l:List DV}{z:DV}{i:Nat}(h:i<=l.length):(D4 l z i).length=l.length:=by simp[D4];omega
theorem DI{l:List DV}{z:DV}{i:Nat}(h:i<l.length):(D4 l z i)[i]?=some z:=by
 unfold D4
 rw[List.getElem?_append_right (by rw[abU];omega),List.getElem?_replicate,if_pos (by simp;omega)]
theorem KH:∀{W:List Nat} {w:Nat},w∈W->w<=W.sum
 |a::l,w,h=>by
  rw[List.sum_cons]
  rcases abG.1 h with rfl|h
  ·omega
  ·have:=KH h;omega
theorem QF{rs:List Int}{o o':List Nat}(h:Ord rs o)(h':Ord rs o'):o'=o:=by
 refine List.ext_getElem (by rw[h.len,h'.len]) fun k h1 h2=>?_
 have e1:=h'.LJ (aaa h1)
 have hm:o'[k]∈o:=h.perm.mem_iff.2 (h'.perm.mem_iff.1 (ab6 h1))
 obtain⟨j,hj,e⟩:=List.getElem_of_mem hm
 have e2:=h.LJ (aaa hj)
 rw[e,e1]at e2
 subst e2
 exact e.symm
theorem pS:∀W:List Nat,(W.map fun w:Nat=>(w:Int)).sum=((W.sum:Nat):Int)
 |[]=>rfl
 |a::l=>by simp only[List.map_cons,List.sum_cons,pS l];omega
theorem DJ{l:List DV}{z:DV}{n:Nat}(h:n=l.length):D4 l z n=l:=by subst h;simp[D4]
variable [bJ]
theorem My(T:Nat)(W:List Nat)(hT:T<=1099511627776)(hW:∀w∈W,w<=1099511627776)(hl:W.length<=5000)(h0:0<W.sum):aO Tryz.prog 209 [I T,.sl 1 (W.map fun w:Nat=>I w)] [Ints (zT T (W.map fun w:Nat=>(w:Int))),I 0]:=by
 obtain⟨ws,MI⟩:∃ws,ws=W.map fun w:Nat=>(w:Int):=⟨_,rfl⟩
 have hwl:ws.length=W.length:=by rw[MI,abz]
 have ll:(W.map fun w:Nat=>I w).length=W.length:=abz ..
 have DX:∀x∈ws,0<=x/\x<=1099511627776:=fun x hx=>by
  rw[MI]at hx
  obtain⟨w,hw,rfl⟩:=ab1.1 hx
  have:=hW w hw
  omega
 rw[<-MI]
 refine pO Tryz.func209 rfl (by kernel_rfl) rfl ?_
 refine .inl ⟨_,fun _=>(mi T).ok,?_⟩
 repeat first|apply g1|apply g2|apply g3|apply g4|apply g5
 refine aby (fun h=>?_) fun _=>?_
 ·simp at h;omega
 refine⟨Nat,fun i=>⟨0,[(0,.dv (I T)),(1,.dv (.sl 1 (W.map fun w:Nat=>I w))),(6,.dv (I (ws.take i).sum)),(21,.dv (.sl 1 (W.map fun w:Nat=>I w))),(22,.dv (I W.length)),(23,.dv (I i))],[]⟩,fun i=>i<=W.length,fun i=>W.length-i,0,fun _=>rfl,jn (by simp only[ll];rfl) rfl rfl rfl,abO _,?_⟩
 rintro i hi
 have b1:=xf DX (by omega) i
 refine aby (fun h=>?_) fun h=>?_
 ·have au:i<W.length:=by have:=abQ h;omega
  obtain⟨w,hw⟩:∃w,W[i]?=some w:=⟨_,aaa au⟩
  have YO:ws[i]?=some (w:Int):=by rw[MI,abB,hw];rfl
  have hb:=DX _ (abC YO)
  have dQ:=QE YO
  have b2:=xf DX (by omega) (i+1)
  refine⟨I w,fun _=>⟨by omega,by rw[abB];simp[hw]⟩,?_⟩
  refine .inl ⟨_,fun _=>(mi w).ok,?_⟩
  refine aby (fun h=>?_) fun _=>?_
  ·simp at h;omega
  refine⟨fun _=>⟨by omega,by omega⟩,?_⟩
  refine aby (fun h=>?_) fun _=>?_
  ·have:=abQ h;omega
  exact⟨fun _=>⟨by omega,by omega⟩,i+1,jn (by simp only[dQ];rfl) rfl rfl rfl,au,mlt au⟩
 have he:i=W.length:=by have:=abR h;omega
 subst he
 rw[<-hwl,abP]
 have Wm:ws.sum≠0:=by
  rw[MI,pS]
  omega
 refine aby (fun h=>absurd (beq_iff_eq.1 h) Wm) fun _=>?_
 have AA:∀{n:Nat},n<=5000->(n:Int)*(8:Nat)<=140737488355328:=fun h=>by omega
 have e22:(nth j4 (nth j4 22).elem).bytes=8:=by kernel_rfl
 have aaZ:(nth j4 (nth j4 270).elem).bytes=8:=by kernel_rfl
 refine⟨I 0,⟨rf,tv⟩,by omega,by omega,by rw[e22,ll];exact AA hl,by omega,false,(fun h=>by cases h),?_⟩
 refine⟨U 0,⟨rf,tv⟩,by omega,by omega,by rw[aaZ,ll];exact AA hl,by omega,false,(fun h=>by cases h),?_⟩
 refine⟨I 0,⟨rf,tv⟩,by omega,by omega,by rw[e22,ll];exact AA hl,by omega,false,(fun h=>by cases h),?_⟩
 obtain⟨qs,Ux⟩:∃qs,qs=W.map fun w:Nat=>((T*w/W.sum:Nat):Int):=⟨_,rfl⟩
 obtain⟨rs,wm⟩:∃rs,rs=W.map fun w:Nat=>T*w%W.sum:=⟨_,rfl⟩
 have lq:qs.length=W.length:=by rw[Ux,abz]
 have lr:rs.length=W.length:=by rw[wm,abz]
 have lqm:(qs.map I).length=W.length:=by rw[abz,lq]
 have lrm:(rs.map U).length=W.length:=by rw[abz,lr]
 have lix:(idx W.length).length=W.length:=by simp[idx]
 have ZX:∀w∈W,w<=W.sum:=fun w hw=>KH hw
 have hS:W.sum<1152921504606846976:=by
  have:=I4 DX
  rw[MI,pS,<-MI]at this
  omega
 have Uk:∀x∈qs,0<=x/\x<=1099511627776:=fun x hx=>by
  rw[Ux]at hx
  obtain⟨w,hw,rfl⟩:=ab1.1 hx
  have:T*w/W.sum<=T:=Nat.div_le_of_le_mul (by rw[Nat.mul_comm W.sum];exact Nat.mul_le_mul_left T (ZX w hw))
  generalize T*w/W.sum=z at*
  omega
 have z1:D4 (qs.map I) (I 0) 0=List.replicate W.length (I 0):=by simp[D4,lq]
 have z2:D4 (rs.map U) (U 0) 0=List.replicate W.length (U 0):=by simp[D4,lr]
 have z3:D4 (idx W.length) (I 0) 0=List.replicate W.length (I 0):=by simp[D4,lix]
 have U0:ws.sum=((W.sum:Nat):Int):=by rw[MI,pS]
 refine⟨Nat,fun i=>⟨4,[(0,.dv (I T)),(1,.dv (.sl 1 (W.map fun w:Nat=>I w))),(6,.dv (I W.sum)),(9,.own 0 0 0 []),(10,.ptr 2 0),(11,.own 3 0 0 []),(12,.dv (I (T-(qs.take i).sum))),(49,.dv (I W.length)),(50,.dv (I i))],[(0,.tree 0 0 (.aB 1 (D4 (qs.map I) (I 0) i))),(1,.tree 0 0 (.aB 1 (D4 (rs.map U) (U 0) i))),(2,.cells [.own 1 0 0 []]),(3,.tree 0 0 (.aB 1 (D4 (idx W.length) (I 0) i)))]⟩,fun i=>i<=W.length,fun i=>W.length-i,0,fun _=>rfl,jn (by simp only[ll,U0,List.take_zero,List.sum_nil,Int.sub_zero];rfl) (by simp only[z1,z2,z3,ll,Int.toNat_natCast];rfl) rfl rfl,abO _,?_⟩
 rintro i hi
 have b1:=xf Uk (by omega) i
 refine aby (fun h=>?_) fun h=>?_
 ·have au:i<W.length:=by have:=abQ h;omega
  obtain⟨w,hw⟩:∃w,W[i]?=some w:=⟨_,aaa au⟩
  have hwm:=abC hw
  have U7:qs[i]?=some ((T*w/W.sum:Nat):Int):=by rw[Ux,abB,hw];rfl
  have hri:rs[i]?=some (T*w%W.sum):=by rw[wm,abB,hw];rfl
  have QY:=DF T w W.sum hT (ZX w hwm) h0 hS
  refine⟨I w,fun _=>⟨by omega,by rw[abB];simp[hw]⟩,?_⟩
  refine .inl ⟨_,fun _=>QY.ok,?_⟩
  have hq1:=Uk _ (abC U7)
  have wq:IntKind.i64.wrap ((T*w/W.sum:Nat):Int)=((T*w/W.sum:Nat):Int):=by
   generalize T*w/W.sum=z at*
   exact v7 (by omega)
  have B1:(qs.map I)[i]?=some (I ((T*w/W.sum:Nat):Int)):=by rw[abB,U7];rfl
  have Of:(rs.map U)[i]?=some (U (T*w%W.sum)):=by rw[abB,hri];rfl
  have T8:(idx W.length)[i]?=some (I (i:Nat)):=by unfold idx;rw[abB,List.getElem?_range au];rfl
  have ZY:=QE U7
  have b2:=xf Uk (by omega) (i+1)
  have g1:=DI (l:=qs.map I) (z:=I 0) (i:=i) (by omega)
  have g2:=DI (l:=rs.map U) (z:=U 0) (i:=i) (by omega)
  have g3:=DI (l:=idx W.length) (z:=I 0) (i:=i) (by omega)
  have n1:=zD (z:=I 0) B1
  have n2:=zD (z:=U 0) Of
  have n3:=zD (z:=I 0) T8
  have f1:=DH (l:=qs.map I) (z:=I 0) (i:=i) (by omega)
  have f2:=DH (l:=rs.map U) (z:=U 0) (i:=i) (by omega)
  have f3:=DH (l:=idx W.length) (z:=I 0) (i:=i) (by omega)
  generalize T*w/W.sum=q at*
  generalize T*w%W.sum=r at*
  refine⟨fun _=>⟨by omega,by rw[f1];omega⟩,[I q],⟨aG wq,tv⟩,I 0,by simpa using g1,?_⟩
  refine⟨fun _=>⟨by omega,by rw[f2];omega⟩,[U r],⟨rf,tv⟩,U 0,by simpa using g2,?_⟩
  refine⟨fun _=>⟨by omega,by rw[f3];omega⟩,[I i],⟨rf,tv⟩,I 0,by simpa using g3,?_⟩
  refine⟨by kernel_rfl,fun _=>⟨by rw[wq];omega,by rw[wq];omega⟩,fun _=>⟨by omega,by omega⟩,?_⟩
  have Z0:(T:Int)-(qs.take i).sum-IntKind.i64.wrap (q:Int)=T-(qs.take (i+1)).sum:=by rw[wq,ZY];omega
  refine⟨i+1,jn (by simp only[Z0];rfl) (by simp only[<-n1,<-n2,<-n3];rfl) rfl rfl,au,mlt au⟩
 have he:i=W.length:=by have:=abR h;omega
 subst he
 obtain⟨o,ho⟩:=H5 (rs.map fun n:Nat=>(n:Int))
 have SL:aq Tryz.prog 232 [.own 0 0 0 [],.fn 233 [.ptr 1 0]] 3 (Tb (idx rs.length) rs) 0 [] (Tb (o.map fun i:Nat=>I i) rs):=
  lU (Gy rs (fun e=>by rw[e]at lr;have:W=[]:=List.length_eq_zero_iff.1 lr.symm;rw[this]at h0;cases h0) (by omega)) fun r k ⟨h1,o',h2,h3⟩=>⟨h1,by rw[h3,QF ho h2]⟩
 rw[DJ lqm.symm,DJ lrm.symm,DJ lix.symm]
 rw[lr]at SL
 refine .inr (cl [3,2,1] SL (by kernel_rfl) rfl rfl ?_)
 have hqL:qL T ws.sum ws=qs:=by
  rw[Ux,U0,MI];unfold qL
  rw[List.map_map];exact List.map_congr_left fun w _=>by simp
 have hrL:rL T ws.sum ws=rs.map fun n:Nat=>(n:Int):=by
  rw[wm,U0,MI];unfold rL
  rw[List.map_map,List.map_map];exact List.map_congr_left fun w _=>by simp
 have mj:=w7 (t:=T) (ws:=ws) (by omega)
 have hcp:(rL T ws.sum ws).countP (fun x=>decide (0<x))<=(rL T ws.sum ws).length:=List.countP_le_length
 rw[hrL]at hcp mj
 rw[abz,lr]at hcp
 have l6:zT T ws=(o.take (fT T ws.sum ws).toNat).foldl kf qs:=by
  unfold zT
  rw[hrL,hqL]
  exact(yL ho (by rw[abz,lq,lr]) _).symm
 rw[l6]
 have hlm:(T:Int)-(qs.take W.length).sum=((fT T ws.sum ws).toNat:Nat):=by
  rw[show qs.take W.length=qs by rw[<-lq,abP]]
  have:fT T ws.sum ws=T-qs.sum:=by unfold fT;rw[hqL]
  omega
 have hm:(fT T ws.sum ws).toNat<=W.length:=by omega
 have VU:o.length=W.length:=by rw[ho.len,abz,lr]
 generalize (fT T ws.sum ws).toNat=m at*
 rw[hlm]
 refine⟨Nat,fun i=>⟨4,[(9,.own 0 0 0 []),(11,.own 3 0 0 []),(85,.dv (I m)),(86,.dv (I i))],[(0,.tree 0 0 (.aB 1 (((o.take i).foldl kf qs).map I))),(3,.tree 0 0 (.aB 1 (o.map fun i:Nat=>I i)))]⟩,fun i=>i<=m,fun i=>m-i,0,fun _=>rfl,jn rfl rfl rfl rfl,abO _,?_⟩
 rintro i hi
 have dP:∀j∈o.take i,j<qs.length:=fun j hj=>by
  have:=ho.perm.mem_iff.1 (List.mem_of_mem_take hj)
  rw[ab2,abz,lr]at this;omega
 obtain⟨p1,p2⟩:=yJ (o.take i) qs (ho.nodup.sublist (List.take_sublist i o)) dP
 refine aby (fun h=>?_) fun h=>?_
 ·have au:i<m:=by have:=abQ h;omega
  obtain⟨k,hk⟩:∃k,o[i]?=some k:=⟨_,aaa (show i<o.length by omega)⟩
  have hkn:k<W.length:=by
   have:=ho.perm.mem_iff.1 (abC hk)
   rw[ab2,abz,lr]at this;omega
  have dQ:(o.take (i+1)).foldl kf qs=kf ((o.take i).foldl kf qs) k:=by
   rw[abJ,hk,abZ];rfl
  have hv:=p2 k
  have hqk:0<=qs.getD k 0/\qs.getD k 0<=1099511627776:=by
   rw[abE,aaa (by omega)]
   exact Uk _ (ab6 _)
  generalize (o.take i).foldl kf qs=ps at*
  have Xl:0<=ps.getD k 0/\ps.getD k 0<=1099511627777:=by rw[hv];split<;>omega
  have gk:(ps.map I)[((k:Int)).toNat]?=some (I (ps.getD k 0)):=by
   rw[abB,Int.toNat_natCast,abE,aaa (by omega)];rfl
  have abx:(o.map fun i:Nat=>I i).length=o.length:=abz ..
  have Hx:(ps.map I).length=ps.length:=abz ..
  refine⟨fun _=>⟨by omega,by omega⟩,I k,fun _=>by rw[abB,Int.toNat_natCast,hk];rfl,?_⟩
  refine⟨fun _=>⟨by omega,by omega⟩,I (ps.getD k 0),fun _=>gk,?_⟩
  refine⟨fun _=>⟨by omega,by omega⟩,?_⟩
  refine⟨fun _=>⟨by omega,by omega⟩,[I (ps.getD k 0+1)],⟨rf,tv⟩,I (ps.getD k 0),gk,?_⟩
  refine⟨fun _=>⟨by omega,by omega⟩,i+1,jn rfl ?_ rfl rfl,au,mlt au⟩
  simp only[dQ,kf,List.map_set];rfl
 ·have he:i=m:=by have:=abR h;omega
  subst he
  exact⟨KA _,rf,tv⟩
theorem xg:n0:=fun t ws ht hw hl hs GK=>by
 obtain⟨T,rfl⟩:=Int.eq_ofNat_of_zero_le ht.1
 obtain⟨W,rfl⟩:∃W:List Nat,ws=W.map fun w:Nat=>(w:Int):=⟨ws.map Int.toNat,by
  rw[List.map_map]
  refine(List.map_id' ws).symm.trans (List.map_congr_left fun x hx=>?_)
  have:=hw x hx
  show x=((x.toNat:Nat):Int)
  omega⟩
 have h:=My T W (by omega) (fun w hwm=>by have:=(hw _ (List.mem_map_of_mem hwm)).2;omega) (by rwa[abz]at hl) (by rw[pS]at hs;omega)
 show aO _ _ [I T,.sl 1 ((W.map fun w:Nat=>(w:Int)).map I)] _
 rw[List.map_map]
 exact h
end
end Go.Proofs.YtpbiiigpphehbaaGreatDoor
