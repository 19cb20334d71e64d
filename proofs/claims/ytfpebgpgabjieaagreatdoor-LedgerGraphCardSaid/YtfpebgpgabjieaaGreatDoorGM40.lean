import Derived.Test.YtfpebgpgabjieaaGreatDoorGM39
import Derived.Test.YtfpebgpgabjieaaGreatDoorGM38
import Derived.Test.YtfpebgpgabjieaaGreatDoorGM18
import Derived.WalkKit
import Derived.Lib.Mul64
import Derived.Laws.Bits64b
import Derived.Test.YtfpebgpgabjieaaGreatDoorGM17
import Derived.Test.YtfpebgpgabjieaaGreatDoorGM25
import Derived.Lib.ItoaNum
import Derived.Shelf.SlSortCmp.Xorshift
import Derived.Shelf.SlSortCmp.Whole1
import Derived.Test.YtfpebgpgabjieaaGreatDoorGM30
import Derived.Test.YtfpebgpgabjieaaGreatDoorGM32
import Derived.Test.YtfpebgpgabjieaaGreatDoorGM31
import Derived.Test.YtfpebgpgabjieaaGreatDoorGM29
set_option linter.all false
open Go.TM.oA Go.TM.oB Go.TM.oC Go.TM.oD Go.TM.oE
namespace Go.Proofs.YtfpebgpgabjieaaGreatDoor
set_option maxRecDepth 100000
set_option maxHeartbeats 4000000
section
open Go.TM
def Out(sh g:Int):Prop:=0<=g/\g<=9223372036854775807/\(g-sh*4294967296<0\/1000<=g-sh*4294967296)
structure NX(sh:Int)(s:cG):Prop where
 len:1<=s.mv.length/\s.mv.length<=3
 aM:vP s.aM
 mv:(s.kind=5/\∃m g,s.mv=[m]/\m.fr=0/\m.n=3/\m.ps=[⟨g,0,3⟩]/\Out sh g)\/(ng s.kind=false/\∀m∈s.mv,m.ps=[])
theorem NX.one{sh a t kd fr to it n:Int}(hk:ng kd=false):NX sh (oX a t kd fr to it n []):=
 ⟨⟨by simp[oX],by simp[oX]⟩,by unfold vP;simp[oX],.inr ⟨hk,fun m hm=>by simp only[oX,adU]at hm;subst hm;rfl⟩⟩
theorem Vb(R:RL)(n:List Int)(p:Int)(hs:0<=R.sh/\R.sh<=11):NX R.sh (rn R n p):=by
 unfold rn
 have b3:=fR n (p+3) 4 (by omega)
 have b4:=fR n (p+4) 9 (by omega)
 split
 ·exact⟨⟨by simp,by simp⟩,by unfold vP;simp,.inr ⟨rfl,fun m hm=>by
   simp only[adV,List.mem_nil_iff,or_false]at hm
   rcases hm with rfl|rfl<;>rfl⟩⟩
 split
 ·refine⟨⟨by simp,?_⟩,by unfold vP;simp,.inr ⟨rfl,fun m hm=>?_⟩⟩
  ·simp only[List.length_cons];split<;>simp
  ·simp only[adV]at hm
   rcases hm with rfl|hm
   ·rfl
   ·split at hm
    ·rw[adU]at hm;subst hm;rfl
    ·cases hm
 split
 ·exact NX.one rfl
 split
 ·exact NX.one rfl
 split
 ·have hr:1+pick n (p+3) 4=1\/1+pick n (p+3) 4=2\/1+pick n (p+3) 4=3\/1+pick n (p+3) 4=4:=by omega
  generalize 1+pick n (p+3) 4=r at hr
  have key:∀(r:Int) (f:Bool) (x:S1),(r=1\/r=2\/r=3\/r=4)->x.tk.length+x.bk.length<=3/\x.tk.length+x.gv.length<=3/\1<=x.tk.length->∀a t tm,NX R.sh ⟨0,4,a,t,bif f then -2-r else r,tm,v7 a tm x.tk++v8 a tm (bif f then x.bk else x.gv)⟩:=by
   intro r f x hr h1 a t tm
   refine⟨⟨by simp[v7,v8];omega,by cases f<;>simp[v7,v8]<;>omega⟩,?_,.inr ⟨rfl,fun m hm=>?_⟩⟩
   ·unfold vP;cases f<;>simp<;>omega
   ·rcases adX.1 hm with hm|hm<;>(simp only[v7,v8,aeg]at hm;obtain⟨q,_,rfl⟩:=hm;rfl)
  rcases hr with rfl|rfl|rfl|rfl
  ·exact key 1 (bif (1:Int)==1 then pick n (p+4) 3==0 else false) (dA[1]'(by decide)) (.inl rfl) (by decide) _ _ _
  ·exact key 2 (bif (2:Int)==1 then pick n (p+4) 3==0 else false) (dA[2]'(by decide)) (.inr (.inl rfl)) (by decide) _ _ _
  ·exact key 3 (bif (3:Int)==1 then pick n (p+4) 3==0 else false) (dA[3]'(by decide)) (.inr (.inr (.inl rfl))) (by decide) _ _ _
  ·exact key 4 (bif (4:Int)==1 then pick n (p+4) 3==0 else false) (dA[4]'(by decide)) (.inr (.inr (.inr rfl))) (by decide) _ _ _
 split
 ·exact NX.one rfl
 ·refine⟨⟨by simp[oX],by simp[oX]⟩,by unfold vP;simp[oX],.inl ⟨rfl,_,_,rfl,rfl,rfl,rfl,?_⟩⟩
  have h1:(R.sh+1).tmod 12=R.sh+1/\R.sh<=10\/(R.sh+1).tmod 12=0/\R.sh=11:=by
   rw[Int.tmod_eq_emod_of_nonneg (by omega)];omega
  unfold Out
  rcases h1 with⟨h1,h2⟩|⟨h1,h2⟩<;>rw[h1]<;>omega
theorem abF{sh now:Int}{s:cG}(h:NX sh s)(hp:iz now s=true):∀m∈s.mv,AF sh s m:=fun m hm=>by
 refine⟨zA hp m hm,?_⟩
 rcases h.mv with⟨k,m',g,e,f0,n3,kz,ho⟩|⟨k,kz⟩
 ·rw[e,adU]at hm;subst hm
  exact .inl ⟨k,f0,g,ho.1,ho.2.1,kz⟩
 ·have:¬(s.kind=5\/s.kind=7\/s.kind=9):=ad6 k
  exact .inr ⟨by omega,by omega,kz m hm⟩
theorem Vc{R:RL}{s:cG}(h:NX R.sh s):fA R s:=⟨h.aM,by have:=h.len;omega,fun m hm=>by
 rcases h.mv with⟨k,m',g,e,f0,n3,kz,ho⟩|⟨k,kz⟩
 ·rw[e,adU]at hm;subst hm;rw[kz];simp
 ·rw[kz m hm];simp,fun hp=>WA (abF h hp)⟩
end
section
open Go.TM Go.RowKit
theorem p8(a:Nat)(ha:a<18446744073709551616):bits .and .u64 (a:Int) 4294967295=((a%4294967296:Nat):Int):=by
 have h:=bits_and_u64_nat a 4294967295 ha (by omega)
 have e:a &&& 4294967295=a%4294967296:=Nat.and_two_pow_sub_one_eq_mod a 32
 rw[e]at h
 exact h
theorem DP(a:Nat):(a:Int)/4294967296=((a/4294967296:Nat):Int):=by omega
theorem tP(a b:Nat):(a:Int)*(b:Int)=((a*b:Nat):Int):=(Int.natCast_mul a b).symm
theorem xm(a b:Nat):(a:Int)+(b:Int)=((a+b:Nat):Int):=(Int.natCast_add a b).symm
theorem cF(a:Nat)(ha:a<18446744073709551616):IntKind.u64.wrap (a:Int)=(a:Int):=by rw[IntKind.wrap_u64];omega
theorem BW(a:Nat):IntKind.u64.wrap (a:Int)=((a%18446744073709551616:Nat):Int):=by rw[IntKind.wrap_u64];omega
theorem GZ(x y:Nat)(hx:x<18446744073709551616)(hy:y<18446744073709551616)(w:World):
 Calls Tryz.prog 277 #[.int .u64 x,.int .u64 y] w fun e w'=>e=.returned (.tuple #[.int .u64 ((x*y/18446744073709551616:Nat):Int),.int .u64 ((x*y%18446744073709551616:Nat):Int)])/\w'=w:=by
 obtain⟨bd,bt,bw,Lz⟩:=Lib.mul64_hi x y hx hy
 have ba:=Lib.half_mul_le (a:=x/4294967296) (b:=y/4294967296) (by omega) (by omega)
 have bb:=Lib.half_mul_le (a:=x/4294967296) (b:=y%4294967296) (by omega) (by omega)
 have bc:=Lib.half_mul_le (a:=x%4294967296) (b:=y/4294967296) (by omega) (by omega)
 have ba':x/4294967296*(y/4294967296)<18446744073709551616:=by omega
 have bb':x/4294967296*(y%4294967296)<18446744073709551616:=by omega
 have bc':x%4294967296*(y/4294967296)<18446744073709551616:=by omega
 have bh1:x/4294967296*(y/4294967296)+(x/4294967296*(y%4294967296)+x%4294967296*(y%4294967296)/4294967296)/4294967296<18446744073709551616:=by omega
 have bh:x/4294967296*(y/4294967296)+(x/4294967296*(y%4294967296)+x%4294967296*(y%4294967296)/4294967296)/4294967296+((x/4294967296*(y%4294967296)+x%4294967296*(y%4294967296)/4294967296)%4294967296+x%4294967296*(y/4294967296))/4294967296<18446744073709551616:=by omega
 go_enter Tryz.func277,Tryz.ntmps277
 go_wp2
 simp only[p8 x hx,p8 y hy,DP,tP,xm,cF _ bd,cF _ bb',cF _ bt,p8 _ bt,cF _ bc',cF _ bw,cF _ ba',cF _ bh1,cF _ bh,BW (x*y)]
 rw[Lz]
 go_ret2
 exact⟨rfl,rfl⟩
variable [bj]
abbrev U(n:Nat):DV:=.int .u64 (n:Int)
theorem JE(x y:Nat)(hx:x<18446744073709551616)(hy:y<18446744073709551616):aR Tryz.prog 277 [U x,U y] [U (x*y/18446744073709551616),U (x*y%18446744073709551616)]:=by
 refine⟨⟨_,Tryz.func277,by kernel_rfl,rfl⟩,fun w M vs dr nM hr=>?_⟩
 obtain⟨v0,v1,rfl⟩:∃v0 v1,vs=[v0,v1]:=by
  match vs,hr.1 with
  |[a,b],_=>exact⟨a,b,rfl⟩
 have h0:=hr.2 0 _ v0 rfl rfl
 have h1:=hr.2 1 _ v1 rfl rfl
 cases h0 with|int=>cases h1 with|int=>
 refine(GZ x y hx hy w).mono ?_
 rintro e w' ⟨rfl,rfl⟩
 exact⟨_,M,rfl,Below.refl _ _,Mem.Le.refl _,dr,fun _ _=>rfl,[_,_],rfl,.cons (.int _ _) (.cons (.int _ _) (.nil _))⟩
theorem JF(x y:Nat)(hx:x<18446744073709551616)(hy:0<y)(hy2:y<18446744073709551616):aR Tryz.prog 278 [U 0,U x,U y] [U (x/y),U (x%y)]:=by
 refine E2 fO mixed (eu _) (fh _) Tryz.func278 rfl (by kernel_rfl) rfl ?_
 have h0:¬(y:Int)=0:=by omega
 refine⟨fun h=>absurd (eq_of_beq h) h0,fun _=>⟨fun h=>absurd (ad5 h) (by show¬(y:Int)<=0;omega),fun _=>⟨fun _=>?_,fun h=>by cases h⟩⟩⟩
 refine⟨fun _=>h0,fun _=>h0,by kernel_rfl,aG ?_,aG ?_,tv⟩
 ·rw[<-Int.ofNat_tdiv]
  exact cF _ (Nat.lt_of_le_of_lt (Nat.div_le_self x y) hx)
 ·exact(Int.ofNat_tmod x y).symm
end
section
theorem Rj{b q r x z u:Nat}(hi:q*x+r=u):q*(x*b+z)+b*r=u*b+q*z:=by
 subst hi
 rw[Nat.mul_add,Nat.add_mul,Nat.mul_assoc,Nat.mul_comm b r];omega
theorem LA{b q r x z u d:Nat}(hi:q*x+r=u)(h:q*z<=b*r+d):q*(x*b+z)<=u*b+d:=by
 have:=Rj (b:=b) (z:=z) hi
 omega
theorem abG{b q r x z u d:Nat}(hi:q*x+r=u)(h:b*r+d<q*z):u*b+d<q*(x*b+z):=by
 have:=Rj (b:=b) (z:=z) hi
 omega
theorem YI{b q u d y:Nat}(hu:u<y)(hd:d<b)(hq:b<=q):u*b+d<q*y:=by
 have h1:(u+1)*b<=y*b:=aej b hu
 have h2:y*b<=y*q:=Nat.mul_le_mul_left y hq
 rw[Nat.add_mul,Nat.one_mul]at h1
 rw[Nat.mul_comm q y]
 omega
theorem YJ{b q r x z u d:Nat}(hi:q*x+r=u)(hr:b<=r)(hu:u<x*b+z)(hz:z<b):q*z<=b*r+d:=by
 have h1:q*x<b*x:=by rw[Nat.mul_comm b x];omega
 have h2:q<b:=Nat.lt_of_mul_lt_mul_right h1
 have h3:q*z<=b*z:=aej z (by omega)
 have h4:b*z<=b*r:=Nat.mul_le_mul_left b (by omega)
 omega
theorem Rk{b q x z u d:Nat}(h:q*(x*b+z)<=u*b+d)(h2:(u*b+d)/(x*b+z)<=q)(hy:0<x*b+z):q=(u*b+d)/(x*b+z):=
 Nat.le_antisymm ((Nat.le_div_iff_mul_le hy).2 h) h2
theorem Rl{q U y:Nat}(hy:0<y)(h:U<q*y):U/y<=q-1:=by
 have:U/y<q:=(Nat.div_lt_iff_lt_mul hy).2 h
 omega
theorem Rm{b x z u d:Nat}(hx:0<x)(hd:d<b):(u*b+d)/(x*b+z)<=u/x:=by
 have hb:0<b:=by omega
 have h1:u<(u/x+1)*x:=by
  have:=Nat.div_add_mod u x
  have:=Nat.mod_lt u hx
  rw[Nat.add_mul,Nat.one_mul,Nat.mul_comm (u/x) x];omega
 have h2:(u*b+d)<(u/x+1)*(x*b+z):=by
  have h3:(u+1)*b<=((u/x+1)*x)*b:=aej b h1
  rw[Nat.mul_add,<-Nat.mul_assoc]
  rw[Nat.add_mul,Nat.one_mul]at h3
  omega
 have h4:0<x*b+z:=by have:=Nat.mul_pos hx hb;omega
 have:=(Nat.div_lt_iff_lt_mul h4).2 h2
 omega
theorem YK{b y w u:Nat}(hy:0<y):(w*b+u)/y=w/y*b+(w%y*b+u)/y/\(w*b+u)%y=(w%y*b+u)%y:=by
 have h:w*b+u=(w%y*b+u)+y*(w/y*b):=by
  have h1:=Nat.div_add_mod w y
  have h2:w*b=(y*(w/y))*b+w%y*b:=by rw[<-Nat.add_mul,h1]
  rw[h2,Nat.mul_assoc];omega
 rw[h,Nat.add_mul_div_left _ _ hy,Nat.add_mul_mod_self_left]
 exact⟨by omega,rfl⟩
theorem Rn{U y k:Nat}(hk:0<k):U*k/(y*k)=U/y/\U*k%(y*k)/k=U%y:=by
 rw[Nat.mul_div_mul_right _ _ hk,Nat.mul_mod_mul_right]
 exact⟨rfl,Nat.mul_div_cancel _ hk⟩
end
section
open Go.TM
theorem LB(n:Int):0<=IntKind.u64.wrap n:=by rw[IntKind.wrap_u64];omega
theorem WD{s:Nat}(h:s<=64):min (s:Int).toNat IntKind.u64.bits=s:=by
 rw[Int.toNat_natCast];exact Nat.min_eq_left h
theorem abH(s:Nat):(2:Int)^s=((2^s:Nat):Int):=by simp
theorem Ro(a s:Nat)(h:s<=64):IntKind.u64.wrap ((a:Int)*2^min (IntKind.u64.wrap (s:Int)).toNat IntKind.u64.bits)=((a*2^s%18446744073709551616:Nat):Int):=by
 rw[cF s (by omega),WD h,abH,tP,BW]
theorem WE(a s:Nat)(h:s<=64):(a:Int)/2^min (s:Int).toNat IntKind.u64.bits=((a/2^s:Nat):Int):=by
 rw[WD h,abH]
 exact(Int.natCast_ediv a (2^s)).symm
structure Kn(Y u d q r:Nat):Prop where
 a:q*(Y/4294967296)+r=u
 b:r<4294967296
 c:(u*4294967296+d)/Y<=q
theorem DQ(Y:Nat):Y/4294967296*4294967296+Y%4294967296=Y:=by rw[Nat.mul_comm];exact Nat.div_add_mod ..
theorem Kn.yes{Y u d q r:Nat}(h:Kn Y u d q r)(hu:u<Y)(hd:d<4294967296)(ht:4294967296<=q\/4294967296*r+d<q*(Y%4294967296)):1<=q/\(q-1)*(Y/4294967296)+(r+Y/4294967296)=u/\(u*4294967296+d)/Y<=q-1/\(4294967296<=r+Y/4294967296->q-1=(u*4294967296+d)/Y):=by
 have e:=DQ Y
 have h1:u*4294967296+d<q*Y:=by
  rcases ht with ht|ht
  ·exact YI hu hd ht
  ·have:=abG h.a ht;rwa[e]at this
 have hq:1<=q:=by
  cases q with
  |zero=>rw[Nat.zero_mul]at h1;omega
  |succ q=>omega
 have ha:(q-1)*(Y/4294967296)+(r+Y/4294967296)=u:=by
  have:=h.a
  rw[Nat.sub_mul,Nat.one_mul]
  have:Y/4294967296<=q*(Y/4294967296):=Nat.le_mul_of_pos_left _ hq
  omega
 refine⟨hq,ha,Rl (by omega) h1,fun hb=>?_⟩
 have hk:=YJ (d:=d) ha hb (by rw[e];exact hu) (Nat.mod_lt _ (by omega))
 have:=Rk (LA ha hk) (by rw[e];exact Rl (by omega) h1) (by rw[e];omega)
 rwa[e]at this
theorem Kn.no{Y u d q r:Nat}(h:Kn Y u d q r)(hu:u<Y)(ht:¬(4294967296<=q\/4294967296*r+d<q*(Y%4294967296))):q=(u*4294967296+d)/Y:=by
 have e:=DQ Y
 have:=Rk (LA (b:=4294967296) (d:=d) (z:=Y%4294967296) h.a (by omega)) (by rw[e];exact h.c) (by rw[e];omega)
 rwa[e]at this
theorem DR{Y d q r:Nat}(hr:r<4294967296)(hd:d<4294967296):(bif decide ((4294967296:Int)<=q)then true else decide (IntKind.u64.wrap (IntKind.u64.wrap (4294967296*(r:Int))+(d:Int))<IntKind.u64.wrap ((q:Int)*((Y%4294967296:Nat):Int))))=decide (4294967296<=q\/4294967296*r+d<q*(Y%4294967296)):=by
 by_cases h:4294967296<=q
 ·rw[aeb (show(4294967296:Int)<=q by omega),aeb (Or.inl h)];rfl
 ·have hm:q*(Y%4294967296)<18446744073709551616:=by
   have h1:Y%4294967296<=4294967295:=by omega
   have:=Nat.mul_le_mul (show q<=4294967295 by omega) h1
   omega
  rw[aec (show¬(4294967296:Int)<=q by omega),tP,cF _ hm,IntKind.wrap_u64,IntKind.wrap_u64]
  simp only[cond_false,decide_eq_decide]
  omega
theorem Kn.init{Y u d:Nat}(hY:9223372036854775808<=Y)(hd:d<4294967296)(h2:Y<18446744073709551616):Kn Y u d (u/(Y/4294967296)) (u%(Y/4294967296))where
 a:=by rw[Nat.mul_comm];exact Nat.div_add_mod ..
 b:=by have:=Nat.mod_lt u (show 0<Y/4294967296 by omega);omega
 c:=by
  have:=Rm (b:=4294967296) (x:=Y/4294967296) (z:=Y%4294967296) (u:=u) (by omega) hd
  rwa[DQ]at this
theorem Rp{Y u d:Nat}(h2:Y<18446744073709551616)(h0:0<Y):IntKind.u64.wrap (IntKind.u64.wrap (IntKind.u64.wrap ((u:Int)*4294967296)+(d:Int))-IntKind.u64.wrap ((((u*4294967296+d)/Y:Nat):Int)*(Y:Int)))=(((u*4294967296+d)%Y:Nat):Int):=by
 have h1:=Nat.div_add_mod (u*4294967296+d) Y
 have h3:=Nat.mod_lt (u*4294967296+d) h0
 rw[Nat.mul_comm]at h1
 rw[tP]
 simp only[IntKind.wrap_u64]
 omega
theorem G4{hi lo y s:Nat}(hs:s<=63)(h:hi<y)(oP:lo<18446744073709551616):lo/2^(64-s)<2^s/\hi*2^s+lo/2^(64-s)<y*2^s/\(hi*2^s+lo/2^(64-s))*18446744073709551616+lo*2^s%18446744073709551616=(hi*18446744073709551616+lo)*2^s:=by
 have hp:2^s*2^(64-s)=18446744073709551616:=by rw[<-Nat.pow_add,show s+(64-s)=64 by omega]
 have h1:lo/2^(64-s)<2^s:=(Nat.div_lt_iff_lt_mul (Nat.pos_of_ne_zero (by simp))).2 (by rw[hp];exact oP)
 refine⟨h1,?_,?_⟩
 ·have:(hi+1)*2^s<=y*2^s:=aej _ h
  rw[Nat.add_mul,Nat.one_mul]at this;omega
 ·have h2:lo*2^s/18446744073709551616=lo/2^(64-s):=by
   rw[<-hp,Nat.mul_comm (2^s),Nat.mul_div_mul_right _ _ (Nat.pos_of_ne_zero (by simp))]
  have h3:=Nat.div_add_mod (lo*2^s) 18446744073709551616
  rw[h2]at h3
  rw[Nat.add_mul,Nat.add_mul,Nat.mul_right_comm hi]
  omega
theorem abI{hi lo s:Nat}(hs:4<=s/\s<=63)(h:hi*2^s<18446744073709551616)(oP:lo<18446744073709551616):bits .or .u64 (IntKind.u64.wrap ((hi:Int)*2^min (IntKind.u64.wrap (s:Int)).toNat IntKind.u64.bits)) ((lo:Int)/2^min (IntKind.u64.wrap (64-IntKind.u64.wrap (s:Int))).toNat IntKind.u64.bits)=((hi*2^s+lo/2^(64-s):Nat):Int):=by
 have e:IntKind.u64.wrap (64-IntKind.u64.wrap (s:Int))=((64-s:Nat):Int):=by
  rw[cF s (by omega),IntKind.wrap_u64];omega
 have hl:=(G4 (hi:=0) (y:=1) hs.2 (by omega) oP).1
 rw[Ro hi s (by omega),e,WE lo (64-s) (by omega),Nat.mod_eq_of_lt h,bits_or_u64_nat _ _ h (by have:=Nat.div_le_self lo (2^(64-s));omega)]
 rw[Nat.mul_comm hi,<-Nat.two_pow_add_eq_or_of_lt hl]
theorem abJ{A B C:Nat}(h:A*4294967296+B=C)(hC:C<18446744073709551616):IntKind.u64.wrap (IntKind.u64.wrap ((A:Int)*4294967296)+(B:Int))=(C:Int):=by
 rw[IntKind.wrap_u64,IntKind.wrap_u64];omega
theorem YL{u d e Y y s hi lo:Nat}(hY:Y=y*2^s)(hw:u*18446744073709551616+(d*4294967296+e)=(hi*18446744073709551616+lo)*2^s)(h:hi<y)(oP:lo<18446744073709551616)(h2:Y<18446744073709551616)(h0:0<Y):
 IntKind.u64.wrap (IntKind.u64.wrap ((((u*4294967296+d)/Y:Nat):Int)*4294967296)+((((u*4294967296+d)%Y*4294967296+e)/Y:Nat):Int))=(((hi*18446744073709551616+lo)/y:Nat):Int)/\((u*4294967296+d)%Y*4294967296+e)%Y/2^s=(hi*18446744073709551616+lo)%y:=by
 have hs:0<2^s:=Nat.pos_of_ne_zero (by simp)
 obtain⟨t1,t2⟩:=YK (b:=4294967296) (y:=Y) (w:=u*4294967296+d) (u:=e) h0
 obtain⟨t3,t4⟩:=Rn (U:=hi*18446744073709551616+lo) (y:=y) (k:=2^s) hs
 have e1:(u*4294967296+d)*4294967296+e=(hi*18446744073709551616+lo)*2^s:=by
  rw[<-hw,Nat.add_mul,Nat.mul_assoc u]
  exact Nat.add_assoc _ _ _
 rw[e1,hY,t3]at t1
 rw[e1,hY]at t2
 rw[t2]at t4
 have ay:(hi*18446744073709551616+lo)/y<18446744073709551616:=(Nat.div_lt_iff_lt_mul (by omega)).2 (by
  have:(hi+1)*18446744073709551616<=y*18446744073709551616:=aej _ h
  rw[Nat.mul_comm 18446744073709551616 y];omega)
 rw[hY]
 refine⟨?_,t4⟩
 exact abJ t1.symm ay
variable [bj]
theorem G5(hi lo y s:Nat)(h0:0<hi)(h:hi<y)(oP:lo<18446744073709551616)(hz:aR Tryz.prog 284 [U y] [I s])(hs:4<=s/\s<=63)(lZ:9223372036854775808<=y*2^s/\y*2^s<18446744073709551616):aR Tryz.prog 278 [U hi,U lo,U y] [U ((hi*18446744073709551616+lo)/y),U ((hi*18446744073709551616+lo)%y)]:=by
 refine pO Tryz.func278 rfl (by kernel_rfl) rfl ?_
 have e1:¬(y:Int)=0:=by omega
 have e2:¬(hi:Int)=0:=by omega
 refine⟨fun h=>absurd (eq_of_beq h) e1,fun _=>⟨fun h=>absurd (ad5 h) (by show¬(y:Int)<=hi;omega),fun _=>⟨fun h=>absurd (eq_of_beq h) e2,fun _=>?_⟩⟩⟩
 refine .inl ⟨_,fun _=>hz.ok,?_⟩
 have a1:=Ro y s (by omega)
 rw[Nat.mod_eq_of_lt lZ.2]at a1
 have a2:=Ro lo s (by omega)
 obtain⟨SQ,VS,hw3⟩:=G4 hs.2 h oP
 have a3:=abI (hi:=hi) hs (by have:=aej (2^s) (Nat.le_of_lt h);omega) oP
 obtain⟨Y,hY⟩:∃Y,Y=y*2^s:=⟨_,rfl⟩
 obtain⟨L,hL⟩:∃L,L=lo*2^s%18446744073709551616:=⟨_,rfl⟩
 rw[<-hY]at a1 lZ VS
 rw[<-hL]at a2 hw3
 generalize hi*2^s+lo/2^(64-s)=u at*
 have hLb:L<18446744073709551616:=by omega
 have a4:(Y:Int)/2^min (Int.toNat 32) IntKind.u64.bits=((Y/4294967296:Nat):Int):=DP Y
 have a5:=p8 Y lZ.2
 have a6:(L:Int)/2^min (Int.toNat 32) IntKind.u64.bits=((L/4294967296:Nat):Int):=DP L
 have a7:=p8 L hLb
 have hd:L/4294967296<4294967296:=by omega
 have hde:L/4294967296*4294967296+L%4294967296=L:=DQ L
 generalize L/4294967296=d at*
 have he:L%4294967296<4294967296:=by omega
 generalize L%4294967296=e at*
 have hX:2147483648<=Y/4294967296/\Y/4294967296<4294967296:=by omega
 have dv:∀n:Nat,n<18446744073709551616->IntKind.u64.wrap ((n:Int).tdiv ((Y/4294967296:Nat):Int))=((n/(Y/4294967296):Nat):Int):=fun n hn=>by
  rw[<-Int.ofNat_tdiv];exact cF _ (Nat.lt_of_le_of_lt (Nat.div_le_self _ _) hn)
 have rm:∀n:Nat,n<18446744073709551616->IntKind.u64.wrap ((n:Int)-IntKind.u64.wrap (((n/(Y/4294967296):Nat):Int)*((Y/4294967296:Nat):Int)))=((n%(Y/4294967296):Nat):Int):=fun n hn=>by
  have h1:=Nat.div_add_mod n (Y/4294967296)
  rw[Nat.mul_comm]at h1
  rw[tP,cF _ (by omega),IntKind.wrap_u64]
  omega
 have a8:=cF s (by omega)
 obtain⟨v,hv⟩:∃v,v=(u*4294967296+d)%Y:=⟨_,rfl⟩
 have Rq:=Rp (u:=u) (d:=d) lZ.2 (by omega)
 rw[<-hv]at Rq
 have hf:=YL (u:=u) (d:=d) (e:=e) hY (by rw[hde];exact hw3) h oP lZ.2 (by omega)
 have Rr:=Rp (u:=v) (d:=e) lZ.2 (by omega)
 rw[<-hv]at hf
 have L0:=hf.1
 have hf3:=(WE ((v*4294967296+e)%Y) s (by omega)).trans (congrArg (fun n:Nat=>(n:Int)) hf.2)
 have eB:v<Y:=by rw[hv];exact Nat.mod_lt _ (by omega)
 have MZ:((Y/4294967296:Nat):Int)≠0:=by omega
 have hrb:∀r,r<4294967296->r+Y/4294967296<18446744073709551616:=by omega
 have WG:∀n q r,n<Y->q*(Y/4294967296)+r=n->q<18446744073709551616:=fun n q r h1 h2=>by
  have:=Nat.le_mul_of_pos_right q (show 0<Y/4294967296 by omega)
  omega
 have hw:∀q:Nat,1<=q->q<18446744073709551616->IntKind.u64.wrap ((q:Int)-1)=((q-1:Nat):Int):=fun q h1 h2=>by rw[IntKind.wrap_u64];omega
 have YM:∀n:Nat,(4294967296:Int)<=n->4294967296<=n:=fun n h=>by omega
 have YN:∀n:Nat,¬(4294967296:Int)<=n->n<4294967296:=fun n h=>by omega
 have Rs:∀q,1<=q->q-1<q:=fun q h=>by omega
 refine⟨fun _=>LB _,fun _=>by omega,fun _=>LB _,fun _=>LB _,fun _=>LB _,fun _=>by omega,fun _ hh=>?_,?_⟩
 ·rw[a1,a4]at hh;exact MZ hh
 refine⟨Nat×Nat,fun x=>⟨0,[(2,.dv (U Y)),(8,.dv (U s)),(9,.dv (U (Y/4294967296))),(10,.dv (U (Y%4294967296))),(11,.dv (U u)),(13,.dv (U d)),(14,.dv (U e)),(15,.dv (U x.1)),(16,.dv (U x.2))],[]⟩,fun x=>Kn Y u d x.1 x.2,fun x=>x.1,(u/(Y/4294967296),u%(Y/4294967296)),fun _=>rfl,⟨⟨aG a1,aG a8,aG (by rw[a1];exact a4),aG (by rw[a1];exact a5),aG a3,aG (by rw[a2];exact a6),aG (by rw[a2];exact a7),aG ?_,aG ?_,tv⟩,tv,rfl,rfl⟩,Kn.init lZ.1 hd lZ.2,?_⟩
 ·rw[a3,a1,a4];exact dv u (by omega)
 ·rw[a3,a1,a4,dv u (by omega)];exact rm u (by omega)
 rintro⟨q,r⟩ hk
 have hk:Kn Y u d q r:=hk
 repeat refine gG ?_
 have ht:=DR (Y:=Y) (q:=q) hk.b hd
 have Tp:=hrb r hk.b
 refine adN (fun hc=>?_) fun hc=>?_
 ·obtain⟨q1,q2,q3,q4⟩:=hk.yes VS hd (ad5 (ht.symm.trans hc))
  have w1:IntKind.u64.wrap ((q:Int)-1)=((q-1:Nat):Int):=hw q q1 (WG u q r VS hk.a)
  have w2:IntKind.u64.wrap ((r:Int)+((Y/4294967296:Nat):Int))=((r+Y/4294967296:Nat):Int):=by rw[xm,cF _ Tp]
  refine adN (fun hb=>?_) fun hb=>?_
  rotate_left
  ·have hb:¬(4294967296:Int)<=IntKind.u64.wrap ((r:Int)+((Y/4294967296:Nat):Int)):=ad6 hb
   rw[w2]at hb
   exact⟨(q-1,r+Y/4294967296),⟨⟨rf,rf,rf,rf,rf,rf,rf,aG w1,aG w2,tv⟩,tv,rfl,rfl⟩,⟨q2,YN _ hb,q3⟩,Rs q q1⟩
  have hb:(4294967296:Int)<=IntKind.u64.wrap ((r:Int)+((Y/4294967296:Nat):Int)):=ad5 hb
  rw[w2]at hb
  have hQ:=w1.trans (congrArg (fun n:Nat=>(n:Int)) (q4 (YM _ hb)))
  clear w1 w2 q1 q2 q3 q4 hb Tp ht hc hk
  refine adN (fun _=>MZ) ?_
  refine⟨Nat×Nat,fun x=>⟨0,[(2,.dv (U Y)),(8,.dv (U s)),(9,.dv (U (Y/4294967296))),(10,.dv (U (Y%4294967296))),(14,.dv (U e)),(15,.dv (U ((u*4294967296+d)/Y))),(16,.dv (U x.2)),(17,.dv (U v)),(18,.dv (U x.1))],[]⟩,fun x=>Kn Y v e x.1 x.2,fun x=>x.1,(v/(Y/4294967296),v%(Y/4294967296)),fun _=>rfl,?_,Kn.init lZ.1 he lZ.2,?_⟩
  ·refine⟨?_,tv,rfl,rfl⟩
   have vb:v<18446744073709551616:=Nat.lt_trans eB lZ.2
   refine⟨rf,rf,rf,rf,rf,aG hQ,aG ?_,aG ?_,aG ?_,tv⟩
   ·simp only[hQ,Rq,dv v vb];exact rm v vb
   ·simp only[hQ,Rq]
   ·simp only[hQ,Rq];exact dv v vb
  clear hQ hk
  rintro⟨q,r⟩ hk
  have hk:Kn Y v e q r:=hk
  repeat refine gG ?_
  have ht:=DR (Y:=Y) (q:=q) hk.b he
  have Tp:=hrb r hk.b
  refine adN (fun hc=>?_) fun hc=>?_
  ·obtain⟨q1,q2,q3,q4⟩:=hk.yes eB he (ad5 (ht.symm.trans hc))
   have w1:IntKind.u64.wrap ((q:Int)-1)=((q-1:Nat):Int):=hw q q1 (WG v q r eB hk.a)
   have w2:IntKind.u64.wrap ((r:Int)+((Y/4294967296:Nat):Int))=((r+Y/4294967296:Nat):Int):=by rw[xm,cF _ Tp]
   refine adN (fun hb=>?_) fun hb=>?_
   ·have hb:(4294967296:Int)<=IntKind.u64.wrap ((r:Int)+((Y/4294967296:Nat):Int)):=ad5 hb
    rw[w2]at hb
    have Rt:=w1.trans (congrArg (fun n:Nat=>(n:Int)) (q4 (YM _ hb)))
    exact⟨fun _=>Int.natCast_nonneg _,aG (by simp only[Rt];exact L0),aG (by simp only[Rt,Rr];exact hf3),tv⟩
   ·have hb:¬(4294967296:Int)<=IntKind.u64.wrap ((r:Int)+((Y/4294967296:Nat):Int)):=ad6 hb
    rw[w2]at hb
    exact⟨(q-1,r+Y/4294967296),⟨⟨rf,rf,rf,rf,rf,rf,aG w2,rf,aG w1,tv⟩,tv,rfl,rfl⟩,⟨q2,YN _ hb,q3⟩,Rs q q1⟩
  ·have Rt:=congrArg (fun n:Nat=>(n:Int)) (hk.no eB (ad6 (ht.symm.trans hc)))
   exact⟨fun _=>Int.natCast_nonneg _,aG (by simp only[Rt];exact L0),aG (by simp only[Rt,Rr];exact hf3),tv⟩
 ·have hQ:=congrArg (fun n:Nat=>(n:Int)) (hk.no VS (ad6 (ht.symm.trans hc)))
  clear Tp ht hc
  refine adN (fun _=>MZ) ?_
  refine⟨Nat×Nat,fun x=>⟨0,[(2,.dv (U Y)),(8,.dv (U s)),(9,.dv (U (Y/4294967296))),(10,.dv (U (Y%4294967296))),(14,.dv (U e)),(15,.dv (U ((u*4294967296+d)/Y))),(16,.dv (U x.2)),(17,.dv (U v)),(18,.dv (U x.1))],[]⟩,fun x=>Kn Y v e x.1 x.2,fun x=>x.1,(v/(Y/4294967296),v%(Y/4294967296)),fun _=>rfl,?_,Kn.init lZ.1 he lZ.2,?_⟩
  ·refine⟨?_,tv,rfl,rfl⟩
   have vb:v<18446744073709551616:=Nat.lt_trans eB lZ.2
   refine⟨rf,rf,rf,rf,rf,aG hQ,aG ?_,aG ?_,aG ?_,tv⟩
   ·simp only[hQ,Rq,dv v vb];exact rm v vb
   ·simp only[hQ,Rq]
   ·simp only[hQ,Rq];exact dv v vb
  clear hQ hk
  rintro⟨q,r⟩ hk
  have hk:Kn Y v e q r:=hk
  repeat refine gG ?_
  have ht:=DR (Y:=Y) (q:=q) hk.b he
  have Tp:=hrb r hk.b
  refine adN (fun hc=>?_) fun hc=>?_
  ·obtain⟨q1,q2,q3,q4⟩:=hk.yes eB he (ad5 (ht.symm.trans hc))
   have w1:IntKind.u64.wrap ((q:Int)-1)=((q-1:Nat):Int):=hw q q1 (WG v q r eB hk.a)
   have w2:IntKind.u64.wrap ((r:Int)+((Y/4294967296:Nat):Int))=((r+Y/4294967296:Nat):Int):=by rw[xm,cF _ Tp]
   refine adN (fun hb=>?_) fun hb=>?_
   ·have hb:(4294967296:Int)<=IntKind.u64.wrap ((r:Int)+((Y/4294967296:Nat):Int)):=ad5 hb
    rw[w2]at hb
    have Rt:=w1.trans (congrArg (fun n:Nat=>(n:Int)) (q4 (YM _ hb)))
    exact⟨fun _=>Int.natCast_nonneg _,aG (by simp only[Rt];exact L0),aG (by simp only[Rt,Rr];exact hf3),tv⟩
   ·have hb:¬(4294967296:Int)<=IntKind.u64.wrap ((r:Int)+((Y/4294967296:Nat):Int)):=ad6 hb
    rw[w2]at hb
    exact⟨(q-1,r+Y/4294967296),⟨⟨rf,rf,rf,rf,rf,rf,aG w2,rf,aG w1,tv⟩,tv,rfl,rfl⟩,⟨q2,YN _ hb,q3⟩,Rs q q1⟩
  ·have Rt:=congrArg (fun n:Nat=>(n:Int)) (hk.no eB (ad6 (ht.symm.trans hc)))
   exact⟨fun _=>Int.natCast_nonneg _,aG (by simp only[Rt];exact L0),aG (by simp only[Rt,Rr];exact hf3),tv⟩
end
section
open Go.TM
variable [bj]
theorem mG(n:Int):aR Tryz.prog 263 [I n] [B (decide (0<=n)&&decide (n<=1099511627776))]:=by
 refine pO Tryz.func263 rfl (by kernel_rfl) rfl ?_
 repeat refine gG ?_
 refine⟨DV.Le.of_eq ?_,tv⟩
 cases decide (0<=n)<;>rfl
theorem tQ(n:Int):aR Tryz.prog 276 [I n] [B (decide (0<=n)&&decide (n<=1152921504606846976))]:=by
 refine pO Tryz.func276 rfl (by kernel_rfl) rfl ?_
 repeat refine gG ?_
 refine⟨DV.Le.of_eq ?_,tv⟩
 cases decide (0<=n)<;>rfl
end
section
open Go.TM Go.Proofs Go.RowKit
variable [bj]
theorem JG(x:Nat)(hx:x<18446744073709551616):aR Tryz.prog 140 [U x] [I (Lib.bitLen x:Nat)]:=by
 refine⟨⟨_,Tryz.func140,by kernel_rfl,rfl⟩,fun w M vs dr nM hr=>?_⟩
 obtain⟨v0,rfl⟩:∃v0,vs=[v0]:=by
  match vs,hr.1 with
  |[a],_=>exact⟨a,rfl⟩
 have h0:=hr.2 0 _ v0 rfl rfl
 cases h0 with|int=>
 have hc:=Any.bits_Len64 (P:=Tryz.prog) (ρ:=r7.viaSlsf) { SlLaysF0.n15.bits (P:=Tryz.prog) (ρ:=r7) { Qt with }with } (x:Int) w (by omega) (by omega)
 rw[Int.toNat_natCast]at hc
 refine Calls.mono hc ?_
 rintro e w' ⟨rfl,rfl⟩
 exact⟨_,M,rfl,Below.refl _ _,Mem.Le.refl _,dr,fun _ _=>rfl,.int _ _⟩
theorem No(x:Nat)(hx:x<18446744073709551616):aR Tryz.prog 284 [U x] [I ((64-Lib.bitLen x:Nat):Int)]:=by
 have h:=Lib.bitLen_le x 64 (by omega) hx
 refine pO Tryz.func284 rfl (by kernel_rfl) rfl ?_
 refine .inl ⟨_,fun _=>(JG x hx).ok,?_⟩
 exact⟨fun _=>by omega,aG (by omega),tv⟩
theorem abK{d:Nat}(h0:0<d)(hd:d<1152921504606846976):(4<=64-Lib.bitLen d/\64-Lib.bitLen d<=63)/\9223372036854775808<=d*2^(64-Lib.bitLen d)/\d*2^(64-Lib.bitLen d)<18446744073709551616:=by
 have h1:=Lib.bitLenAux_bounds 64 d (Nat.lt_trans hd (by decide)) (by omega)
 have h2:=Lib.bitLen_le d 60 (by omega) hd
 have e:Lib.bitLen d=Lib.bitLenAux 64 d:=rfl
 rw[<-e]at h1
 generalize Lib.bitLen d=L at*
 refine⟨by omega,?_,?_⟩
 ·have:=aej (2^(64-L)) h1.2.1
  rw[<-Nat.pow_add,show L-1+(64-L)=63 by omega]at this
  exact this
 ·have:=Nat.mul_lt_mul_of_pos_right h1.2.2 (show 0<2^(64-L)from Nat.pos_of_ne_zero (by simp))
  rw[<-Nat.pow_add,show L+(64-L)=64 by omega]at this
  exact this
theorem G6(hi lo d:Nat)(h:hi<d)(hd:d<1152921504606846976)(oP:lo<18446744073709551616):aR Tryz.prog 278 [U hi,U lo,U d] [U ((hi*18446744073709551616+lo)/d),U ((hi*18446744073709551616+lo)%d)]:=by
 by_cases h0:0<hi
 ·have hb:=abK (d:=d) (by omega) hd
  exact G5 hi lo d _ h0 h oP (No d (by omega)) hb.1 hb.2
 ·have:hi=0:=by omega
  subst this
  rw[Nat.zero_mul,Nat.zero_add]
  exact JF lo d oP h (by omega)
theorem DT(t n d:Nat)(ht:t<=1099511627776)(hn:n<=d)(h0:0<d)(hd:d<1152921504606846976):aR Tryz.prog 264 [I t,I n,I d] [U (t*n/d),U (t*n%d),I 0]:=by
 refine pO Tryz.func264 rfl (by kernel_rfl) rfl ?_
 refine .inl ⟨_,fun _=>(mG t).ok,?_⟩
 repeat refine gG ?_
 refine .inl ⟨_,fun _=>(tQ n).ok,?_⟩
 repeat refine gG ?_
 refine .inl ⟨_,fun _=>(tQ d).ok,?_⟩
 repeat refine gG ?_
 refine adN (fun h=>?_) fun _=>?_
 ·simp[bw]at h;omega
 have w1:=cF t (by omega)
 have w2:=cF n (by omega)
 have w3:=cF d (by omega)
 have ay:t*n<d*18446744073709551616:=by
  have h1:t*n<=1099511627776*d:=Nat.mul_le_mul ht hn
  omega
 have hq:t*n/d<=1099511627776:=Nat.div_le_of_le_mul (by rw[Nat.mul_comm d];exact Nat.mul_le_mul ht hn)
 have hm:=JE t n (by omega) (by omega)
 have NW:=G6 (t*n/18446744073709551616) (t*n%18446744073709551616) d ((Nat.div_lt_iff_lt_mul (by omega)).2 ay) hd (Nat.mod_lt _ (by omega))
 rw[show t*n/18446744073709551616*18446744073709551616+t*n%18446744073709551616=t*n by omega]at NW
 have Qf:t*n/18446744073709551616<d:=(Nat.div_lt_iff_lt_mul (by omega)).2 ay
 generalize t*n/18446744073709551616=hi at*
 generalize t*n%18446744073709551616=lo at*
 unfold U at hm NW
 rw[<-w1,<-w2]at hm
 rw[<-w3]at NW
 refine .inl ⟨_,fun _=>hm.ok,?_⟩
 refine adN (fun h=>?_) fun _=>?_
 ·have h:IntKind.u64.wrap (d:Int)<=hi:=ad5 h
  rw[w3]at h;omega
 refine .inl ⟨_,fun _=>NW.ok,?_⟩
 refine adN (fun h=>?_) fun _=>?_
 ·have h:(1099511627776:Int)<((t*n/d:Nat):Int):=ad5 h
  omega
 exact⟨rf,rf,rf,tv⟩
end
section
open Go.Proofs Go.Sort Go.RowKit
def Ru(a b x y:Int):Int:=if q7 b a=0 then q7 x y else q7 b a
theorem abL(x y N cap:Nat)(a b:Int)(cR rb ro:Nat)(W:World)(hx:x<N)(hy:y<N)(h0:W.cell? ⟨cR,0,none⟩=some (.slice (some ⟨rb,ro,none⟩) N cap))(h1:W.cell? ⟨rb,ro+x,none⟩=some (.int .u64 a))(h2:W.cell? ⟨rb,ro+y,none⟩=some (.int .u64 b)):
 Calls Tryz.prog 266 #[.int .i64 x,.int .i64 y,.pointer (some ⟨cR,0,none⟩)] W fun e w'=>e=.returned (.int .i64 (Ru a b x y))/\∃q Ge,w'=grow (W.drewN q) Ge:=by
 obtain⟨r,hr⟩:∃r,r=Ru a b x y:=⟨_,rfl⟩
 rw[<-hr]
 have mixed:Tryz.prog.follows .mixedOrders=true:=mixed
 have Au:=fun W'=>Ja b a W'
 have wI:=fun W'=>r8 x y W'
 have Wm:(x:Int)<N:=by omega
 have hy1:(y:Int)<N:=by omega
 have SP:¬(x:Int)<0:=by omega
 have hy0:¬(y:Int)<0:=by omega
 go_enter Tryz.func266,Tryz.ntmps266
 go_wp2
 have f0:W.drew.cell? ⟨cR,0,none⟩=some (.slice (some ⟨rb,ro,none⟩) N cap):=h0
 have f1:W.drew.cell? ⟨rb,ro+x,none⟩=some (.int .u64 a):=h1
 have f2:W.drew.cell? ⟨rb,ro+y,none⟩=some (.int .u64 b):=h2
 have hg:∃q Ge,W.drew=grow (W.drewN q) Ge:=⟨1,#[],by rw[grow_empty];rfl⟩
 refine wp_region_still_tail 12 mixed (by kernel_rfl) ?_
 simp only[List.take_succ_cons,List.take_zero,List.drop_succ_cons,List.drop_zero]
 change wpStill _ _ (World.drew W) _ _ _
 generalize hW3:World.drew W=W3 at*
 repeat still_step
 still_call (Au _)
 repeat still_step
 still_call (wI _)
 refine wpStill_nil ?_
 clear f0 f1 f2 h0 h1 h2 Au wI
 unfold Ru at hr
 generalize q7 b a=r1 at*
 generalize q7 x y=r2 at*
 have HG:Hid (∃q Ge,W3=grow (W.drewN q) Ge):=hg
 have HR:Hid (r=if r1=0 then r2 else r1):=hr
 clear hg hr mixed
 refine wpList_step (fun K hK=>?_)
 go_simp
 refine hK _ _ ?_
 clear hK K
 have hc:∀j,(W3.alloc (Obj.cells #[Value.int .i64 r1,Value.int .i64 r2] 3)).cell? ⟨W3.heap.size,j,none⟩=(#[Value.int .i64 r1,Value.int .i64 r2]:Array Value)[j]?:=fun j=>Wp W3 _ _ j
 have hgw:Hid (∃q Ge,W3.alloc (Obj.cells #[Value.int .i64 r1,Value.int .i64 r2] 3)=grow (W.drewN q) Ge):=by
  obtain⟨q,os,h⟩:=HG.out
  exact⟨q,_,by rw[h,alloc_eq_grow,grow_grow]⟩
 generalize W3.alloc (Obj.cells #[Value.int .i64 r1,Value.int .i64 r2] 3)=W4 at*
 generalize W3.heap.size=sz at*
 have c0:=hc 0
 have c1:=hc 1
 clear hc HG hW3
 refine wpList_step (fun K hK=>?_)
 go_simp
 refine(BM r1 r2 sz W4 c0 c1).mono ?_
 rintro e w' ⟨rfl,rfl⟩
 refine hK _ _ ?_
 clear hK K
 refine wpList_step (fun K hK=>?_)
 go_simp
 refine hK _ _ ?_
 clear hK K c0 c1
 rw[show(if r1=0 then r2 else r1)=r from HR.out.symm]
 clear HR
 go_wp2
 go_ret
 exact⟨rfl,hgw.out⟩
end
section
open Go.TM Go.Proofs Go.Sort Go.Shelf
def cfR(rs:List Nat)(x y:Fin rs.length):Int:=Ru (rs.getD x 0:Nat) (rs.getD y 0:Nat) (x:Nat) (y:Nat)
theorem DU(rs:List Nat)(x y:Fin rs.length):ltOf (cfR rs) x y=decide (rs.getD y.val 0<rs.getD x.val 0\/rs.getD x.val 0=rs.getD y.val 0/\x.val<y.val):=by
 unfold ltOf cfR Ru q7
 generalize rs.getD x.val 0=a
 generalize rs.getD y.val 0=b
 by_cases h1:(b:Int)<a
 ·simp[h1];omega
 ·by_cases h2:(a:Int)<b
  ·simp[h1,h2];omega
  ·have:a=b:=by omega
   subst this
   simp
   split<;>rename_i h3
   ·simp;omega
   ·split<;>simp<;>omega
theorem abM(rs:List Nat):SWO (ltOf (cfR rs))where
 irrefl x:=by rw[DU];simp
 trans x y z h1 h2:=by rw[DU]at *; simp at *; omega
 ntrans x y z h1 h2:=by rw[DU]at *; simp at *; omega
def idx(n:Nat):List DV:=(List.range n).map fun i:Nat=>I i
def Vd(l:List DV)(rs:List Nat):ad:=[(0,.tree 0 0 (.aD 1 l)),(1,.cells [.own 2 0 0 []]),(2,.tree 0 0 (.aD 1 (rs.map U)))]
variable [bj]
theorem G7(rs:List Nat)(c6:rs≠[])(hl:rs.length<=1000000):bU Tryz.prog 265 [.own 0 0 0 [],.fn 266 [.ptr 1 0]] 3 (Vd (idx rs.length) rs) 0 fun r K'=>r=[]/\∃o:List Nat,Ord (rs.map fun n:Nat=>(n:Int)) o/\K'=Vd (o.map fun i:Nat=>I i) rs:=by
 have hlen:0<rs.length:=List.length_pos_iff.2 c6
 haveI:Inhabited (Fin rs.length):=⟨⟨0,hlen⟩⟩
 have acV:idx rs.length=(List.finRange rs.length).map fun x=>I (x.val:Nat):=by
  unfold idx
  refine List.ext_getElem (by simp) fun i h1 h2=>by simp
 have h1:=vW (P:=Tryz.prog) (f:=265) ⟨_,Tryz.func265,by kernel_rfl,rfl⟩ (α:=Fin rs.length) (vals:=fun x=>[(x.val:Int)]) (e:=fun x=>I (x.val:Nat)) (k:=1) (fun _=>rfl) (fun _=>rfl) (rest:=[.fn 266 [.ptr 1 0]]) (m:=3) (K3:=[(1,.cells [.own 2 0 0 []]),(2,.tree 0 0 (.aD 1 (rs.map U)))]) (l:=List.finRange rs.length)
  (by intro h;have:=congrArg List.length h;rw[List.length_finRange,List.length_nil]at this;omega) (by omega) (fun i hi=>(by match i,hi with|i+3,_=>rfl))
  (fun l':List (Fin rs.length)=>l'.Perm (List.finRange rs.length)/\l'.Pairwise fun x y=>ltOf (cfR rs) y x=false) (fun l' h=>h.1.length_eq) ?_
 ·refine nZ (by rw[acV];exact h1) fun r k hk=>?_
  obtain⟨hr,l',⟨hp,hs⟩,rfl⟩:=hk
  refine⟨hr,l'.map Fin.val,⟨?_,?_⟩,by rw[List.map_map];rfl⟩
  ·rw[adO]
   have:=hp.map Fin.val
   rwa[show(List.finRange rs.length).map Fin.val=List.range rs.length from List.ext_getElem (by simp) fun i h1 h2=>by simp]at this
  ·have dC:l'.Nodup:=hp.nodup_iff.2 (List.nodup_finRange _)
   rw[List.pairwise_map]
   refine(hs.and dC).imp fun {x y} h=>?_
   obtain⟨h2,h3⟩:=h
   rw[DU]at h2
   have hx:(rs.map fun n:Nat=>(n:Int)).getD x.val 0=(rs.getD x.val 0:Nat):=by simp[adT]
   have hy:(rs.map fun n:Nat=>(n:Int)).getD y.val 0=(rs.getD y.val 0:Nat):=by simp[adT]
   unfold fE
   rw[hx,hy]
   have h4:x.val≠y.val:=fun e=>h3 (Fin.ext e)
   simp at h2⊢
   omega
 ·rintro w G cR off cap xs cY nM hr jv ⟨c,t,hblk,cK⟩
  obtain⟨fv,rfl⟩:∃fv,xs=[fv]:=by
   match xs,hr.1 with
   |[a],_=>exact⟨a,rfl⟩
  have hfv:=hr.2 0 _ fv rfl rfl
  cases hfv with|fn _ _ vs hvl hvr=>
  obtain⟨pv,rfl⟩:∃pv,vs=[pv]:=by
   match vs,hvl with
   |[a],_=>exact⟨a,rfl⟩
  have ZO:=hvr 0 _ pv rfl rfl
  cases ZO with|ptr _ _ b hb=>
  obtain⟨b',c1,t1,fp,SQ,j7,_,Rq⟩:=cY.box 1
  rw[hb]at fp;injection fp with fp;subst fp
  obtain⟨sv,hsv⟩:∃sv,c1[0]?=some sv:=⟨_,aeo (by rw[j7];exact Nat.zero_lt_one)⟩
  have JH:=Rq 0 _ sv rfl hsv
  cases JH with|own _ _ _ _ _ hu PY=>
  obtain⟨u0,Li,_,bq⟩:=cY.node (p:=[]) (show aa _ 2=.tree 0 0 (.aD 1 (rs.map U))from rfl) rfl rfl
  rw[hu]at Li;injection Li with Li;subst Li
  rcases gS.1 bq with⟨h2,_⟩|⟨rb,ro,abN,rc,rt,rfl,hrc,WH,adG,hrel⟩
  ·rw[List.map_eq_nil_iff]at h2;exact absurd h2 c6
  have hrl:(rs.map U).length=rs.length:=adO ..
  rw[hrl]at hsv hu
  have eU:w.cell? ⟨b,0,none⟩=some (.slice (some ⟨rb,ro,none⟩) rs.length abN):=by
   unfold World.cell?;rw[SQ];exact hsv
  have abO:∀x,x<rs.length->w.cell? ⟨rb,ro+x,none⟩=some (.int .u64 (rs.getD x 0:Nat)):=fun x hx=>by
   have h3:=(hrel x (U (rs.getD x 0)) (by rw[adQ,ace hx,adT,ace hx];rfl)).2 0 _ rfl
   obtain⟨_,u,h4,h5⟩:=h3
   rw[Nat.mul_one,Nat.add_zero]at h4
   rcases h5 with⟨h6,_⟩|⟨_,h6⟩
   ·cases h6
   ·cases h6
    unfold World.cell?;rw[WH];exact h4
  have jE:b≠cR:=fun e=>by
   have:=cY.inj 0 1 cR jv (by subst e;exact hb)
   cases this
  have ct:rb≠cR:=fun e=>by
   have:=cY.inj 0 2 cR jv ⟨[],_,_,rfl,rfl,hu,by subst e;rfl⟩
   cases this
  have H4:cR<w.heap.size:=(ad2.1 hblk).1
  have ZG:b<w.heap.size:=(ad2.1 SQ).1
  have w8:rb<w.heap.size:=(ad2.1 WH).1
  have fin:∀(j:Nat),j<rs.length->((List.finRange rs.length).toArray)[j]!.val=j:=fun j hj=>by
   rw[getElem!_pos _ j (by simpa using hj)];simp
  have hH:Holds (fun x:Fin rs.length=>Value.int .i64 (x.val:Nat)) w cR off (List.finRange rs.length).toArray:=fun j hj=>by
   have u9:j<rs.length:=by simpa using hj
   have h3:=cK j ⟨j,u9⟩ 0 (j:Int) (by rw[ace (by simpa using u9)];simp) rfl
   rw[Nat.mul_one,Nat.add_zero]at h3
   refine⟨?_,tD hblk _⟩
   show w.cell? _=some (.int .i64 ((List.finRange rs.length).toArray[j]!.val:Nat))
   rw[fin j u9]
   unfold World.cell?;rw[hblk];exact h3
  have UH:=Any.slices_SortFunc Qt (fun x:Fin rs.length=>Value.int .i64 (x.val:Nat)) (fun _=>rfl) (cfR rs) (abM rs) 266 #[.pointer (some ⟨b,0,none⟩)] cR off cap (List.finRange rs.length).toArray w (enters_of Tryz.func266 (by kernel_rfl) rfl) (fun m os dk hs x y=>?_) hH H4 (by simp;omega)
  rotate_left
  ·have ot:∀a:Addr,a.block≠cR->a.block<w.heap.size->(sortWorld (fun x:Fin rs.length=>Value.int .i64 (x.val:Nat)) w cR off m dk os).cell? a=w.cell? a:=fun a h1 h2=>by
    unfold sortWorld
    rw[cell?_grow _ _ _ (by rw[size_putRow];exact h2),cell?_putRow_other _ _ cR off dk a (Or.inl h1)]
    rfl
   exact abL x.val y.val rs.length abN _ _ b rb ro _ x.isLt y.isLt ((ot _ jE ZG).trans eU) ((ot _ ct w8).trans (abO _ x.isLt)) ((ot _ ct w8).trans (abO _ y.isLt))
  rw[show(List.finRange rs.length).toArray.size=(List.finRange rs.length).length by simp]at UH
  refine Calls.mono UH ?_
  rintro en w' ⟨rfl,d',n,os,hp,hs,rfl⟩
  have Aa:d'.size=rs.length:=by simpa using hp.1
  have y8:d'.toList.Perm (List.finRange rs.length):=by
   have:=hp.2.2
   rw[show(List.finRange rs.length).length=d'.size by simp[Aa],show d'.extract 0 d'.size=d' by simp]at this
   rw[show(List.finRange rs.length).toArray.extract 0 d'.size=(List.finRange rs.length).toArray by simp[Aa];exact List.take_of_length_le (by simp)]at this
   simpa using this
  refine⟨rfl,d'.toList,⟨y8,?_⟩,?_⟩
  ·rw[List.pairwise_iff_getElem]
   intro i j hi hj wX
   have:=hs i j (ad3 _) wX (by simpa[Aa]using hj)
   rw[getElem!_pos d' j (by simpa using hj),getElem!_pos d' i (by simpa using hi)]at this
   simpa using this
  ·refine vY (F:=d') H4 (fun i x j n hx hn=>?_) fun c' t' fr' qR=>?_
   ·have hj:j=0:=by have:=(adP.1 hn).1;simpa using this
    subst hj
    have hi:i<d'.size:=by have:=(adP.1 hx).1;simpa using this
    rw[Nat.mul_one,Nat.add_zero]
    refine⟨hi,?_⟩
    rw[getElem!_pos d' i hi]
    have h5:d'[i]=x:=by simpa[hi]using hx
    rw[h5]
    injection hn with hn;rw[<-hn]
   ·rw[hblk]at qR;injection qR with qR;injection qR with Au _ _;subst Au
    have h3:=cK (rs.length-1) ⟨rs.length-1,by omega⟩ 0 ((rs.length-1:Nat):Int) (by rw[ace (by simp;omega)];simp) rfl
    have:=(ad2.1 h3).1
    omega
end
section
open Go.TM
theorem JI:∀{l:List Int},(∀x∈l,0<=x/\x<=1099511627776)->0<=l.sum/\l.sum<=1099511627776*l.length
 |[],_=>by simp
 |x::l,h=>by
  have h1:=h x ad0
  have h2:=JI fun y hy=>h y (adW x hy)
  simp only[List.sum_cons,List.length_cons]at*
  omega
theorem Rv{l:List Int}{i:Nat}{x:Int}(h:l[i]?=some x):(l.take (i+1)).sum=(l.take i).sum+x:=by
 rw[adY,h,List.sum_append];simp
theorem xp{l:List Int}(h:∀x∈l,0<=x/\x<=1099511627776)(hl:l.length<=5000)(i:Nat):0<=(l.take i).sum/\(l.take i).sum<=5497558138880000:=by
 have:=JI fun x hx=>h x (List.mem_of_mem_take (i:=i) hx)
 have h2:(l.take i).length<=5000:=by rw[ad9];omega
 omega
def EA(l:List DV)(z:DV)(i:Nat):List DV:=l.take i++List.replicate (l.length-i) z
theorem zH{l:List DV}{z x:DV}{i:Nat}(h:l[i]?=some x):(EA l z i).set i x=EA l z (i+1):=by
 have hi:=(adP.1 h).1
 unfold EA
 have:l.length-i=(l.length-(i+1))+1:=by omega
 rw[List.set_append,if_neg (by rw[ad9];omega),adY,h,this,List.replicate_succ]
 simp[Nat.min_eq_left (Nat.le_of_lt hi)]
theorem DW{l:List DV}{z:DV}{i:Nat}(h:i<=l.length):(EA l z i).length=l.length:=by simp[EA];omega
theorem DX{l:List DV}{z:DV}{i:Nat}(h:i<l.length):(EA l z i)[i]?=some z:=by
 unfold EA
 rw[List.getElem?_append_right (by rw[ad9];omega),List.getElem?_replicate,if_pos (by simp;omega)]
theorem LC:∀{W:List Nat} {w:Nat},w∈W->w<=W.sum
 |a::l,w,h=>by
  rw[List.sum_cons]
  rcases adV.1 h with rfl|h
  ·omega
  ·have:=LC h;omega
theorem Rw{rs:List Int}{o o':List Nat}(h:Ord rs o)(h':Ord rs o'):o'=o:=by
 refine List.ext_getElem (by rw[h.len,h'.len]) fun k h1 h2=>?_
 have e1:=h'.Mr (ace h1)
 have hm:o'[k]∈o:=h.perm.mem_iff.2 (h'.perm.mem_iff.1 (ael h1))
 obtain⟨j,hj,e⟩:=List.getElem_of_mem hm
 have e2:=h.Mr (ace hj)
 rw[e,e1]at e2
 subst e2
 exact e.symm
theorem p9:∀W:List Nat,(W.map fun w:Nat=>(w:Int)).sum=((W.sum:Nat):Int)
 |[]=>rfl
 |a::l=>by simp only[List.map_cons,List.sum_cons,p9 l];omega
theorem DY{l:List DV}{z:DV}{n:Nat}(h:n=l.length):EA l z n=l:=by subst h;simp[EA]
variable [bj]
theorem Np(T:Nat)(W:List Nat)(hT:T<=1099511627776)(hW:∀w∈W,w<=1099511627776)(hl:W.length<=5000)(h0:0<W.sum):aR Tryz.prog 244 [I T,.sl 1 (W.map fun w:Nat=>I w)] [Ints (Ad T (W.map fun w:Nat=>(w:Int))),I 0]:=by
 obtain⟨ws,Od⟩:∃ws,ws=W.map fun w:Nat=>(w:Int):=⟨_,rfl⟩
 have hwl:ws.length=W.length:=by rw[Od,adO]
 have ll:(W.map fun w:Nat=>I w).length=W.length:=adO ..
 have H4:∀x∈ws,0<=x/\x<=1099511627776:=fun x hx=>by
  rw[Od]at hx
  obtain⟨w,hw,rfl⟩:=aeg.1 hx
  have:=hW w hw
  omega
 rw[<-Od]
 refine pO Tryz.func244 rfl (by kernel_rfl) rfl ?_
 refine .inl ⟨_,fun _=>(mG T).ok,?_⟩
 repeat refine gG ?_
 refine adN (fun h=>?_) fun _=>?_
 ·simp at h;omega
 refine⟨Nat,fun i=>⟨0,[(0,.dv (I T)),(1,.dv (.sl 1 (W.map fun w:Nat=>I w))),(6,.dv (I (ws.take i).sum)),(21,.dv (.sl 1 (W.map fun w:Nat=>I w))),(22,.dv (I W.length)),(23,.dv (I i))],[]⟩,fun i=>i<=W.length,fun i=>W.length-i,0,fun _=>rfl,jn (by simp only[ll];rfl) rfl rfl rfl,ad3 _,?_⟩
 rintro i hi
 have b1:=xp H4 (by omega) i
 refine adN (fun h=>?_) fun h=>?_
 ·have ay:i<W.length:=by have:=ad5 h;omega
  obtain⟨w,hw⟩:∃w,W[i]?=some w:=⟨_,ace ay⟩
  have hwi:ws[i]?=some (w:Int):=by rw[Od,adQ,hw];rfl
  have hb:=H4 _ (adR hwi)
  have dD:=Rv hwi
  have b2:=xp H4 (by omega) (i+1)
  refine⟨I w,fun _=>⟨by omega,by rw[adQ];simp[hw]⟩,?_⟩
  refine .inl ⟨_,fun _=>(mG w).ok,?_⟩
  refine adN (fun h=>?_) fun _=>?_
  ·simp at h;omega
  refine⟨fun _=>by omega,?_⟩
  refine adN (fun h=>?_) fun _=>?_
  ·have:=ad5 h;omega
  exact⟨fun _=>by omega,i+1,jn (by simp only[dD];rfl) rfl rfl rfl,ay,mlt ay⟩
 have he:i=W.length:=by have:=ad6 h;omega
 subst he
 rw[<-hwl,ad4]
 have QH:ws.sum≠0:=by
  rw[Od,p9]
  omega
 refine adN (fun h=>absurd (beq_iff_eq.1 h) QH) fun _=>?_
 have Az:∀{n:Nat},n<=5000->(n:Int)*(8:Nat)<=140737488355328:=fun h=>by omega
 have e22:(nth na (nth na 22).elem).bytes=8:=by kernel_rfl
 have acW:(nth na (nth na 154).elem).bytes=8:=by kernel_rfl
 refine⟨I 0,⟨rf,tv⟩,by omega,by omega,by rw[e22,ll];exact Az hl,by omega,false,(fun h=>by cases h),?_⟩
 refine⟨U 0,⟨rf,tv⟩,by omega,by omega,by rw[acW,ll];exact Az hl,by omega,false,(fun h=>by cases h),?_⟩
 refine⟨I 0,⟨rf,tv⟩,by omega,by omega,by rw[e22,ll];exact Az hl,by omega,false,(fun h=>by cases h),?_⟩
 obtain⟨qs,XO⟩:∃qs,qs=W.map fun w:Nat=>((T*w/W.sum:Nat):Int):=⟨_,rfl⟩
 obtain⟨rs,w8⟩:∃rs,rs=W.map fun w:Nat=>T*w%W.sum:=⟨_,rfl⟩
 have lq:qs.length=W.length:=by rw[XO,adO]
 have lr:rs.length=W.length:=by rw[w8,adO]
 have lqm:(qs.map I).length=W.length:=by rw[adO,lq]
 have lrm:(rs.map U).length=W.length:=by rw[adO,lr]
 have lix:(idx W.length).length=W.length:=by simp[idx]
 have abP:∀w∈W,w<=W.sum:=fun w hw=>LC hw
 have hS:W.sum<1152921504606846976:=by
  have:=JI H4
  rw[Od,p9,<-Od]at this
  omega
 have WG:∀x∈qs,0<=x/\x<=1099511627776:=fun x hx=>by
  rw[XO]at hx
  obtain⟨w,hw,rfl⟩:=aeg.1 hx
  have:T*w/W.sum<=T:=Nat.div_le_of_le_mul (by rw[Nat.mul_comm W.sum];exact Nat.mul_le_mul_left T (abP w hw))
  generalize T*w/W.sum=z at*
  omega
 have z1:EA (qs.map I) (I 0) 0=List.replicate W.length (I 0):=by simp[EA,lq]
 have z2:EA (rs.map U) (U 0) 0=List.replicate W.length (U 0):=by simp[EA,lr]
 have z3:EA (idx W.length) (I 0) 0=List.replicate W.length (I 0):=by simp[EA,lix]
 have WW:ws.sum=((W.sum:Nat):Int):=by rw[Od,p9]
 refine⟨Nat,fun i=>⟨4,[(0,.dv (I T)),(1,.dv (.sl 1 (W.map fun w:Nat=>I w))),(6,.dv (I W.sum)),(9,.own 0 0 0 []),(10,.ptr 2 0),(11,.own 3 0 0 []),(12,.dv (I (T-(qs.take i).sum))),(49,.dv (I W.length)),(50,.dv (I i))],[(0,.tree 0 0 (.aD 1 (EA (qs.map I) (I 0) i))),(1,.tree 0 0 (.aD 1 (EA (rs.map U) (U 0) i))),(2,.cells [.own 1 0 0 []]),(3,.tree 0 0 (.aD 1 (EA (idx W.length) (I 0) i)))]⟩,fun i=>i<=W.length,fun i=>W.length-i,0,fun _=>rfl,jn (by simp only[ll,WW,List.take_zero,List.sum_nil,Int.sub_zero];rfl) (by simp only[z1,z2,z3,ll,Int.toNat_natCast];rfl) rfl rfl,ad3 _,?_⟩
 rintro i hi
 have b1:=xp WG (by omega) i
 refine adN (fun h=>?_) fun h=>?_
 ·have ay:i<W.length:=by have:=ad5 h;omega
  obtain⟨w,hw⟩:∃w,W[i]?=some w:=⟨_,ace ay⟩
  have hwm:=adR hw
  have W1:qs[i]?=some ((T*w/W.sum:Nat):Int):=by rw[XO,adQ,hw];rfl
  have hri:rs[i]?=some (T*w%W.sum):=by rw[w8,adQ,hw];rfl
  have NW:=DT T w W.sum hT (abP w hwm) h0 hS
  refine⟨I w,fun _=>⟨by omega,by rw[adQ];simp[hw]⟩,?_⟩
  refine .inl ⟨_,fun _=>NW.ok,?_⟩
  have hq1:=WG _ (adR W1)
  have wq:IntKind.i64.wrap ((T*w/W.sum:Nat):Int)=((T*w/W.sum:Nat):Int):=by
   generalize T*w/W.sum=z at*
   exact wg (by omega)
  have yw:(qs.map I)[i]?=some (I ((T*w/W.sum:Nat):Int)):=by rw[adQ,W1];rfl
  have Tx:(rs.map U)[i]?=some (U (T*w%W.sum)):=by rw[adQ,hri];rfl
  have S5:(idx W.length)[i]?=some (I (i:Nat)):=by unfold idx;rw[adQ,List.getElem?_range ay];rfl
  have hsi:=Rv W1
  have b2:=xp WG (by omega) (i+1)
  have g1:=DX (l:=qs.map I) (z:=I 0) (i:=i) (by omega)
  have g2:=DX (l:=rs.map U) (z:=U 0) (i:=i) (by omega)
  have g3:=DX (l:=idx W.length) (z:=I 0) (i:=i) (by omega)
  have n1:=zH (z:=I 0) yw
  have n2:=zH (z:=U 0) Tx
  have n3:=zH (z:=I 0) S5
  have f1:=DW (l:=qs.map I) (z:=I 0) (i:=i) (by omega)
  have f2:=DW (l:=rs.map U) (z:=U 0) (i:=i) (by omega)
  have f3:=DW (l:=idx W.length) (z:=I 0) (i:=i) (by omega)
  generalize T*w/W.sum=q at*
  generalize T*w%W.sum=r at*
  refine⟨fun _=>⟨by omega,by rw[f1];omega⟩,[I q],⟨aG wq,tv⟩,I 0,by simpa using g1,?_⟩
  refine⟨fun _=>⟨by omega,by rw[f2];omega⟩,[U r],⟨rf,tv⟩,U 0,by simpa using g2,?_⟩
  refine⟨fun _=>⟨by omega,by rw[f3];omega⟩,[I i],⟨rf,tv⟩,I 0,by simpa using g3,?_⟩
  refine⟨by kernel_rfl,fun _=>⟨by rw[wq];omega,by rw[wq];omega⟩,fun _=>by omega,?_⟩
  have abQ:(T:Int)-(qs.take i).sum-IntKind.i64.wrap (q:Int)=T-(qs.take (i+1)).sum:=by rw[wq,hsi];omega
  refine⟨i+1,jn (by simp only[abQ];rfl) (by simp only[<-n1,<-n2,<-n3];rfl) rfl rfl,ay,mlt ay⟩
 have he:i=W.length:=by have:=ad6 h;omega
 subst he
 obtain⟨o,ho⟩:=IK (rs.map fun n:Nat=>(n:Int))
 have UL:aj Tryz.prog 265 [.own 0 0 0 [],.fn 266 [.ptr 1 0]] 3 (Vd (idx rs.length) rs) 0 [] (Vd (o.map fun i:Nat=>I i) rs):=
  mj (G7 rs (fun e=>by rw[e]at lr;have:W=[]:=List.length_eq_zero_iff.1 lr.symm;rw[this]at h0;cases h0) (by omega)) fun r k ⟨h1,o',h2,h3⟩=>⟨h1,by rw[h3,Rw ho h2]⟩
 rw[DY lqm.symm,DY lrm.symm,DY lix.symm]
 rw[lr]at UL
 refine .inr (cl [3,2,1] UL (by kernel_rfl) rfl rfl ?_)
 have hqL:qL T ws.sum ws=qs:=by
  rw[XO,WW,Od];unfold qL
  rw[List.map_map];exact List.map_congr_left fun w _=>by simp
 have hrL:rL T ws.sum ws=rs.map fun n:Nat=>(n:Int):=by
  rw[w8,WW,Od];unfold rL
  rw[List.map_map,List.map_map];exact List.map_congr_left fun w _=>by simp
 have oP:=xd (t:=T) (ws:=ws) (by omega)
 have hcp:(rL T ws.sum ws).countP (fun x=>decide (0<x))<=(rL T ws.sum ws).length:=List.countP_le_length
 rw[hrL]at hcp oP
 rw[adO,lr]at hcp
 have lO:Ad T ws=(o.take (fZ T ws.sum ws).toNat).foldl kE qs:=by
  unfold Ad
  rw[hrL,hqL]
  exact(yD ho (by rw[adO,lq,lr]) _).symm
 rw[lO]
 have hlm:(T:Int)-(qs.take W.length).sum=((fZ T ws.sum ws).toNat:Nat):=by
  rw[show qs.take W.length=qs by rw[<-lq,ad4]]
  have:fZ T ws.sum ws=T-qs.sum:=by unfold fZ;rw[hqL]
  omega
 have hm:(fZ T ws.sum ws).toNat<=W.length:=by omega
 have SZ:o.length=W.length:=by rw[ho.len,adO,lr]
 generalize (fZ T ws.sum ws).toNat=m at*
 rw[hlm]
 refine⟨Nat,fun i=>⟨4,[(9,.own 0 0 0 []),(11,.own 3 0 0 []),(85,.dv (I m)),(86,.dv (I i))],[(0,.tree 0 0 (.aD 1 (((o.take i).foldl kE qs).map I))),(3,.tree 0 0 (.aD 1 (o.map fun i:Nat=>I i)))]⟩,fun i=>i<=m,fun i=>m-i,0,fun _=>rfl,jn rfl rfl rfl rfl,ad3 _,?_⟩
 rintro i hi
 have dr:∀j∈o.take i,j<qs.length:=fun j hj=>by
  have:=ho.perm.mem_iff.1 (List.mem_of_mem_take hj)
  rw[aeh,adO,lr]at this;omega
 obtain⟨p1,p2⟩:=yB (o.take i) qs (ho.nodup.sublist (List.take_sublist i o)) dr
 refine adN (fun h=>?_) fun h=>?_
 ·have ay:i<m:=by have:=ad5 h;omega
  obtain⟨k,hk⟩:∃k,o[i]?=some k:=⟨_,ace (show i<o.length by omega)⟩
  have hkn:k<W.length:=by
   have:=ho.perm.mem_iff.1 (adR hk)
   rw[aeh,adO,lr]at this;omega
  have dD:(o.take (i+1)).foldl kE qs=kE ((o.take i).foldl kE qs) k:=by
   rw[adY,hk,aee];rfl
  have hv:=p2 k
  have hqk:0<=qs.getD k 0/\qs.getD k 0<=1099511627776:=by
   rw[adT,ace (by omega)]
   exact WG _ (ael _)
  generalize (o.take i).foldl kE qs=ps at*
  have S6:0<=ps.getD k 0/\ps.getD k 0<=1099511627777:=by rw[hv];split<;>omega
  have gk:(ps.map I)[((k:Int)).toNat]?=some (I (ps.getD k 0)):=by
   rw[adQ,Int.toNat_natCast,adT,ace (by omega)];rfl
  have acX:(o.map fun i:Nat=>I i).length=o.length:=adO ..
  have A2:(ps.map I).length=ps.length:=adO ..
  refine⟨fun _=>by omega,I k,fun _=>by rw[adQ,Int.toNat_natCast,hk];rfl,?_⟩
  refine⟨fun _=>by omega,I (ps.getD k 0),fun _=>gk,?_⟩
  refine⟨fun _=>by omega,?_⟩
  refine⟨fun _=>by omega,[I (ps.getD k 0+1)],⟨rf,tv⟩,I (ps.getD k 0),gk,?_⟩
  refine⟨fun _=>by omega,i+1,jn rfl ?_ rfl rfl,ay,mlt ay⟩
  simp only[dD,kE,List.map_set];rfl
 ·have he:i=m:=by have:=ad6 h;omega
  subst he
  exact⟨Lo _,rf,tv⟩
theorem xq:n4:=fun t ws ht hw hl hs HX=>by
 obtain⟨T,rfl⟩:=Int.eq_ofNat_of_zero_le ht.1
 obtain⟨W,rfl⟩:∃W:List Nat,ws=W.map fun w:Nat=>(w:Int):=⟨ws.map Int.toNat,by
  rw[List.map_map]
  refine(List.map_id' ws).symm.trans (List.map_congr_left fun x hx=>?_)
  have:=hw x hx
  show x=((x.toNat:Nat):Int)
  omega⟩
 have h:=Np T W (by omega) (fun w hwm=>by have:=(hw _ (List.mem_map_of_mem hwm)).2;omega) (by rwa[adO]at hl) (by rw[p9]at hs;omega)
 show aR _ _ [I T,.sl 1 ((W.map fun w:Nat=>(w:Int)).map I)] _
 rw[List.map_map]
 exact h
end
section
open Go.TM
def abR(sh:Int):ad:=[(1,.tree 0 0 (.omap eE [])),(2,.tree 0 0 (.omap bX [])),(3,.tree 0 0 (.omap bX [])),(4,.tree 0 0 (.omap bX [])),(5,.cells (.dv (I sh)::eP iG++[.own 1 0 0 [],.own 2 0 0 [],.dv .aw,.dv .aw,.own 3 0 0 [],.own 4 0 0 []]))]
variable [bj]
theorem Nq(sh:Int)(h:0<=sh/\sh<=11):aj Tryz.prog 21 [.dv (I sh),cx FG] 0 [] 6 [.ptr 5 0,.dv (I 0)] (abR sh):=by
 refine cO Tryz.func21 rfl (by kernel_rfl) ?_
 repeat refine gG ?_
 refine adN (fun hc=>?_) fun _=>?_
 ·simp[bw]at hc;omega
 refine .inl ⟨_,fun _=>yK.ok,?_⟩
 refine adN (fun h=>by cases h) fun _=>?_
 refine .inl ⟨_,fun _=>Bv.ok,?_⟩
 refine⟨eE,bX,bX,bX,?_⟩
 refine⟨_,_,⟨rfl,rfl⟩,by kernel_rfl,⟨rfl,rf,tv⟩,?_⟩
 repeat' first|exact trivial|rfl|exact rf|exact za|refine adN ?_ ?_
end
section
open Go.TM
variable [bj]
end
section
open Go.TM
def acY(sh:Int):ad:=abR sh++[(7,.cells (.dv (I sh)::eP iG++[.dv .aw,.dv .aw,.dv .aw]))]
theorem abS{sh:Int}(h:0<=sh/\sh<=11):Inv ⟨sh,[],[],[],[],[],[]⟩ ⟨sh,[],[],[]⟩where
 gT:=⟨h,by simp,by simp,List.nodup_nil,by simp,fun p hp=>(by cases hp),fun it=>(by simp[bN]),fun f hf=>(by cases hf)⟩
 sh:=rfl
 fl:=rfl
 sp:=rfl
 nk:=⟨List.nodup_nil,List.nodup_nil,List.nodup_nil,List.nodup_nil⟩
 ret g:=rfl
 dx:=⟨fun p hp=>(by cases hp),fun i f hf=>(by cases hf),fun f hf=>(by cases hf),fun f hf=>(by cases hf),fun p hp=>(by cases hp)⟩
 st k:=rfl
 bZ j:=rfl
 imp g:=rfl
 step f hf:=by cases hf
 ZT:=by simp
 sps s hs:=by cases hs
 now:=by simp[eW]
variable [bj]
theorem Nr(n:Int):aj Tryz.prog 30 [.dv (I n)] 0 [] 8 [.ptr 5 0,.ptr 7 0,.dv (B true)] (acY (ga n 12)):=by
 have hb:=vd n 12 (by omega)
 refine cO Tryz.func30 rfl (by kernel_rfl) ?_
 refine .inl ⟨_,fun _=>(vZ n 12 (by omega) (by omega)).ok,?_⟩
 refine .inl ⟨_,fun _=>yJ.ok,?_⟩
 refine .inr (cl [] (Nq (ga n 12) ⟨hb.1,by omega⟩) (by kernel_rfl) rfl rfl ?_)
 refine .inl ⟨_,fun _=>yJ.ok,?_⟩
 refine .inr (cl [] (MV (ga n 12) ⟨hb.1,by omega⟩) (by kernel_rfl) rfl rfl ?_)
 repeat refine gG ?_
 exact ext (by kernel_rfl) rfl rfl
end
end Go.Proofs.YtfpebgpgabjieaaGreatDoor
