import Derived.Test.YtfpebgpgabjieaaGreatDoorHM15
import Derived.Test.YtfpebgpgabjieaaGreatDoorHM16
import Derived.Test.YtfpebgpgabjieaaGreatDoorHM17
import Derived.KernelRfl
import Derived.Laws.Externs
set_option linter.all false
open Go.TM.oA Go.TM.oB Go.TM.oC Go.TM.oD Go.TM.oE
namespace Go.Proofs.YtfpebgpgabjieaaGreatDoor
set_option maxRecDepth 100000
set_option maxHeartbeats 4000000
section
open Go.TM
def jY:List Nat:=[0,0,0,0,0,0,0,0,0,1,1,0,0,0,0,0,0,0,0,0,0,0,0,0,0,0,0,0,0,0,0,0,1,0,0,2,0,0,0,0,7,7,0,7,7,6,7,0,4,4,4,4,4,4,4,4,4,4,7,7,7,7,7,0,0,0,0,0,0,0,0,0,0,0,0,0,0,0,0,0,0,0,0,0,0,0,0,0,0,0,0,0,0,0,0,5,0,3,3,3,3,3,3,3,3,3,3,3,3,3,3,3,3,3,3,3,3,3,3,3,3,3,3,7,0,7,0,0]
class aW where
 ty:TypeId
 fr:Nat×Nat
def LL:Array Value:=(jY.map fun n=>Value.int .u8 (n:Nat)).toArray
def Pn[aW]:Nat->Option Obj:=fun i=>bif Nat.beq i 0 then some (.cells LL aW.ty aW.fr)else none
def kDv:Nat->Option DV:=fun i=>bif Nat.beq i 0 then some (.agg (jY.map fun n=>DV.int .u8 (n:Nat)))else none
theorem kOk[aW]:∀i x,kDv i=some x->∀M:Mem,(∀j o,Pn j=some o->M j=some o)->bq M (.at x 0) (.pointer (some ⟨i,0,none⟩)):=by
 intro i x h M hM
 unfold kDv at h
 cases hb:Nat.beq i 0 with
 |false=>rw[hb]at h;cases h
 |true=>
  rw[hb]at h
  have hi:=adm hb
  injection h with h;subst h
  have hm:=hM i (.cells LL aW.ty aW.fr) (by unfold Pn;rw[hb];rfl)
  have ha:∀j,(⟨i,0,none⟩:Addr).add j=⟨i,j,none⟩:=fun j=>by unfold Addr.add;split<;>simp[*]
  have:=bq.at (M:=M) (.agg (jY.map fun n=>DV.int .u8 (n:Nat))) 0 ⟨i,0,none⟩ (fun j=>.int .u8 ((jY.getD j 0:Nat):Int)) (fun d hd=>by
   simp only[DV.cells,adK]at hd
   obtain⟨n,_,rfl⟩:=hd
   rfl) (fun j hj=>by
   rw[ha]
   simp only[DV.cells,adi]at hj
   simp[Mem.cell?,hm,LL,hj]) (fun j d hd=>by
   simp only[DV.cells,adk]at hd
   cases hj:jY[j]? with
   |none=>rw[hj]at hd;cases hd
   |some n=>
    rw[hj]at hd
    simp only[Option.map_some,Option.some.injEq]at hd
    subst hd
    simp only[List.getD,hj,Option.getD_some]
    exact .int .u8 _)
  rw[ha]at this
  exact this
instance acT[aW]:cy where
 obj:=Pn
 dv:=kDv
 ok:=kOk
abbrev I(n:Int):DV:=.int .i64 n
abbrev B(b:Bool):DV:=.bool b
abbrev Ints(l:List Int):DV:=.sl 1 (l.map I)
theorem aM{a b:Int}{k:IntKind}(h:a=b):(DV.int k a).Le (.int k b):=h▸DV.Le.refl _
abbrev rf{d:DV}:d.Le d:=DV.Le.refl d
theorem az:∀(g:Nat) (fn:Func),Tryz.prog.funcs[g]?=some fn->(fn.name== "runtime.NumGoroutine")=false:=by
 have h:(Tryz.prog.funcs.all fun fn=>!(fn.name== "runtime.NumGoroutine"))=true:=by kernel_rfl
 intro g fn hg
 rw[Array.all_eq_true']at h
 have:=h fn (Array.mem_of_getElem? hg)
 simpa using this
variable [aW]
def LM(n:Int):Prop:=-9223372036854775808<=n/\n<=9223372036854775807
theorem fq{α:Type}{e:α->DV}(h:∀x,oT (e x)=e x)(l:List α):wW (l.map e)=l.map e:=by
 rw[yq,List.map_map]
 exact List.map_congr_left fun x _=>h x
theorem nP{b:Bool}(h:b=true):bw b true=true:=by subst h;rfl
theorem ab1{b:Bool}(h:b=false):bw b false=true:=by subst h;rfl
theorem Xt{a b:Bool}(h:a=true)(h2:b=true):(a&&bw b true)=true:=by subst h;subst h2;rfl
theorem T3{a b:Bool}(h:a=true)(h2:b=false):(a&&bw b false)=true:=by subst h;subst h2;rfl
theorem bZ{a b:Bool}(h:(bif a then b else false)=true):a=true/\b=true:=by cases a<;>simp_all
theorem gI{a b:Bool}(h:(bif a then b else false)=false):¬(a=true/\b=true):=by cases a<;>simp_all
def CC(b w:DV):List DV:=[.agg [.str ⟨⟨[103,111,108,100]⟩⟩,B false,B true,B true,I 0,I 0,I 0],
 .agg [.str ⟨⟨[111,114,101]⟩⟩,B false,B false,B false,I 0,I 0,I 0],
 .agg [.str ⟨⟨[99,111,97,108]⟩⟩,B false,B true,B false,I 0,I 0,I 0],
 .agg [.str ⟨⟨[98,97,114]⟩⟩,B false,B false,B false,I 0,I 0,I 0],
 .agg [.str ⟨⟨[115,119,111,114,100]⟩⟩,B true,B false,B false,w,b,I 3]]
def eN:DV:=.sl 9 [.agg [.str ⟨⟨[100,105,103]⟩⟩,B true,I 0,I 0,I 1,I 1,.aH,.sl 2 [.agg [I 1,I 4],.agg [I 2,I 3]],.aH],
 .agg [.str ⟨⟨[115,109,101,108,116]⟩⟩,B false,I 2,I 5,I 2,I 3,.sl 2 [.agg [I 1,I 2],.agg [I 2,I 1]],.sl 2 [.agg [I 3,I 1]],.sl 2 [.agg [I 1,I 1]]],
 .agg [.str ⟨⟨[102,111,114,103,101]⟩⟩,B false,I 3,I 10,I 1,I 1,.sl 2 [.agg [I 3,I 3]],.sl 2 [.agg [I 4,I 1]],.aH],
 .agg [.str ⟨⟨[115,99,114,97,112]⟩⟩,B false,I 0,I 1,I 1,I 1,.sl 2 [.agg [I 4,I 1]],.sl 2 [.agg [I 3,I 3]],.aH],
 .agg [.str ⟨⟨[115,101,108,108]⟩⟩,B false,I 0,I 1,I 1,I 1,.sl 2 [.agg [I 3,I 1]],.sl 2 [.agg [I 0,I 7]],.aH]]
def iE:DV:=.sl 2 [.agg [.str ⟨⟨[99,104,101,115,116]⟩⟩,.sl 2 [.agg [I 5,.sl 2 [.agg [I 0,I 10]]],.agg [I 1,.sl 2 [.agg [I 3,I 2]]]]]]
def fc:DV:=.sl 2 [.agg [.str ⟨⟨[115,97,108,101]⟩⟩,.sl 2 [.agg [I 0,I 500],.agg [I 100,I 1000]]]]
def ab2(b w:DV):DV:=.agg [.sl 7 (CC b w),eN,iE,fc]
def dB(_:Nat):Bool:=true
def wu(_:Nat):Bool:=false
theorem pO{f:Nat}{fn:Func}{c:Code}{args rs:List DV}(hf:Tryz.prog.funcs[f]?=some fn)(hb:fn.body=some c)(hn:(fn.name== "runtime.NumGoroutine")=false)
 (ha:Nat.ble args.length fn.ntmps=true) (h:fG Tryz.prog jk .fn fn.ntmps 0 c (VC jk fn rs) 0 (rA 0 args) []):ai Tryz.prog f args rs:=Ew aG mixed (eY _) (fL _) hf hb hn ha h
theorem cO{f:Nat}{fn:Func}{c:Code}{args:List AV}{m ex:Nat}{K:ae}{rs:List AV}{K':ae}(hf:Tryz.prog.funcs[f]?=some fn)(hb:fn.body=some c)
 (ha:((!(fn.name== "runtime.NumGoroutine"))&&(Nat.ble args.length fn.ntmps&&cU.wf ⟨m,dA 0 args,K⟩))=true) (h:fG Tryz.prog jk .fn fn.ntmps m c (pe jk fn m ex fun r k=>r=rs/\k=K') m (dA 0 args) K):aw Tryz.prog f args m K ex rs K':=by
 rw[adT,adV]at ha
 exact Od aG mixed (eY _) (fL _) hf hb ha.1 ha.2 h
theorem g1{a p:Prop}(h:p):(a->a)/\p:=⟨id,h⟩
theorem g2{b:Bool}{a p:Prop}(h:p):(a->b=false->bw b false=true)/\p:=⟨fun _ h=>ab1 h,h⟩
theorem g3{b:Bool}{a p:Prop}(h:p):(a->b=true->bw b true=true)/\p:=⟨fun _ h=>nP h,h⟩
theorem g4{a b:Bool}{p:Prop}(h:p):(a=true->a=true/\(b=true->(a&&bw b true)=true))/\p:=⟨fun h=>⟨h,fun h2=>Xt h h2⟩,h⟩
theorem g5{a b:Bool}{p:Prop}(h:p):(a=true->a=true/\(b=false->(a&&bw b false)=true))/\p:=⟨fun h=>⟨h,fun h2=>T3 h h2⟩,h⟩
def aD(x:Lt):DV:=.agg [I x.f,I x.a,I x.n]
abbrev aR(l:List Lt):DV:=.sl 3 (l.map aD)
end
section
open Go.TM
variable [aW]
abbrev LN:DV:=ab2 (I 2) (I 20)
theorem gW:ai Tryz.prog 9 [] [LN]:=ar (pol:=dB) (fuel:=1000) aG mixed az (by kernel_rfl)
theorem A4:ai Tryz.prog 64 [LN] [LN]:=ar (pol:=wu) (fuel:=1000) aG mixed az (by kernel_rfl)
theorem yt:ai Tryz.prog 63 [LN] [I 0]:=ar (pol:=dB) (fuel:=1000) aG mixed az (by kernel_rfl)
theorem E8:ai Tryz.prog 20 [LN] [I 0]:=ar (pol:=dB) (fuel:=1000) aG mixed az (by kernel_rfl)
end
section
open Go.TM
structure It where
 nm:ByteArray
 ob:Bool
 mx:Bool
 co:Bool
 we:Int
 bi:Int
 le:Int
def fT(x:It):DV:=.agg [.str x.nm,B x.ob,B x.mx,B x.co,I x.we,I x.bi,I x.le]
def aj:List It:=[⟨⟨⟨[103,111,108,100]⟩⟩,false,true,true,0,0,0⟩,⟨⟨⟨[111,114,101]⟩⟩,false,false,false,0,0,0⟩,⟨⟨⟨[99,111,97,108]⟩⟩,false,true,false,0,0,0⟩,⟨⟨⟨[98,97,114]⟩⟩,false,false,false,0,0,0⟩,⟨⟨⟨[115,119,111,114,100]⟩⟩,true,false,false,20,2,3⟩]
def bK(l:List It):DV:=.agg [.sl 7 (l.map fT),eN,iE,fc]
def dV(s:ByteArray):It:=⟨s,false,false,false,0,0,0⟩
def gC(s:ByteArray):List It:=aj++[dV s]
variable [aW]
theorem LO(s:ByteArray):ai Tryz.prog 102 [bK (gC s)] [B true]:=ar (pol:=dB) (fuel:=1000) aG mixed az (by kernel_rfl)
theorem HP(s:ByteArray):ai Tryz.prog 105 [bK (gC s)] [B true]:=ar (pol:=dB) (fuel:=1000) aG mixed az (by kernel_rfl)
theorem Po(s:ByteArray):ai Tryz.prog 106 [bK (gC s)] [B true]:=ar (pol:=dB) (fuel:=1000) aG mixed az (by kernel_rfl)
theorem HQ(s:ByteArray):ai Tryz.prog 64 [bK (gC s)] [bK (gC s)]:=ar (pol:=wu) (fuel:=1000) aG mixed az (by kernel_rfl)
theorem Pp:ai Tryz.prog 152 [eN,.fn 161 []] [B true]:=ar (pol:=dB) (fuel:=1000) aG mixed az (by kernel_rfl)
theorem Pq:ai Tryz.prog 154 [iE,.fn 162 []] [B true]:=ar (pol:=dB) (fuel:=1000) aG mixed az (by kernel_rfl)
theorem Pr:ai Tryz.prog 156 [fc,.fn 163 []] [B true]:=ar (pol:=dB) (fuel:=1000) aG mixed az (by kernel_rfl)
theorem Ps:ai Tryz.prog 166 [eN,.fn 167 []] [B true]:=ar (pol:=dB) (fuel:=1000) aG mixed az (by kernel_rfl)
theorem Pt:ai Tryz.prog 168 [iE,.fn 169 []] [B true]:=ar (pol:=dB) (fuel:=1000) aG mixed az (by kernel_rfl)
theorem Pu:ai Tryz.prog 170 [fc,.fn 171 []] [B true]:=ar (pol:=dB) (fuel:=1000) aG mixed az (by kernel_rfl)
theorem HS(s:ByteArray):ai Tryz.prog 55 [bK (gC s)] [.sl 1 [.sl 1 ((gC s).map fun x=>DV.str x.nm),.sl 1 [.str ⟨⟨[100,105,103]⟩⟩,.str ⟨⟨[115,109,101,108,116]⟩⟩,.str ⟨⟨[102,111,114,103,101]⟩⟩,.str ⟨⟨[115,99,114,97,112]⟩⟩,.str ⟨⟨[115,101,108,108]⟩⟩],.sl 1 [.str ⟨⟨[99,104,101,115,116]⟩⟩],.sl 1 [.str ⟨⟨[115,97,108,101]⟩⟩]]]:=ar (pol:=dB) (fuel:=1000) aG mixed az (by kernel_rfl)
end
section
open Go.TM
def kd(s:ByteArray)(i:Nat):Nat:=match s[i]? with
 |none=>0
 |some b=>jY.getD b.toNat 0
theorem Pv{s:ByteArray}{i:Nat}(h:s.size<=i):kd s i=0:=by
 unfold kd;rw[show s[i]?=none by simp;omega]
theorem E9{s:ByteArray}{i:Nat}(h:kd s i≠0):i<s.size:=Nat.lt_of_not_le fun h2=>h (Pv h2)
def V6(p:Nat->Bool):Nat->Nat->Nat
 |0,k=>k
 |n+1,k=>if p k=true then V6 p n (k+1)else k
theorem yu{p:Nat->Bool}:∀{n a k:Nat},a<=k->k<=n+a->(∀j,a<=j->j<k->p j=true)->(k<n+a->p k=false)->V6 p n a=k
 |0,a,k,h1,h2,_,_=>by show a=k;omega
 |n+1,a,k,h1,h2,h3,h4=>by
  unfold V6
  by_cases e:a=k
  ·subst e;rw[if_neg (by rw[h4 (by omega)];simp)]
  ·rw[if_pos (h3 a (adM _) (by omega))]
   exact yu (by omega) (by omega) (fun j ha hj=>h3 j (by omega) hj) fun hk=>h4 (by omega)
theorem HU{p:Nat->Bool}:∀{n a:Nat},a<=V6 p n a/\V6 p n a<=n+a
 |0,a=>by show a<=a/\a<=0+a;omega
 |n+1,a=>by
  unfold V6
  have:=HU (p:=p) (n:=n) (a:=a+1)
  split<;>omega
def Pw(k:Nat):Bool:=k==3||(k==4||k==5)
def wE(s:ByteArray)(a:Nat):Nat:=V6 (fun i=>Pw (kd s i)) (s.size-(a+1)) (a+1)
def dE(s:ByteArray)(a:Nat):Nat:=V6 (fun i=>kd s i==4) (s.size-(a+1)) (a+1)
structure Tok where
 kind:Int
 text:ByteArray
 n:Int
 pos:Nat
def Za(s:ByteArray)(i:Nat):Int:=(((s[i]?).getD 0).toNat:Int)-48
def Fa(s:ByteArray):Nat->Nat->Int->Int×Bool
 |0,_,n=>(n,true)
 |m+1,i,n=>if 1099511627776<n*10+Za s i then(n*10+Za s i,false)else Fa s m (i+1) (n*10+Za s i)
def pH(s:ByteArray)(a:Nat):Tok×Int:=
 if kd s a=3 then if 16<wE s a-a then(⟨0,⟨#[]⟩,0,a⟩,4)else(⟨0,s.extract a (wE s a),0,a⟩,0)
 else if kd s a=4 then if(Fa s (dE s a-a) a 0).2=true then(⟨1,s.extract a (dE s a),(Fa s (dE s a-a) a 0).1,a⟩,0)else(⟨1,⟨#[]⟩,(Fa s (dE s a-a) a 0).1,a⟩,4)
 else if kd s a=7 then(⟨2,s.extract a (a+1),0,a⟩,0)
 else if kd s a=6 then if s[a+1]?=some 62 then(⟨2,s.extract a (a+2),0,a⟩,0)else(⟨2,⟨#[]⟩,0,a⟩,2)
 else(⟨0,⟨#[]⟩,0,a⟩,2)
def A5(s:ByteArray):Nat->Nat->Nat
 |0,a=>a
 |m+1,a=>if kd s a=1 then A5 s m (a+1)
  else if kd s a=2 then if firstIdx (s.extract a s.size) 10<0 then s.size else A5 s m (a+(firstIdx (s.extract a s.size) 10).toNat)
  else a
def A6(s:ByteArray)(N:Nat->Tok×Int)(S:Nat->Nat):Nat->Nat->List Tok->List Tok×Nat×Int
 |0,_,l=>(l,0,0)
 |m+1,a,l=>if a<s.size then if(N a).2=0 then A6 s N S m (S (a+(N a).1.text.size)) (l++[(N a).1])else(l,(N a).1.pos,(N a).2)else(l,0,0)
abbrev Zb(s:ByteArray):=A6 s (pH s) (A5 s (s.size+1))
def wv(s:ByteArray)(r:List Tok×Nat×Int):Bool:=(r.2.2==0)&&(r.1.length==1)&&match r.1 with
 |t::_=>(t.kind==0)&&(t.text.toList==s.toList)
 |[]=>false
def iw(s:ByteArray):Bool:=decide (0<s.size)&&(decide (s.size<=16)&&((kd s 0==3)&&(wE s 0==s.size)))
theorem vA(s:ByteArray)(c:UInt8):firstIdx s c<s.size/\-1<=firstIdx s c:=by
 unfold firstIdx
 split
 ·rename_i i h
  have:=adL.1 (List.mem_of_find?_eq_some h)
  omega
 ·omega
theorem yv(s:ByteArray):∀(m a:Nat),a<=s.size->a<=A5 s m a/\A5 s m a<=s.size
 |0,a,h=>⟨adM _,h⟩
 |m+1,a,h=>by
  unfold A5
  split
  ·rename_i hk
   have:=E9 (s:=s) (i:=a) (by omega)
   have:=yv s m (a+1) (by omega)
   omega
  ·split
   ·split
    ·omega
    ·have h1:=vA (s.extract a s.size) 10
     have h2:(s.extract a s.size).size=s.size-a:=by simp
     have:=yv s m (a+(firstIdx (s.extract a s.size) 10).toNat) (by omega)
     omega
   ·omega
theorem Kd(s:ByteArray)(m:Nat):A5 s m s.size=s.size:=by
 have:=yv s m s.size (adM _);omega
theorem Fb{s:ByteArray}{N:Nat->Tok×Int}{S:Nat->Nat}:∀(m a:Nat) (l:List Tok) (ts:List Tok) (p:Nat),A6 s N S m a l=(ts,p,0)->l <+: ts
 |0,a,l,ts,p,h=>by injection h with h;subst h;exact List.prefix_refl _
 |m+1,a,l,ts,p,h=>by
  unfold A6 at h
  split at h
  ·split at h
   ·exact List.IsPrefix.trans (List.prefix_append _ _) (Fb m _ _ _ _ h)
   ·rename_i h2
    injection h with _ h;injection h with _ h
    exact absurd h h2
  ·injection h with h;subst h;exact List.prefix_refl _
theorem Ke{a b:ByteArray}:(a.toList==b.toList)=true↔a=b:=by
 rw[beq_iff_eq,ByteArray.toList_eq,ByteArray.toList_eq,Array.toList_inj]
 exact⟨fun h=>ByteArray.ext h,fun h=>h▸rfl⟩
def Kf(l:List ByteArray)(s:ByteArray):Bool:=l.any fun x=>x.toList==s.toList
theorem CD{l:List ByteArray}{s:ByteArray}:Kf l s=true↔s∈l:=by
 unfold Kf
 rw[List.any_eq_true]
 constructor
 ·rintro⟨x,h,e⟩;exact Ke.1 e▸h
 ·intro h;exact⟨s,h,Ke.2 rfl⟩
theorem pI{s:ByteArray}:iw s=true↔0<s.size/\s.size<=16/\kd s 0=3/\wE s 0=s.size:=by
 simp only[iw,adT,decide_eq_true_eq,beq_iff_eq]
theorem Kg{s:ByteArray}{a:Nat}(h:a<s.size):a<wE s a/\wE s a<=s.size:=by
 have:=HU (p:=fun i=>Pw (kd s i)) (n:=s.size-(a+1)) (a:=a+1)
 unfold wE;omega
theorem Px{s:ByteArray}{a:Nat}(h:a<s.size):a<dE s a/\dE s a<=s.size:=by
 have:=HU (p:=fun i=>kd s i==4) (n:=s.size-(a+1)) (a:=a+1)
 unfold dE;omega
theorem LP{s:ByteArray}{a:Nat}(h:a<s.size)(h1:(pH s a).2=0)(h2:(pH s a).1.kind=0)(h3:(pH s a).1.text=s):iw s=true:=by
 unfold pH at h1 h2 h3
 by_cases e3:kd s a=3
 ·rw[if_pos e3]at h1 h2 h3
  by_cases e:16<wE s a-a
  ·rw[if_pos e]at h1;cases h1
  ·rw[if_neg e]at h3
   have hw:=Kg h
   have hs:=congrArg ByteArray.size h3
   simp only[ByteArray.size_extract]at hs
   have ha:a=0:=by omega
   subst ha
   exact pI.2 ⟨by omega,by omega,e3,by omega⟩
 ·rw[if_neg e3]at h1 h2 h3
  by_cases e4:kd s a=4
  ·rw[if_pos e4]at h2
   split at h2<;>cases h2
  ·rw[if_neg e4]at h1 h2
   by_cases e7:kd s a=7
   ·rw[if_pos e7]at h2;cases h2
   ·rw[if_neg e7]at h1 h2
    by_cases e6:kd s a=6
    ·rw[if_pos e6]at h2
     split at h2<;>cases h2
    ·rw[if_neg e6]at h1;cases h1
theorem aaG{s:ByteArray}{N:Nat->Tok×Int}{S:Nat->Nat}(hN:∀a,a<s.size->(N a).2=0->(N a).1.kind=0->(N a).1.text=s->iw s=true)(hW:iw s=true->S 0=0/\N 0=(⟨0,s,0,0⟩,0)/\S s.size=s.size):
 (if 8192<s.size then false else wv s (A6 s N S (s.size+1) (S 0) []))=iw s:=by
 rw[adO]
 constructor
 ·intro h
  split at h
  ·cases h
  ·unfold wv A6 at h
   split at h
   ·rename_i hl
    split at h
    ·rename_i he
     generalize hr:A6 s N S _ _ _=r at h
     obtain⟨ts,p,e⟩:=r
     simp only[adT,beq_iff_eq]at h
     obtain⟨⟨h1,h2⟩,h3⟩:=h
     subst h1
     obtain⟨q,hq⟩:=Fb _ _ _ _ _ hr
     rw[<-hq]at h3 h2
     simp only[List.nil_append,List.cons_append]at h3
     simp only[adT,beq_iff_eq]at h3
     exact hN _ hl he h3.1 (Ke.1 (by simpa using h3.2))
    ·rename_i he
     simp only[adT,beq_iff_eq]at h
     exact absurd h.1.1 he
   ·simp at h
 ·intro h
  obtain⟨h1,h2,h3,h4⟩:=pI.1 h
  obtain⟨e0,en,e2⟩:=hW h
  rw[if_neg (by omega),e0]
  have e1:A6 s N S (s.size+1) 0 []=([⟨0,s,0,0⟩],0,0):=by
   unfold A6
   rw[if_pos h1,if_pos (by rw[en]),en]
   show A6 s N S s.size (S (0+s.size)) [⟨0,s,0,0⟩]=_
   rw[Nat.zero_add,e2]
   cases hz:s.size with
   |zero=>rfl
   |succ m=>unfold A6;rw[if_neg (by omega)]
  rw[e1]
  simp[wv]
theorem T4(s:ByteArray):(if 8192<s.size then false else wv s (Zb s (s.size+1) (A5 s (s.size+1) 0) []))=iw s:=
 aaG (fun a ha h1 h2 h3=>LP ha h1 h2 h3) fun h=>by
  obtain⟨h1,h2,h3,h4⟩:=pI.1 h
  refine⟨by unfold A5;rw[if_neg (by omega),if_neg (by omega)],?_,Kd s _⟩
  unfold pH
  rw[if_pos h3,if_neg (by omega),h4,ByteArray.extract_zero_size]
end
section
open Go.TM Go.RowKit
theorem LQ(s:ByteArray)(c:Int)(w:World):Calls Tryz.prog 282 #[.string s,.int .u8 c] w fun e w'=>e=.returned (.int .i64 (firstIdx s c.toNat.toUInt8))/\w'=w:=by
 go_enter Tryz.func282,Tryz.ntmps282
 go_wp2
 rw[run_callFunc_extern Tryz.func293 (by kernel_rfl) (by kernel_rfl) (by kernel_rfl) (e:=Extern.BytealgIndexByte.indexByte) (by kernel_rfl),run_indexByte_string]
 simp only[Result.andThen]
 rw[Oper.upon_value]
 go_wp2
 go_ret
 exact⟨rfl,rfl⟩
variable [aW]
theorem Py(s:ByteArray):ai Tryz.prog 272 [.str s,.int .u8 10] [I (firstIdx s 10)]:=by
 refine pO Tryz.func272 rfl (by kernel_rfl) rfl ?_
 have h:ai Tryz.prog 282 [.str s,.int .u8 10] [I (firstIdx s 10)]:=by
  refine⟨⟨_,Tryz.func282,by kernel_rfl,rfl⟩,fun w M vs dz nr hr=>?_⟩
  obtain⟨v0,v1,rfl⟩:∃v0 v1,vs=[v0,v1]:=by
   match vs,hr.1 with
   |[a,b],_=>exact⟨a,b,rfl⟩
  have h0:=hr.2 0 _ v0 rfl rfl
  have h1:=hr.2 1 _ v1 rfl rfl
  cases h0 with|str=>cases h1 with|int=>
  refine(LQ s 10 w).mono ?_
  rintro e w' ⟨rfl,rfl⟩
  exact⟨_,M,rfl,Below.refl _ _,Mem.Le.refl _,dz,fun _ _=>rfl,.int _ _⟩
 refine .inl ⟨_,fun _=>h.ok,?_⟩
 exact⟨rf,tv⟩
theorem bwF{b:Bool}(h:bw b false=true):b=false:=by cases b<;>first|rfl|cases h
theorem mT(s:ByteArray)(k:Nat):ai Tryz.prog 271 [.str s,I k] [.int .u8 (kd s k:Nat)]:=by
 refine pO Tryz.func271 rfl (by kernel_rfl) rfl ?_
 have hs:k<s.size->s[k]?=some ((s[k]?).getD 0):=fun h=>by simp[h]
 have hk:k<s.size->kd s k=jY.getD ((s[k]?).getD 0).toNat 0:=fun h=>by unfold kd;rw[hs h];rfl
 generalize (s[k]?).getD 0=b at hs hk
 have hb:∀h:bw (decide ((s.size:Int)<=(k:Int))) false=true,k<s.size:=fun h=>by have:=adA (bwF h);omega
 repeat refine gG ?_
 refine⟨b,fun h=>⟨by omega,hs (hb h)⟩,?_⟩
 repeat refine gG ?_
 refine adh (fun h=>?_) fun h=>?_
 ·have e:kd s k=0:=by
   by_cases hl:k<s.size
   ·rw[hk hl]
    have:128<=b.toNat:=by
     have h:(bif decide ((s.size:Int)<=k)then true else decide ((128:Int)<=b.toNat))=true:=h
     rw[adG (by omega)]at h
     have:=adz h
     omega
    have hlen:jY.length=128:=rfl
    rw[adn,List.getElem?_eq_none (by omega)];rfl
   ·exact Pv (by omega)
  rw[e]
  exact⟨rf,tv⟩
 ·have hl:k<s.size:=by
   simp only[cond_eq_ite]at h
   split at h
   ·cases h
   ·rename_i h2;have:=adA (Bool.eq_false_iff.2 h2);omega
  have ct:b.toNat<128:=by
   have h:(bif decide ((s.size:Int)<=k)then true else decide ((128:Int)<=b.toNat))=false:=h
   rw[adG (by omega)]at h
   have:=adA h
   omega
  refine⟨b,fun _=>⟨by omega,hs hl⟩,fun _=>⟨by omega,by show((b.toNat:Int)+1<=128);omega⟩,?_⟩
  have hx:∀n:Nat,n=b.toNat->(fp (DV.agg (List.map (fun n=>DV.int .u8 ((n:Nat):Int)) jY)).cells)[n]?=some (.dv (.int .u8 ((kd s k:Nat):Int))):=by
   rintro n rfl
   rw[hk hl]
   show(fp (List.map (fun n=>DV.int .u8 ((n:Nat):Int)) jY))[b.toNat]?=_
   rw[show ∀l:List DV,fp l=l.map AV.dv from fun l=>by induction l with|nil=>rfl|cons a l ih=>exact congrArg _ ih,adk,adk,adn,abK (show b.toNat<jY.length from ct)]
   rfl
  conv=>whnf
  rw[hx _ (show 0+((b.toNat:Int)).toNat*(nth jk (nth jk 320).elem).size=b.toNat by show 0+((b.toNat:Int)).toNat*1=b.toNat;omega)]
  exact⟨rf,tv⟩
end
section
open Go.TM
theorem T5{s:ByteArray}{a:Nat}(h:kd s a=2)(h2:0<=firstIdx (s.extract a s.size) 10):0<firstIdx (s.extract a s.size) 10:=by
 have hl:=E9 (s:=s) (i:=a) (by omega)
 unfold firstIdx at h2⊢
 split at h2
 ·rename_i i hi
  have h3:=List.find?_some hi
  have h4:=adL.1 (List.mem_of_find?_eq_some hi)
  cases i with
  |succ i=>omega
  |zero=>
   exfalso
   have h6:s[a]'hl=10:=by
    rw[getElem!_pos _ 0 h4]at h3
    simpa[ByteArray.getElem_extract]using h3
   unfold kd at h
   rw[show s[a]?=some (s[a]'hl)by simp[hl],h6]at h
   cases h
 ·omega
variable [aW]
theorem A7(s:ByteArray)(a:Nat)(ha:a<=s.size)(hs:s.size<=8192):ai Tryz.prog 250 [.str s,I a] [I (A5 s (s.size+1) a:Nat)]:=by
 refine pO Tryz.func250 rfl (by kernel_rfl) rfl ?_
 obtain⟨R,hR⟩:∃R,R=A5 s (s.size+1) a:=⟨_,rfl⟩
 rw[<-hR]
 refine⟨Nat×Nat,fun z=>⟨0,[(0,.dv (.str s)),(1,.dv (I z.2))],[]⟩,fun z=>z.2<=s.size/\A5 s z.1 z.2=R/\s.size-z.2<z.1,fun z=>s.size-z.2,(s.size+1,a),fun _=>rfl,jn rfl rfl rfl rfl,⟨ha,hR.symm,by show s.size-a<s.size+1;omega⟩,?_⟩
 rintro⟨m,k⟩ ⟨h1,h2,h3⟩
 dsimp only at h1 h2 h3⊢
 obtain⟨m,rfl⟩:∃n,m=n+1:=⟨m-1,by omega⟩
 refine adh (fun h=>?_) fun h=>?_
 ·have hk:k<s.size:=by have:=adz h;omega
  refine .inl ⟨_,fun _=>(mT s k).ok,?_⟩
  unfold A5 at h2
  refine adh (fun h=>?_) fun h=>?_
  ·have e:kd s k=1:=by have:=beq_iff_eq.1 h;omega
   rw[if_pos e]at h2
   exact⟨fun _=>by omega,(m,k+1),jn rfl rfl rfl rfl,⟨by omega,h2,by dsimp only;omega⟩,by dsimp only;omega⟩
  ·have e1:¬kd s k=1:=fun e=>by rw[e]at h;cases h
   rw[if_neg e1]at h2
   refine adh (fun h=>?_) fun h=>?_
   ·have e:kd s k=2:=by have:=beq_iff_eq.1 h;omega
    rw[if_pos e]at h2
    have hp:=T5 e
    have hl:=vA (s.extract k s.size) 10
    have hz:(s.extract k s.size).size=s.size-k:=by simp
    refine⟨fun _=>⟨by show(0:Int)<=k;omega,by show(k:Int)<=(s.size:Int);omega,by show(s.size:Int)<=s.size;omega⟩,?_⟩
    refine .inl ⟨[I (firstIdx (s.extract k s.size) 10)],fun _=>(Py (s.extract k s.size)).ok,?_⟩
    refine adh (fun h=>?_) fun h=>?_
    ·rw[if_pos (adz h)]at h2
     rw[<-h2]
     exact⟨rf,tv⟩
    ·have h9:¬firstIdx (s.extract k s.size) 10<0:=adA h
     rw[if_neg h9]at h2
     have hp:=hp (by omega)
     have e9:(k:Int)+firstIdx (s.extract k s.size) 10=((k+(firstIdx (s.extract k s.size) 10).toNat:Nat):Int):=by omega
     exact⟨fun _=>by omega,(m,k+(firstIdx (s.extract k s.size) 10).toNat),jn (by simp only[<-e9];rfl) rfl rfl rfl,⟨by dsimp only;omega,h2,by dsimp only;omega⟩,by dsimp only;omega⟩
   ·have e2:¬kd s k=2:=fun e=>by rw[e]at h;cases h
    rw[if_neg e2]at h2
    rw[<-h2]
    exact⟨rf,tv⟩
 ·have hk:k=s.size:=by have:=adA h;omega
  subst hk
  rw[Kd]at h2
  rw[<-h2]
  exact⟨rf,tv⟩
end
section
open Go.TM
def dW(t:Tok):DV:=.agg [I t.kind,.str t.text,I t.n,I t.pos]
structure DgS where
 i:Nat
 n:Int
theorem T6{s:ByteArray}{i:Nat}(h:kd s i=4):∃b:UInt8,s[i]?=some b/\48<=b.toNat/\b.toNat<=57:=by
 have hl:=E9 (s:=s) (i:=i) (by omega)
 unfold kd at h
 rw[show s[i]?=some (s[i]'hl)by simp[hl]]at h⊢
 refine⟨_,rfl,?_⟩
 have hd:∀n,n<256->jY.getD n 0=4->48<=n/\n<=57:=fun n h1 h2=>by
  have:=(adH.1 (show((List.range 256).all fun n=>!(jY.getD n 0==4)||(decide (48<=n)&&decide (n<=57)))=true by kernel_rfl)) n (adL.2 h1)
  rw[h2]at this
  simpa using this
 exact hd _ (UInt8.toNat_lt _) h
theorem T7{n:Nat}(h1:48<=n)(h2:n<=57):IntKind.i64.wrap (IntKind.u8.wrap ((n:Int)-48))=(n:Int)-48:=by
 rcases(by omega:n=48\/n=49\/n=50\/n=51\/n=52\/n=53\/n=54\/n=55\/n=56\/n=57)with rfl|rfl|rfl|rfl|rfl|rfl|rfl|rfl|rfl|rfl<;>rfl
def tkK(kind n a:Int):ae:=[(0,.cells [.dv (I 0),.dv (.str ⟨#[]⟩),.dv (I 0),.dv (I 0)]),(1,.cells [.dv (I kind),.dv (.str ⟨#[]⟩),.dv (I n),.dv (I a)])]
variable [aW]
theorem Fc(s:ByteArray)(a:Nat)(ha:a<s.size)(hs:s.size<=8192):ai Tryz.prog 251 [.str s,I a] [dW (pH s a).1,I (pH s a).2]:=by
 refine pO Tryz.func251 rfl (by kernel_rfl) rfl ?_
 repeat refine gG ?_
 obtain⟨R,hR⟩:∃R,R=pH s a:=⟨_,rfl⟩
 rw[<-hR]
 refine⟨fun _=>by omega,?_⟩
 refine .inl ⟨_,fun _=>(mT s a).ok,?_⟩
 unfold pH at hR
 refine adh (fun h=>?_) fun h=>?_
 ·have e:kd s a=3:=by have:=beq_iff_eq.1 h;omega
  rw[if_pos e]at hR
  clear h
  have hw:=Kg ha
  refine .inl ⟨[.int .u8 (kd s (a+1):Nat)],fun _=>(mT s (a+1)).ok,?_⟩
  refine⟨Nat,fun k=>⟨2,[(0,.dv (.str s)),(1,.dv (I a)),(4,.ptr 0 0),(5,.dv (I 0)),(6,.ptr 1 0),(7,.dv (I k)),(8,.dv (.int .u8 (kd s k:Nat)))],tkK 0 0 a⟩,fun k=>a+1<=k/\k<=s.size/\∀j,a+1<=j->j<k->Pw (kd s j)=true,fun k=>s.size-k,a+1,fun _=>rfl,jn rfl rfl rfl rfl,⟨adM _,ha,fun j h1 h2=>by omega⟩,?_⟩
  rintro k ⟨h1,h2,h3⟩
  have hbu:(bif (bif (((kd s k:Nat):Int)==3)then true else(((kd s k:Nat):Int)==4))then true else(((kd s k:Nat):Int)==5))=Pw (kd s k):=by
   unfold Pw
   rw[show(((kd s k:Nat):Int)==3)=(kd s k==3)by rw[adO];simp;omega,show(((kd s k:Nat):Int)==4)=(kd s k==4)by rw[adO];simp;omega,show(((kd s k:Nat):Int)==5)=(kd s k==5)by rw[adO];simp;omega]
   cases kd s k==3<;>cases kd s k==4<;>rfl
  repeat refine gG ?_
  refine adh (fun h=>?_) fun h=>?_
  ·have hc:Pw (kd s k)=true:=hbu.symm.trans h
   have hk:k<s.size:=E9 fun e=>by rw[e]at hc;cases hc
   refine⟨fun _=>by omega,?_⟩
   refine .inl ⟨[.int .u8 (kd s (k+1):Nat)],fun _=>(mT s (k+1)).ok,?_⟩
   exact⟨k+1,jn rfl rfl rfl rfl,⟨by omega,hk,fun j h4 h5=>if e:j=k then e▸hc else h3 j h4 (by omega)⟩,by dsimp only;omega⟩
  ·have hc:Pw (kd s k)=false:=hbu.symm.trans h
   have hk:wE s a=k:=yu h1 (by omega) h3 fun _=>hc
   rw[hk]at hR
   refine⟨fun _=>by omega,?_⟩
   refine adh (fun h=>?_) fun h=>?_
   ·have:=adz h
    rw[if_pos (by omega)]at hR
    subst hR
    exact⟨rf,rf,tv⟩
   ·have:=adA h
    rw[if_neg (by omega)]at hR
    subst hR
    exact⟨fun _=>⟨by show(0:Int)<=a;omega,by show(a:Int)<=k;omega,by show(k:Int)<=s.size;omega⟩,rf,rf,tv⟩
 ·have e1:¬kd s a=3:=fun e=>by rw[e]at h;cases h
  rw[if_neg e1]at hR
  refine adh (fun h=>?_) fun h=>?_
  ·have e:kd s a=4:=by have:=beq_iff_eq.1 h;omega
   rw[if_pos e]at hR
   clear h
   have hd:=Px ha
   refine⟨Nat,fun k=>⟨2,[(0,.dv (.str s)),(1,.dv (I a)),(4,.ptr 0 0),(5,.dv (I 0)),(6,.ptr 1 0),(7,.dv (I k))],tkK 1 0 a⟩,fun k=>a+1<=k/\k<=s.size/\∀j,a+1<=j->j<k->(kd s j==4)=true,fun k=>s.size-k,a+1,fun _=>rfl,jn rfl rfl rfl rfl,⟨adM _,ha,fun j h1 h2=>by omega⟩,?_⟩
   rintro k ⟨h1,h2,h3⟩
   refine .inl ⟨_,fun _=>(mT s k).ok,?_⟩
   refine adh (fun h=>?_) fun h=>?_
   ·have hc:kd s k=4:=by have:=beq_iff_eq.1 h;omega
    have hk:k<s.size:=E9 fun e=>by omega
    refine⟨fun _=>by omega,?_⟩
    exact⟨k+1,jn rfl rfl rfl rfl,⟨by omega,hk,fun j h4 h5=>if e:j=k then by rw[e,hc];rfl else h3 j h4 (by omega)⟩,by dsimp only;omega⟩
   ·have hc:kd s k≠4:=fun e=>by rw[e]at h;cases h
    have hk:dE s a=k:=yu h1 (by omega) h3 fun _=>beq_eq_false_iff_ne.2 hc
    rw[hk]at hR
    clear h
    have hdg:∀j,a<=j->j<k->kd s j=4:=fun j h4 h5=>if he:j=a then he▸e else by simpa using h3 j (by omega) h5
    generalize hN:Fa s (k-a) a 0=N at hR
    refine⟨DgS,fun z=>⟨2,[(0,.dv (.str s)),(1,.dv (I a)),(4,.ptr 0 0),(5,.dv (I 0)),(6,.ptr 1 0),(7,.dv (I k)),(9,.dv (I z.i))],tkK 1 z.n a⟩,fun z=>a<=z.i/\z.i<=k/\0<=z.n/\z.n<=1099511627776/\Fa s (k-z.i) z.i z.n=N,fun z=>k-z.i,⟨a,0⟩,fun _=>rfl,jn rfl rfl rfl rfl,⟨adM _,by show a<=k;omega,by show(0:Int)<=0;omega,by show(0:Int)<=1099511627776;omega,hN⟩,?_⟩
    rintro⟨i,n⟩ ⟨g1,g2,g3,g4,g5⟩
    dsimp only at g1 g2 g3 g4 g5⊢
    refine adh (fun h=>?_) fun h=>?_
    ·have CA:i<k:=by have:=adz h;omega
     obtain⟨b,hb,ji,ct⟩:=T6 (hdg i g1 CA)
     have hwr:=T7 ji ct
     have He:Za s i=(b.toNat:Int)-48:=by unfold Za;rw[hb];rfl
     refine⟨fun _=>by omega,b,fun _=>⟨by omega,hb⟩,?_⟩
     conv=>whnf
     rw[hwr,<-He]
     rw[<-He]at hwr
     obtain⟨m,hm⟩:∃m,k-i=m+1:=⟨k-i-1,by omega⟩
     rw[hm]at g5
     unfold Fa at g5
     refine⟨fun _=>by omega,by kernel_rfl,adh (fun h=>?_) fun h=>?_⟩
     ·rw[if_pos (adz h)]at g5
      subst g5
      subst hR
      exact⟨rf,rf,tv⟩
     ·have h:=adA h
      rw[if_neg h]at g5
      exact⟨fun _=>by omega,⟨i+1,n*10+Za s i⟩,jn rfl rfl rfl rfl,⟨by dsimp only;omega,by dsimp only;omega,by dsimp only;omega,by dsimp only;omega,by dsimp only;rw[show k-(i+1)=m by omega];exact g5⟩,by dsimp only;omega⟩
    ·have CA:i=k:=by have:=adA h;omega
     subst CA
     rw[Nat.sub_self]at g5
     unfold Fa at g5
     subst g5
     subst hR
     exact⟨fun _=>⟨by show(0:Int)<=a;omega,by show(a:Int)<=i;omega,by show(i:Int)<=s.size;omega⟩,rf,rf,tv⟩
  ·have e2:¬kd s a=4:=fun e=>by rw[e]at h;cases h
   rw[if_neg e2]at hR
   refine adh (fun h=>?_) fun h=>?_
   ·have e:kd s a=7:=by have:=beq_iff_eq.1 h;omega
    rw[if_pos e]at hR
    subst hR
    exact⟨fun _=>⟨by show(0:Int)<=a;omega,by show(a:Int)<=a+1;omega,by show(a:Int)+1<=s.size;omega⟩,rf,rf,tv⟩
   ·have e3:¬kd s a=7:=fun e=>by rw[e]at h;cases h
    rw[if_neg e3]at hR
    refine adh (fun h=>?_) fun h=>?_
    ·have e:kd s a=6:=by have:=beq_iff_eq.1 h;omega
     rw[if_pos e]at hR
     have hb:a+1<s.size->s[a+1]?=some ((s[a+1]?).getD 0):=fun h=>by simp[h]
     refine⟨fun _=>by omega,?_⟩
     repeat refine gG ?_
     refine⟨fun _=>by omega,?_⟩
     repeat refine gG ?_
     refine⟨(s[a+1]?).getD 0,fun h=>⟨by omega,?_⟩,?_⟩
     ·have:=adA (bwF h)
      exact hb (by omega)
     repeat refine gG ?_
     generalize (s[a+1]?).getD 0=b at hb
     refine adh (fun h=>?_) fun h=>?_
     ·have h:(bif decide ((s.size:Int)<(a:Int)+1+1)then true else !((b.toNat:Int)==62))=true:=h
      rw[if_neg (fun hc=>?_)]at hR
      ·subst hR
       exact⟨rf,rf,tv⟩
      ·by_cases hl:a+1<s.size
       ·rw[adG (by omega),hb hl]at*
        injection hc with hc
        subst hc
        cases h
       ·rw[show s[a+1]?=none by simp;omega]at hc;cases hc
     ·have h:(bif decide ((s.size:Int)<(a:Int)+1+1)then true else !((b.toNat:Int)==62))=false:=h
      have hl:a+1<s.size:=by
       by_cases hl:a+1<s.size
       ·exact hl
       ·rw[adF (by omega)]at h;cases h
      rw[adG (by omega)]at h
      have h:b.toNat=62:=by
       have:(!((b.toNat:Int)==62))=false:=h
       rw[Bool.not_eq_false']at this
       have:=beq_iff_eq.1 this
       omega
      have h62:b=62:=UInt8.toNat_inj.1 h
      rw[if_pos (by rw[hb hl,h62])]at hR
      subst hR
      exact⟨fun _=>⟨by show(0:Int)<=a;omega,by show(a:Int)<=a+1+1;omega,by show(a:Int)+1+1<=s.size;omega⟩,rf,rf,tv⟩
    ·have e4:¬kd s a=6:=fun e=>by rw[e]at h;cases h
     rw[if_neg e4]at hR
     subst hR
     exact⟨rf,rf,tv⟩
end
section
open Go.TM
def aJ(x:Lt):Bool:=decide (0<=x.f/\0<=x.a/\1<=x.n/\x.a+x.n<=1099511627776)
def bE(l:List Lt):Bool:=l.all aJ&&decide (l.length<=4096)
def cT(l:List Lt):Int:=bif bE l then cM l else 0
theorem ak{x:Lt}:aJ x=true↔0<=x.f/\0<=x.a/\1<=x.n/\x.a+x.n<=1099511627776:=by simp[aJ]
theorem Fe{p:Lt->Bool}{l:List Lt}{j:Nat}{x:Lt}(hx:l[j]?=some x):(l.take (j+1)).all p=((l.take j).all p&&p x):=by
 rw[ads,hx,List.all_append];simp
theorem Pz{p:Lt->Bool}{l:List Lt}{x:Lt}(hx:x∈l)(h:p x=false):l.all p=false:=by
 rw[List.all_eq_false];exact⟨x,hx,by rw[h];simp⟩
theorem uM{l:List Lt}{j:Nat}{x:Lt}(hx:l[j]?=some x):cM (l.take (j+1))=cM (l.take j)+x.n:=by
 rw[ads,hx,iX];simp[cM]
theorem CE:∀{l:List Lt},(∀x∈l,0<=x.n/\x.n<=1099511627776)->0<=cM l/\cM l<=1099511627776*l.length
 |[],_=>by simp[cM]
 |x::l,h=>by
  have h1:=h x adu
  have h2:=CE fun y hy=>h y (adq x hy)
  simp only[cM,List.map_cons,List.sum_cons,List.length_cons]at*
  omega
theorem Kh{l:List Lt}(h:∀x∈l,0<=x.n/\x.n<=1099511627776)(j:Nat)(hj:l.length<=1000000):0<=cM (l.take j)/\cM (l.take j)<=1099511627776000000:=by
 have:=CE fun x hx=>h x (List.mem_of_mem_take (i:=j) hx)
 have h2:(l.take j).length<=1000000:=by rw[adD];omega
 omega
theorem fI{l:List Lt}(h:bE l=true):l.length<=4096/\∀x∈l,aJ x=true:=by
 simp only[bE,adT,adH,decide_eq_true_eq]at h
 exact⟨h.2,h.1⟩
theorem mU{x:Lt}(h:aJ x=true):0<=x.n/\x.n<=1099511627776:=by have:=ak.1 h;omega
theorem mlt{i n:Nat}(h:i<n):n-(i+1)<n-i:=by omega
variable [aW]
theorem LR(x:Lt):ai Tryz.prog 223 [aD x] [B (aJ x)]:=by
 refine pO Tryz.func223 rfl (by kernel_rfl) rfl ?_
 repeat refine gG ?_
 refine⟨fun h=>?_,?_⟩
 ·simp[bw]at h;omega
 repeat refine gG ?_
 refine⟨DV.Le.of_eq ?_,tv⟩
 congr 1
 rw[adO,ak];simp;omega
theorem A8(x:Lt):ai Tryz.prog 119 [aD x] [B (aJ x)]:=by
 refine pO Tryz.func119 rfl (by kernel_rfl) rfl ?_
 repeat refine gG ?_
 refine⟨fun h=>?_,?_⟩
 ·simp[bw]at h;omega
 repeat refine gG ?_
 refine⟨DV.Le.of_eq ?_,tv⟩
 congr 1
 rw[adO,ak];simp;omega
theorem gD(l:List Lt)(hl:l.length<=1000000):ai Tryz.prog 195 [aR l] [B (bE l)]:=by
 refine pO Tryz.func195 rfl (by kernel_rfl) rfl ?_
 refine⟨Nat,fun i=>⟨0,[(0,.dv (aR l)),(3,.dv (I i))],[]⟩,fun i=>i<=l.length/\(l.take i).all aJ=true,fun i=>l.length-i,0,fun _=>rfl,jn rfl rfl rfl rfl,⟨adx _,rfl⟩,?_⟩
 rintro i ⟨hi,hv⟩
 refine⟨fun h=>?_,fun h=>?_⟩
 ·have aB:i<l.length:=by have:=adz h;rw[adi]at this;omega
  have hx:=abK aB
  generalize l[i]=x at hx
  refine⟨aD x,fun _=>⟨by omega,by rw[adk];simp[hx]⟩,?_⟩
  refine .inl ⟨_,fun _=>(LR x).ok,?_⟩
  refine⟨fun h=>?_,fun h=>?_⟩
  ·have h:aJ x=false:=by simpa using h
   refine⟨DV.Le.of_eq ?_,tv⟩
   rw[bE,Pz (adl hx) h];rfl
  ·have h:aJ x=true:=by simpa using h
   exact⟨fun _=>by omega,i+1,jn rfl rfl rfl rfl,⟨by omega,by rw[Fe hx,hv,h];rfl⟩,mlt aB⟩
 ·have he:i=l.length:=by have:=adA h;rw[adi]at this;omega
  subst he
  rw[ady]at hv
  refine⟨DV.Le.of_eq ?_,tv⟩
  rw[bE,hv,adi]
  congr 1
  simp only[Bool.true_and]
  congr 1
  simp only[eq_iff_iff];omega
theorem fO(l:List Lt)(hl:l.length<=1000000):ai Tryz.prog 84 [aR l] [B (bE l)]:=by
 refine pO Tryz.func84 rfl (by kernel_rfl) rfl ?_
 refine⟨fun h=>?_,fun h=>?_⟩
 ·have:4096<l.length:=by have:=adz h;rw[adi]at this;omega
  refine⟨DV.Le.of_eq ?_,tv⟩
  rw[bE,adG (by omega),Bool.and_false]
 have hle:l.length<=4096:=by have:=adA h;rw[adi]at this;omega
 refine⟨Nat,fun i=>⟨0,[(8,.dv (aR l)),(9,.dv (I l.length)),(10,.dv (I i))],[]⟩,fun i=>i<=l.length/\(l.take i).all aJ=true,fun i=>l.length-i,0,fun _=>rfl,jn (by simp;rfl) rfl rfl rfl,⟨adx _,rfl⟩,?_⟩
 rintro i ⟨hi,hv⟩
 refine⟨fun h=>?_,fun h=>?_⟩
 ·have aB:i<l.length:=by have:=adz h;omega
  have hx:=abK aB
  generalize l[i]=x at hx
  refine⟨aD x,fun _=>⟨by omega,by rw[adk];simp[hx]⟩,?_⟩
  refine .inl ⟨_,fun _=>(A8 x).ok,?_⟩
  refine⟨fun h=>?_,fun h=>?_⟩
  ·have h:aJ x=false:=by simpa using h
   refine⟨DV.Le.of_eq ?_,tv⟩
   rw[bE,Pz (adl hx) h];rfl
  ·have h:aJ x=true:=by simpa using h
   exact⟨fun _=>by omega,i+1,jn rfl rfl rfl rfl,⟨by omega,by rw[Fe hx,hv,h];rfl⟩,mlt aB⟩
 ·have he:i=l.length:=by have:=adA h;omega
  subst he
  rw[ady]at hv
  exact⟨DV.Le.of_eq (by rw[bE,hv,adF hle];rfl),tv⟩
theorem A9(l:List Lt)(hl:l.length<=1000000)(hn:∀x∈l,0<=x.n/\x.n<=1099511627776):ai Tryz.prog 41 [aR l] [I (cM l)]:=by
 refine pO Tryz.func41 rfl (by kernel_rfl) rfl ?_
 refine⟨Nat,fun i=>⟨0,[(3,.dv (I (cM (l.take i)))),(6,.dv (aR l)),(7,.dv (I l.length)),(8,.dv (I i))],[]⟩,fun i=>i<=l.length,fun i=>l.length-i,0,fun _=>rfl,jn (by simp;rfl) rfl rfl rfl,adx _,?_⟩
 rintro i hi
 refine⟨fun h=>?_,fun h=>?_⟩
 ·have aB:i<l.length:=by have:=adz h;omega
  have hx:=abK aB
  generalize l[i]=x at hx
  have b1:=Kh hn i hl
  have b2:=hn x (adl hx)
  refine⟨aD x,fun _=>⟨by omega,by rw[adk];simp[hx]⟩,?_⟩
  exact⟨fun _=>by omega,fun _=>by omega,i+1,jn (by simp only[uM hx];rfl) rfl rfl rfl,by omega,mlt aB⟩
 ·have he:i=l.length:=by have:=adA h;omega
  subst he
  exact⟨aM (by rw[ady]),tv⟩
theorem qt(l:List Lt)(hl:l.length<=1000000):ai Tryz.prog 28 [aR l] [I (cT l)]:=by
 refine pO Tryz.func28 rfl (by kernel_rfl) rfl ?_
 refine .inl ⟨_,fun _=>(fO l hl).ok,?_⟩
 refine⟨fun h=>?_,fun h=>?_⟩
 ·have h:bE l=false:=by simpa using h
  exact⟨aM (by rw[cT,h];rfl),tv⟩
 ·have h:bE l=true:=by simpa using h
  refine .inl ⟨_,fun _=>(A9 l hl fun x hx=>mU ((fI h).2 x hx)).ok,?_⟩
  exact⟨aM (by rw[cT,h];rfl),tv⟩
theorem qu(l:List Lt)(hl:l.length<=1000000):ai Tryz.prog 120 [aR l] [I (cT l)]:=by
 refine pO Tryz.func120 rfl (by kernel_rfl) rfl ?_
 refine .inl ⟨_,fun _=>(gD l hl).ok,?_⟩
 have hb:=fun h=>@fI l h
 have ht:cT l=bif bE l then cM l else 0:=rfl
 generalize bE l=v at hb ht
 refine⟨Nat,fun i=>⟨0,[(0,.dv (aR l)),(3,.dv (I (cM (l.take i)))),(4,.dv (B v)),(5,.dv (I i))],[]⟩,fun i=>i<=l.length/\(v=false->i=0),fun i=>l.length-i,0,fun _=>rfl,jn rfl rfl rfl rfl,⟨adx _,fun _=>rfl⟩,?_⟩
 rintro i ⟨hi,hv⟩
 repeat refine gG ?_
 refine⟨fun h=>?_,fun h=>?_⟩
 ·have h:=bZ h
  have aB:i<l.length:=by have:=adz h.1;rw[adi]at this;omega
  have Xu:v=true:=h.2
  have hx:=abK aB
  generalize l[i]=x at hx
  have hn:∀x∈l,0<=x.n/\x.n<=1099511627776:=fun x hx=>mU ((hb Xu).2 x hx)
  have b1:=Kh hn i hl
  have b2:=hn x (adl hx)
  refine⟨aD x,fun _=>⟨by omega,by rw[adk];simp[hx]⟩,?_⟩
  exact⟨fun _=>by omega,fun _=>by omega,i+1,jn (by simp only[uM hx];rfl) rfl rfl rfl,⟨by omega,by simp[Xu]⟩,mlt aB⟩
 ·have h:=gI h
  refine⟨aM ?_,tv⟩
  rw[ht]
  cases v with
  |true=>
   have:i=l.length:=by
    have:¬(i:Int)<(l.map aD).length:=fun hh=>h ⟨adF hh,rfl⟩
    rw[adi]at this;omega
   subst this
   rw[ady];rfl
  |false=>rw[hv rfl];rfl
end
section
open Go.TM
theorem PA{x:Lt}(h:x.n≠0):aT [] x=[x]:=by unfold aT;rw[if_neg h];rfl
theorem LS{r:List Lt}{x y:Lt}(h:x.n≠0)(hc:y.f=x.f/\y.a+y.n=x.a):aT (r++[y]) x=r++[⟨y.f,y.a,y.n+x.n⟩]:=by
 unfold aT;rw[if_neg h];simp[hc]
theorem LU{r:List Lt}{x y:Lt}(h:x.n≠0)(hc:¬(y.f=x.f/\y.a+y.n=x.a)):aT (r++[y]) x=r++[y]++[x]:=by
 unfold aT;rw[if_neg h];simp[hc]
variable [aW]
theorem bL{n:Nat}(h:n<=1000000):n*(nth jk (nth jk 46).elem).bytes<=140737488355328:=by
 rw[show(nth jk (nth jk 46).elem).bytes=24 by kernel_rfl];omega
theorem ab3(l:List Lt):wW (l.map aD)=l.map aD:=fq (fun _=>rfl) l
theorem qv(l:List Lt):(oT (.aI 3 (l.map aD))).Le (aR l):=DV.Le.of_eq (by show DV.sl 3 (wW (l.map aD))=_;rw[ab3])
theorem pJ(s:List Lt)(x:Lt)(hs:s.length<=100000)(hb:∀y∈s,0<=y.a/\y.a<=1099511627776/\0<=y.n/\y.n<=1099511627776)(hx:0<=x.n/\x.n<=1099511627776):ai Tryz.prog 129 [aR s,aD x] [aR (aT s x)]:=by
 refine pO Tryz.func129 rfl (by kernel_rfl) rfl ?_
 refine .inr ⟨s.map aD,bW.refl _,bL (by rw[adi];omega),by rw[adi];omega,?_⟩
 refine⟨fun h=>?_,fun h=>?_⟩
 ·have h0:x.n=0:=adz h
  rw[show aT s x=s from if_pos h0]
  exact⟨qv s,tv⟩
 have h0:x.n≠0:=adA h
 rcases List.eq_nil_or_concat s with rfl|⟨r,y,rfl⟩
 ·have fP:∀{p:Prop},bw (decide (0<((List.map aD []).length:Int))) true=true->p:=fun h=>by simp[bw]at h
  repeat first|refine g1 ?_|refine g3 ?_|refine⟨fP,?_⟩|refine⟨aD x,fP,?_⟩
  refine⟨by kernel_rfl,fun h=>by simp at h,fun _=>?_⟩
  refine .inl ⟨[aD x],rfl,⟨rf,rf,rf,tv⟩,(by simp;rfl),?_⟩
  refine .inr ⟨[aD x],bW.refl _,bL (by simp),by simp,?_⟩
  rw[PA h0]
  exact⟨qv [x],tv⟩
 ·rw[List.concat_eq_append]at*
  have e1:((r++[y]).map aD).length=r.length+1:=by simp
  have hy:((r++[y]).map aD)[((((r++[y]).map aD).length:Int)-1).toNat]?=some (aD y):=by rw[e1,show(((r.length+1:Nat):Int)-1).toNat=r.length by omega];simp
  have Ad:=hb y (by simp)
  have gP:r.length+1<=100000:=by simpa using hs
  repeat first|refine g1 ?_|refine g3 ?_|refine⟨aD y,fun _=>hy,?_⟩|refine⟨fun _=>by omega,?_⟩
  refine⟨by kernel_rfl,fun h=>?_,fun h=>?_⟩
  ·repeat first|refine g1 ?_|refine g3 ?_|refine⟨aD y,fun _=>hy,?_⟩|refine⟨fun _=>by omega,?_⟩
   refine⟨[I (y.n+x.n)],⟨rf,tv⟩,aD y,hy,?_⟩
   rw[LS h0 (by simpa using h)]
   have e3:((r++[y]).map aD).set ((((r++[y]).map aD).length:Int)-1).toNat (DV.agg [I y.f,I y.a,I (y.n+x.n)])=(r++[(⟨y.f,y.a,y.n+x.n⟩:Lt)]).map aD:=by
    rw[e1,show(((r.length+1:Nat):Int)-1).toNat=r.length by omega];simp[aD]
   have:=qv (r++[(⟨y.f,y.a,y.n+x.n⟩:Lt)])
   rw[<-e3]at this
   exact⟨by kernel_rfl,this,tv⟩
  ·refine .inl ⟨[aD x],rfl,⟨rf,rf,rf,tv⟩,(by simp;rfl),?_⟩
   refine .inr ⟨[aD x],bW.refl _,bL (by simp;omega),by simp;omega,?_⟩
   rw[LU h0 (by simpa using h)]
   refine⟨?_,tv⟩
   have:=qv (r++[y]++[x])
   rw[adB (l₂:=[x])]at this
   exact this
end
section
open Go.TM
structure DS where
 a:Int
 q:Int
 r:Int
def dH(d:Int)(q r:Int):Int×Int:=if d<=r then(q+1,r-d)else(q,r)
def vB(b d bit:Int)(s:DS):DS:=
 if bit<=s.a then⟨s.a-bit,(dH d ((dH d (2*s.q) (2*s.r)).1+b.tdiv d) ((dH d (2*s.q) (2*s.r)).2+b.tmod d)).1,(dH d ((dH d (2*s.q) (2*s.r)).1+b.tdiv d) ((dH d (2*s.q) (2*s.r)).2+b.tmod d)).2⟩
 else⟨s.a,(dH d (2*s.q) (2*s.r)).1,(dH d (2*s.q) (2*s.r)).2⟩
def uN(k:Nat):Int:=1152921504606846976/2^k
def NB(a b d:Int):Nat->DS
 |0=>⟨a,0,0⟩
 |k+1=>vB b d (uN k) (NB a b d k)
theorem V7{d q r X:Int}(h:q*d+r=X)(h0:0<=r)(h1:r<2*d):(dH d q r).1*d+(dH d q r).2=X/\0<=(dH d q r).2/\(dH d q r).2<d/\q<=(dH d q r).1/\(dH d q r).1<=q+1:=by
 unfold dH
 split
 ·simp only;rw[Int.add_mul];omega
 ·simp only;omega
structure Zc(a b d:Int)(k:Nat)(s:DS):Prop where
 ex:∃A,0<=A/\a=A*2^(61-k)+s.a/\s.q*d+s.r=A*b
 a0:0<=s.a
 a1:s.a<2^(61-k)
 r0:0<=s.r
 r1:s.r<d
 q0:0<=s.q
theorem Ff{k:Nat}(hk:k<=60):uN k=2^(60-k)/\(2:Int)^(61-k)=2*2^(60-k):=by
 refine⟨?_,by rw[show 61-k=(60-k)+1 by omega,Int.pow_succ];omega⟩
 unfold uN
 rw[show(1152921504606846976:Int)=2^(60-k)*2^k by rw[<-Int.pow_add,show 60-k+k=60 by omega];rfl]
 exact Int.mul_ediv_cancel _ (Int.ne_of_gt (Int.pow_pos (by omega)))
theorem HV{a b d:Int}(ha:0<=a/\a<2^61)(hb:0<=b)(hd:0<d):∀k,k<=61->Zc a b d k (NB a b d k)
 |0,_=>⟨⟨0,by omega,by show a=0*_+a;omega,by show(0:Int)*d+0=0*b;omega⟩,ha.1,ha.2,Int.le_refl _,hd,Int.le_refl _⟩
 |k+1,hk=>by
  obtain⟨⟨A,hA,e1,e2⟩,a0,a1,r0,r1,q0⟩:=HV ha hb hd k (by omega)
  obtain⟨b1,b2⟩:=Ff (k:=k) (by omega)
  show Zc a b d (k+1) (vB b d (uN k) (NB a b d k))
  generalize NB a b d k=s at*
  rw[b1]
  rw[b2]at e1 a1
  have e61:61-(k+1)=60-k:=by omega
  have hp:(0:Int)<2^(60-k):=Int.pow_pos (by omega)
  have h2:(2*s.q)*d+2*s.r=2*A*b:=by rw[Int.mul_assoc,Int.mul_assoc,<-e2];omega
  have hh:=V7 h2 (by omega) (by omega)
  unfold vB
  generalize dH d (2*s.q) (2*s.r)=z at hh⊢
  have hAA:A*(2*2^(60-k))=2*A*2^(60-k):=by rw[<-Int.mul_assoc,Int.mul_comm A 2]
  split
  ·rename_i hc
   have hm:=Int.tmod_nonneg d hb
   have T8:=Int.tmod_lt_of_pos b hd
   have hq:=Int.tdiv_nonneg hb (Int.le_of_lt hd)
   have hmd:=Int.mul_tdiv_add_tmod b d
   have h3:(z.1+b.tdiv d)*d+(z.2+b.tmod d)=(2*A+1)*b:=by
    have hX:(2*A+1)*b=2*A*b+b:=by rw[Int.add_mul];omega
    have hY:(z.1+b.tdiv d)*d=z.1*d+d*b.tdiv d:=by rw[Int.add_mul,Int.mul_comm (b.tdiv d) d]
    omega
   have h4:=V7 h3 (by omega) (by omega)
   refine⟨⟨2*A+1,by omega,?_,h4.1⟩,by show 0<=s.a-2^(60-k);omega,by show s.a-2^(60-k)<_;rw[e61];omega,h4.2.1,h4.2.2.1,by have:=h4.2.2.2.1;simp only;omega⟩
   rw[e61]
   show a=(2*A+1)*2^(60-k)+(s.a-2^(60-k))
   rw[Int.add_mul];omega
  ·rename_i hc
   refine⟨⟨2*A,by omega,?_,hh.1⟩,a0,by rw[e61];show s.a<_;omega,hh.2.1,hh.2.2.1,by show 0<=z.1;omega⟩
   rw[e61]
   show a=2*A*2^(60-k)+s.a
   omega
theorem Zc.q1{a b d:Int}{k:Nat}{s:DS}(h:Zc a b d k s)(hk:k<=61)(hb:b<=d)(qJ:0<=b)(hd:0<d)(ha:a<=1152921504606846976):s.q<=1152921504606846976:=by
 obtain⟨⟨A,hA,e1,e2⟩,a0,a1,r0,r1,q0⟩:=h
 have h1:A*b<=A*d:=Int.mul_le_mul_of_nonneg_left hb hA
 have h2:s.q*d<=A*d:=by omega
 have h3:s.q<=A:=Int.le_of_mul_le_mul_right h2 hd
 have h4:(1:Int)<=2^(61-k):=by have:(0:Int)<2^(61-k):=Int.pow_pos (by omega);omega
 have h5:A*1<=A*2^(61-k):=Int.mul_le_mul_of_nonneg_left h4 hA
 omega
theorem Zc.a9{a b d:Int}{k:Nat}{s:DS}(h:Zc a b d k s):s.a<=a:=by
 obtain⟨⟨A,hA,e1,e2⟩,a0,a1,r0,r1,q0⟩:=h
 have h4:(0:Int)<2^(61-k):=Int.pow_pos (by omega)
 have:=Int.mul_nonneg hA (Int.le_of_lt h4)
 omega
theorem T9{a b d:Int}(ha:0<=a/\a<2^61)(hb:0<=b)(hd:0<d):(NB a b d 61).q=a*b/d/\(NB a b d 61).r=a*b%d:=by
 obtain⟨⟨A,hA,e1,e2⟩,a0,a1,r0,r1,q0⟩:=HV ha hb hd 61 (by omega)
 generalize NB a b d 61=s at*
 have:s.a=0:=by have:s.a<1:=a1;omega
 have eA:a=A:=by have e1:a=A*1+s.a:=e1;omega
 subst eA
 have:=Int.ediv_emod_unique (a:=a*b) (b:=d) (q:=s.q) (r:=s.r) hd
 have h6:=this.2 ⟨by rw[Int.mul_comm d];omega,r0,r1⟩
 exact⟨h6.1.symm,h6.2.symm⟩
theorem HW(k:Nat):0<=uN k/\uN k<=1152921504606846976:=by
 unfold uN
 have:(0:Int)<2^k:=Int.pow_pos (by omega)
 exact⟨Int.ediv_nonneg (by omega) (by omega),Int.ediv_le_self _ (by omega)⟩
theorem LV(k:Nat):(uN k).tdiv 2=uN (k+1):=by
 rw[Int.tdiv_eq_ediv_of_nonneg (HW k).1]
 unfold uN
 rw[Int.pow_succ,Int.ediv_ediv_of_nonneg (Int.le_of_lt (Int.pow_pos (by omega)))]
theorem PB{k:Nat}(h:k<=61):0<uN k↔k<61:=by
 rcases adC k 61 with hl|hg
 ·have:=(Ff (k:=k) (by omega)).1
  rw[this]
  exact⟨fun _=>hl,fun _=>Int.pow_pos (by omega)⟩
 ·have:k=61:=by omega
  subst this
  exact⟨fun h=>absurd h (by decide),fun h=>by omega⟩
variable [aW]
theorem LW(a b d:Int)(ha:0<=a/\a<=1152921504606846976)(hb:0<=b/\b<=d)(hd:0<d/\d<=1152921504606846976):ai Tryz.prog 253 [I a,I b,I d] [I (a*b/d),I (a*b%d),B true]:=by
 refine pO Tryz.func253 rfl (by kernel_rfl) rfl ?_
 have cI:=HV (a:=a) (b:=b) (d:=d) ⟨ha.1,by omega⟩ hb.1 hd.1
 refine⟨Nat,fun k=>⟨0,[(0,.dv (I (NB a b d k).a)),(1,.dv (I b)),(2,.dv (I d)),(9,.dv (I (NB a b d k).q)),(10,.dv (I (NB a b d k).r)),(11,.dv (I (uN k)))],[]⟩,fun k=>k<=61,fun k=>61-k,0,fun _=>rfl,jn (by rfl) rfl rfl rfl,adx _,?_⟩
 rintro k hk
 have ql:=cI k hk
 have hq1:=ql.q1 hk hb.2 hb.1 hd.1 ha.2
 have ct:=HW k
 have Hh:=LV k
 have hbp:=PB hk
 have q0:=ql.q0
 have r0:=ql.r0
 have r1:=ql.r1
 have a0:=ql.a0
 have a9:=ql.a9
 have m0:=Int.tmod_nonneg d hb.1
 have m1:=Int.tmod_lt_of_pos b hd.1
 have t0:=Int.tdiv_nonneg hb.1 (Int.le_of_lt hd.1)
 have t1:b.tdiv d<=b:=Int.tdiv_le_self d hb.1
 refine adh ?_ ?_
 ·intro h
  have aB:k<61:=hbp.1 (adz h)
  have Cu:=(cI (k+1) (by omega)).q1 (by omega) hb.2 hb.1 hd.1 ha.2
  have V8:=(cI (k+1) (by omega)).q0
  have b3:=HW (k+1)
  have hn:NB a b d (k+1)=vB b d (uN k) (NB a b d k):=rfl
  refine⟨fun _=>by omega,fun _=>by omega,?_⟩
  refine adh ?_ ?_
  all_goals intro h1
  all_goals first|have h1:=adz h1|have h1:=adA h1
  all_goals repeat first|refine⟨fun _=>by omega,?_⟩
  all_goals refine adh ?_ ?_
  all_goals intro h2
  all_goals first|have h2:=adz h2|have h2:=adA h2
  all_goals repeat first|refine⟨fun _=>by omega,?_⟩|refine⟨fun _ _=>by omega,?_⟩
  ·refine adh ?_ ?_
   all_goals intro h3
   all_goals first|have h3:=adz h3|have h3:=adA h3
   all_goals repeat first|refine⟨fun _=>by omega,?_⟩
   all_goals simp only[vB,dH,h1,h2,h3,if_true,if_false]at hn
   all_goals rw[hn]at Cu V8
   all_goals simp only at Cu V8
   all_goals refine adh (fun h4=>absurd (adz h4) (by omega)) ?_
   all_goals intro _
   all_goals refine⟨fun _ h=>by omega,fun _=>by omega,k+1,jn ?_ rfl rfl rfl,by omega,by show 61-(k+1)<61-k;omega⟩
   all_goals simp only[hn,<-Hh]
   all_goals rfl
  ·simp only[vB,dH,h1,h2,if_true,if_false]at hn
   rw[hn]at Cu V8
   simp only at Cu V8
   refine adh (fun h4=>absurd (adz h4) (by omega)) ?_
   intro _
   refine⟨fun _ h=>by omega,fun _=>by omega,k+1,jn ?_ rfl rfl rfl,by omega,by show 61-(k+1)<61-k;omega⟩
   simp only[hn,<-Hh]
   rfl
  ·refine adh ?_ ?_
   all_goals intro h3
   all_goals first|have h3:=adz h3|have h3:=adA h3
   all_goals repeat first|refine⟨fun _=>by omega,?_⟩
   all_goals simp only[vB,dH,h1,h2,h3,if_true,if_false]at hn
   all_goals rw[hn]at Cu V8
   all_goals simp only at Cu V8
   all_goals refine adh (fun h4=>absurd (adz h4) (by omega)) ?_
   all_goals intro _
   all_goals refine⟨fun _ h=>by omega,fun _=>by omega,k+1,jn ?_ rfl rfl rfl,by omega,by show 61-(k+1)<61-k;omega⟩
   all_goals simp only[hn,<-Hh]
   all_goals rfl
  ·simp only[vB,dH,h1,h2,if_true,if_false]at hn
   rw[hn]at Cu V8
   simp only at Cu V8
   refine adh (fun h4=>absurd (adz h4) (by omega)) ?_
   intro _
   refine⟨fun _ h=>by omega,fun _=>by omega,k+1,jn ?_ rfl rfl rfl,by omega,by show 61-(k+1)<61-k;omega⟩
   simp only[hn,<-Hh]
   rfl
 ·intro h
  have ab4:k=61:=by
   have:=adA h
   rw[hbp]at this;omega
  subst ab4
  obtain⟨e1,e2⟩:=T9 (a:=a) (b:=b) (d:=d) ⟨ha.1,by omega⟩ hb.1 hd.1
  exact⟨aM e1,aM e2,rf,tv⟩
end
end Go.Proofs.YtfpebgpgabjieaaGreatDoor
