import Derived.Test.YtfpebgpgabjieaaGreatDoorGM15
import Derived.Test.YtfpebgpgabjieaaGreatDoorGM16
import Derived.Test.YtfpebgpgabjieaaGreatDoorGM17
import Derived.KernelRfl
set_option linter.all false
open Go.TM.oA Go.TM.oB Go.TM.oC Go.TM.oD Go.TM.oE
namespace Go.Proofs.YtfpebgpgabjieaaGreatDoor
set_option maxRecDepth 100000
set_option maxHeartbeats 2000000
section
open Go.TM
def Bu:List Nat:=[0,0,0,0,0,0,0,0,0,1,1,0,0,0,0,0,0,0,0,0,0,0,0,0,0,0,0,0,0,0,0,0,1,0,0,2,0,0,0,0,7,7,0,7,7,6,7,0,4,4,4,4,4,4,4,4,4,4,7,7,7,7,7,0,0,0,0,0,0,0,0,0,0,0,0,0,0,0,0,0,0,0,0,0,0,0,0,0,0,0,0,0,0,0,0,5,0,3,3,3,3,3,3,3,3,3,3,3,3,3,3,3,3,3,3,3,3,3,3,3,3,3,3,7,0,7,0,0]
class bj where
 ty:TypeId
 fr:Nat×Nat
def Mt:Array Value:=(Bu.map fun n=>Value.int .u8 (n:Nat)).toArray
def PM[bj]:Nat->Option Obj:=fun i=>bif Nat.beq i 0 then some (.cells Mt bj.ty bj.fr)else none
def kDv:Nat->Option DV:=fun i=>bif Nat.beq i 0 then some (.agg (Bu.map fun n=>DV.int .u8 (n:Nat)))else none
theorem kOk[bj]:∀i x,kDv i=some x->∀M:Mem,(∀j o,PM j=some o->M j=some o)->bu M (.at x 0) (.pointer (some ⟨i,0,none⟩)):=by
 intro i x h M hM
 unfold kDv at h
 cases hb:Nat.beq i 0 with
 |false=>rw[hb]at h;cases h
 |true=>
  rw[hb]at h
  have hi:=adS hb
  injection h with h;subst h
  have hm:=hM i (.cells Mt bj.ty bj.fr) (by unfold PM;rw[hb];rfl)
  have ha:∀j,(⟨i,0,none⟩:Addr).add j=⟨i,j,none⟩:=fun j=>by unfold Addr.add;split<;>simp[*]
  have:=bu.at (M:=M) (.agg (Bu.map fun n=>DV.int .u8 (n:Nat))) 0 ⟨i,0,none⟩ (fun j=>.int .u8 ((Bu.getD j 0:Nat):Int)) (fun d hd=>by
   simp only[DV.cells,aeg]at hd
   obtain⟨n,_,rfl⟩:=hd
   rfl) (fun j hj=>by
   rw[ha]
   simp only[DV.cells,adO]at hj
   simp[Mem.cell?,hm,Mt,hj]) (fun j d hd=>by
   simp only[DV.cells,adQ]at hd
   cases hj:Bu[j]? with
   |none=>rw[hj]at hd;cases hd
   |some n=>
    rw[hj]at hd
    simp only[Option.map_some,Option.some.injEq]at hd
    subst hd
    simp only[List.getD,hj,Option.getD_some]
    exact .int .u8 _)
  rw[ha]at this
  exact this
instance adq[bj]:cq where
 obj:=PM
 dv:=kDv
 ok:=kOk
abbrev I(n:Int):DV:=.int .i64 n
abbrev B(b:Bool):DV:=.bool b
abbrev Ints(l:List Int):DV:=.sl 1 (l.map I)
theorem aG{a b:Int}{k:IntKind}(h:a=b):(DV.int k a).Le (.int k b):=h▸DV.Le.refl _
abbrev rf{d:DV}:d.Le d:=DV.Le.refl d
theorem tg:∀(g:Nat) (fn:Func),Tryz.prog.funcs[g]?=some fn->(fn.name== "runtime.NumGoroutine")=false:=by
 have h:(Tryz.prog.funcs.all fun fn=>!(fn.name== "runtime.NumGoroutine"))=true:=by kernel_rfl
 intro g fn hg
 rw[Array.all_eq_true']at h
 have:=h fn (Array.mem_of_getElem? hg)
 simpa using this
variable [bj]
def vP(n:Int):Prop:=-9223372036854775808<=n/\n<=9223372036854775807
theorem dV{α:Type}{e:α->DV}(h:∀x,oY (e x)=e x)(l:List α):uX (l.map e)=l.map e:=by
 rw[yI,List.map_map]
 exact List.map_congr_left fun x _=>h x
theorem qX{b:Bool}(h:b=true):bw b true=true:=by subst h;rfl
theorem acx{b:Bool}(h:b=false):bw b false=true:=by subst h;rfl
theorem XI{a b:Bool}(h:a=true)(h2:b=true):(a&&bw b true)=true:=by subst h;subst h2;rfl
theorem Ue{a b:Bool}(h:a=true)(h2:b=false):(a&&bw b false)=true:=by subst h;subst h2;rfl
theorem dc{a b:Bool}(h:(bif a then b else false)=true):a=true/\b=true:=by cases a<;>simp_all
theorem mc{a b:Bool}(h:(bif a then b else false)=false):¬(a=true/\b=true):=by cases a<;>simp_all
def CX(b w:DV):List DV:=[.agg [.str ⟨⟨[103,111,108,100]⟩⟩,B false,B true,B true,I 0,I 0,I 0],
 .agg [.str ⟨⟨[111,114,101]⟩⟩,B false,B false,B false,I 0,I 0,I 0],
 .agg [.str ⟨⟨[99,111,97,108]⟩⟩,B false,B true,B false,I 0,I 0,I 0],
 .agg [.str ⟨⟨[98,97,114]⟩⟩,B false,B false,B false,I 0,I 0,I 0],
 .agg [.str ⟨⟨[115,119,111,114,100]⟩⟩,B true,B false,B false,w,b,I 3]]
def PN:DV:=.sl 9 [.agg [.str ⟨⟨[100,105,103]⟩⟩,B true,I 0,I 0,I 1,I 1,.aw,.sl 2 [.agg [I 1,I 4],.agg [I 2,I 3]],.aw],
 .agg [.str ⟨⟨[115,109,101,108,116]⟩⟩,B false,I 2,I 5,I 2,I 3,.sl 2 [.agg [I 1,I 2],.agg [I 2,I 1]],.sl 2 [.agg [I 3,I 1]],.sl 2 [.agg [I 1,I 1]]],
 .agg [.str ⟨⟨[102,111,114,103,101]⟩⟩,B false,I 3,I 10,I 1,I 1,.sl 2 [.agg [I 3,I 3]],.sl 2 [.agg [I 4,I 1]],.aw],
 .agg [.str ⟨⟨[115,99,114,97,112]⟩⟩,B false,I 0,I 1,I 1,I 1,.sl 2 [.agg [I 4,I 1]],.sl 2 [.agg [I 3,I 3]],.aw],
 .agg [.str ⟨⟨[115,101,108,108]⟩⟩,B false,I 0,I 1,I 1,I 1,.sl 2 [.agg [I 3,I 1]],.sl 2 [.agg [I 0,I 7]],.aw]]
def We:DV:=.sl 2 [.agg [.str ⟨⟨[99,104,101,115,116]⟩⟩,.sl 2 [.agg [I 5,.sl 2 [.agg [I 0,I 10]]],.agg [I 1,.sl 2 [.agg [I 3,I 2]]]]]]
def PO:DV:=.sl 2 [.agg [.str ⟨⟨[115,97,108,101]⟩⟩,.sl 2 [.agg [I 0,I 500],.agg [I 100,I 1000]]]]
def acy(b w:DV):DV:=.agg [.sl 7 (CX b w),PN,We,PO]
def XJ(_:Nat):Bool:=true
def acz(_:Nat):Bool:=false
theorem pO{f:Nat}{fn:Func}{c:Code}{args rs:List DV}(hf:Tryz.prog.funcs[f]?=some fn)(hb:fn.body=some c)(hn:(fn.name== "runtime.NumGoroutine")=false)
 (ha:Nat.ble args.length fn.ntmps=true) (h:fG Tryz.prog na .fn fn.ntmps 0 c (VL na fn rs) 0 (rH 0 args) []):aR Tryz.prog f args rs:=E2 fO mixed (eu _) (fh _) hf hb hn ha h
theorem cO{f:Nat}{fn:Func}{c:Code}{args:List AV}{m ex:Nat}{K:ad}{rs:List AV}{K':ad}(hf:Tryz.prog.funcs[f]?=some fn)(hb:fn.body=some c)
 (ha:((!(fn.name== "runtime.NumGoroutine"))&&(Nat.ble args.length fn.ntmps&&cJ.wf ⟨m,dh 0 args,K⟩))=true) (h:fG Tryz.prog na .fn fn.ntmps m c (pn na fn m ex fun r k=>r=rs/\k=K') m (dh 0 args) K):aj Tryz.prog f args m K ex rs K':=by
 rw[aep,aer]at ha
 exact E4 fO mixed (eu _) (fh _) hf hb ha.1 ha.2 h
theorem g1{a p:Prop}(h:p):(a->a)/\p:=⟨id,h⟩
theorem g2{b:Bool}{a p:Prop}(h:p):(a->b=false->bw b false=true)/\p:=⟨fun _ h=>acx h,h⟩
theorem g3{b:Bool}{a p:Prop}(h:p):(a->b=true->bw b true=true)/\p:=⟨fun _ h=>qX h,h⟩
theorem g4{a b:Bool}{p:Prop}(h:p):(a=true->a=true/\(b=true->(a&&bw b true)=true))/\p:=⟨fun h=>⟨h,fun h2=>XI h h2⟩,h⟩
theorem g5{a b:Bool}{p:Prop}(h:p):(a=true->a=true/\(b=false->(a&&bw b false)=true))/\p:=⟨fun h=>⟨h,fun h2=>Ue h h2⟩,h⟩
def ax(x:Lt):DV:=.agg [I x.f,I x.a,I x.n]
abbrev aQ(l:List Lt):DV:=.sl 3 (l.map ax)
end
section
open Go.TM
variable [bj]
abbrev FG:DV:=acy (I 2) (I 20)
theorem yJ:aR Tryz.prog 9 [] [FG]:=qB (pol:=XJ) (fuel:=1000) fO mixed tg (by kernel_rfl)
theorem Bv:aR Tryz.prog 64 [FG] [FG]:=qB (pol:=acz) (fuel:=1000) fO mixed tg (by kernel_rfl)
theorem yK:aR Tryz.prog 63 [FG] [I 0]:=qB (pol:=XJ) (fuel:=1000) fO mixed tg (by kernel_rfl)
theorem FH:aR Tryz.prog 20 [FG] [I 0]:=qB (pol:=XJ) (fuel:=1000) fO mixed tg (by kernel_rfl)
end
section
open Go.TM
def aB(x:Lt):Bool:=decide (0<=x.f/\0<=x.a/\1<=x.n/\x.a+x.n<=1099511627776)
def bz(l:List Lt):Bool:=l.all aB&&decide (l.length<=4096)
def cu(l:List Lt):Int:=bif bz l then aJ l else 0
theorem ah{x:Lt}:aB x=true↔0<=x.f/\0<=x.a/\1<=x.n/\x.a+x.n<=1099511627776:=by simp[aB]
theorem FI{p:Lt->Bool}{l:List Lt}{j:Nat}{x:Lt}(hx:l[j]?=some x):(l.take (j+1)).all p=((l.take j).all p&&p x):=by
 rw[adY,hx,List.all_append];simp
theorem PQ{p:Lt->Bool}{l:List Lt}{x:Lt}(hx:x∈l)(h:p x=false):l.all p=false:=by
 rw[List.all_eq_false];exact⟨x,hx,by rw[h];simp⟩
theorem jB{l:List Lt}{j:Nat}{x:Lt}(hx:l[j]?=some x):aJ (l.take (j+1))=aJ (l.take j)+x.n:=by
 rw[adY,hx,eH];simp[aJ]
theorem CY:∀{l:List Lt},(∀x∈l,0<=x.n/\x.n<=1099511627776)->0<=aJ l/\aJ l<=1099511627776*l.length
 |[],_=>by simp[aJ]
 |x::l,h=>by
  have h1:=h x ad0
  have h2:=CY fun y hy=>h y (adW x hy)
  simp only[aJ,List.map_cons,List.sum_cons,List.length_cons]at*
  omega
theorem xg{l:List Lt}(h:∀x∈l,0<=x.n/\x.n<=1099511627776)(j:Nat)(hj:l.length<=1000000):0<=aJ (l.take j)/\aJ (l.take j)<=1099511627776000000:=by
 have:=CY fun x hx=>h x (List.mem_of_mem_take (i:=j) hx)
 have h2:(l.take j).length<=1000000:=by rw[ad9];omega
 omega
theorem dE{l:List Lt}(h:bz l=true):l.length<=4096/\∀x∈l,aB x=true:=by
 simp only[bz,aep,aed,decide_eq_true_eq]at h
 exact⟨h.2,h.1⟩
theorem gQ{x:Lt}(h:aB x=true):0<=x.n/\x.n<=1099511627776:=by have:=ah.1 h;omega
theorem mlt{i n:Nat}(h:i<n):n-(i+1)<n-i:=by omega
variable [bj]
theorem Mu(x:Lt):aR Tryz.prog 223 [ax x] [B (aB x)]:=by
 refine pO Tryz.func223 rfl (by kernel_rfl) rfl ?_
 repeat refine gG ?_
 refine⟨fun h=>?_,?_⟩
 ·simp[bw]at h;omega
 repeat refine gG ?_
 refine⟨DV.Le.of_eq ?_,tv⟩
 congr 1
 rw[aek,ah];simp;omega
theorem Bw(x:Lt):aR Tryz.prog 119 [ax x] [B (aB x)]:=by
 refine pO Tryz.func119 rfl (by kernel_rfl) rfl ?_
 repeat refine gG ?_
 refine⟨fun h=>?_,?_⟩
 ·simp[bw]at h;omega
 repeat refine gG ?_
 refine⟨DV.Le.of_eq ?_,tv⟩
 congr 1
 rw[aek,ah];simp;omega
theorem gz(l:List Lt)(hl:l.length<=1000000):aR Tryz.prog 195 [aQ l] [B (bz l)]:=by
 refine pO Tryz.func195 rfl (by kernel_rfl) rfl ?_
 refine⟨Nat,fun i=>⟨0,[(0,.dv (aQ l)),(3,.dv (I i))],[]⟩,fun i=>i<=l.length/\(l.take i).all aB=true,fun i=>l.length-i,0,fun _=>rfl,jn rfl rfl rfl rfl,⟨ad3 _,rfl⟩,?_⟩
 rintro i ⟨hi,hv⟩
 refine⟨fun h=>?_,fun h=>?_⟩
 ·have ay:i<l.length:=by have:=ad5 h;rw[adO]at this;omega
  have hx:=ace ay
  generalize l[i]=x at hx
  refine⟨ax x,fun _=>⟨by omega,by rw[adQ];simp[hx]⟩,?_⟩
  refine .inl ⟨_,fun _=>(Mu x).ok,?_⟩
  refine⟨fun h=>?_,fun h=>?_⟩
  ·have h:aB x=false:=by simpa using h
   refine⟨DV.Le.of_eq ?_,tv⟩
   rw[bz,PQ (adR hx) h];rfl
  ·have h:aB x=true:=by simpa using h
   exact⟨fun _=>by omega,i+1,jn rfl rfl rfl rfl,⟨by omega,by rw[FI hx,hv,h];rfl⟩,mlt ay⟩
 ·have he:i=l.length:=by have:=ad6 h;rw[adO]at this;omega
  subst he
  rw[ad4]at hv
  refine⟨DV.Le.of_eq ?_,tv⟩
  rw[bz,hv,adO]
  congr 1
  simp only[Bool.true_and]
  congr 1
  simp only[eq_iff_iff];omega
theorem ez(l:List Lt)(hl:l.length<=1000000):aR Tryz.prog 84 [aQ l] [B (bz l)]:=by
 refine pO Tryz.func84 rfl (by kernel_rfl) rfl ?_
 refine⟨fun h=>?_,fun h=>?_⟩
 ·have:4096<l.length:=by have:=ad5 h;rw[adO]at this;omega
  refine⟨DV.Le.of_eq ?_,tv⟩
  rw[bz,aec (by omega),Bool.and_false]
 have hle:l.length<=4096:=by have:=ad6 h;rw[adO]at this;omega
 refine⟨Nat,fun i=>⟨0,[(8,.dv (aQ l)),(9,.dv (I l.length)),(10,.dv (I i))],[]⟩,fun i=>i<=l.length/\(l.take i).all aB=true,fun i=>l.length-i,0,fun _=>rfl,jn (by simp;rfl) rfl rfl rfl,⟨ad3 _,rfl⟩,?_⟩
 rintro i ⟨hi,hv⟩
 refine⟨fun h=>?_,fun h=>?_⟩
 ·have ay:i<l.length:=by have:=ad5 h;omega
  have hx:=ace ay
  generalize l[i]=x at hx
  refine⟨ax x,fun _=>⟨by omega,by rw[adQ];simp[hx]⟩,?_⟩
  refine .inl ⟨_,fun _=>(Bw x).ok,?_⟩
  refine⟨fun h=>?_,fun h=>?_⟩
  ·have h:aB x=false:=by simpa using h
   refine⟨DV.Le.of_eq ?_,tv⟩
   rw[bz,PQ (adR hx) h];rfl
  ·have h:aB x=true:=by simpa using h
   exact⟨fun _=>by omega,i+1,jn rfl rfl rfl rfl,⟨by omega,by rw[FI hx,hv,h];rfl⟩,mlt ay⟩
 ·have he:i=l.length:=by have:=ad6 h;omega
  subst he
  rw[ad4]at hv
  exact⟨DV.Le.of_eq (by rw[bz,hv,aeb hle];rfl),tv⟩
theorem Bx(l:List Lt)(hl:l.length<=1000000)(hn:∀x∈l,0<=x.n/\x.n<=1099511627776):aR Tryz.prog 41 [aQ l] [I (aJ l)]:=by
 refine pO Tryz.func41 rfl (by kernel_rfl) rfl ?_
 refine⟨Nat,fun i=>⟨0,[(3,.dv (I (aJ (l.take i)))),(6,.dv (aQ l)),(7,.dv (I l.length)),(8,.dv (I i))],[]⟩,fun i=>i<=l.length,fun i=>l.length-i,0,fun _=>rfl,jn (by simp;rfl) rfl rfl rfl,ad3 _,?_⟩
 rintro i hi
 refine⟨fun h=>?_,fun h=>?_⟩
 ·have ay:i<l.length:=by have:=ad5 h;omega
  have hx:=ace ay
  generalize l[i]=x at hx
  have b1:=xg hn i hl
  have b2:=hn x (adR hx)
  refine⟨ax x,fun _=>⟨by omega,by rw[adQ];simp[hx]⟩,?_⟩
  exact⟨fun _=>by omega,fun _=>by omega,i+1,jn (by simp only[jB hx];rfl) rfl rfl rfl,by omega,mlt ay⟩
 ·have he:i=l.length:=by have:=ad6 h;omega
  subst he
  exact⟨aG (by rw[ad4]),tv⟩
theorem kR(l:List Lt)(hl:l.length<=1000000):aR Tryz.prog 28 [aQ l] [I (cu l)]:=by
 refine pO Tryz.func28 rfl (by kernel_rfl) rfl ?_
 refine .inl ⟨_,fun _=>(ez l hl).ok,?_⟩
 refine⟨fun h=>?_,fun h=>?_⟩
 ·have h:bz l=false:=by simpa using h
  exact⟨aG (by rw[cu,h];rfl),tv⟩
 ·have h:bz l=true:=by simpa using h
  refine .inl ⟨_,fun _=>(Bx l hl fun x hx=>gQ ((dE h).2 x hx)).ok,?_⟩
  exact⟨aG (by rw[cu,h];rfl),tv⟩
theorem nb(l:List Lt)(hl:l.length<=1000000):aR Tryz.prog 120 [aQ l] [I (cu l)]:=by
 refine pO Tryz.func120 rfl (by kernel_rfl) rfl ?_
 refine .inl ⟨_,fun _=>(gz l hl).ok,?_⟩
 have hb:=fun h=>@dE l h
 have ht:cu l=bif bz l then aJ l else 0:=rfl
 generalize bz l=v at hb ht
 refine⟨Nat,fun i=>⟨0,[(0,.dv (aQ l)),(3,.dv (I (aJ (l.take i)))),(4,.dv (B v)),(5,.dv (I i))],[]⟩,fun i=>i<=l.length/\(v=false->i=0),fun i=>l.length-i,0,fun _=>rfl,jn rfl rfl rfl rfl,⟨ad3 _,fun _=>rfl⟩,?_⟩
 rintro i ⟨hi,hv⟩
 repeat refine gG ?_
 refine⟨fun h=>?_,fun h=>?_⟩
 ·have h:=dc h
  have ay:i<l.length:=by have:=ad5 h.1;rw[adO]at this;omega
  have XK:v=true:=h.2
  have hx:=ace ay
  generalize l[i]=x at hx
  have hn:∀x∈l,0<=x.n/\x.n<=1099511627776:=fun x hx=>gQ ((hb XK).2 x hx)
  have b1:=xg hn i hl
  have b2:=hn x (adR hx)
  refine⟨ax x,fun _=>⟨by omega,by rw[adQ];simp[hx]⟩,?_⟩
  exact⟨fun _=>by omega,fun _=>by omega,i+1,jn (by simp only[jB hx];rfl) rfl rfl rfl,⟨by omega,by simp[XK]⟩,mlt ay⟩
 ·have h:=mc h
  refine⟨aG ?_,tv⟩
  rw[ht]
  cases v with
  |true=>
   have:i=l.length:=by
    have:¬(i:Int)<(l.map ax).length:=fun hh=>h ⟨aeb hh,rfl⟩
    rw[adO]at this;omega
   subst this
   rw[ad4];rfl
  |false=>rw[hv rfl];rfl
end
section
open Go.TM
theorem PR{x:Lt}(h:x.n≠0):aN [] x=[x]:=by unfold aN;rw[if_neg h];rfl
theorem Mv{r:List Lt}{x y:Lt}(h:x.n≠0)(hc:y.f=x.f/\y.a+y.n=x.a):aN (r++[y]) x=r++[⟨y.f,y.a,y.n+x.n⟩]:=by
 unfold aN;rw[if_neg h];simp[hc]
theorem Mw{r:List Lt}{x y:Lt}(h:x.n≠0)(hc:¬(y.f=x.f/\y.a+y.n=x.a)):aN (r++[y]) x=r++[y]++[x]:=by
 unfold aN;rw[if_neg h];simp[hc]
variable [bj]
theorem bL{n:Nat}(h:n<=1000000):n*(nth na (nth na 46).elem).bytes<=140737488355328:=by
 rw[show(nth na (nth na 46).elem).bytes=24 by kernel_rfl];omega
theorem acA(l:List Lt):uX (l.map ax)=l.map ax:=dV (fun _=>rfl) l
theorem nW(l:List Lt):(oY (.aD 3 (l.map ax))).Le (aQ l):=DV.Le.of_eq (by show DV.sl 3 (uX (l.map ax))=_;rw[acA])
theorem pQ(s:List Lt)(x:Lt)(hs:s.length<=100000)(hb:∀y∈s,0<=y.a/\y.a<=1099511627776/\0<=y.n/\y.n<=1099511627776)(hx:0<=x.n/\x.n<=1099511627776):aR Tryz.prog 129 [aQ s,ax x] [aQ (aN s x)]:=by
 refine pO Tryz.func129 rfl (by kernel_rfl) rfl ?_
 refine .inr ⟨s.map ax,bV.refl _,bL (by rw[adO];omega),by rw[adO];omega,?_⟩
 refine⟨fun h=>?_,fun h=>?_⟩
 ·have h0:x.n=0:=ad5 h
  rw[show aN s x=s from if_pos h0]
  exact⟨nW s,tv⟩
 have h0:x.n≠0:=ad6 h
 rcases List.eq_nil_or_concat s with rfl|⟨r,y,rfl⟩
 ·have fy:∀{p:Prop},bw (decide (0<((List.map ax []).length:Int))) true=true->p:=fun h=>by simp[bw]at h
  repeat first|refine g1 ?_|refine g3 ?_|refine⟨fy,?_⟩|refine⟨ax x,fy,?_⟩
  refine⟨by kernel_rfl,fun h=>by simp at h,fun _=>?_⟩
  refine .inl ⟨[ax x],rfl,⟨rf,rf,rf,tv⟩,(by simp;rfl),?_⟩
  refine .inr ⟨[ax x],bV.refl _,bL (by simp),by simp,?_⟩
  rw[PR h0]
  exact⟨nW [x],tv⟩
 ·rw[List.concat_eq_append]at*
  have e1:((r++[y]).map ax).length=r.length+1:=by simp
  have hy:((r++[y]).map ax)[((((r++[y]).map ax).length:Int)-1).toNat]?=some (ax y):=by rw[e1,show(((r.length+1:Nat):Int)-1).toNat=r.length by omega];simp
  have Az:=hb y (by simp)
  have gl:r.length+1<=100000:=by simpa using hs
  repeat first|refine g1 ?_|refine g3 ?_|refine⟨ax y,fun _=>hy,?_⟩|refine⟨fun _=>by omega,?_⟩
  refine⟨by kernel_rfl,fun h=>?_,fun h=>?_⟩
  ·repeat first|refine g1 ?_|refine g3 ?_|refine⟨ax y,fun _=>hy,?_⟩|refine⟨fun _=>by omega,?_⟩
   refine⟨[I (y.n+x.n)],⟨rf,tv⟩,ax y,hy,?_⟩
   rw[Mv h0 (by simpa using h)]
   have e3:((r++[y]).map ax).set ((((r++[y]).map ax).length:Int)-1).toNat (DV.agg [I y.f,I y.a,I (y.n+x.n)])=(r++[(⟨y.f,y.a,y.n+x.n⟩:Lt)]).map ax:=by
    rw[e1,show(((r.length+1:Nat):Int)-1).toNat=r.length by omega];simp[ax]
   have:=nW (r++[(⟨y.f,y.a,y.n+x.n⟩:Lt)])
   rw[<-e3]at this
   exact⟨by kernel_rfl,this,tv⟩
  ·refine .inl ⟨[ax x],rfl,⟨rf,rf,rf,tv⟩,(by simp;rfl),?_⟩
   refine .inr ⟨[ax x],bV.refl _,bL (by simp;omega),by simp;omega,?_⟩
   rw[Mw h0 (by simpa using h)]
   refine⟨?_,tv⟩
   have:=nW (r++[y]++[x])
   rw[ad7 (l₂:=[x])]at this
   exact this
end
section
open Go.TM
structure DS where
 a:Int
 q:Int
 r:Int
def dH(d:Int)(q r:Int):Int×Int:=if d<=r then(q+1,r-d)else(q,r)
def vQ(b d bit:Int)(s:DS):DS:=
 if bit<=s.a then⟨s.a-bit,(dH d ((dH d (2*s.q) (2*s.r)).1+b.tdiv d) ((dH d (2*s.q) (2*s.r)).2+b.tmod d)).1,(dH d ((dH d (2*s.q) (2*s.r)).1+b.tdiv d) ((dH d (2*s.q) (2*s.r)).2+b.tmod d)).2⟩
 else⟨s.a,(dH d (2*s.q) (2*s.r)).1,(dH d (2*s.q) (2*s.r)).2⟩
def uY(k:Nat):Int:=1152921504606846976/2^k
def N6(a b d:Int):Nat->DS
 |0=>⟨a,0,0⟩
 |k+1=>vQ b d (uY k) (N6 a b d k)
theorem Wf{d q r X:Int}(h:q*d+r=X)(h0:0<=r)(h1:r<2*d):(dH d q r).1*d+(dH d q r).2=X/\0<=(dH d q r).2/\(dH d q r).2<d/\q<=(dH d q r).1/\(dH d q r).1<=q+1:=by
 unfold dH
 split
 ·simp only;rw[Int.add_mul];omega
 ·simp only;omega
structure ZF(a b d:Int)(k:Nat)(s:DS):Prop where
 ex:∃A,0<=A/\a=A*2^(61-k)+s.a/\s.q*d+s.r=A*b
 a0:0<=s.a
 a1:s.a<2^(61-k)
 r0:0<=s.r
 r1:s.r<d
 q0:0<=s.q
theorem FJ{k:Nat}(hk:k<=60):uY k=2^(60-k)/\(2:Int)^(61-k)=2*2^(60-k):=by
 refine⟨?_,by rw[show 61-k=(60-k)+1 by omega,Int.pow_succ];omega⟩
 unfold uY
 rw[show(1152921504606846976:Int)=2^(60-k)*2^k by rw[<-Int.pow_add,show 60-k+k=60 by omega];rfl]
 exact Int.mul_ediv_cancel _ (Int.ne_of_gt (Int.pow_pos (by omega)))
theorem IL{a b d:Int}(ha:0<=a/\a<2^61)(hb:0<=b)(hd:0<d):∀k,k<=61->ZF a b d k (N6 a b d k)
 |0,_=>⟨⟨0,by omega,by show a=0*_+a;omega,by show(0:Int)*d+0=0*b;omega⟩,ha.1,ha.2,Int.le_refl _,hd,Int.le_refl _⟩
 |k+1,hk=>by
  obtain⟨⟨A,hA,e1,e2⟩,a0,a1,r0,r1,q0⟩:=IL ha hb hd k (by omega)
  obtain⟨b1,b2⟩:=FJ (k:=k) (by omega)
  show ZF a b d (k+1) (vQ b d (uY k) (N6 a b d k))
  generalize N6 a b d k=s at*
  rw[b1]
  rw[b2]at e1 a1
  have e61:61-(k+1)=60-k:=by omega
  have hp:(0:Int)<2^(60-k):=Int.pow_pos (by omega)
  have h2:(2*s.q)*d+2*s.r=2*A*b:=by rw[Int.mul_assoc,Int.mul_assoc,<-e2];omega
  have hh:=Wf h2 (by omega) (by omega)
  unfold vQ
  generalize dH d (2*s.q) (2*s.r)=z at hh⊢
  have hAA:A*(2*2^(60-k))=2*A*2^(60-k):=by rw[<-Int.mul_assoc,Int.mul_comm A 2]
  split
  ·rename_i hc
   have hm:=Int.tmod_nonneg d hb
   have SY:=Int.tmod_lt_of_pos b hd
   have hq:=Int.tdiv_nonneg hb (Int.le_of_lt hd)
   have hmd:=Int.mul_tdiv_add_tmod b d
   have h3:(z.1+b.tdiv d)*d+(z.2+b.tmod d)=(2*A+1)*b:=by
    have hX:(2*A+1)*b=2*A*b+b:=by rw[Int.add_mul];omega
    have hY:(z.1+b.tdiv d)*d=z.1*d+d*b.tdiv d:=by rw[Int.add_mul,Int.mul_comm (b.tdiv d) d]
    omega
   have h4:=Wf h3 (by omega) (by omega)
   refine⟨⟨2*A+1,by omega,?_,h4.1⟩,by show 0<=s.a-2^(60-k);omega,by show s.a-2^(60-k)<_;rw[e61];omega,h4.2.1,h4.2.2.1,by have:=h4.2.2.2.1;simp only;omega⟩
   rw[e61]
   show a=(2*A+1)*2^(60-k)+(s.a-2^(60-k))
   rw[Int.add_mul];omega
  ·rename_i hc
   refine⟨⟨2*A,by omega,?_,hh.1⟩,a0,by rw[e61];show s.a<_;omega,hh.2.1,hh.2.2.1,by show 0<=z.1;omega⟩
   rw[e61]
   show a=2*A*2^(60-k)+s.a
   omega
theorem ZF.q1{a b d:Int}{k:Nat}{s:DS}(h:ZF a b d k s)(hk:k<=61)(hb:b<=d)(qT:0<=b)(hd:0<d)(ha:a<=1152921504606846976):s.q<=1152921504606846976:=by
 obtain⟨⟨A,hA,e1,e2⟩,a0,a1,r0,r1,q0⟩:=h
 have h1:A*b<=A*d:=Int.mul_le_mul_of_nonneg_left hb hA
 have h2:s.q*d<=A*d:=by omega
 have h3:s.q<=A:=Int.le_of_mul_le_mul_right h2 hd
 have h4:(1:Int)<=2^(61-k):=by have:(0:Int)<2^(61-k):=Int.pow_pos (by omega);omega
 have h5:A*1<=A*2^(61-k):=Int.mul_le_mul_of_nonneg_left h4 hA
 omega
theorem ZF.a9{a b d:Int}{k:Nat}{s:DS}(h:ZF a b d k s):s.a<=a:=by
 obtain⟨⟨A,hA,e1,e2⟩,a0,a1,r0,r1,q0⟩:=h
 have h4:(0:Int)<2^(61-k):=Int.pow_pos (by omega)
 have:=Int.mul_nonneg hA (Int.le_of_lt h4)
 omega
theorem Uf{a b d:Int}(ha:0<=a/\a<2^61)(hb:0<=b)(hd:0<d):(N6 a b d 61).q=a*b/d/\(N6 a b d 61).r=a*b%d:=by
 obtain⟨⟨A,hA,e1,e2⟩,a0,a1,r0,r1,q0⟩:=IL ha hb hd 61 (by omega)
 generalize N6 a b d 61=s at*
 have:s.a=0:=by have:s.a<1:=a1;omega
 have eA:a=A:=by have e1:a=A*1+s.a:=e1;omega
 subst eA
 have:=Int.ediv_emod_unique (a:=a*b) (b:=d) (q:=s.q) (r:=s.r) hd
 have h6:=this.2 ⟨by rw[Int.mul_comm d];omega,r0,r1⟩
 exact⟨h6.1.symm,h6.2.symm⟩
theorem IN(k:Nat):0<=uY k/\uY k<=1152921504606846976:=by
 unfold uY
 have:(0:Int)<2^k:=Int.pow_pos (by omega)
 exact⟨Int.ediv_nonneg (by omega) (by omega),Int.ediv_le_self _ (by omega)⟩
theorem Mx(k:Nat):(uY k).tdiv 2=uY (k+1):=by
 rw[Int.tdiv_eq_ediv_of_nonneg (IN k).1]
 unfold uY
 rw[Int.pow_succ,Int.ediv_ediv_of_nonneg (Int.le_of_lt (Int.pow_pos (by omega)))]
theorem PT{k:Nat}(h:k<=61):0<uY k↔k<61:=by
 rcases ad8 k 61 with hl|hg
 ·have:=(FJ (k:=k) (by omega)).1
  rw[this]
  exact⟨fun _=>hl,fun _=>Int.pow_pos (by omega)⟩
 ·have:k=61:=by omega
  subst this
  exact⟨fun h=>absurd h (by decide),fun h=>by omega⟩
variable [bj]
theorem My(a b d:Int)(ha:0<=a/\a<=1152921504606846976)(hb:0<=b/\b<=d)(hd:0<d/\d<=1152921504606846976):aR Tryz.prog 253 [I a,I b,I d] [I (a*b/d),I (a*b%d),B true]:=by
 refine pO Tryz.func253 rfl (by kernel_rfl) rfl ?_
 have b8:=IL (a:=a) (b:=b) (d:=d) ⟨ha.1,by omega⟩ hb.1 hd.1
 refine⟨Nat,fun k=>⟨0,[(0,.dv (I (N6 a b d k).a)),(1,.dv (I b)),(2,.dv (I d)),(9,.dv (I (N6 a b d k).q)),(10,.dv (I (N6 a b d k).r)),(11,.dv (I (uY k)))],[]⟩,fun k=>k<=61,fun k=>61-k,0,fun _=>rfl,jn (by rfl) rfl rfl rfl,ad3 _,?_⟩
 rintro k hk
 have qw:=b8 k hk
 have hq1:=qw.q1 hk hb.2 hb.1 hd.1 ha.2
 have ct:=IN k
 have Ic:=Mx k
 have hbp:=PT hk
 have q0:=qw.q0
 have r0:=qw.r0
 have r1:=qw.r1
 have a0:=qw.a0
 have a9:=qw.a9
 have m0:=Int.tmod_nonneg d hb.1
 have m1:=Int.tmod_lt_of_pos b hd.1
 have t0:=Int.tdiv_nonneg hb.1 (Int.le_of_lt hd.1)
 have t1:b.tdiv d<=b:=Int.tdiv_le_self d hb.1
 refine adN ?_ ?_
 ·intro h
  have ay:k<61:=hbp.1 (ad5 h)
  have yw:=(b8 (k+1) (by omega)).q1 (by omega) hb.2 hb.1 hd.1 ha.2
  have Wg:=(b8 (k+1) (by omega)).q0
  have b3:=IN (k+1)
  have hn:N6 a b d (k+1)=vQ b d (uY k) (N6 a b d k):=rfl
  refine⟨fun _=>by omega,fun _=>by omega,?_⟩
  refine adN ?_ ?_
  all_goals intro h1
  all_goals first|have h1:=ad5 h1|have h1:=ad6 h1
  all_goals repeat first|refine⟨fun _=>by omega,?_⟩
  all_goals refine adN ?_ ?_
  all_goals intro h2
  all_goals first|have h2:=ad5 h2|have h2:=ad6 h2
  all_goals repeat first|refine⟨fun _=>by omega,?_⟩|refine⟨fun _ _=>by omega,?_⟩
  ·refine adN ?_ ?_
   all_goals intro h3
   all_goals first|have h3:=ad5 h3|have h3:=ad6 h3
   all_goals repeat first|refine⟨fun _=>by omega,?_⟩
   all_goals simp only[vQ,dH,h1,h2,h3,if_true,if_false]at hn
   all_goals rw[hn]at yw Wg
   all_goals simp only at yw Wg
   all_goals refine adN (fun h4=>absurd (ad5 h4) (by omega)) ?_
   all_goals intro _
   all_goals refine⟨fun _ h=>by omega,fun _=>by omega,k+1,jn ?_ rfl rfl rfl,by omega,by show 61-(k+1)<61-k;omega⟩
   all_goals simp only[hn,<-Ic]
   all_goals rfl
  ·simp only[vQ,dH,h1,h2,if_true,if_false]at hn
   rw[hn]at yw Wg
   simp only at yw Wg
   refine adN (fun h4=>absurd (ad5 h4) (by omega)) ?_
   intro _
   refine⟨fun _ h=>by omega,fun _=>by omega,k+1,jn ?_ rfl rfl rfl,by omega,by show 61-(k+1)<61-k;omega⟩
   simp only[hn,<-Ic]
   rfl
  ·refine adN ?_ ?_
   all_goals intro h3
   all_goals first|have h3:=ad5 h3|have h3:=ad6 h3
   all_goals repeat first|refine⟨fun _=>by omega,?_⟩
   all_goals simp only[vQ,dH,h1,h2,h3,if_true,if_false]at hn
   all_goals rw[hn]at yw Wg
   all_goals simp only at yw Wg
   all_goals refine adN (fun h4=>absurd (ad5 h4) (by omega)) ?_
   all_goals intro _
   all_goals refine⟨fun _ h=>by omega,fun _=>by omega,k+1,jn ?_ rfl rfl rfl,by omega,by show 61-(k+1)<61-k;omega⟩
   all_goals simp only[hn,<-Ic]
   all_goals rfl
  ·simp only[vQ,dH,h1,h2,if_true,if_false]at hn
   rw[hn]at yw Wg
   simp only at yw Wg
   refine adN (fun h4=>absurd (ad5 h4) (by omega)) ?_
   intro _
   refine⟨fun _ h=>by omega,fun _=>by omega,k+1,jn ?_ rfl rfl rfl,by omega,by show 61-(k+1)<61-k;omega⟩
   simp only[hn,<-Ic]
   rfl
 ·intro h
  have acB:k=61:=by
   have:=ad6 h
   rw[hbp]at this;omega
  subst acB
  obtain⟨e1,e2⟩:=Uf (a:=a) (b:=b) (d:=d) ⟨ha.1,by omega⟩ hb.1 hd.1
  exact⟨aG e1,aG e2,rf,tv⟩
end
section
open Go.TM
theorem yL{l:List Int}{j:Nat}{x:Int}(hx:l[j]?=some x):(l.take (j+1)).sum=(l.take j).sum+x:=by
 rw[adY,hx,List.sum_append];simp
theorem Wh:∀{l:List Int},(∀x∈l,0<=x/\x<=1099511627776)->0<=l.sum/\l.sum<=1099511627776*l.length
 |[],_=>by simp
 |x::l,h=>by
  have h1:=h x ad0
  have h2:=Wh fun y hy=>h y (adW x hy)
  simp only[List.sum_cons,List.length_cons]at*
  omega
theorem XM{l:List Int}(h:∀x∈l,0<=x/\x<=1099511627776)(hl:l.length<=5000)(j:Nat):0<=(l.take j).sum/\(l.take j).sum<=5497558138880000:=by
 have h1:=Wh fun x hx=>h x (List.mem_of_mem_take (i:=j) hx)
 have h2:(l.take j).length<=l.length:=by rw[ad9];omega
 omega
theorem IP:∀{l:List Int},(∀x∈l,0<=x)->∀x∈l,x<=l.sum
 |y::l,h,x,hx=>by
  have h1:=h y ad0
  have h3:=yG fun z hz=>h z (adW y hz)
  rw[List.sum_cons]
  rcases adV.1 hx with rfl|hx
  ·omega
  ·have h2:=IP (fun z hz=>h z (adW y hz)) x hx
   omega
theorem th:∀{l:List Int} (j:Nat),(∀x∈l,0<=x)->0<=(l.take j).sum/\(l.take j).sum<=l.sum
 |l,0,h=>by simpa using yG h
 |[],j+1,_=>by simp
 |x::l,j+1,h=>by
  have h1:=h x ad0
  have h2:=th (l:=l) j fun y hy=>h y (adW x hy)
  simp only[List.take_succ_cons,List.sum_cons];omega
def rW(rs:List Int)(i:Nat):Nat:=(List.range' 1 (i-1)).foldl (Ay rs) 0
theorem Mz(rs:List Int){i:Nat}(h:1<=i):rW rs (i+1)=Ay rs (rW rs i) i:=by
 unfold rW
 rw[show i+1-1=(i-1)+1 by omega,List.range'_1_concat,aee]
 rw[show 1+(i-1)=i by omega];rfl
theorem Ug(rs:List Int){i:Nat}(h:1<=i):rW rs i<i:=by
 have:=(yF rs (i-1) 1 0 (by omega) fun j hj=>by
  have:j=0:=by omega
  subst this;simp[fE]).1
 unfold rW;omega
variable [bj]
theorem bI{n:Nat}(h:n<=1000000):n*(nth na (nth na 22).elem).bytes<=140737488355328:=by
 rw[show(nth na (nth na 22).elem).bytes=8 by kernel_rfl];omega
theorem By(n:Int):aR Tryz.prog 252 [I n] [B (decide (0<=n/\n<=1099511627776))]:=by
 refine pO Tryz.func252 rfl (by kernel_rfl) rfl ?_
 repeat refine gG ?_
 refine⟨DV.Le.of_eq ?_,tv⟩
 congr 1
 rw[aek];simp
theorem FK(t:Int)(ws:List Int)(ht:0<=t/\t<=1099511627776)(hw:∀w∈ws,0<=w/\w<=1099511627776)(hl:ws.length<=5000)(hs:0<ws.sum)(HX:t<=ws.sum):aR Tryz.prog 241 [I t,Ints ws] [Ints (Ad t ws),I 0]:=by
 refine pO Tryz.func241 rfl (by kernel_rfl) rfl ?_
 have ak:=XM hw hl
 have hsm:=ak ws.length
 rw[ad4]at hsm
 refine⟨Nat,fun i=>⟨0,[(0,.dv (I t)),(1,.dv (Ints ws)),(6,.dv (I (ws.take i).sum)),(7,.dv (I i))],[]⟩,fun i=>i<=ws.length,fun i=>ws.length-i,0,fun _=>rfl,jn rfl rfl rfl rfl,ad3 _,?_⟩
 rintro i hi
 have b1:=ak i
 refine adN ?_ ?_
 ·intro h
  have ay:i<ws.length:=by have:=ad5 h;rw[adO]at this;omega
  have hx:=ace ay
  generalize ws[i]=x at hx
  have rX:=hw x (adR hx)
  refine⟨I x,fun _=>⟨by omega,by rw[adQ];simp[hx]⟩,?_⟩
  refine .inl ⟨_,fun _=>(By x).ok,?_⟩
  rw[aeb rX]
  repeat refine gG ?_
  refine adN (fun h=>by simp at h;omega) fun _=>?_
  refine⟨I x,fun _=>⟨by omega,by rw[adQ];simp[hx]⟩,?_⟩
  exact⟨fun _=>by omega,fun _=>by omega,i+1,jn (by simp only[yL hx];rfl) rfl rfl rfl,by omega,mlt ay⟩
 intro h
 have he:i=ws.length:=by have:=ad6 h;rw[adO]at this;omega
 subst he
 simp only[ad4]
 refine .inl ⟨_,fun _=>(By t).ok,?_⟩
 rw[aeb ht]
 repeat refine gG ?_
 refine adN (fun h=>by simp at h;omega) fun _=>?_
 have hql:(qL t ws.sum ws).length=ws.length:=by simp[qL]
 have hrl:(rL t ws.sum ws).length=ws.length:=by simp[rL]
 have hq0:∀x∈qL t ws.sum ws,0<=x:=fun x hx=>by
  obtain⟨w,LV,rfl⟩:=aeg.1 hx
  exact Int.ediv_nonneg (Int.mul_nonneg ht.1 (hw w LV).1) (by omega)
 have hr0:=XD (t:=t) hs (ws:=ws)
 obtain⟨l1,l2,l3⟩:=xd (t:=t) hs
 have XO:(qL t ws.sum ws).sum<=t:=by unfold fZ at l1;omega
 have hw0:∀w∈ws,0<=w:=fun w LV=>(hw w LV).1
 have hqe:∀{i:Nat} {x:Int},ws[i]?=some x->(qL t ws.sum ws)[i]?=some (t*x/ws.sum)/\(rL t ws.sum ws)[i]?=some (t*x%ws.sum):=fun h=>by simp[qL,rL,h]
 have Uh:Ad t ws=plus (rL t ws.sum ws) (qL t ws.sum ws) (fZ t ws.sum ws).toNat:=rfl
 have hLd:fZ t ws.sum ws=t-(qL t ws.sum ws).sum:=rfl
 have hLl:(fZ t ws.sum ws).toNat<=ws.length:=by
  have:(rL t ws.sum ws).countP (fun x=>decide (0<x))<=(rL t ws.sum ws).length:=List.countP_le_length
  omega
 generalize Ad t ws=res at*
 generalize fZ t ws.sum ws=L at*
 generalize qL t ws.sum ws=Q at*
 generalize rL t ws.sum ws=R at*
 refine⟨Nat,fun i=>⟨2,[(0,.dv (I t)),(1,.dv (Ints ws)),(6,.dv (I ws.sum)),(10,.own 0 0 0 []),(11,.own 1 0 0 []),(12,.dv (I (t-(Q.take i).sum))),(13,.dv (I i))],[(0,.tree 0 0 (.aD 1 ((Q.take i).map I))),(1,.tree 0 0 (.aD 1 ((R.take i).map I)))]⟩,fun i=>i<=ws.length,fun i=>ws.length-i,0,fun _=>rfl,⟨⟨rf,rf,rf,⟨rfl,rfl,rfl,rfl,1,rfl⟩,⟨rfl,rfl,rfl,rfl,1,rfl⟩,aG (by simp),rf,tv⟩,⟨⟨rfl,rfl,1,rfl⟩,⟨rfl,rfl,1,rfl⟩,tv⟩,rfl,rfl⟩,ad3 _,?_⟩
 rintro i hi
 have c1:=th i hq0
 refine adN ?_ ?_
 ·intro h
  have ay:i<ws.length:=by have:=ad5 h;rw[adO]at this;omega
  have hx:=ace ay
  generalize ws[i]=x at hx
  have hxm:=adR hx
  have rX:=hw x hxm
  have Ev:=IP hw0 x hxm
  obtain⟨e1,e2⟩:=hqe hx
  have c2:=th (i+1) hq0
  have e3:=yL e1
  rw[e3]at c2
  refine⟨I x,fun _=>⟨by omega,by rw[adQ];simp[hx]⟩,?_⟩
  refine .inl ⟨_,fun _=>(My t x ws.sum (by omega) ⟨by omega,Ev⟩ (by omega)).ok,?_⟩
  generalize t*x/ws.sum=q at*
  generalize t*x%ws.sum=r at*
  have f1:(Q.take (i+1)).map I=(Q.take i).map I++[I q]:=by rw[adY,e1];simp
  have f2:(R.take (i+1)).map I=(R.take i).map I++[I r]:=by rw[adY,e2];simp
  have g1':((Q.take i).map I).length<=5000:=by rw[adO,ad9];omega
  have g2':((R.take i).map I).length<=5000:=by rw[adO,ad9];omega
  refine .inl ⟨[I q],rfl,⟨rf,tv⟩,(by simp;rfl),?_⟩
  refine .inr ⟨[I q],bV.refl _,bI (by simp only[List.length_cons,List.length_nil];omega),by simp only[List.length_cons,List.length_nil];omega,?_⟩
  refine .inl ⟨[I r],rfl,⟨rf,tv⟩,(by simp;rfl),?_⟩
  refine .inr ⟨[I r],bV.refl _,bI (by simp only[List.length_cons,List.length_nil];omega),by simp only[List.length_cons,List.length_nil];omega,?_⟩
  exact⟨fun _=>by omega,fun _=>by omega,i+1,jn (by simp only[e3,<-Int.sub_sub];rfl) (by simp only[f1,f2];rfl) rfl rfl,by omega,mlt ay⟩
 intro h
 have he:i=ws.length:=by have:=ad6 h;rw[adO]at this;omega
 subst he
 have eQ:Q.take ws.length=Q:=List.take_of_length_le (by omega)
 have eR:R.take ws.length=R:=List.take_of_length_le (by omega)
 have hRn:∀r∈R,0<=r:=fun r hr=>(hr0 r hr).1
 have hon:=fun k=>@PH R Q hRn (by omega) k
 have SZ:∀k,(CW (Q,R) k).1.length=ws.length/\(CW (Q,R) k).2.length=ws.length:=fun k=>by
  induction k with
  |zero=>exact⟨hql,hrl⟩
  |succ k ih=>exact⟨(xc _ _).trans ih.1,(List.length_set ..).trans ih.2⟩
 refine⟨Nat,fun k=>⟨2,[(10,.own 0 0 0 []),(11,.own 1 0 0 []),(12,.dv (I (L-k)))],[(0,.tree 0 0 (.aD 1 ((CW (Q,R) k).1.map I))),(1,.tree 0 0 (.aD 1 ((CW (Q,R) k).2.map I)))]⟩,fun k=>k<=L.toNat,fun k=>L.toNat-k,0,fun _=>rfl,⟨⟨rfl,rfl,aG (by rw[eQ,<-hLd];simp),tv⟩,⟨⟨rfl,by rw[eQ];rfl⟩,⟨rfl,by rw[eR];rfl⟩,tv⟩,rfl,rfl⟩,ad3 _,?_⟩
 rintro k hk
 refine adN ?_ ?_
 ·intro h
  have ay:k<L.toNat:=by have:=ad5 h;omega
  obtain⟨n1,n2⟩:=SZ k
  have dD:CW (Q,R) (k+1)=onR (CW (Q,R) k):=rfl
  have A2:=hon (k+1) (by omega)
  have MA:=hon k (by omega)
  generalize CZ:CW (Q,R) k=o at*
  obtain⟨o1,o2⟩:=o
  simp only at n1 n2
  refine⟨Nat,fun i=>⟨2,[(10,.own 0 0 0 []),(11,.own 1 0 0 []),(12,.dv (I (L-k))),(17,.dv (I (rW o2 i))),(18,.dv (I i))],[(0,.tree 0 0 (.aD 1 (o1.map I))),(1,.tree 0 0 (.aD 1 (o2.map I)))]⟩,fun i=>1<=i/\i<=ws.length,fun i=>ws.length-i,1,fun _=>rfl,jn (by simp only[CZ];rfl) (by simp only[CZ];rfl) rfl rfl,by omega,?_⟩
  rintro i ⟨N7,uf⟩
  have hbl:=Ug o2 N7
  have Ic:=Mz o2 N7
  refine adN ?_ ?_
  ·intro h
   have uZ:i<ws.length:=by have:=ad5 h;rw[adO]at this;omega
   have hx:=ace (show i<o2.length by omega)
   have hy:=ace (show rW o2 i<o2.length by omega)
   have dx:o2.getD i 0=o2[i]:=by rw[adT,hx];rfl
   have dy:o2.getD (rW o2 i) 0=o2[rW o2 i]:=by rw[adT,hy];rfl
   generalize o2[i]=x at hx dx
   generalize o2[rW o2 i]=y at hy dy
   refine⟨fun _=>⟨by omega,by rw[adO];omega⟩,I x,fun _=>by rw[adQ];simp[hx],?_⟩
   refine⟨fun _=>⟨by omega,by rw[adO];omega⟩,I y,fun _=>by rw[adQ];simp[hy],?_⟩
   refine adN (by kernel_rfl) (adN ?_ ?_)
   ·intro h
    have h:=ad5 h
    have hb:rW o2 (i+1)=i:=by rw[Ic];unfold Ay;rw[dx,dy,if_pos h]
    exact⟨fun _=>by omega,i+1,jn (by simp only[hb];rfl) rfl rfl rfl,by omega,mlt uZ⟩
   ·intro h
    have h:=ad6 h
    have hb:rW o2 (i+1)=rW o2 i:=by rw[Ic];unfold Ay;rw[dx,dy,if_neg h]
    exact⟨fun _=>by omega,i+1,jn (by simp only[hb];rfl) rfl rfl rfl,by omega,mlt uZ⟩
  ·intro h
   have uZ:i=ws.length:=by have:=ad6 h;rw[adO]at this;omega
   subst uZ
   have ZG:rW o2 ws.length=yE o2:=by unfold rW yE;rw[n2]
   simp only[ZG]
   rw[ZG]at hbl
   simp only at MA
   have aba:CW (Q,R) (k+1)=(kE o1 (yE o2),o2.set (yE o2) (-1)):=dD
   clear dD A2
   generalize yE o2=b at*
   have hx:=ace (show b<o1.length by omega)
   have hy:=ace (show b<o2.length by omega)
   have dx:o1.getD b 0=o1[b]:=by rw[adT,hx];rfl
   have rX:0<=o1[b]/\o1[b]<=t+1:=by
    rw[<-dx,MA,yC (by omega)]
    have hq:Q.getD b 0∈Q:=by rw[adT,ace (by omega)];exact ael _
    have h1:=IP hq0 _ hq
    have h2:=hq0 _ hq
    split<;>omega
   generalize o1[b]=x at hx dx rX
   generalize o2[b]=y at hy
   refine⟨fun _=>⟨by omega,by rw[adO];omega⟩,I x,fun _=>by rw[adQ];simp[hx],?_⟩
   refine⟨fun _=>by omega,fun _=>⟨by omega,by rw[adO];omega⟩,?_⟩
   refine⟨[I (x+1)],⟨rf,tv⟩,I x,by rw[adQ];simp[hx],?_⟩
   refine⟨fun _=>⟨by omega,by rw[adO];omega⟩,?_⟩
   refine⟨[I (-1)],⟨rf,tv⟩,I y,by rw[adQ];simp[hy],?_⟩
   have f1:(o1.map I).set (b:Int).toNat (I (x+1))=(kE o1 b).map I:=by
    rw[Int.toNat_natCast];unfold kE;rw[dx,List.map_set]
   have f2:(o2.map I).set (b:Int).toNat (I (-1))=(o2.set b (-1)).map I:=by
    rw[Int.toNat_natCast,List.map_set]
   exact⟨fun _=>by omega,k+1,⟨⟨rfl,rfl,aG (by omega),tv⟩,⟨⟨rfl,by rw[aba];exact congrArg (DV.aD 1) f1⟩,⟨rfl,by rw[aba];exact congrArg (DV.aD 1) f2⟩,tv⟩,rfl,rfl⟩,by omega,mlt ay⟩
 ·intro h
  have hkL:k=L.toNat:=by have:=ad6 h;omega
  subst hkL
  refine⟨?_,rf,tv⟩
  rw[hon _ (by omega),<-Uh]
  exact DV.Le.of_eq (by show DV.sl 1 (uX (res.map I))=_;rw[dV (fun _=>rfl)])
end
section
open Go.TM
def ck:Int->List Lt->List Int
 |_,[]=>[]
 |n,x::r=>min n x.n::ck (n-min n x.n) r
theorem yM:∀(n:Int) (s:List Lt),(ck n s).length=s.length
 |_,[]=>rfl
 |n,x::r=>by simp[ck,yM]
theorem yN:∀{n:Int} {s:List Lt} {i:Nat} {x:Lt},s[i]?=some x->(ck n s)[i]?=some (min (n-((ck n s).take i).sum) x.n)
 |n,y::r,0,x,h=>by simp at h;subst h;simp[ck]
 |n,y::r,i+1,x,h=>by
  have ih:=yN (n:=n-min n y.n) (s:=r) (i:=i) (by simpa using h)
  simp only[ck,List.getElem?_cons_succ,List.take_succ_cons,List.sum_cons]
  rw[ih,<-Int.sub_sub]
theorem yO:∀{n:Int} {s:List Lt},0<=n->(∀x∈s,0<=x.n)->(∀k∈ck n s,0<=k)/\(ck n s).sum<=n/\(n<=aJ s->(ck n s).sum=n)
 |n,[],h,_=>by refine⟨by simp[ck],by simpa[ck]using h,fun h2=>?_⟩;simp[aJ]at h2;simp[ck];omega
 |n,x::r,h,hx=>by
  have h1:=hx x ad0
  obtain⟨a1,a2,a3⟩:=yO (n:=n-min n x.n) (s:=r) (by omega) fun y hy=>hx y (adW _ hy)
  refine⟨fun k hk=>?_,by simp only[ck,List.sum_cons];omega,fun h2=>?_⟩
  ·simp only[ck,adV]at hk
   rcases hk with rfl|hk
   ·omega
   ·exact a1 k hk
  ·simp only[aJ,List.map_cons,List.sum_cons]at h2 a3
   simp only[ck,List.sum_cons]
   by_cases hc:n<=x.n
   ·have:min n x.n=n:=by omega
    rw[this]at a2⊢
    have:=yG a1
    rw[show min n x.n=n by omega]at this
    omega
   ·have:=a3 (by omega)
    omega
def oT(s:List Lt)(n:Int)(mixed:Bool):List Int:=bif mixed&&decide (0<n)then Ad n (s.map (·.n))else ck n s
def ZH(p:List Lt×List Lt)(q:Lt×Int):List Lt×List Lt:=(aN p.1 ⟨q.1.f,q.1.a,q.2⟩,aN p.2 ⟨q.1.f,q.1.a+q.2,q.1.n-q.2⟩)
def me(s:List Lt)(ks:List Int)(i:Nat):List Lt×List Lt:=((s.zip ks).take i).foldl ZH ([],[])
def eV(s:List Lt)(n:Int)(mixed:Bool):List Lt×List Lt:=me s (oT s n mixed) s.length
def Wi(s:List Lt)(ks:List Int):Prop:=ks.length=s.length/\∀(i:Nat) (x:Lt),s[i]?=some x->0<=ks.getD i 0/\ks.getD i 0<=x.n
theorem pR(s:List Lt):(s.map (·.n)).sum=aJ s:=rfl
theorem tl{s:List Lt}{n:Int}(mixed:Bool)(hn:0<=n)(hs:∀x∈s,aB x=true)(ht:n<=aJ s):Wi s (oT s n mixed):=by
 have hp:∀x∈s,0<=x.n:=fun x hx=>(gQ (hs x hx)).1
 unfold oT
 cases hc:mixed&&decide (0<n)with
 |true=>
  have h0:0<n:=by simp at hc;exact hc.2
  refine⟨by simp[K4],fun i x hx=>?_⟩
  have hl:=(adP.1 hx).1
  have:=Wd (t:=n) (ws:=s.map (·.n)) hn (fun w hw=>by obtain⟨y,hy,rfl⟩:=aeg.1 hw;exact hp y hy) (by rw[pR];omega) (by rw[pR];exact ht) (i:=i) (by simpa using hl)
  rw[show(s.map (·.n)).getD i 0=x.n by simp[adT,hx]]at this
  exact this
 |false=>
  refine⟨yM _ _,fun i x hx=>?_⟩
  have h1:=yN (n:=n) hx
  obtain⟨a1,a2,_⟩:=yO (s:=s) hn hp
  have h2:=th i a1
  have h3:=hp x (adR hx)
  show 0<=(ck n s).getD i 0/\(ck n s).getD i 0<=x.n
  rw[adT,h1]
  simp only[Option.getD_some]
  omega
theorem fL{l:List Lt}{x:Lt}(hl:∀y∈l,aB y=true)(hx:0<=x.f/\0<=x.a/\0<=x.n/\x.a+x.n<=1099511627776):∀y∈aN l x,aB y=true:=by
 have h1:=FB (l:=l) (x:=x) (fun y hy=>(ah.1 (hl y hy)).2.2.1) hx.2.2.1
 intro y hy
 have h2:=h1 y hy
 unfold aN at hy
 split at hy
 ·exact hl y hy
 split at hy
 ·rename_i h0 z hz
  have hzp:=ah.1 (hl z (List.mem_of_getLast? hz))
  split at hy
  ·rename_i hc
   rcases adX.1 hy with h|h
   ·exact hl y (List.dropLast_subset _ h)
   ·rw[adU]at h;subst h;rw[ah];simp only;omega
  ·rcases adX.1 hy with h|h
   ·exact hl y h
   ·rw[adU]at h;subst h;rw[ah];omega
 ·rw[adU]at hy;subst hy;rw[ah];omega
theorem yP{s:List Lt}{ks:List Int}{i:Nat}{x:Lt}{k:Int}(hx:s[i]?=some x)(hk:ks[i]?=some k):me s ks (i+1)=ZH (me s ks i) (x,k):=by
 unfold me
 rw[adY,List.getElem?_zip_eq_some (z:=(x,k)) |>.2 ⟨hx,hk⟩,aee];rfl
theorem IQ{s:List Lt}{ks:List Int}(hs:∀x∈s,aB x=true)(hk:Wi s ks):∀i,i<=s.length->(∀y∈(me s ks i).1,aB y=true)/\(∀y∈(me s ks i).2,aB y=true)/\(me s ks i).1.length<=i/\(me s ks i).2.length<=i
 |0,_=>by simp[me]
 |i+1,h=>by
  obtain⟨h1,h2,h3,h4⟩:=IQ hs hk i (by omega)
  obtain⟨x,hx⟩:∃x,s[i]?=some x:=⟨_,ace (show i<s.length by omega)⟩
  obtain⟨k,FL⟩:∃k,ks[i]?=some k:=⟨_,ace (show i<ks.length by rw[hk.1];omega)⟩
  have hb:=hk.2 i _ hx
  rw[adT,FL]at hb
  simp only[Option.getD_some]at hb
  have hp:=ah.1 (hs _ (adR hx))
  rw[yP hx FL]
  generalize me s ks i=p at*
  refine⟨fL h1 ⟨hp.1,hp.2.1,hb.1,by simp only;omega⟩,fL h2 ⟨hp.1,by simp only;omega,by simp only;omega,by simp only;omega⟩,?_,?_⟩
  ·exact Nat.le_trans (dR p.1 _) (by omega)
  ·exact Nat.le_trans (dR p.2 _) (by omega)
variable [bj]
theorem FM(s:List Lt)(n:Int)(mixed:Bool)(hn:0<=n/\n<=1099511627776)(hs:bz s=true)(ht:n<=aJ s):aR Tryz.prog 227 [aQ s,I n,B mixed] [Ints (oT s n mixed)]:=by
 refine pO Tryz.func227 rfl (by kernel_rfl) rfl ?_
 obtain⟨hl,hp⟩:=dE hs
 have hp0:∀x∈s,0<=x.n:=fun x hx=>(gQ (hp x hx)).1
 obtain⟨a1,a2,_⟩:=yO (s:=s) hn.1 hp0
 have km:=yM n s
 refine⟨Nat,fun i=>⟨2,[(0,.dv (aQ s)),(1,.dv (I n)),(2,.dv (B mixed)),(7,.own 0 0 0 []),(8,.own 1 0 0 []),(9,.dv (I (n-((ck n s).take i).sum))),(10,.dv (I i))],[(0,.tree 0 0 (.aD 1 ((s.take i).map fun x=>I x.n))),(1,.tree 0 0 (.aD 1 (((ck n s).take i).map I)))]⟩,fun i=>i<=s.length,fun i=>s.length-i,0,fun _=>rfl,⟨⟨rf,rf,rf,⟨rfl,rfl,rfl,rfl,1,rfl⟩,⟨rfl,rfl,rfl,rfl,1,rfl⟩,aG (by simp),rf,tv⟩,⟨⟨rfl,rfl,1,rfl⟩,⟨rfl,rfl,1,rfl⟩,tv⟩,rfl,rfl⟩,ad3 _,?_⟩
 rintro i hi
 have c1:=th i a1
 refine adN ?_ ?_
 ·intro h
  have ay:i<s.length:=by have:=ad5 h;rw[adO]at this;omega
  have hx:=ace ay
  generalize s[i]=x at hx
  have S0:=gQ (hp x (adR hx))
  have e1:=yN (n:=n) hx
  have e3:=yL e1
  have f1:((s.take (i+1)).map fun x=>I x.n)=((s.take i).map fun x=>I x.n)++[I x.n]:=by rw[adY,hx];simp
  have f2:((ck n s).take (i+1)).map I=((ck n s).take i).map I++[I (min (n-((ck n s).take i).sum) x.n)]:=by rw[adY,e1];simp
  have l1:((s.take i).map fun x=>I x.n).length<=5000:=by rw[adO,ad9];omega
  have l2:(((ck n s).take i).map I).length<=5000:=by rw[adO,ad9];omega
  refine⟨ax x,fun _=>⟨by omega,by rw[adQ];simp[hx]⟩,?_⟩
  refine .inl ⟨[I x.n],rfl,⟨rf,tv⟩,(by simp;rfl),?_⟩
  refine .inr ⟨[I x.n],bV.refl _,bI (by simp only[List.length_cons,List.length_nil];omega),by simp only[List.length_cons,List.length_nil];omega,?_⟩
  refine⟨ax x,fun _=>⟨by omega,by rw[adQ];simp[hx]⟩,?_⟩
  have em:(if x.n<n-((ck n s).take i).sum then x.n else n-((ck n s).take i).sum)=min (n-((ck n s).take i).sum) x.n:=by split<;>omega
  refine .inl ⟨[I (min (n-((ck n s).take i).sum) x.n)],rfl,⟨aG em,tv⟩,(by simp;rfl),?_⟩
  refine .inr ⟨[I (min (n-((ck n s).take i).sum) x.n)],bV.refl _,bI (by simp only[List.length_cons,List.length_nil];omega),by simp only[List.length_cons,List.length_nil];omega,?_⟩
  exact⟨fun _=>by rw[em];omega,fun _=>by omega,i+1,⟨⟨rf,rf,rf,rfl,rfl,aG (by rw[em];omega),rf,tv⟩,⟨⟨rfl,by rw[f1]⟩,⟨rfl,by rw[f2]⟩,tv⟩,rfl,rfl⟩,by omega,mlt ay⟩
 intro h
 have he:i=s.length:=by have:=ad6 h;rw[adO]at this;omega
 subst he
 have eF:(ck n s).take s.length=ck n s:=List.take_of_length_le (by omega)
 simp only[ad4,eF]
 repeat refine gG ?_
 refine adN ?_ ?_
 ·intro h
  have h:=dc h
  have h0:0<n:=ad5 h.2
  have hm:mixed=true:=h.1
  have hc:oT s n mixed=Ad n (s.map (·.n)):=by unfold oT;rw[hm,aeb h0];rfl
  have lO:=(FK n (s.map (·.n)) hn (fun w hw=>by obtain⟨y,hy,rfl⟩:=aeg.1 hw;exact gQ (hp y hy)) (by rw[adO];omega) (by rw[pR];omega) (by rw[pR];exact ht)).ok
  have hz:oY (.aD 1 (s.map fun x=>I x.n))=Ints (s.map (·.n)):=by
   show DV.sl 1 (uX _)=DV.sl 1 _
   rw[dV (fun _=>rfl),List.map_map];rfl
  rw[<-hz]at lO
  refine .inl (.inr ⟨_,fun _=>lO,?_⟩)
  rw[hc]
  exact⟨rf,tv⟩
 ·intro h
  have hc:oT s n mixed=ck n s:=by
   unfold oT
   have:=mc h
   cases mixed with
   |false=>rfl
   |true=>
    have:¬0<n:=fun h0=>this ⟨rfl,aeb h0⟩
    rw[aec this];rfl
  rw[hc]
  exact⟨DV.Le.of_eq (by show DV.sl 1 (uX ((ck n s).map I))=_;rw[dV (fun _=>rfl)]),tv⟩
def FN(s:List Lt)(n:Int)(mixed:Bool):List DV:=bif decide (cu s<n)then[aQ [],aQ [],I 10]else[aQ (eV s n mixed).1,aQ (eV s n mixed).2,I 0]
theorem Ui{s:List Lt}(h:bz s=true):cu s=aJ s:=by unfold cu;rw[h];rfl
theorem IS(s:List Lt)(n:Int)(mixed:Bool)(hn:0<=n/\n<=1099511627776)(hs:bz s=true):aR Tryz.prog 200 [aQ s,I n,B mixed] (FN s n mixed):=by
 refine pO Tryz.func200 rfl (by kernel_rfl) rfl ?_
 obtain⟨hl,hp⟩:=dE hs
 refine .inl ⟨_,fun _=>(gz s (by omega)).ok,?_⟩
 rw[hs]
 repeat refine gG ?_
 refine adN (fun h=>by simp at h;omega) fun _=>?_
 refine .inl ⟨_,fun _=>(nb s (by omega)).ok,?_⟩
 refine adN ?_ ?_
 ·intro h
  unfold FN
  rw[h]
  exact⟨DV.aL 3,DV.aL 3,rf,tv⟩
 intro h
 have ht:n<=aJ s:=by have:=ad6 h;rw[Ui hs]at this;omega
 unfold FN
 rw[h]
 have hk:=tl mixed hn.1 hp ht
 refine .inl ⟨_,fun _=>(FM s n mixed hn hs ht).ok,?_⟩
 have hM:eV s n mixed=me s (oT s n mixed) s.length:=rfl
 generalize oT s n mixed=ks at*
 refine⟨Nat,fun i=>⟨0,[(0,.dv (aQ s)),(10,.dv (Ints ks)),(11,.dv (aQ (me s ks i).1)),(12,.dv (aQ (me s ks i).2)),(13,.dv (I i))],[]⟩,fun i=>i<=s.length,fun i=>s.length-i,0,fun _=>rfl,⟨⟨rf,rf,DV.aL 3,DV.aL 3,rf,tv⟩,tv,rfl,rfl⟩,ad3 _,?_⟩
 rintro i hi
 refine adN ?_ ?_
 ·intro h
  have ay:i<s.length:=by have:=ad5 h;rw[adO]at this;omega
  obtain⟨x,hx⟩:∃x,s[i]?=some x:=⟨_,ace ay⟩
  obtain⟨k,FL⟩:∃k,ks[i]?=some k:=⟨_,ace (show i<ks.length by rw[hk.1];omega)⟩
  have hb:=hk.2 i _ hx
  rw[adT,FL]at hb
  simp only[Option.getD_some]at hb
  have S0:=ah.1 (hp x (adR hx))
  obtain⟨p1,p2,p3,p4⟩:=IQ hp hk i (by omega)
  have dD:=yP hx FL
  generalize hq:me s ks i=q at*
  have ab:∀{l:List Lt},(∀y∈l,aB y=true)->∀y∈l,0<=y.a/\y.a<=1099511627776/\0<=y.n/\y.n<=1099511627776:=fun h y hy=>by have:=ah.1 (h y hy);omega
  have ix:(s.map ax)[(i:Int).toNat]?=some (ax x):=by rw[adQ];simp[hx]
  have ik:(ks.map I)[(i:Int).toNat]?=some (I k):=by rw[adQ];simp[FL]
  have j7:=(pQ q.1 ⟨x.f,x.a,k⟩ (by omega) (ab p1) (by simp only;omega)).ok
  have lZ:=(pQ q.2 ⟨x.f,x.a+k,x.n-k⟩ (by omega) (ab p2) (by simp only;omega)).ok
  refine⟨ax x,fun _=>⟨by omega,ix⟩,ax x,fun _=>⟨by omega,ix⟩,I k,fun _=>⟨by omega,ik⟩,?_⟩
  simp only[hq]
  refine .inl ⟨_,fun _=>j7,?_⟩
  refine⟨by kernel_rfl,?_⟩
  refine⟨ax x,fun _=>⟨by omega,ix⟩,ax x,fun _=>⟨by omega,ix⟩,I k,fun _=>⟨by omega,ik⟩,fun _=>by omega,ax x,fun _=>⟨by omega,ix⟩,I k,fun _=>⟨by omega,ik⟩,fun _=>by omega,?_⟩
  refine .inl ⟨_,fun _=>lZ,?_⟩
  exact⟨by kernel_rfl,fun _=>by omega,i+1,jn (by simp only[dD];rfl) rfl rfl rfl,by omega,mlt ay⟩
 ·intro h
  have he:i=s.length:=by have:=ad6 h;rw[adO]at this;omega
  subst he
  rw[hM]
  exact⟨rf,rf,rf,tv⟩
end
end Go.Proofs.YtfpebgpgabjieaaGreatDoor
