import Derived.Test.YtpbiiigpphehbaaGreatDoorFM25
import Derived.Test.YtpbiiigpphehbaaGreatDoorFM22
set_option linter.all false
namespace Go.TM
section
open Go.RowKit
variable [cj]
def xfz(r:XR (List AV×ae×Nat)):Option (List DV):=match r with
 |.ok q=>match tV (aa q.2.1) q.1 with
  |some p=>some p.1
  |none=>none
 |.no _=>none
section
variable {P:Program} {T:List TI}
theorem Fq{G:Gh}{ds:List DV}{vs:List Value}(h:fD G.M ds vs):cb G (xw ds) vs:=by
 refine⟨by rw[wL];simpa using h.1,fun j d v hd hv=>?_⟩
 rw[wL,abB]at hd
 cases hj:ds[j]? with
 |none=>rw[hj]at hd;cases hd
 |some x=>
  rw[hj]at hd
  simp only[Option.map_some,Option.some.injEq]at hd
  subst hd
  exact pX (h.2 j x v hj hv)
theorem qe(hT:eV P T)(hm:P.follows .mixedOrders=true)(eT:∀(g:Nat) (fn:Func),P.funcs[g]?=some fn->(fn.name== "runtime.NumGoroutine")=false){pol:Nat->Bool}{fuel f:Nat}{args rs:List DV}(h:xfz (Vz P T pol fuel f (xw args) 0 [])=some rs):aO P f args rs:=by
 cases hx:Vz P T pol fuel f (xw args) 0 []with
 |no y=>rw[hx]at h;simp[xfz]at h
 |ok r=>
  obtain⟨rs0,K',ex⟩:=r
  rw[hx]at h
  simp only[xfz]at h
  split at h
  ·rename_i p hp
   obtain⟨ds,ids⟩:=p
   injection h with h
   subst h
   have hc:=LG hT hm eT hx
   obtain⟨jx,jE⟩:=hc
   refine⟨jx,fun w M vs dP na hr=>?_⟩
   let G0:Gh:=⟨M,fun _=>none,fun _ _ _ _=>none,fun _ _=>False⟩
   have hc:=jE w G0 vs na ⟨dP,fun i=>⟨rfl,fun _ _ _=>rfl⟩,fun i b ho=>ho.elim,fun i j b ho=>ho.elim⟩ (Fq (G:=G0) hr)
   refine hc.mono ?_
   rintro e w' ⟨v,rs1,K1,G',rfl,⟨rfl,rfl⟩,out⟩
   have c6:∀i b,cx G' i (aa K1 i) b->w.heap.size<=b:=fun i b ho=>by
    rcases out.EY i b ho with h|⟨j,h⟩
    ·exact h
    ·exact h.elim
   let g:dO:=⟨fun b=>∃i,cx G' i (aa K1 i) b,w',G'.M,0,fun _=>none,fun _ _=>none⟩
   have aj:cu g 0 (fun _=>.any) (aa K1) { tmps:=#[],defers:=[] } w' G':=by
    refine { fit:=out.fit,env:=fun t=>.any _,size:=rfl,zQ:=fun _ _ _=>rfl,os:=rfl,tape:=rfl,output:=rfl,grow:=ab3 _,mem:=.refl _,nL:=fun _ _ _=>rfl,gB:=fun i b ho=>.inr ⟨i,ho⟩,eX:=fun i hi=>absurd hi (Nat.not_lt_zero _),wv:=fun i hi=>absurd hi (Nat.not_lt_zero _),oT:=na.mono out.le,tL:=⟨[],rfl,List.nodup_nil,by simp⟩ }
   obtain⟨G2,hle,_,_,_,ln⟩:=aj.pW (κ:=aa K1) ids (fun _ _=>rfl)
   refine⟨v,G2.M,rfl,⟨out.os,out.tape,out.output,out.size,fun b hb=>(out.frame b hb (fun i h=>h.elim)).1⟩,out.le.trans hle.mem,ln.fit.sub,fun b hb=>?_,?_⟩
   ·have cd:b<w'.heap.size:=Nat.lt_of_lt_of_le hb out.size
    have e1:G2.M b=G'.M b:=ln.nL b cd fun⟨i,ho⟩=>by have:=c6 i b ho;omega
    rw[e1]
    exact(out.frame b hb (fun i h=>h.elim)).2
   ·have key:∀us,cb G' rs1 us->fD G2.M ds us:=fun us hu=>j9 (κ:=aa K1) (κ':=aa K1) (all:=ids) (fun _ _=>rfl) hle ln.fit hp (fun _ h=>h) hu
    have hv:=out.res
    match rs1,hv,key with
    |[],hv,key=>
     cases hv with|fO _ us hl hr=>
     have hd:=key us ⟨hl,hr⟩
     have:us=[]:=by simpa using hl.symm
     subst this
     have:ds=[]:=by have:=hd.1;simpa using this
     subst this
     exact⟨[],rfl,hd⟩
    |[x],hv,key=>
     have hd:=key [v] ⟨rfl,fun j d u h1 h2=>by
      cases j with
      |zero=>simp at h1 h2;subst h1;subst h2;exact hv
      |succ j=>simp at h1⟩
     match ds,hd with
     |[],hd=>have:=hd.1;simp at this
     |[d],hd=>exact hd.2 0 d v rfl rfl
     |_::_::_,hd=>have:=hd.1;simp at this
    |x::y::r,hv,key=>
     cases hv with|fO _ us hl hr=>
     have hd:=key us ⟨hl,hr⟩
     have h2:ds.length=us.length:=hd.1
     match ds,hd,h2 with
     |[],hd,h2=>exfalso;rw[<-h2]at hl;simp at hl
     |[d],hd,h2=>exfalso;rw[<-h2]at hl;simp at hl
     |a::b::c,hd,h2=>exact⟨us,rfl,hd⟩
  ·cases h
end
end
section
open Go.RowKit
variable [cj]
end
section
open Go.RowKit
variable [cj]
inductive Fs:ar->ar->Prop
 |refl (b:ar):Fs b b
 |omap (v e:Nat) (ks:KS) {m m':List DV} (h:m.Perm m'):Fs (.tree v e (.omap ks m)) (.tree v e (.omap ks m'))
def Bh(k k':ae):Prop:=∀i,Fs (aa k i) (aa k' i)
theorem Bh.refl(k:ae):Bh k k:=fun _=>.refl _
theorem Bh.cons{i:Nat}{b b':ar}{k k':ae}(h:Fs b b')(t:Bh k k'):Bh ((i,b)::k) ((i,b')::k'):=fun j=>by
 simp only[aa]
 cases Nat.beq i j with
 |true=>exact h
 |false=>exact t j
theorem Bi{ks:KS}{m m':List DV}(hu:UK m)(hp:m.Perm m')(s:PS)(r:List PS):get (.omap ks m) (s::r)=get (.omap ks m') (s::r):=by
 have hs:step (.omap ks m) s=step (.omap ks m') s:=by
  cases s with
  |el i j=>rfl
  |key k j=>simp only[step,hu.mA hp k]
 simp only[get,hs]
theorem uM{ks:KS}{m m':List DV}(hu:UK m)(hp:m.Perm m'){p:List PS}{n:DV}(h:get (.omap ks m) p=some n)(hn:n.ao=true):∃n',get (.omap ks m') p=some n'/\n'.ao=true:=by
 cases p with
 |nil=>exact⟨_,rfl,rfl⟩
 |cons s r=>exact⟨n,by rw[<-Bi hu hp];exact h,hn⟩
theorem bu.J5{M:Mem}{w:World}{H:List PS->Option Value}{ks:KS}{m m':List DV}(h:bu M w H (.omap ks m))(hp:m.Perm m'):UK m/\bu M w H (.omap ks m'):=by
 obtain⟨v,h1,h2,h3⟩:=h.2 [] _ rfl rfl
 have hu:=cD.uk h3
 refine⟨hu,rfl,fun p n hg hn=>?_⟩
 cases p with
 |nil=>
  have hg:DV.omap ks m'=n:=by simpa[get]using hg
  subst hg
  obtain⟨m0,q,rest⟩:=h3
  exact⟨v,h1,h2,m0,q.trans hp,rest⟩
 |cons s r=>
  rw[<-Bi hu hp]at hg
  exact h.2 _ n hg hn
theorem bA.J5{H:List PS->Option Value}{ks:KS}{m m':List DV}(hu:UK m)(hp:m.Perm m'){b:Nat}(h:bA H (.omap ks m) b):bA H (.omap ks m') b:=by
 obtain⟨p,n,v,h1,h2,h3,h4⟩:=h
 obtain⟨n',e1,e2⟩:=uM hu hp h1 h2
 exact⟨p,n',v,e1,e2,h3,h4⟩
theorem fN.YH{G:Gh}{w:World}{i:Nat}{b c:ar}(h:fN G w i b)(p:Fs b c):fN G w i c/\∀x,cx G i c x↔cx G i b x:=by
 cases p with
 |refl=>exact⟨h,fun _=>Iff.rfl⟩
 |omap v e ks hp=>
  obtain⟨h1,h2,h3,h4⟩:=h
  obtain⟨hu,ht⟩:=h1.J5 hp
  have X9:=hu.perm hp
  refine⟨⟨ht,fun p q n m u v b e1 e2 e3 e4 e5 e6 e7 e8=>?_,h3,h4⟩,fun x=>⟨fun o=>bA.J5 X9 hp.symm o,fun o=>bA.J5 hu hp o⟩⟩
  obtain⟨n',a1,a2⟩:=uM X9 hp.symm e1 e2
  obtain⟨m',b1,b2⟩:=uM X9 hp.symm e5 e6
  exact h2 p q n' m' u v b a1 a2 e3 e4 b1 b2 e7 e8
theorem rH{P:Program}{f:Nat}{args:List AV}{m:Nat}{K:ae}{ex:Nat}{rs:List AV}{K0:ae}(h:bV P f args m K ex fun r k=>r=rs/\Bh k K0):aq P f args m K ex rs K0:=by
 refine⟨h.1,fun w G vs na cL hr=>?_⟩
 refine Calls.mono (h.2 w G vs na cL hr) ?_
 rintro e w' ⟨v,r,k,G',rfl,⟨rfl,hp⟩,hc⟩
 have hb:=fun i=>(hc.fit.box i).YH (hp i)
 refine⟨v,r,K0,G',rfl,⟨rfl,rfl⟩,{ hc with fit:=⟨hc.fit.sub,fun i=>(hb i).1,fun i b o=>hc.fit.own i b (((hb i).2 b).1 o),fun i j b o o'=>hc.fit.inj i j b (((hb i).2 b).1 o) (((hb j).2 b).1 o')⟩,no:=fun i hi=>?_,EY:=fun i b o=>hc.EY i b (((hb i).2 b).1 o) }⟩
 have h1:=hc.no i hi
 have h2:=hp i
 rw[h1]at h2
 generalize aa K0 i=c at h2
 cases h2
 rfl
end
section
open Go.RowKit
variable [cj]
mutual
theorem J6{m:Nat}{κ κ':Nat->ar}:∀(v w:AV),jU m κ v=w->fC m κ κ' w v
 |.any,_,rfl=>trivial
 |.dv d,_,rfl=>DV.Le.refl d
 |.ptr i o,_,rfl=>rfl
 |.own i v e p,w,h=>by
  simp only[jU]at h
  split at h
  ·rename_i v' e' d hk
   cases hb:Nat.beq v v'&&(emp p||Nat.beq e e')with
   |true=>rw[hb]at h;subst h;show jU m κ (.own i v e p)=_;simp only[jU,hk,hb];rfl
   |false=>rw[hb]at h;subst h;exact trivial
  ·rename_i hk
   cases hb:Nat.beq v 0&&(emp p||Nat.beq e 0)with
   |true=>rw[hb]at h;subst h;show jU m κ (.own i v e p)=_;simp only[jU,hk,hb];rfl
   |false=>rw[hb]at h;subst h;exact trivial
  ·subst h;exact trivial
 |.loc i v e p a b c,w,h=>by
  have h2:=h
  simp only[jU]at h
  split at h
  ·rename_i v' e' d hk
   cases hb:Nat.beq v v'&&(emp p||Nat.beq e e')with
   |true=>rw[hb]at h;subst h;exact h2
   |false=>rw[hb]at h;subst h;exact trivial
  ·subst h;exact trivial
 |.pre i v e p a b c,w,h=>by
  have h2:=h
  simp only[jU]at h
  split at h
  ·rename_i v' e' d hk
   cases hb:Nat.beq v v'&&(emp p||Nat.beq e e')with
   |true=>rw[hb]at h;subst h;exact h2
   |false=>rw[hb]at h;subst h;exact trivial
  ·subst h;exact trivial
 |.fn f l,_,rfl=>⟨rfl,gC l _ rfl⟩
 |.jQ f l,_,rfl=>⟨rfl,gC l _ rfl⟩
 |.agg l,_,rfl=>gC l _ rfl
 |.fO l,_,rfl=>gC l _ rfl
 |.opt _ _,_,rfl=>trivial
 |.eP _,_,rfl=>rfl
 |.sle _ _,_,rfl=>rfl
 |.cq i v,w,h=>by
  have h2:=h
  simp only[jU]at h
  split at h
  ·rename_i v' e' d hk
   cases hb:Nat.beq v v' with
   |true=>rw[hb]at h;subst h;exact h2
   |false=>rw[hb]at h;subst h;exact trivial
  ·subst h;exact trivial
theorem gC{m:Nat}{κ κ':Nat->ar}:∀(l r:List AV),kS m κ l=r->dU m κ κ' r l
 |[],_,rfl=>trivial
 |v::l,_,rfl=>⟨J6 v _ rfl,gC l _ rfl⟩
end
def VG(m:Nat)(κ:Nat->ar)(ρ:Nat->AV):Env->Env
 |[]=>[]
 |p::r=>(p.1,jU m κ (ρ p.1))::VG m κ ρ r
def YI(m i:Nat)(κ:Nat->ar):ar->ar
 |.cells l=>.cells (kS m κ l)
 |.tree V E d=>.tree (jb m i V E).1 (jb m i V E).2 d
 |.fz V d=>.fz (jb m i V 0).1 d
 |.c5 rc st l=>.c5 rc st (kS m κ l)
 |.dead=>.dead
 |.held=>.held
 |_=>.none
def LH(m:Nat)(κ:Nat->ar):ae->ae
 |[]=>[]
 |p::r=>(p.1,YI m p.1 κ (κ p.1))::LH m κ r
theorem J7{m:Nat}{κ κ':Nat->ar}{ρ:Nat->AV}:∀{e e':Env},VG m κ ρ e=e'->NH m ρ κ κ' e'
 |[],_,rfl=>trivial
 |(t,v)::r,_,rfl=>⟨J6 _ _ rfl,J7 (e:=r) rfl⟩
theorem nU{m i:Nat}{κ κ':Nat->ar}{b b':ar}(h:YI m i κ b=b'):oq m κ κ' i b b':=by
 subst h
 cases b with
 |cells l=>exact gC l _ rfl
 |tree V E d=>exact⟨rfl,rfl⟩
 |fz V d=>exact⟨rfl,DV.Le.refl d⟩
 |c5 rc st l=>exact⟨rfl,rfl,gC l _ rfl⟩
 |_=>exact trivial
theorem bl{m:Nat}{κ κ':Nat->ar}:∀{k k':ae},LH m κ k=k'->ou m κ κ' k'
 |[],_,rfl=>trivial
 |(i,b)::r,_,rfl=>⟨nU rfl,bl (k:=r) rfl⟩
theorem jn{m:Nat}{env:Env}{K:ae}{s:cI}(h1:VG m (aa K) (look env) s.env=s.env)(h2:LH m (aa K) s.K=s.K)(h3:Ac (aa s.K) (AT (look env) (aa K) s.env++dD (aa K) s.K)=true)(h4:vB (aa K) (aa s.K) m=true):cI.sub m env K s:=
 ⟨J7 h1,bl h2,h3,h4⟩
theorem ext{m ex:Nat}{κ:Nat->ar}{jk rs:List AV}{K':ae}(h0:pc m ex κ jk rs K'=true)(h1:kS m κ jk=rs)(h2:LH m κ K'=K'):∃vw YJ,(vw=rs/\YJ=K')/\pc m ex κ jk vw YJ=true/\dU m κ (aa YJ) vw jk/\ou m κ (aa YJ) YJ:=
 ⟨rs,K',⟨rfl,rfl⟩,h0,gC _ _ h1,bl h2⟩
theorem cl{P:Program}{f:Nat}{n nx:Nat}{o:Oper}{g:Bool}{κ:Nat->ar}{k:lj->Nat->Prop}{args bP:List AV}{K0:ae}{ex:Nat}{rs:List AV}{K1:ae}(σ:List Nat)(hs:aq P f bP σ.length K0 ex rs K1)
 (h0:(gH κ σ nx args bP K0&&fZ σ ex K0 K1 rs)=true) (h1:kS 0 κ args=dw (sg σ nx) di bP) (h2:LH 0 κ (bX (sg σ nx) di K0)=bX (sg σ nx) di K0)
 (h:o8 (mn (sg σ nx) (jV κ σ) (qp rs)) fun v=>qB v fun v=>o7 (bX (sg σ nx) (jV κ σ) K1++kl κ (dc κ (dw (sg σ nx) di bP) args++dD κ (bX (sg σ nx) di K0))) fun bx=>x9 bx fun bx=>
  xE n o g (nx+ex) k v bx (σ++(dc κ (dw (sg σ nx) di bP) args++dD κ (bX (sg σ nx) di K0))++kP nx ex)):jR none (bV P f) n o g nx κ k args:=by
 simp only[aca]at h0
 exact⟨σ,bP,K0,ex,rs,K1,hs,by rw[h0.1];rfl,h0.2,gC _ _ h1,bl h2,h⟩
end
section
open Go.RowKit
variable [cj]
end
section
open Go.RowKit
variable [cj]
section
variable {g:dO} {n:Nat} {ρ:Nat->AV} {κ κ':Nat->ar} {a:Act} {w w':World} {G:Gh}
end
theorem sV{sz:Nat}{l:List DV}(mX:∀x,x∈l->x.aV){p:List PS}{n:DV}(h:get (.aB sz l) p=some n)(ho:n.ao=true):p=[]/\n=.aB sz l:=by
 cases p with
 |nil=>simp[get]at h;exact⟨rfl,h.symm⟩
 |cons s p=>
  exfalso
  simp only[get]at h
  cases s with
  |key k j=>simp[step]at h
  |el i j=>
   simp only[step]at h
   cases hm:l[i]? with
   |none=>rw[hm]at h;simp at h
   |some x=>
    rw[hm]at h
    simp only at h
    cases hc:x.cells[j]? with
    |none=>rw[hc]at h;simp at h
    |some c=>
     rw[hc]at h
     simp only at h
     have Ca:c.ao=false:=mX x (abC hm) c (abC hc)
     cases p with
     |nil=>simp[get]at h;subst h;rw[Ca]at ho;cases ho
     |cons s' p=>
      simp only[get]at h
      cases c<;>simp[step]at h<;>cases Ca
end
section
open Go.RowKit
variable [cj]
end
section
open Go.RowKit
variable [cj]
inductive iS(i v e:Nat):List AV->List AV->Prop
 |nil:iS i v e [] []
 |same (x:AV) {l l':List AV} (h:iS i v e l l'):iS i v e (x::l) (x::l')
 |rY {l l':List AV} (h:iS i v e l l'):iS i v e (.own i 0 0 []::l) (.own i v e []::l')
inductive R5(i v e:Nat):ar->ar->Prop
 |refl (b:ar):R5 i v e b b
 |cells {l l':List AV} (h:iS i v e l l'):R5 i v e (.cells l) (.cells l')
def aaD(i v e:Nat)(k k':ae):Prop:=∃d,aa k i=.tree 0 0 d/\aa k' i=.tree v e d/\∀j,j≠i->R5 i v e (aa k j) (aa k' j)
theorem iS.refl(i v e:Nat):∀l,iS i v e l l
 |[]=>.nil
 |x::l=>.same x (iS.refl i v e l)
theorem iS.len{i v e:Nat}{l l':List AV}(h:iS i v e l l'):l.length=l'.length:=by
 induction h with
 |nil=>rfl
 |same x _ ih=>simp[ih]
 |rY _ ih=>simp[ih]
theorem iS.ai{i v e:Nat}{l l':List AV}(h:iS i v e l l')(hc:∀v,v∈l->v.ai=true):∀v,v∈l'->v.ai=true:=by
 induction h with
 |nil=>exact hc
 |same x _ ih=>
  intro y hy
  rcases abG.1 hy with rfl|hy
  ·exact hc _ abL
  ·exact ih (fun z hz=>hc z (abH _ hz)) y hy
 |rY _ ih=>
  intro y hy
  rcases abG.1 hy with rfl|hy
  ·rfl
  ·exact ih (fun z hz=>hc z (abH _ hz)) y hy
theorem iS.at{i v e:Nat}{l l':List AV}(h:iS i v e l l'):∀(j:Nat) (d:AV),l'[j]?=some d->l[j]?=some d\/(l[j]?=some (.own i 0 0 [])/\d=.own i v e []):=by
 induction h with
 |nil=>intro j d hd;simp at hd
 |same x _ ih=>
  intro j d hd
  cases j with
  |zero=>exact .inl hd
  |succ j=>simp only[List.getElem?_cons_succ]at hd⊢;exact ih j d hd
 |rY _ ih=>
  intro j d hd
  cases j with
  |zero=>simp at hd;exact .inr ⟨rfl,hd.symm⟩
  |succ j=>simp only[List.getElem?_cons_succ]at hd⊢;exact ih j d hd
def Ft(H:Nat->Nat->Nat->List PS->Option Value)(i v e:Nat):Nat->Nat->Nat->List PS->Option Value:=
 fun j v' e' p=>if j=i/\v'=v/\e'=e then H i 0 0 p else H j v' e' p
def jF(G:Gh)(i v e:Nat):Gh:={ G with H:=Ft G.H i v e }
theorem H4(H:Nat->Nat->Nat->List PS->Option Value)(i v e j v' e':Nat)(hn:j≠i):aJ (Ft H i v e) j v' e'=aJ H j v' e':=by
 funext p
 cases p with
 |nil=>show(if _ then _ else _)=_;rw[if_neg (fun h=>hn h.1)];rfl
 |cons s p=>show(if _ then _ else _)=_;rw[if_neg (fun h=>hn h.1)];rfl
theorem LI(H:Nat->Nat->Nat->List PS->Option Value)(i v e j:Nat)(OW:(v=0/\e=1)\/(v=1/\e=0)):aJ (Ft H i v e) j 0 0=aJ H j 0 0:=by
 funext p
 cases p with
 |nil=>show(if _ then _ else _)=_;rw[if_neg (fun h=>by omega)];rfl
 |cons s p=>show(if _ then _ else _)=_;rw[if_neg (fun h=>by omega)];rfl
theorem Bj(H:Nat->Nat->Nat->List PS->Option Value)(i v e:Nat)(OW:(v=0/\e=1)\/(v=1/\e=0)):aJ (Ft H i v e) i v e=aJ H i 0 0:=by
 funext p
 cases p with
 |nil=>
  show(if i=i/\v=v/\0=e then H i 0 0 []else H i v 0 [])=H i 0 0 []
  rcases OW with⟨rfl,rfl⟩|⟨rfl,rfl⟩
  ·rw[if_neg (by omega)]
  ·rw[if_pos ⟨rfl,rfl,rfl⟩]
 |cons s p=>show(if i=i/\v=v/\e=e then _ else _)=_;rw[if_pos ⟨rfl,rfl,rfl⟩];rfl
theorem R6{G:Gh}{i v e:Nat}(OW:(v=0/\e=1)\/(v=1/\e=0))(h1:∀v,0<v->∀e p,G.H i v e p=none)(h2:∀e,0<e->∀p,G.H i 0 e p=none):Gh.Le G (jF G i v e):=by
 refine⟨Mem.Le.refl _,fun _ _ h=>h,fun j v' e' p x hx=>?_⟩
 show(if j=i/\v'=v/\e'=e then _ else _)=_
 rw[if_neg]
 ·exact hx
 ·rintro⟨rfl,rfl,rfl⟩
  rcases OW with⟨rfl,rfl⟩|⟨rfl,rfl⟩
  ·rw[h2 1 (by omega)]at hx;cases hx
  ·rw[h1 1 (by omega)]at hx;cases hx
theorem OX{G:Gh}{w:World}{i v e j:Nat}{b b':ar}(OW:(v=0/\e=1)\/(v=1/\e=0))(hle:Gh.Le G (jF G i v e))(hj:j≠i)(hb:fN G w j b)(hr:R5 i v e b b'):
 fN (jF G i v e) w j b'/\∀x,cx (jF G i v e) j b' x↔cx G j b x:=by
 have c6:∀v' e' p,(jF G i v e).H j v' e' p=G.H j v' e' p:=fun v' e' p=>by
  show(if _ then _ else _)=_;rw[if_neg (fun h=>hj h.1)]
 have hh:∀v' e',aJ (jF G i v e).H j v' e'=aJ G.H j v' e':=fun v' e'=>H4 G.H i v e j v' e' hj
 cases hr with
 |cells h=>
  obtain⟨b,c,t,h1,h2,h3,h4,h5⟩:=hb
  refine⟨⟨b,c,t,h1,h2,by rw[h3];exact h.len,h.ai h4,fun q d u hd hu=>?_⟩,fun x=>Iff.rfl⟩
  rcases h.at q d hd with h6|⟨h6,rfl⟩
  ·exact(h5 q d u h6 hu).mono hle
  ·have h7:=h5 q _ u h6 hu
   cases h7 with
   |own _ _ _ _ _ h8 h9=>
    refine .own _ _ _ _ _ ?_ h9
    show aJ (Ft G.H i v e) i v e []=_
    rw[Bj _ _ _ _ OW];exact h8
 |refl=>
  cases b with
  |none=>exact⟨⟨hb.1,fun v' e' p=>by rw[c6];exact hb.2 v' e' p⟩,fun x=>Iff.rfl⟩
  |dead=>exact⟨tv,fun x=>Iff.rfl⟩
  |cells l=>
   obtain⟨b,c,t,h1,h2,h3,h4,h5⟩:=hb
   exact⟨⟨b,c,t,h1,h2,h3,h4,fun q d u hd hu=>(h5 q d u hd hu).mono hle⟩,fun x=>Iff.rfl⟩
  |tree ver ep d=>
   obtain⟨h1,h2,h3,h4⟩:=hb
   refine⟨⟨by rw[hh];exact h1,by rw[hh];exact h2,fun v' hv e' p=>by rw[c6];exact h3 v' hv e' p,fun e' he p=>by rw[c6];exact h4 e' he p⟩,fun x=>?_⟩
   show bA (aJ (jF G i v e).H j ver ep) d x↔bA (aJ G.H j ver ep) d x
   rw[hh]
  |fz ver d=>
   obtain⟨u,h1,h2,h3⟩:=hb
   exact⟨⟨u,by rw[c6];exact h1,h2,h3⟩,fun x=>Iff.rfl⟩
  |c5 rc st l=>
   obtain⟨b,fn,tmps,D,h1,h2,h3⟩:=hb
   exact⟨⟨b,fn,tmps,D,h1,h2,h3.mono hle⟩,fun x=>Iff.rfl⟩
  |held=>exact⟨⟨fun v' hv e' p=>by rw[c6];exact hb.1 v' hv e' p,fun e' he p=>by rw[c6];exact hb.2 e' he p⟩,fun x=>Iff.rfl⟩
  |ka k p d left cur=>
   have h0:aJ (jF G i v e).H k 0 0=aJ G.H k 0 0:=LI G.H i v e k OW
   obtain⟨r,mb,es,clock,seen,ks,m,hi⟩:=hb
   refine⟨⟨r,mb,es,clock,seen,ks,m,⟨hi.eX,hi.it,by rw[h0];exact hi.tree,by rw[h0];exact hi.inj,hi.node,by rw[h0];exact hi.head,hi.map,hi.left,hi.cur⟩⟩,fun x=>?_⟩
   show(bA (aJ (jF G i v e).H k 0 0) d x\/_)↔_
   rw[h0];exact Iff.rfl
end
section
open Go.RowKit
variable [cj]
end
section
open Go.RowKit
variable [cj]
def CZ:List AV->Bool
 |[]=>true
 |.dv _::r=>CZ r
 |_=>false
theorem Bk:∀{l:List AV},CZ l=true->∀(j:Nat) (d:AV),l[j]?=some d->∃x,d=.dv x
 |.dv x::r,h,0,d,hd=>by simp at hd;exact⟨x,hd.symm⟩
 |.dv x::r,h,j+1,d,hd=>Bk (l:=r) h j d (by simpa using hd)
def yF:List AV->Bool
 |[]=>true
 |.dv _::r=>yF r
 |.ptr _ _::r=>yF r
 |_::_=>false
theorem uN:∀{l:List AV},yF l=true->∀(j:Nat) (d:AV),l[j]?=some d->(∃x,d=.dv x)\/∃i o,d=.ptr i o
 |.dv x::r,h,0,d,hd=>by simp at hd;exact .inl ⟨x,hd.symm⟩
 |.dv x::r,h,j+1,d,hd=>uN (l:=r) h j d (by simpa using hd)
 |.ptr i o::r,h,0,d,hd=>by simp at hd;exact .inr ⟨i,o,hd.symm⟩
 |.ptr i o::r,h,j+1,d,hd=>uN (l:=r) h j d (by simpa using hd)
def Bl(i:Nat):AV->Bool
 |.any=>true
 |.dv _=>true
 |.agg l=>CZ l
 |.ptr _ _=>true
 |.eP _=>true
 |.fn _ l=>yF l
 |.own j _ _ _=>!Nat.beq j i
 |_=>false
def yG(i:Nat):List AV->Bool
 |[]=>true
 |v::r=>Bl i v&&yG i r
def VH(i:Nat):ar->Bool
 |.none=>true
 |.dead=>true
 |.cells l=>yG i l
 |.tree _ _ _=>true
 |.c5 _ _ l=>yG i l
 |_=>false
theorem rI{i:Nat}:∀{l:List AV},yG i l=true->∀v,v∈l->Bl i v=true
 |x::r,h,v,hv=>by
  simp only[yG,aca]at h
  rcases abG.1 hv with rfl|hv
  ·exact h.1
  ·exact rI h.2 v hv
abbrev vJ:=Nat->Nat->List PS->Option Value
def gD(G:Gh)(i:Nat)(Hi:vJ):Gh:={ G with H:=fun j=>if j=i then Hi else G.H j }
theorem hU{G:Gh}{i j:Nat}{Hi:vJ}(h:j≠i):(gD G i Hi).H j=G.H j:=by
 show(if j=i then Hi else G.H j)=_;rw[if_neg h]
theorem jg{G:Gh}{i:Nat}{Hi:vJ}:(gD G i Hi).H i=Hi:=by
 show(if i=i then Hi else G.H i)=_;rw[if_pos rfl]
theorem qf{G:Gh}{i j:Nat}{Hi:vJ}(h:j≠i)(v e:Nat):aJ (gD G i Hi).H j v e=aJ G.H j v e:=by
 funext p
 cases p with
 |nil=>show(gD G i Hi).H j v 0 []=_;rw[hU h];rfl
 |cons s p=>show(gD G i Hi).H j v e (s::p)=_;rw[hU h];rfl
theorem yH{G:Gh}{i:Nat}{Hi:vJ}{a:AV}{x:Value}(ha:Bl i a=true)(h:aH G a x):aH (gD G i Hi) a x:=by
 cases h with
 |dv hd=>exact .dv hd
 |agg l vs hl hr=>
  refine .agg l vs hl fun j d v hd hv=>?_
  obtain⟨x,rfl⟩:=Bk (show CZ l=true from ha) j d hd
  cases hr j _ v hd hv with|dv h=>exact .dv h
 |any=>exact .any _
 |eP j l h=>exact .eP j l h
 |fn f l vs hl hr=>
  refine .fn f l vs hl fun j d v hd hv=>?_
  rcases uN (show yF l=true from ha) j d hd with⟨x,rfl⟩|⟨q,o,rfl⟩
  ·cases hr j _ v hd hv with|dv h=>exact .dv h
  ·cases hr j _ v hd hv with|ptr _ _ b hb=>exact .ptr _ _ b hb
 |ptr j off b hb=>exact .ptr j off b hb
 |own j ver ep p _ hv hc=>
  have hj:j≠i:=by
   rintro rfl
   simp only[Bl,acd]at ha
   have:Nat.beq j j=true:=Nat.beq_refl j
   rw[this]at ha;cases ha
  exact .own j ver ep p _ (by rw[qf hj];exact hv) hc
 |_=>cases ha
theorem R7{G:Gh}{w:World}{i j:Nat}{Hi:vJ}{b:ar}(hj:j≠i)(hb:VH i b=true)(h:fN G w j b):fN (gD G i Hi) w j b:=by
 cases b with
 |none=>exact⟨h.1,fun v e p=>by rw[hU hj];exact h.2 v e p⟩
 |dead=>trivial
 |cells l=>
  obtain⟨b,c,t,h1,h2,h3,h4,h5⟩:=h
  exact⟨b,c,t,h1,h2,h3,h4,fun q d u hd hu=>yH (rI hb d (abC hd)) (h5 q d u hd hu)⟩
 |tree ver ep d=>
  obtain⟨h1,h2,h3,h4⟩:=h
  exact⟨by rw[qf hj];exact h1,by rw[qf hj];exact h2,fun v hv e p=>by rw[hU hj];exact h3 v hv e p,fun e he p=>by rw[hU hj];exact h4 e he p⟩
 |c5 rc st l=>
  obtain⟨b,fn,tmps,D,h1,h2,h3⟩:=h
  exact⟨b,fn,tmps,D,h1,h2,h3.1,fun q d u hd hu=>yH (rI hb d (abC hd)) (h3.2 q d u hd hu)⟩
 |_=>cases hb
theorem R8{G:Gh}{i j:Nat}{Hi:vJ}{b:ar}(hj:j≠i)(hb:VH i b=true)(x:Nat):cx (gD G i Hi) j b x↔cx G j b x:=by
 cases b with
 |none=>exact Iff.rfl
 |dead=>exact Iff.rfl
 |cells l=>exact Iff.rfl
 |tree ver ep d=>show bA (aJ (gD G i Hi).H j ver ep) d x↔bA (aJ G.H j ver ep) d x;rw[qf hj]
 |c5 rc st l=>exact Iff.rfl
 |_=>cases hb
end
section
open Go.RowKit
variable [cj]
inductive oi(m:Nat):List AV->List AV->Prop
 |nil:oi m [] []
 |same (x:AV) (hx:Bl m x=true) {l l':List AV} (h:oi m l l'):oi m (x::l) (x::l')
 |born {l l':List AV} (h:oi m l l'):oi m (.own m 0 0 []::l) (.dv .az::l')
theorem oi.len{m:Nat}{l l':List AV}(h:oi m l l'):l.length=l'.length:=by
 induction h with
 |nil=>rfl
 |same x _ _ ih=>simp[ih]
 |born _ ih=>simp[ih]
theorem oi.at{m:Nat}{l l':List AV}(h:oi m l l'):∀(j:Nat) (d:AV),l[j]?=some d->(l'[j]?=some d/\Bl m d=true)\/(l'[j]?=some (.dv .az)/\d=.own m 0 0 []):=by
 induction h with
 |nil=>intro j d hd;simp at hd
 |same x hx _ ih=>
  intro j d hd
  cases j with
  |zero=>simp at hd;subst hd;exact .inl ⟨rfl,hx⟩
  |succ j=>simp only[List.getElem?_cons_succ]at hd⊢;exact ih j d hd
 |born _ ih=>
  intro j d hd
  cases j with
  |zero=>simp at hd;exact .inr ⟨rfl,hd.symm⟩
  |succ j=>simp only[List.getElem?_cons_succ]at hd⊢;exact ih j d hd
def YK(m:Nat)(b b':ar):Prop:=(b'=b/\VH m b=true)\/∃l l',b=.cells l/\b'=.cells l'/\oi m l l'
def iM:vJ:=fun ve ep p=>if ve=0/\ep=0/\p=[]then some (.slice none 0 0)else none
theorem Fu{G:Gh}{m:Nat}{l l':List AV}{vs:List Value}(h:oi m l l')(hl:l'.length=vs.length)(hr:∀(j:Nat) (d:AV) (u:Value),l'[j]?=some d->vs[j]?=some u->aH G d u):
 ∀(j:Nat) (d:AV) (u:Value),l[j]?=some d->vs[j]?=some u->aH (gD G m iM) d u:=by
 intro j d u hd hu
 rcases h.at j d hd with⟨h4,h5⟩|⟨h4,rfl⟩
 ·exact yH h5 (hr j d u h4 hu)
 ·have h6:=hr j _ u h4 hu
  cases h6 with
  |dv h7=>
   cases h7
   exact .own m 0 0 [] _ (by show(gD G m iM).H m 0 0 []=_;rw[jg];rfl) rfl
theorem jh{P:Program}{f m ex:Nat}{args args2:List AV}{K K2 K':ae}{rs:List AV}{sz:Nat}(h:aq P f args (m+1) K ex rs K')(h1:aa K m=.tree 0 0 (.aB sz []))(h2:aa K2 m=.none)
 (h3:∀j,j≠m->YK m (aa K j) (aa K2 j)) (bW:oi m args args2):aq P f args2 m K2 (ex+1) rs K':=by
 refine⟨h.1,fun w G2 vs na cL hr=>?_⟩
 have c6:G2.β m=none/\∀v e p,G2.H m v e p=none:=by have:=cL.box m;rw[h2]at this;exact this
 have hH0:aJ (gD G2 m iM).H m 0 0 []=some (.slice none 0 0):=by show(gD G2 m iM).H m 0 0 []=_;rw[jg];rfl
 have hTO:∀x,¬bA (aJ (gD G2 m iM).H m 0 0) (.aB sz []) x:=by
  rintro x ⟨p,n,u,g1,g2,g3,g4⟩
  cases p with
  |nil=>rw[hH0]at g3;injection g3 with g3;subst g3;simp[cS]at g4
  |cons s r=>
   have g3:(gD G2 m iM).H m 0 0 (s::r)=some u:=g3
   rw[jg]at g3
   simp[iM]at g3
 have gn:∀j x,cx (gD G2 m iM) j (aa K j) x↔cx G2 j (aa K2 j) x:=by
  intro j x
  by_cases hj:j=m
  ·subst hj
   rw[h1,h2]
   exact⟨fun o=>absurd o (hTO x),fun o=>o.elim⟩
  ·rcases h3 j hj with⟨e,hb⟩|⟨l,l',e1,e2,_⟩
   ·rw[e];exact R8 hj hb x
   ·rw[e1,e2];exact Iff.rfl
 have YL:Fit (gD G2 m iM) w (aa K):=by
  refine⟨cL.sub,fun j=>?_,fun j x o=>cL.own j x ((gn j x).1 o),fun j j' x o o'=>cL.inj j j' x ((gn j x).1 o) ((gn j' x).1 o')⟩
  by_cases hj:j=m
  ·subst hj
   rw[h1]
   refine⟨⟨rfl,fun p n hg hn=>?_⟩,?_,fun v hv e p=>?_,fun e he p=>?_⟩
   ·cases p with
    |nil=>
     simp only[get,Option.some.injEq]at hg
     subst hg
     exact⟨_,hH0,rfl,.inl ⟨rfl,rfl⟩⟩
    |cons s r=>
     simp only[get]at hg
     cases s<;>simp[step]at hg
   ·intro p q n m' u v' x _ _ h3 _ _ _ h7 _
    have key:∀{p:List PS} {u:Value},aJ (gD G2 j iM).H j 0 0 p=some u->p=[]:=by
     intro p u hp
     cases p with
     |nil=>rfl
     |cons s r=>
      have hp:(gD G2 j iM).H j 0 0 (s::r)=some u:=hp
      rw[jg]at hp
      simp[iM]at hp
    rw[key h3,key h7]
   ·rw[jg];show(if v=0/\e=0/\p=[]then _ else none)=none;rw[if_neg (by omega)]
   ·rw[jg];show(if(0:Nat)=0/\e=0/\p=[]then _ else none)=none;rw[if_neg (by omega)]
  ·have hb:=cL.box j
   rcases h3 j hj with⟨e,ho⟩|⟨l,l',e1,e2,cd⟩
   ·rw[e]at hb;exact R7 hj ho hb
   ·rw[e2]at hb
    rw[e1]
    obtain⟨b,c,t,q1,q2,q3,q4,q5⟩:=hb
    refine⟨b,c,t,q1,q2,by rw[q3,cd.len],fun v hv=>?_,fun q d u hd hu=>Fu (vs:=c.toList) cd (by rw[<-q3];simp) (fun j d u hd hu=>q5 j d u hd (by simpa using hu)) q d u hd (by simpa using hu)⟩
    obtain⟨q,hq⟩:=abV hv
    rcases cd.at q v hq with⟨h4,_⟩|⟨_,rfl⟩
    ·exact q4 v (abC h4)
    ·rfl
 have Of:cb (gD G2 m iM) args vs:=⟨by rw[bW.len];exact hr.1,Fu bW hr.1 hr.2⟩
 refine Calls.mono (h.2 w (gD G2 m iM) vs na YL Of) ?_
 rintro en w' ⟨u,r,k,G',rfl,⟨rfl,rfl⟩,hc⟩
 refine⟨u,_,_,G',rfl,⟨rfl,rfl⟩,⟨hc.fit,fun j hj=>hc.no j (by omega),hc.res,hc.le,fun j hj=>hc.eX j (by omega),fun j hj p x hx=>hc.wv j (by omega) p x (by rw[hU (by omega)];exact hx),fun x hx Vc=>hc.frame x hx fun j o=>Vc j ((gn j x).1 o),fun j x o=>?_,hc.os,hc.tape,hc.output,hc.size⟩⟩
 rcases hc.EY j x o with h9|⟨j',h9⟩
 ·exact .inl h9
 ·exact .inr ⟨j',(gn j' x).1 h9⟩
end
end Go.TM
