import Derived.Test.YtpbiiigpphehbaaGreatDoorFM20
import Derived.WideKeyRuns
import Derived.Laws.StructEq
set_option linter.all false
namespace Go.TM
section
open Go.RowKit
variable [cj]
def vE(m:Nat)(b:ar)(H1 H2:Nat->Nat->List PS->Option Value)(j:Nat):Nat->Nat->List PS->Option Value:=
 if j<m then(match b with
  |.tree V E _=>mH V E H1 H2
  |.none=>H2
  |_=>H1)else H2
def cP(σ:List Nat)(nx ex:Nat)(κ:Nat->ar)(G1 G2:Gh):Gh where
 M:=G2.M
 β i:=match j3 σ nx ex i with
  |some j=>G2.β j
  |none=>G1.β i
 H i:=match j3 σ nx ex i with
  |some j=>vE σ.length (κ i) (G1.H i) (G2.H j) j
  |none=>G1.H i
 X i:=match j3 σ nx ex i with
  |some j=>G2.X j
  |none=>G1.X i
theorem jD{κ κ':Nat->ar}:∀{m:Nat},CF κ κ' m=true->∀j,j<m->
 (∃l l',κ j=.cells l/\κ' j=.cells l')\/(∃rc st l GM Tz l',κ j=.c5 rc st l/\κ' j=.c5 GM Tz l')\/(∃v e d,κ j=.tree v e d/\(κ' j=.dead\/(∃v' e' d',κ' j=.tree v' e' d')\/∃v' d',κ' j=.fz v' d'))\/(∃v d d',κ j=.fz v d/\κ' j=.fz 0 d')
 |0,_,j,h=>by omega
 |m+1,hk,j,hj=>by
  simp only[CF,aca]at hk
  rcases abT j m with au|gG
  ·exact jD hk.2 j au
  ·have:j=m:=by omega
   subst this
   have h1:=hk.1
   split at h1
   ·rename_i l l' e1 e2;exact .inl ⟨_,_,e1,e2⟩
   ·rename_i e1 e2;exact .inr (.inl ⟨_,_,_,_,_,_,e1,e2⟩)
   ·rename_i e1 e2;exact .inr (.inr (.inl ⟨_,_,_,e1,.inr (.inl ⟨_,_,_,e2⟩)⟩))
   ·rename_i e1 e2;exact .inr (.inr (.inl ⟨_,_,_,e1,.inr (.inr ⟨_,_,e2⟩)⟩))
   ·rename_i e1 e2;exact .inr (.inr (.inl ⟨_,_,_,e1,.inl e2⟩))
   ·rename_i e1 e2;exact .inr (.inr (.inr ⟨_,_,_,e1,e2⟩))
   ·cases h1
theorem CG{ok:Nat->Bool}:∀{K:ae},nmB ok K=true->∀i b,(i,b)∈K->b.nmc ok=true
 |[],_,i,b,h=>by simp at h
 |(j,c)::K,hn,i,b,h=>by
  simp only[nmB,aca]at hn
  rcases abG.1 h with h|h
  ·injection h with e1 e2;subst e2;exact hn.1
  ·exact CG hn.2 i b h
theorem Lh{σ:List Nat}{nx ex:Nat}{κ κ1:Nat->ar}{G0 G1 G2:Gh}{w w2:World}{K0 K1:ae}{rs:List AV}{v:Value}
 (hσ1:∀i,i∈σ->i<nx) (hσ2:σ.Nodup) (j7:∀i,nx<=i->i<nx+ex->κ1 i=.none) (KR:Fit G1 w κ1)
 (hup:∀i,i∈σ->∀V E d,κ i=.tree V E d->(∀v,V<v->∀e p,G1.H i v e p=none)/\∀e,E<e->∀p,G1.H i V e p=none)
 (AZ:∀i,i∈σ->κ i=.none->∀v e p,G1.H i v e p=none)
 (h00:∀j,j<σ.length->∀V E d,κ (sg σ nx j)=.tree V E d->(∀x,G1.H (sg σ nx j) V 0 []=some x->G0.H j 0 0 []=some x)/\∀s q x,G1.H (sg σ nx j) V E (s::q)=some x->G0.H j 0 0 (s::q)=some x)
 (ln:∀j,j<σ.length->∀V d,κ (sg σ nx j)=.fz V d->∃x,G1.H (sg σ nx j) V 0 []=some x/\G0.H j 0 0 []=some x)
 (hβ0:∀j,j<σ.length->G0.β j=G1.β (sg σ nx j)) (hM0:G0.M=G1.M)
 (JJ:∀j b,cx G0 j (aa K0 j) b->j<σ.length/\cx G1 (sg σ nx j) (κ1 (sg σ nx j)) b)
 (ph:∀j,j<σ.length->(∀v e d,aa K0 j=.tree v e d->(∃V E d,κ (sg σ nx j)=.tree V E d)\/κ (sg σ nx j)=.none)/\(∀v d,aa K0 j=.fz v d->(∃V E d,κ (sg σ nx j)=.tree V E d)\/∃V d,κ (sg σ nx j)=.fz V d))
 (fh:fZ σ ex K0 K1 rs=true) (hC:Lf σ.length ex (aa K0) w G0 rs (aa K1) w2 G2 v):
 NP (fun i=>∃j,j3 σ nx ex i=some j) κ1 (ay κ1 (bX (sg σ nx) (jV κ σ) K1)) G1 (cP σ nx ex κ G1 G2) w w2/\(∀i,i<nx->(cP σ nx ex κ G1 G2).β i=G1.β i)/\aH (cP σ nx ex κ G1 G2) (mn (sg σ nx) (jV κ σ) (qp rs)) v:=by
 simp only[fZ,aca]at fh
 obtain⟨⟨⟨fJ,Ld⟩,hnr⟩,MX⟩:=fh
 have gA:=N1 hσ1 hσ2
 have W7:∀j,j<σ.length+ex->j3 σ nx ex (sg σ nx j)=some j:=fun j hj=>RF hσ1 hσ2 hj
 have Li:∀j (h:j<σ.length),sg σ nx j∈σ:=fun j h=>by rw[jZ h];exact ab6 h
 have gz:∀j,σ.length+ex<=j->G2.β j=none/\∀v e p,G2.H j v e p=none:=fun j hj=>by
  have:=hC.fit.box j;rw[hC.no j hj]at this;exact this
 have TAβ:∀j,j<σ.length+ex->(cP σ nx ex κ G1 G2).β (sg σ nx j)=G2.β j:=fun j hj=>by simp only[cP,W7 j hj]
 have abk:∀j,j<σ.length+ex->(cP σ nx ex κ G1 G2).X (sg σ nx j)=G2.X j:=fun j hj=>by simp only[cP,W7 j hj]
 have Lj:∀j,j<σ.length+ex->(cP σ nx ex κ G1 G2).H (sg σ nx j)=vE σ.length (κ (sg σ nx j)) (G1.H (sg σ nx j)) (G2.H j) j:=fun j hj=>by simp only[cP,W7 j hj]
 have wV:∀j (h:j<σ.length),jV κ σ j=NZ (κ (sg σ nx j)):=fun j h=>by rw[NY h,jZ h]
 have HT:∀j,j<σ.length+ex->(j<σ.length->(∃V E d,κ (sg σ nx j)=.tree V E d)\/κ (sg σ nx j)=.none)->
  (∀v e,aJ (cP σ nx ex κ G1 G2).H (sg σ nx j) (oz (jV κ σ j) v e).1 (oz (jV κ σ j) v e).2=aJ G2.H j v e)/\
  (∀v e,(∀v',v<v'->∀e p,G2.H j v' e p=none)->∀v',(oz (jV κ σ j) v e).1<v'->∀e p,(cP σ nx ex κ G1 G2).H (sg σ nx j) v' e p=none)/\
  (∀v e,(∀e',e<e'->∀p,G2.H j v e' p=none)->∀e',(oz (jV κ σ j) v e).2<e'->∀p,(cP σ nx ex κ G1 G2).H (sg σ nx j) (oz (jV κ σ j) v e).1 e' p=none):=by
  intro j hj hc
  have plain:(cP σ nx ex κ G1 G2).H (sg σ nx j)=G2.H j->jV κ σ j=(0,0)->_:=fun h1 h2=>
   (show(∀v e,aJ (cP σ nx ex κ G1 G2).H (sg σ nx j) (oz (jV κ σ j) v e).1 (oz (jV κ σ j) v e).2=aJ G2.H j v e)/\
   (∀v e,(∀v',v<v'->∀e p,G2.H j v' e p=none)->∀v',(oz (jV κ σ j) v e).1<v'->∀e p,(cP σ nx ex κ G1 G2).H (sg σ nx j) v' e p=none)/\
   (∀v e,(∀e',e<e'->∀p,G2.H j v e' p=none)->∀e',(oz (jV κ σ j) v e).2<e'->∀p,(cP σ nx ex κ G1 G2).H (sg σ nx j) (oz (jV κ σ j) v e).1 e' p=none)by
    rw[h2]
    simp only[jB]
    refine⟨fun v e=>funext fun p=>by cases p<;>simp only[aJ,h1],fun v e h v' hv e p=>by rw[h1];exact h v' hv e p,fun v e h e' he p=>by rw[h1];exact h e' he p⟩)
  rcases abT j σ.length with au|gG
  ·rcases hc au with⟨V,E,d,hk⟩|hk
   ·have h1:(cP σ nx ex κ G1 G2).H (sg σ nx j)=mH V E (G1.H (sg σ nx j)) (G2.H j):=by rw[Lj j hj];simp only[vE,if_pos au,hk]
    have h2:jV κ σ j=(V,E):=by rw[wV j au,hk];rfl
    obtain⟨u1,u2⟩:=hup _ (Li j au) V E d hk
    rw[h2]
    refine⟨fun v e=>funext fun p=>?_,fun v e h v' hv e' p=>by rw[h1];exact Yc h hv e' p,fun v e h e' he p=>by rw[h1];exact Yd u2 h he p⟩
    cases p with
    |nil=>simp only[aJ,h1];exact(N4 v e).1
    |cons s q=>simp only[aJ,h1];exact(N4 v e).2 s q
   ·exact plain (by rw[Lj j hj];simp only[vE,if_pos au,hk]) (by rw[wV j au,hk];rfl)
  ·exact plain (by rw[Lj j hj];simp only[vE,if_neg (Nat.not_lt.2 gG)]) (JI gG)
 have hpβ:∀j b,G2.β j=some b->(cP σ nx ex κ G1 G2).β (sg σ nx j)=some b:=by
  intro j b hb
  rcases abT j (σ.length+ex)with au|gG
  ·rw[TAβ j au];exact hb
  ·rw[(gz j gG).1]at hb;cases hb
 have hpH:∀j v e p x,HD σ.length (aa K0) j=true->aJ G2.H j v e p=some x->aJ (cP σ nx ex κ G1 G2).H (sg σ nx j) (oz (jV κ σ j) v e).1 (oz (jV κ σ j) v e).2 p=some x:=by
  intro j v e p x cB hx
  rcases abT j (σ.length+ex)with au|gG
  ·rw[(HT j au fun hj=>?_).1]
   ·exact hx
   ·simp only[HD]at cB
    rw[show Nat.blt j σ.length=true by rw[Nat.blt_eq];exact hj]at cB
    simp only[cond_true]at cB
    split at cB
    ·rename_i d hd;exact(ph j hj).1 _ _ _ hd
    ·cases cB
  ·cases p with
   |nil=>simp only[aJ]at hx;rw[(gz j gG).2]at hx;cases hx
   |cons s q=>simp only[aJ]at hx;rw[(gz j gG).2]at hx;cases hx
 have N5:=N3 (G2:=G2) (G3:=cP σ nx ex κ G1 G2) (r:=sg σ nx) (sh:=jV κ σ) (ok:=HD σ.length (aa K0)) (Mem.Le.refl _) hpβ hpH
 have hκ3:∀j,ay κ1 (bX (sg σ nx) (jV κ σ) K1) (sg σ nx j)=if j∈keys K1 then sH (sg σ nx) (jV κ σ) j (aa K1 j)else κ1 (sg σ nx j):=fun j=>qa gA _ K1 j
 have KX:∀j,j<σ.length->j∈keys K1:=fun j hj=>by
  refine Classical.byContradiction fun hn=>?_
  have h0:=gZ hn
  rcases jD fJ j hj with⟨_,_,_,h⟩|⟨_,_,_,_,_,_,_,h⟩|⟨_,_,_,_,h|⟨_,_,_,h⟩|⟨_,_,h⟩⟩|⟨_,_,_,_,h⟩<;>rw[h0]at h<;>cases h
 have c6:∀j,j<σ.length+ex->j∉keys K1->κ1 (sg σ nx j)=.none:=fun j hj hn=>by
  rcases abT j σ.length with au|gG
  ·exact absurd (KX j au) hn
  ·rw[jC gG];exact j7 _ (by omega) (by omega)
 have Eo:∀j,j<σ.length+ex->∀v e d,aa K1 j=.tree v e d->(j<σ.length->(∃V E d,κ (sg σ nx j)=.tree V E d)\/κ (sg σ nx j)=.none):=by
  intro j hj v e d hd au
  rcases jD fJ j au with⟨_,_,_,h⟩|⟨_,_,_,_,_,_,_,h⟩|⟨_,_,_,h0,_⟩|⟨_,_,_,_,h⟩
  ·rw[hd]at h;cases h
  ·rw[hd]at h;cases h
  ·exact(ph j au).1 _ _ _ h0
  ·rw[hd]at h;cases h
 have jz:∀j,j<σ.length+ex->∀b,cx (cP σ nx ex κ G1 G2) (sg σ nx j) (ay κ1 (bX (sg σ nx) (jV κ σ) K1) (sg σ nx j)) b->cx G2 j (aa K1 j) b:=by
  intro j hj b ho
  rw[hκ3]at ho
  by_cases hk:j∈keys K1
  ·rw[if_pos hk]at ho
   cases hl:aa K1 j with
   |cells l=>rw[hl]at ho;simp only[sH,cx]at ho⊢;rw[TAβ j hj]at ho;exact ho
   |tree v e d=>rw[hl]at ho;simp only[sH,cx]at ho⊢;rw[(HT j hj (Eo j hj v e d hl)).1]at ho;exact ho
   |c5 rc st l=>rw[hl]at ho;simp only[sH,cx]at ho⊢;rw[TAβ j hj]at ho;exact ho
   |_=>rw[hl]at ho;exact ho.elim
  ·rw[if_neg hk,c6 j hj hk]at ho;exact ho.elim
 have hLe:Gh.Le G1 (cP σ nx ex κ G1 G2):=by
  refine⟨by have:=hC.le;rw[hM0]at this;exact this,fun i b hb=>?_,fun i v e p x hx=>?_⟩
  ·cases mY:j3 σ nx ex i with
   |none=>simp only[cP,mY];exact hb
   |some j=>
    obtain⟨hj,rfl⟩:=jd mY
    rw[TAβ j hj]
    rcases abT j σ.length with au|gG
    ·rw[hC.eX j au,hβ0 j au];exact hb
    ·have eE:=KR.box (sg σ nx j)
     rw[jC gG,j7 _ (by omega) (by omega)]at eE
     rw[jC gG,eE.1]at hb;cases hb
  ·cases mY:j3 σ nx ex i with
   |none=>simp only[cP,mY];exact hx
   |some j=>
    obtain⟨hj,rfl⟩:=jd mY
    rw[Lj j hj]
    rcases abT j σ.length with au|gG
    ·simp only[vE,if_pos au]
     cases hk:κ (sg σ nx j)with
     |tree V E d=>
      obtain⟨u1,u2⟩:=hup _ (Li j au) V E d hk
      obtain⟨q1,q2⟩:=h00 j au V E d hk
      exact Vb u1 u2 (fun x h=>hC.wv j au [] x (q1 x h)) (fun s q x h=>hC.wv j au (s::q) x (q2 s q x h)) hx
     |none=>rw[AZ _ (Li j au) hk]at hx;cases hx
     |_=>exact hx
    ·have eE:=KR.box (sg σ nx j)
     rw[jC gG,j7 _ (by omega) (by omega)]at eE
     rw[jC gG,eE.2]at hx;cases hx
 refine⟨⟨hLe,fun i hi=>?_,fun i hi=>?_,fun i hi=>?_,fun b hb Vc=>?_,hC.fit.sub,?_,?_,?_,hC.size,hC.os,hC.tape,hC.output⟩,fun i hi=>?_,?_⟩
 ·have:j3 σ nx ex i=none:=by cases h:j3 σ nx ex i with|none=>rfl|some j=>exact absurd ⟨j,h⟩ hi
  simp only[cP,this]
 ·refine oh _ K1 i fun j hj e=>hi ⟨j,?_⟩
  rw[<-e];exact W7 j (cU Ld j hj)
 ·have:j3 σ nx ex i=none:=by cases h:j3 σ nx ex i with|none=>rfl|some j=>exact absurd ⟨j,h⟩ hi
  simp only[cP,this]
  exact⟨fun _ h=>h,fun _ _ _ _ h=>h⟩
 ·have:=hC.frame b hb fun j ho=>by
   obtain⟨hj,ju⟩:=JJ j b ho
   exact Vc _ ⟨j,W7 j (by omega)⟩ ju
  rw[hM0]at this
  exact this
 ·rintro i ⟨j,mY⟩
  obtain⟨hj,rfl⟩:=jd mY
  have cd:=hC.fit.box j
  rw[hκ3]
  by_cases hk:j∈keys K1
  ·rw[if_pos hk]
   have Ye:(j,aa K1 j)∈K1\/aa K1 j=.none:=(fY (K:=K1) (i:=j)).symm
   cases hl:aa K1 j with
   |none=>trivial
   |dead=>trivial
   |held=>trivial
   |ka _ _ _ _ _=>trivial
   |cells l=>
    rw[hl]at cd
    obtain⟨b,c,t,h1,h2,h3,h4,h5⟩:=cd
    have hnm:AV.Lg (HD σ.length (aa K0)) l=true:=by
     rcases Ye with h|h
     ·have:=CG MX j _ h;rw[hl]at this;exact this
     ·rw[hl]at h;cases h
    refine⟨b,c,t,by rw[TAβ j hj];exact h1,h2,by rw[h3,pg],fun u hu=>?_,fun q d y hd hy=>?_⟩
    ·obtain⟨q,hq⟩:=abV hu
     rw[yh]at hq
     cases hlq:l[q]? with
     |none=>rw[hlq]at hq;simp at hq
     |some u0=>rw[hlq]at hq;simp at hq;subst hq;rw[HC];exact h4 u0 (abC hlq)
    ·have:=(N5 (SizeOf.sizeOf l+1)).2 l c.toList (by omega) hnm ⟨by simp[h3],fun q d y hd hy=>h5 q d y hd (by simpa using hy)⟩
     exact this.2 q d y hd (by simpa using hy)
   |tree v e d=>
    rw[hl]at cd
    obtain⟨q1,q2,q3⟩:=HT j hj (Eo j hj v e d hl)
    refine⟨?_,?_,q2 v e cd.2.2.1,q3 v e cd.2.2.2⟩
    ·rw[q1];exact cd.1
    ·rw[q1];exact cd.2.1
   |fz v d=>
    rw[hl]at cd
    obtain⟨u,h1,h2,h3⟩:=cd
    refine⟨u,?_,h2,h3⟩
    have Vd:(j<σ.length->(∃V E d,κ (sg σ nx j)=.tree V E d)\/κ (sg σ nx j)=.none)->(cP σ nx ex κ G1 G2).H (sg σ nx j) (oz (jV κ σ j) v 0).1 0 []=some u:=fun hh=>by
     have:=congrFun ((HT j hj hh).1 v 0) []
     simp only[aJ]at this
     rw[this];exact h1
    rcases abT j σ.length with au|gG
    ·rcases jD fJ j au with⟨_,_,_,h⟩|⟨_,_,_,_,_,_,_,h⟩|⟨_,_,_,h0,_⟩|⟨_,_,_,h0,h⟩
     ·rw[hl]at h;cases h
     ·rw[hl]at h;cases h
     ·exact Vd fun _=>(ph j au).1 _ _ _ h0
     ·rw[hl]at h;injection h with e1 e2
      subst e1
      rcases(ph j au).2 _ _ h0 with hT|⟨V,d',hF⟩
      ·exact Vd fun _=>.inl hT
      ·obtain⟨x,p1,p2⟩:=ln j au V d' hF
       have p3:=hC.wv j au [] x p2
       rw[h1]at p3;injection p3 with p3;subst p3
       rw[Lj j hj]
       simp only[vE,if_pos au,hF]
       rw[wV j au,hF]
       exact p1
    ·exact Vd fun h=>absurd h (by omega)
   |c5 rc st l=>
    rw[hl]at cd
    obtain⟨b,fn,tmps,D,h1,h2,h3⟩:=cd
    have hnm:AV.Lg (HD σ.length (aa K0)) l=true:=by
     rcases Ye with h|h
     ·have:=CG MX j _ h;rw[hl]at this;exact this
     ·rw[hl]at h;cases h
    exact⟨b,fn,tmps,D,by rw[TAβ j hj];exact h1,h2,(N5 (SizeOf.sizeOf l+1)).2 l tmps.toList (by omega) hnm h3⟩
  ·rw[if_neg hk,c6 j hj hk]
   rw[gZ hk]at cd
   refine⟨by rw[TAβ j hj];exact cd.1,fun v e p=>?_⟩
   rw[Lj j hj]
   rcases abT j σ.length with au|gG
   ·exact absurd (KX j au) hk
   ·simp only[vE,if_neg (Nat.not_lt.2 gG)];exact cd.2 v e p
 ·rintro i b ⟨j,mY⟩ ho
  obtain⟨hj,rfl⟩:=jd mY
  have MJ:=jz j hj b ho
  refine⟨?_,hC.fit.own j b MJ⟩
  rcases hC.EY j b MJ with h|⟨q,hq⟩
  ·exact .inl h
  ·obtain⟨h1,h2⟩:=JJ q b hq
   exact .inr ⟨_,⟨q,W7 q (by omega)⟩,h2⟩
 ·rintro i i' b ⟨j,mY⟩ ⟨j',aau⟩ ho ju
  obtain⟨hj,rfl⟩:=jd mY
  obtain⟨pZ,rfl⟩:=jd aau
  rw[hC.fit.inj j j' b (jz j hj b ho) (jz j' pZ b ju)]
 ·cases mY:j3 σ nx ex i with
  |none=>simp only[cP,mY]
  |some j=>
   obtain⟨hj,rfl⟩:=jd mY
   rw[TAβ j hj]
   rcases abT j σ.length with au|gG
   ·rw[hC.eX j au,hβ0 j au]
   ·rw[jC gG]at hi;omega
 ·refine(N5 (SizeOf.sizeOf (qp rs)+1)).1 (qp rs) v (by omega) ?_ hC.res
  match rs,hnr with
  |[],_=>rfl
  |[d],h=>simp only[AV.Lg,aca]at h;exact h.1
  |_::_::_,h=>exact h
end
section
open Go.RowKit
variable [cj]
theorem yi:∀{s k i:Nat},s<=i->i<s+k->i∈kP s k
 |s,0,i,h1,h2=>by omega
 |s,k+1,i,h1,h2=>by
  simp only[kP,abG]
  by_cases e:i=s
  ·exact .inl e
  ·exact .inr (yi (by omega) (by omega))
def wW(I:Inv):Prop:=∀β vs w (R R':Ending->World->Prop),(∀e w,R e w->R' e w)->I β vs w R->I β vs w R'
theorem kQ(P:Program)(f:Nat):wW (JK P f):=fun _ _ _ _ _ h hc=>Calls.mono hc h
theorem HE(P:Program):wW (JL P):=by
 intro β vs w R R' h hc
 obtain⟨l,h1,fn,tmps,assign,body,w1,h2,h3⟩:=hc
 exact⟨l,h1,fn,tmps,assign,body,w1,h2,RoundIn.mono h3 h⟩
theorem Lk{i nx:Nat}{σ:List Nat}(h:HF (some i) σ=true):0<σ.length/\sg σ nx 0=i:=by
 cases σ with
 |nil=>simp[HF]at h
 |cons x r=>
  simp only[HF]at h
  exact⟨by simp,(abD h).symm⟩
section
variable {P:Program} {C:dO->Prop} {T:List TI} {ops:List Oper} {n:Nat} {o:Oper} {nx:Nat} {ρ:Nat->AV} {κ:Nat->ar} {k:lj->Nat->Prop} {gd:Bool}
def N6(P:Program)(ops:List Oper)(n:Nat)(o:Oper)(ρ:Nat->AV)(κ:Nat->ar)(gd:Bool)(hd:Option Nat)(C:dO->Prop)(m:Nat)(I:Inv)(l:List AV):Prop:=
 ∀ρ' κ' rd bx,DR ops o ρ ρ' κ κ' rd bx->∀(g:dO) (a:Act) (w:World) (G:Gh),C g->cu g n ρ' κ' a w G->gd=true->
  ∃vs:List Value,cb G l vs/\∀F,iz F->∀β:Nat->Option Nat,(∀i,hd=some i->β 0=G.β i)->∀K:Act->World->Prop,
   I β vs w (fun e w'=>∃v,e=.returned v/\K (a.put o.dst v) w')->o.wpIn F 0 P a w K (fun _ _ _=>False)
theorem nN{hd:Option Nat}{I:Inv}{l:List AV}{σ:List Nat}{bP:List AV}{K0:ae}{ex:Nat}{R:List AV->ae->Prop}(hI:wW I)(jE:ux I bP σ.length K0 ex R)
 (hn:∀i,nx<=i->κ i=.none) (fh:(gH κ σ nx l bP K0&&HF hd σ)=true) (Ve:dU 0 κ (aa (bX (sg σ nx) di K0)) (dw (sg σ nx) di bP) l) (JG:ou 0 κ (aa (bX (sg σ nx) di K0)) (bX (sg σ nx) di K0))
 (gz:∀rs K1,R rs K1->fZ σ ex K0 K1 rs=true) (ck:∀j,j<σ.length->(aa K0 j).pass=true)
 {ρ':Nat->AV} {κ':Nat->ar} {g:dO} {a:Act} {w:World} {G:Gh} (dz:g.m<=nx) (aj:cu g n ρ' κ' a w G) {vs:List Value} (hrel:cb G l vs)
 (ax:∀i,i∈σ++(dc κ (dw (sg σ nx) di bP) l++dD κ (bX (sg σ nx) di K0))++kP nx ex->κ' i=κ i):
 ∃β:Nat->Option Nat,(∀i,hd=some i->β 0=G.β i)/\I β vs w fun e w2=>∃v rs K1 G3,e=.returned v/\R rs K1/\
  cu g n ρ' (ay κ' (bX (sg σ nx) (jV κ σ) K1++kl κ (dc κ (dw (sg σ nx) di bP) l++dD κ (bX (sg σ nx) di K0)))) a w2 G3/\aH G3 (mn (sg σ nx) (jV κ σ) (qp rs)) v:=by
 simp only[aca]at fh
 obtain⟨fh,Ts⟩:=fh
 simp only[gH,aca]at fh
 obtain⟨⟨⟨⟨⟨⟨aav,Ld⟩,Yf⟩,abl⟩,Yg⟩,aaw⟩,ec⟩:=fh
 obtain⟨hσ1,hσ2⟩:=jc aav
 have gA:=N1 (nx:=nx) hσ1 hσ2
 have Li:∀j (h:j<σ.length),sg σ nx j∈σ:=fun j h=>by rw[jZ h];exact ab6 h
 simp only[cI.wf,aca]at Yf Yg
 have TB:∀j,j<σ.length->(aa K0 j).gO=false:=fun j hj=>by
  have:=ck j hj
  cases h:aa K0 j<;>rw[h]at this<;>first|rfl|cases this
 have Yh:∀j,j∈keys K0->∀a b c d e,aa K0 j≠.ka a b c d e:=fun j hj a b c d e h=>by
  have:=ck j (cU Ld j hj)
  rw[h]at this;cases this
 have Yi:∀j,j∈keys K0->aa K0 j≠.held:=fun j hj h=>by
  have:=ck j (cU Ld j hj)
  rw[h]at this;cases this
 have N7:∀j,j<σ.length->j∈keys K0:=fun j hj=>by
  refine Classical.byContradiction fun hn=>?_
  have:=TB j hj;rw[gZ hn]at this;cases this
 have Yj:∀j,aa (bX (sg σ nx) di K0) (sg σ nx j)=if j∈keys K0 then sH (sg σ nx) di j (aa K0 j)else .none:=fun j=>by
  rw[gQ (bX (sg σ nx) di K0)];exact qa gA _ K0 j
 have Vf:∀j,j<σ.length->(aa (bX (sg σ nx) di K0) (sg σ nx j)).gO=false:=fun j hj=>by
  rw[Yj,if_pos (N7 j hj)]
  cases aa K0 j<;>rfl
 have aax:∀i,(aa (bX (sg σ nx) di K0) i).gO=false->i∈σ:=fun i hi=>by
  rcases fY (K:=bX (sg σ nx) di K0) (i:=i)with h|h
  ·rw[h]at hi;cases hi
  ·obtain⟨j,h1,rfl⟩:=mK h
   exact Li j (cU Ld j h1)
 have axσ:∀i,i∈σ->κ' i=κ i:=fun i hi=>ax i (abI.2 (.inl (abI.2 (.inl hi))))
 have RI:∀i,i∈dc κ (dw (sg σ nx) di bP) l++dD κ (bX (sg σ nx) di K0)->κ' i=κ i:=fun i hi=>ax i (abI.2 (.inl (abI.2 (.inr hi))))
 have aay:∀i,nx<=i->i<nx+ex->κ' i=.none:=fun i h1 h2=>(ax i (abI.2 (.inr (yi h1 h2)))).trans (hn i h1)
 generalize hFd:dc κ (dw (sg σ nx) di bP) l++dD κ (bX (sg σ nx) di K0)=F at*
 obtain⟨G1,f1,f2,f3,f4,st1⟩:=aj.pW (κ:=κ) F RI
 have hs:∀i,EO 0 κ (aa (bX (sg σ nx) di K0)) F i:=by
  intro i
  rcases fY (K:=bX (sg σ nx) di K0) (i:=i)with h|h
  ·unfold EO;rw[h];exact⟨tv,rfl,by simp[vA]⟩
  ·exact⟨(mE JG i _ h).1,(sE Yg.1 i _ h).2,fun j hj=>by rw[<-hFd];exact abI.2 (.inr ((mE JG i _ h).2 j hj))⟩
 obtain⟨Yk,Vg⟩:=Tr (m:=0) (κ:=κ) (κc:=κ') aj.fit f1 f2 f3 f4 RI (fun i hi=>axσ i (aax i hi)) st1.fit ec hs
 have bW:=(o6 (m:=0) (κ:=κ) (κ':=aa (bX (sg σ nx) di K0)) (w:=w) f1 f2 f3 RI st1.fit (SizeOf.sizeOf (dw (sg σ nx) di bP)+1)).2 _ l vs (by omega) Ve aaw (fun i hi=>by rw[<-hFd];exact abI.2 (.inl hi)) hrel
 obtain⟨Yl,JJ⟩:=RH gA Yk (fun j hj h=>by have:=TB j (cU Ld j hj);rw[h]at this;cases this) Yh Yi (fun j c hc=>by
  rcases fY (K:=K0) (i:=j)with h|h
  ·rw[h]at hc;cases hc
  ·have:=(sE Yf.1 j _ h).2
   rw[hc]at this
   simp only[ar.WZ,aca]at this
   exact this.2)
 have Vh:=(N2 (r:=sg σ nx) (SizeOf.sizeOf bP+1)).2 bP vs (by omega) bW
 have hβ0:∀j,j<σ.length->(pull (sg σ nx) (dS 0 κ (aa (bX (sg σ nx) di K0)) G1)).β j=G1.β (sg σ nx j):=fun j hj=>by
  simp only[pull,dS,reβ,Vf j hj]
 refine⟨(pull (sg σ nx) (dS 0 κ (aa (bX (sg σ nx) di K0)) G1)).β,fun i hi=>?_,hI _ _ _ _ _ ?_ (jE w _ vs (aj.oT.mono (aj.mem.trans f1.mem)) Yl Vh)⟩
 ·subst hi
  obtain⟨h1,h2⟩:=Lk (nx:=nx) Ts
  rw[hβ0 0 h1,f2,h2]
 ·rintro e w2 ⟨v,rs,K1,G2,rfl,hRr,hC⟩
  have hκ1:=oK (κ:=κ) (κ':=κ') (ids:=F) RI
  obtain⟨t1,t2,t3⟩:=Lh (κ:=κ) (κ1:=ay κ' (kl κ F)) (G1:=G1) (nx:=nx) hσ1 hσ2 (fun i h1 h2=>by
   rw[hκ1,hn i h1,aay i h1 h2];simp[ar.eN]) st1.fit
   (fun i hi V E d hk=>by
    have hb:=aj.fit.box i
    rw[axσ i hi,hk]at hb
    rw[f3];exact⟨hb.2.2.1,hb.2.2.2⟩)
   (fun i hi hk v e p=>by
    have hb:=aj.fit.box i
    rw[axσ i hi,hk]at hb
    rw[f3];exact hb.2 v e p)
   (fun j hj V E d hk=>by
    have c6:=Vf j hj
    have hz:jb 0 (sg σ nx j) V E=(0,0):=wR (by omega)
    have key:∀p,aJ (wQ 0 κ (aa (bX (sg σ nx) di K0)) G1.H) (sg σ nx j) 0 0 p=aJ G1.H (sg σ nx j) V E p:=fun p=>by
     have:=o5 (m:=0) (H:=G1.H) hk c6 p
     rw[hz]at this;exact this
    refine⟨fun x hx=>?_,fun s q x hx=>?_⟩
    ·have:=key [];simp only[aJ]at this;simp only[pull,dS];rw[this];exact hx
    ·have:=key (s::q);simp only[aJ]at this;simp only[pull,dS];rw[this];exact hx)
   (fun j hj V d hk=>by
    have hb:=st1.fit.box (sg σ nx j)
    have oP:ay κ' (kl κ F) (sg σ nx j)=.fz V d:=by rw[hκ1,axσ _ (Li j hj),hk];simp[ar.eN]
    rw[oP]at hb
    obtain⟨x,h1,_⟩:=hb
    refine⟨x,h1,?_⟩
    simp only[pull,dS,wQ,Vf j hj,hk]
    have:=(kL 0 (G1.H (sg σ nx j)) (sg σ nx j) V 0 (.el 0 0) []).1
    rw[wR (by omega)]at this
    rw[this];exact h1)
   hβ0 rfl
   (fun j b ho=>by
    obtain⟨h1,h2⟩:=JJ j b ho
    exact⟨cU Ld j h1,Vg _ b h2⟩)
   (fun j hj=>by
    obtain⟨hx,_,_⟩:=hs (sg σ nx j)
    rw[Yj,if_pos (N7 j hj)]at hx
    refine⟨fun v e d h0=>?_,fun v d h0=>?_⟩
    ·rw[h0]at hx
     cases hk:κ (sg σ nx j)with
     |tree V E d=>exact .inl ⟨_,_,_,rfl⟩
     |none=>exact .inr rfl
     |_=>rw[hk]at hx;exact hx.elim
    ·rw[h0]at hx
     cases hk:κ (sg σ nx j)with
     |tree V E d=>exact .inl ⟨_,_,_,rfl⟩
     |fz V d=>exact .inr ⟨_,_,rfl⟩
     |_=>rw[hk]at hx;exact hx.elim)
   (gz rs K1 hRr) hC
  have EZ:=st1.r6 t1 (fun i hi=>t2 i (by omega))
  refine⟨v,rs,K1,_,rfl,hRr,EZ.congr ?_,t3⟩
  rw[vD]
theorem A1{hd:Option Nat}{S:List AV->Nat->ae->Nat->(List AV->ae->Prop)->Prop}{I:Nat->Inv}{ok:Nat->Prop}{l:List AV}(hS:∀args m K ex R,S args m K ex R->ok m/\ux (I m) args m K ex R)(hI:∀m,wW (I m))(dh:∀c,o.op≠.defer c)
 (hn:∀i,nx<=i->κ i=.none) (hg:b5 ρ ops o.guard=some gd) (bO:∀m,ok m->N6 P ops n o ρ κ gd hd C m (I m) l) (h:jR hd S n o gd nx κ k l):Good P C ops n o nx ρ κ k:=by
 obtain⟨σ,bP,K0,ex,rs,K1,jE,fh,gz,Ve,JG,hk⟩:=h
 rw[(fX (SizeOf.sizeOf (mn (sg σ nx) (jV κ σ) (qp rs))+1)).1 _ _ (by omega),yj,mM,sI]at hk
 have TC:=gz
 simp only[fZ,aca]at TC
 obtain⟨⟨⟨fJ,HH⟩,_⟩,_⟩:=TC
 have hσ1:∀i,i∈σ->i<nx:=by
  have:=fh
  simp only[gH,aca]at this
  exact(jc this.1.1.1.1.1.1.1).1
 have eE:∀p,p∈bX (sg σ nx) (jV κ σ) K1++kl κ (dc κ (dw (sg σ nx) di bP) l++dD κ (bX (sg σ nx) di K0))->p.1<nx+ex:=by
  intro p hp
  rcases abI.1 hp with hp|hp
  ·obtain⟨j,h1,h2⟩:=mK (i:=p.1) (b:=p.2) hp
   have hj:=cU HH j h1
   rw[h2]
   rcases abT j σ.length with au|gG
   ·have:=hσ1 _ (by rw[jZ au];exact ab6 au:sg σ nx j∈σ);omega
   ·rw[jC gG];omega
  ·have:=tW hn hp;omega
 refine E0 dh hg hk (Nat.le_add_right _ _) eE fun ρ' κ' ax Fn hF g a w G dz aj aP K hK=>?_
 obtain⟨vs,hrel,jx⟩:=bO σ.length (hS _ _ _ _ _ jE).1 ρ' κ' _ _ ax g a w G dz.2 aj aP
 obtain⟨β,hβ,aZ⟩:=nN (hd:=hd) (hI _) (hS _ _ _ _ _ jE).2 hn fh Ve JG (fun vw K1' hR=>by obtain⟨rfl,rfl⟩:=hR;exact gz) (fun j hj=>by
  rcases jD fJ j hj with⟨_,_,h,_⟩|⟨_,_,_,_,_,_,h,_⟩|⟨_,_,_,h,_⟩|⟨_,_,_,h,_⟩<;>rw[h]<;>rfl) dz.1 aj hrel ax.reads
 refine jx Fn hF β hβ K (hI _ _ _ _ _ _ ?_ aZ)
 rintro e w2 ⟨v,vw,K1',G3,rfl,⟨rfl,rfl⟩,h1,h2⟩
 exact⟨v,rfl,hK v w2 G3 h1 h2⟩
theorem yk{f:Nat}{l:List AV}(bO:ub P ops o ρ κ gd f l)(hc:fQ P f)(m:Nat):N6 P ops n o ρ κ gd none C m (JK P f) l:=by
 intro ρ' κ' rd bx ax g a w G _ aj aP
 obtain⟨vs,aZ,hrel⟩:=bO.2 ρ' κ' rd bx ax g n a w G aj aP hc
 exact⟨vs,hrel,fun F hF β _ K hI=>uc hF bO.1 aZ hI⟩
theorem E1{c:Call}{t i:Nat}{l:List AV}(ho:o.op=.call c)(hc:c.callee=.value (.tmp t))(hv:bC ρ κ gd (.tmp t) (.eP i))(bO:lK ρ κ gd c.args.toList l)(m:Nat):N6 P ops n o ρ κ gd (some i) C m (JL P) l:=by
 intro ρ' κ' rd bx ax g a w G _ aj aP
 have hrel:=lK.rel aj aP bO (fun x hx=>ax.op (by rw[ho];simp only[Op.operands,Call.operands,hc];exact Array.mem_append.2 (.inr (by simpa using hx))))
 have qn:=hv ρ' κ' (ax.op (by rw[ho];simp only[Op.operands,Call.operands,hc];exact Array.mem_append.2 (.inl (by simp)))) g n a w G aj aP
 have bW:(List.map a.eval c.args.toList).toArray=c.args.map a.eval:=by rw[<-Array.toList_map,Array.toArray_toList]
 generalize hx:a.eval (.tmp t)=x at qn
 cases qn with|eP _ b hb=>
 refine⟨_,hrel,fun F hF β hβ K hI=>?_⟩
 obtain⟨l',h1,fn,tmps,assign,body,w1,h2,h3⟩:=hI
 rw[hβ i rfl,hb]at h1
 injection h1 with h1
 subst h1
 rw[bW]at h2
 have aZ:(execOp a.eval o).run P w=.ok (.round b fn tmps assign body) w1:=by
  rw[<-h2]
  simp[execOp,ho,resolve,hc,hx,Deferred.ofValue,invoke]
 refine⟨fun f _=>hF.fn f,?_⟩
 rw[Oper.semAt_plain F _ _ (fun c=>by rw[ho];simp),aZ,Oper.uponIn_round]
 refine⟨fun h=>(by rw[hF.depth]at h;cases h),hF.round.2 (RoundIn.mono h3 ?_)⟩
 rintro e w' ⟨v,rfl,hk⟩
 exact hk
theorem eU(P:Program):c7 P (fun _=>True):=by
 intro ops n o nx ρ κ k hn
 refine⟨fun {gd f l} hg bO h=>?_,fun hg ho hc hv bO h=>?_⟩
 ·have hcb:fQ P f:=by obtain⟨_,_,_,_,_,_,jE,_⟩:=h;exact jE.1
  exact A1 (I:=fun _=>JK P f) (ok:=fun _=>True) (fun _ _ _ _ _ hs=>⟨tv,hs.2⟩) (fun _=>kQ P _) bO.1 hn hg (fun m _=>yk bO hcb m) h
 ·exact A1 (I:=fun _=>JL P) (ok:=fun _=>True) (fun _ _ _ _ _ hs=>⟨tv,hs⟩) (fun _=>HE P) (fun c=>by rw[ho];simp) hn hg (fun m _=>E1 ho hc hv bO m) h
end
end
section
open Go.RowKit
variable [cj]
section
variable {P:Program} {C:dO->Prop} {T:List TI}
theorem yl{kt:Nat}{d:TypeDesc}{s:KS}(hd:P.underlying kt=some d)(h:∀k v,s.ok k=true->bT k=some v->MapKept.IsKey d v):tZ P kt s where
 check w em v:=fun⟨k,h1,h2⟩=>MapKept.run_checkKey hd (h k v h1 h2) em 9999
 find w x:=fun⟨k,h1,h2⟩ es wJ=>by
  rcases MapKept.findNow_spec (h k x h1 h2) es 0 (fun e he=>let⟨k',Yb,XT⟩:=wJ e he;h k' _ Yb XT)with⟨q1,q2⟩|⟨j,e,q1,q2,q3⟩
  ·exact .inl ⟨MapKept.run_findKey hd q1,q2⟩
  ·exact .inr ⟨j,e,by simpa using MapKept.run_findKey (P:=P) (w:=w) hd q1,q2,q3⟩
 stays w v:=fun⟨k,h1,h2⟩=>MapKept.run_keyThatStays (h k v h1 h2)
def cC:KS:=⟨false,[.int .i64]⟩
def Vi:KS:=⟨false,[.str]⟩
theorem E2(hT:eV P T){kt:Nat}(h:((nth T kt).ok&&(nth T kt).He==some .i64)=true):tZ P kt cC:=by
 simp only[aca,beq_iff_eq]at h
 obtain⟨i,u,z,tf⟩:=hT.facts h.1
 have hu:u=.int .i64:=by
  have:=tf.He
  rw[h.2]at this
  cases u<;>simp[Ev]at this
  rw[this]
 refine yl (d:=.int .i64) (by rw[tf.AJ,hu]) fun k v hk hv=>?_
 cases k<;>simp[KS.ok,cC,r4]at hk
 subst hk
 simp[bT,DV.val?]at hv
 subst hv
 rfl
theorem N8(hT:eV P T){kt:Nat}(h:((nth T kt).ok&&(nth T kt).isStr)=true):tZ P kt Vi:=by
 simp only[aca]at h
 obtain⟨i,u,z,tf⟩:=hT.facts h.1
 refine yl (d:=.string) (tf.string h.2) fun k v hk hv=>?_
 cases k<;>simp[KS.ok,Vi,r4]at hk
 simp[bT,DV.val?]at hv
 subst hv
 trivial
def ey:KS:=⟨true,[.int .i64,.int .i64]⟩
theorem Ll{k:DV}{v:Value}(h:ey.ok k=true)(hv:bT k=some v):∃a b:Int,v=.agg #[.int .i64 a,.int .i64 b]:=by
 cases k with
 |agg l=>
  match l,h with
  |[x,y],h=>
   cases x<;>simp[KS.ok,ey,kC,r4]at h
   cases y<;>simp[r4]at h
   obtain⟨rfl,rfl⟩:=h
   simp[bT,DV.gW,DV.val?]at hv
   exact⟨_,_,hv.symm⟩
  |[],h=>simp[KS.ok,ey,kC]at h
  |[_],h=>simp[KS.ok,ey,kC]at h
  |_::_::_::_,h=>simp[KS.ok,ey,kC]at h
 |_=>simp[KS.ok,ey]at h
theorem sJ{t:Option TypeDesc}(h:A2 t=true):t=some (.int .i64):=by
 cases t with
 |none=>simp[A2]at h
 |some d=>cases d<;>simp[A2]at h;rename_i k;cases k<;>simp[A2]at h;rfl
theorem fp{w:World}{e:TypeId}(he:P.underlying e=some (.int .i64)){xs:Array Value}{off:Nat}{v:Value}(hx:xs[off]?=some v):(part e xs off).run P w=.ok v w:=by
 simp[part,isAgg,run_underlying he,hx]
theorem HI{kt:Nat}{fs:Array Field}(hu:P.underlying kt=some (.struct fs))(hp:E3 P fs.toList=true)(hs:P.stoodInHeld kt=false)(w:World)(a b c d:Int):
 (Op.equal kt (.agg #[.int .i64 a,.int .i64 b]) (.agg #[.int .i64 c,.int .i64 d])).run P w=.ok (a==c&&b==d) w:=by
 have hf:P.fieldsOf kt=fs:=by simp[Program.fieldsOf,hu]
 have key:∀D,(Op.equalIn (D+2) kt (.agg #[.int .i64 a,.int .i64 b]) (.agg #[.int .i64 c,.int .i64 d])).run P w=.ok (a==c&&b==d) w:=by
  intro D
  rw[run_equalIn_struct w (D+1) kt _ _ (by rw[hf];exact hu) hs,hf]
  match hl:fs.toList,hp with
  |[x,y],hp=>
   simp only[hl,E3,aca,bne_iff_ne]at hp
   obtain⟨⟨⟨⟨⟨n1,n2⟩,o1⟩,o2⟩,i1⟩,i2⟩:=hp
   have o1:=abD o1
   have o2:=abD o2
   have i1:=sJ i1
   have i2:=sJ i2
   simp only[Op.eqFields,n1,n2,ne_eq,not_false_eq_true,if_true,Sem.run_bind,o1,o2]
   rw[fp (v:=.int .i64 a) i1 (by simp)]
   simp only[Result.andThen_ok]
   rw[fp (v:=.int .i64 c) i1 (by simp)]
   simp only[Result.andThen_ok]
   rw[run_equalIn_int w D x.type .i64 .i64 a c i1]
   simp only[Result.andThen_ok]
   cases hac:a==c with
   |false=>simp
   |true=>
    simp only[Bool.not_true,Bool.false_eq_true,if_false,Sem.run_bind]
    rw[fp (v:=.int .i64 b) i2 (by simp)]
    simp only[Result.andThen_ok]
    rw[fp (v:=.int .i64 d) i2 (by simp)]
    simp only[Result.andThen_ok]
    rw[run_equalIn_int w D y.type .i64 .i64 b d i2]
    simp only[Result.andThen_ok]
    cases Jm:b==d<;>simp
 simp only[Op.equal,Op.maxDepth,key 9998]
theorem A3(hT:eV P T){kt:Nat}(h:((nth T kt).ok&&(nth T kt).pair)=true):tZ P kt ey:=by
 simp only[aca]at h
 obtain⟨i,u,z,tf⟩:=hT.facts h.1
 have hp:=tf.pair
 rw[h.2]at hp
 have hp:=hp.symm
 simp only[aca,acd]at hp
 obtain⟨fs,rfl⟩:∃fs,u=.struct fs:=by
  cases u<;>simp[HJ]at hp
  exact⟨_,rfl⟩
 have hl:E3 P fs.toList=true:=hp.1
 have hu:=tf.AJ
 have hv:∀{v:Value},(∃d,ey.ok d=true/\bT d=some v)->∃a b:Int,v=.agg #[.int .i64 a,.int .i64 b]:=fun⟨d,h1,h2⟩=>Ll h1 h2
 refine⟨fun w em v hk=>?_,fun w x hx es wJ=>?_,fun w v hk=>?_⟩
 ·obtain⟨a,b,rfl⟩:=hv hk
  have key:∀D,(Instr.checkKey em (D+2) kt (.agg #[.int .i64 a,.int .i64 b])).run P w=.ok () w:=by
   intro D
   match hf:fs,hl with
   |⟨[x,y]⟩,hl=>
    simp only[E3,aca,bne_iff_ne]at hl
    obtain⟨⟨⟨⟨⟨n1,n2⟩,o1⟩,o2⟩,i1⟩,i2⟩:=hl
    have o1:=abD o1
    have o2:=abD o2
    have i1:=sJ i1
    have i2:=sJ i2
    have c1:∀(E:Nat) (n:Int),(Instr.checkKey em (E+1) x.type (.int .i64 n)).run P w=.ok () w:=fun E n=>by simp[Instr.checkKey,run_underlying i1]
    have c2:∀(E:Nat) (n:Int),(Instr.checkKey em (E+1) y.type (.int .i64 n)).run P w=.ok () w:=fun E n=>by simp[Instr.checkKey,run_underlying i2]
    rw[Instr.checkKey]
    simp only[Sem.run_bind,run_underlying hu,Result.andThen_ok]
    simp[n1,n2,o1,o2,fp (v:=.int .i64 a) i1,fp (v:=.int .i64 b) i2,c1,c2]
  exact key 9998
 ·have hw:(match P.underlying kt with|some (.array _ _)|some (.struct _)=>true|_=>false)=true:=by rw[hu]
  obtain⟨a,b,rfl⟩:=hv hx
  have key:∀(es:List MapEntry) (i:Nat),(∀e,e∈es->∃d,ey.ok d=true/\bT d=some e.key)->
   ((Instr.findAsking kt (.agg #[.int .i64 a,.int .i64 b]) es i).run P w=.ok none w/\∀e,e∈es->e.key≠.agg #[.int .i64 a,.int .i64 b])\/
   ∃j e,(Instr.findAsking kt (.agg #[.int .i64 a,.int .i64 b]) es i).run P w=.ok (some (i+j,e.val)) w/\es[j]?=some e/\e.key=.agg #[.int .i64 a,.int .i64 b]:=by
   intro es
   induction es with
   |nil=>intro i _;exact .inl ⟨by simp[Instr.findAsking],by simp⟩
   |cons e r ih=>
    intro i wJ
    obtain⟨c,d,hk⟩:=hv (wJ e (by simp))
    have heq:=HI hu hl hp.2 w a b c d
    rw[<-hk]at heq
    cases hb:(a==c&&b==d)with
    |true=>
     rw[hb]at heq
     simp only[aca,beq_iff_eq]at hb
     refine .inr ⟨0,e,?_,rfl,by rw[hk,hb.1,hb.2]⟩
     simp only[Instr.findAsking,Sem.run_bind,heq,Result.andThen_ok,if_true,Sem.run_pure,Nat.add_zero]
    |false=>
     rw[hb]at heq
     have ck:e.key≠.agg #[.int .i64 a,.int .i64 b]:=by
      rw[hk]
      intro e'
      simp only[Value.agg.injEq,Array.mk.injEq,List.cons.injEq,Value.int.injEq,true_and,and_true]at e'
      obtain⟨rfl,rfl⟩:=e'
      simp at hb
     have aZ:(Instr.findAsking kt (.agg #[.int .i64 a,.int .i64 b]) (e::r) i).run P w=(Instr.findAsking kt (.agg #[.int .i64 a,.int .i64 b]) r (i+1)).run P w:=by
      simp only[Instr.findAsking,Sem.run_bind,heq,Result.andThen_ok,Bool.false_eq_true,if_false]
     rcases ih (i+1) (fun e he=>wJ e (by simp[he]))with⟨q1,q2⟩|⟨j,e',q1,q2,q3⟩
     ·exact .inl ⟨aZ.trans q1,fun e0 Vj=>by rcases abG.1 Vj with rfl|Vj;exact ck;exact q2 _ Vj⟩
     ·exact .inr ⟨j+1,e',by rw[aZ,q1];congr 3;omega,by simpa using q2,q3⟩
  rw[run_findKey_eq w hw]
  rcases key es 0 wJ with h1|⟨j,e,q1,q2,q3⟩
  ·exact .inl h1
  ·exact .inr ⟨j,e,by simpa using q1,q2,q3⟩
 ·obtain⟨a,b,rfl⟩:=hv hk
  have:Instr.sameBits 10000 (.agg #[.int .i64 a,.int .i64 b]) (.agg #[.int .i64 a,.int .i64 b])=true:=by simp[Instr.sameBits]
  simp[Instr.keyThatStays,this]
end
end
section
open Go.RowKit
variable [cj]
theorem sK(ρ:Nat->AV):∀(k s:Nat),(bR ρ s k).length=k
 |0,_=>rfl
 |k+1,s=>by simp[bR,sK ρ k]
theorem A4(ρ:Nat->AV):∀(k s j:Nat) (v:AV),(bR ρ s k)[j]?=some v->v=ρ (s+j)
 |0,_,j,v,h=>by simp[bR]at h
 |k+1,s,0,v,h=>by simp[bR]at h;exact h.symm
 |k+1,s,j+1,v,h=>by
  simp only[bR,List.getElem?_cons_succ]at h
  rw[A4 ρ k (s+1) j v h,Nat.add_right_comm,Nat.add_assoc]
section
variable {g:dO} {n:Nat} {ρ:Nat->AV} {κ:Nat->ar} {a:Act} {w:World} {G:Gh}
theorem cu.N9(h:cu g n ρ κ a w G){i b:Nat}{o:Obj}{bx:ar}(gn:cx G i (κ i) b)(Ym:∀c,cx G i bx c->c=b)(tO:fN G (w.putObj b o) i bx):
 cu g n ρ (gM κ i bx) a (w.putObj b o) G:=by
 have au:b<w.heap.size:=gn.lt h.fit
 have hMl:G.M b=none:=h.fit.own i b gn
 refine h.r6 (C:=fun j=>j=i) ⟨.refl G,fun _ _=>rfl,fun j hj=>ah _ _ hj,fun _ _=>⟨fun _ q=>q,fun _ _ _ _ q=>q⟩,fun c hc c6=>⟨ga _ _ (fun e=>c6 i rfl (by rw[e];exact gn)),rfl⟩,fun c o' hc=>?_,?_,?_,fun _ _ _ h1 h2 _ _=>h1.trans h2.symm,by rw[putObj_size];exact ab3 _,rfl,rfl,rfl⟩ (fun _ _=>rfl)
 ·rw[ga _ _ (fun e=>by rw[e,hMl]at hc;cases hc)];exact h.fit.sub c o' hc
 ·rintro j rfl
  rw[bo];exact tO
 ·rintro j c rfl ho
  rw[bo]at ho
  have:=Ym c ho
  subst this
  exact⟨.inr ⟨j,rfl,gn⟩,hMl⟩
theorem cu.uy(h:cu g n ρ κ a w G){i b:Nat}{rc:RC}{st:zR}{l:List AV}(hi:κ i=.c5 rc st l)(hb:G.β i=some b):
 ∃r:Loop,w.heap[b]?=some (.loop r)/\r.state=st.st/\r.pending=st.Ae/\(∀Tz:zR,cu g n ρ (gM κ i (.c5 rc Tz l)) a (w.putObj b (.loop { r with state:=Tz.st,pending:=Tz.Ae })) G)/\
  ∀o,cu g n ρ (gM κ i .dead) a (w.putObj b o) G:=by
 have hx:=h.fit.box i
 rw[hi]at hx
 obtain⟨b',fn,tmps,D,h1,h2,h3⟩:=hx
 rw[hb]at h1;injection h1 with h1;subst h1
 have au:b<w.heap.size:=(abN.1 h2).1
 have gn:cx G i (κ i) b:=by rw[hi];exact hb
 refine⟨_,h2,rfl,rfl,fun Tz=>h.N9 gn (fun c hc=>?_) ⟨b,fn,tmps,D,hb,World.putObj_heap_same au,h3⟩,fun o=>h.N9 gn (fun c hc=>hc.elim) trivial⟩
 have oc:G.β i=some c:=hc
 rw[hb]at oc;injection oc with oc;exact oc.symm
def dO.upto(g:dO)(m:Nat)(β:Nat->Option Nat):dO:={ g with m:=m,β:=β,H:=fun i p=>if i<g.m then g.H i p else none }
theorem cu.upto(h:cu g n ρ κ a w G)(m:Nat):cu (g.upto m G.β) n ρ κ a w G:=by
 refine⟨h.fit,h.env,h.size,h.zQ,h.os,h.tape,h.output,h.grow,h.mem,h.nL,h.gB,fun _ _=>rfl,fun i _ p x hx=>?_,h.oT,h.tL⟩
 have zY:(if i<g.m then g.H i p else none)=some x:=hx
 split at zY
 ·rename_i hi;exact h.wv i hi p x zY
 ·cases zY
theorem cu.Oa{β:Nat->Option Nat}{m:Nat}(h:cu (g.upto m β) n ρ κ a w G)(hm:g.m<=m)(hβ:∀i,i<g.m->β i=g.β i):cu g n ρ κ a w G:=by
 refine⟨h.fit,h.env,h.size,h.zQ,h.os,h.tape,h.output,h.grow,h.mem,h.nL,h.gB,fun i hi=>(h.eX i (Nat.lt_of_lt_of_le hi hm)).trans (hβ i hi),fun i hi p x hx=>h.wv i (Nat.lt_of_lt_of_le hi hm) p x ?_,h.oT,h.tL⟩
 show(if i<g.m then g.H i p else none)=some x
 rw[if_pos hi];exact hx
theorem cu.enterLoop(h:cu g n ρ κ a w G){nx:Nat}(hn:κ nx=.none)(dz:g.m<=nx)(rc:RC)(fn:FuncId):
 cu g n ρ (gM κ nx (.c5 rc .ready (bR ρ 0 n))) { a with defers:=mark w.heap.size::a.defers } ((w.alloc (.deferred (some []))).alloc (.loop { state:=.ready,pending:=none,fn:=fn,tmps:=a.tmps,params:=rc.ps,assign:=rc.as,body:=rc.bd,defers:=w.heap.size })) { G with β:=gM G.β nx (some (w.heap.size+1)) }/\
  Gh.Le G { G with β:=gM G.β nx (some (w.heap.size+1)) }:=by
 have G7:=h.fit.box nx
 rw[hn]at G7
 generalize hr:({ state:=.ready,pending:=none,fn:=fn,tmps:=a.tmps,params:=rc.ps,assign:=rc.as,body:=rc.bd,defers:=w.heap.size }:Loop)=r
 have hle:Gh.Le G { G with β:=gM G.β nx (some (w.heap.size+1)) }:=
  ⟨Mem.Le.refl _,fun i b hb=>by
   by_cases e:i=nx
   ·subst e;rw[G7.1]at hb;cases hb
   ·show gM G.β nx _ i=some b
    rw[ah _ _ e];exact hb,fun _ _ _ _ _ q=>q⟩
 have aW:((w.alloc (.deferred (some []))).alloc (.loop r)).heap.size=w.heap.size+2:=by rw[World.size_alloc,World.size_alloc]
 have zZ:∀b,b<w.heap.size->((w.alloc (.deferred (some []))).alloc (.loop r)).heap[b]?=w.heap[b]?:=fun b hb=>by
  rw[bD _ _ (by rw[World.size_alloc];omega),bD _ _ hb]
 have UX:((w.alloc (.deferred (some []))).alloc (.loop r)).heap[w.heap.size]?=some (.deferred (some [])):=by
  rw[bD _ _ (by rw[World.size_alloc];omega)];exact cF _ _
 have aaz:((w.alloc (.deferred (some []))).alloc (.loop r)).heap[w.heap.size+1]?=some (.loop r):=by
  have:=cF (w.alloc (.deferred (some []))) (.loop r)
  rwa[World.size_alloc]at this
 have aaA:G.M.In ((w.alloc (.deferred (some []))).alloc (.loop r)):=(h.fit.sub.alloc _).alloc _
 have Yn:∀b,w.heap.size<=b->G.M b=none:=fun b hb=>Mem.In.se h.fit.sub hb
 have jr:cb { G with β:=gM G.β nx (some (w.heap.size+1)) } (bR ρ 0 n) a.tmps.toList:=by
  refine⟨by rw[sK];simp[h.size],fun j d v hd hv=>?_⟩
  have:=A4 ρ n 0 j d hd
  rw[Nat.zero_add]at this
  subst this
  have he:=(h.env j).mono hle
  have lE:a.tmps.getD j undef=v:=by
   rw[abK]
   rw[Array.getElem?_toList]at hv
   rw[hv];rfl
  rw[lE]at he;exact he
 have st:=h.r6 (κ':=gM κ nx (.c5 rc .ready (bR ρ 0 n))) (G':={ G with β:=gM G.β nx (some (w.heap.size+1)) }) (w':=(w.alloc (.deferred (some []))).alloc (.loop r)) (C:=fun j=>j=nx)
  ⟨hle,fun _ _=>rfl,fun j hj=>ah _ _ hj,fun j hj=>⟨fun x hx=>by
   have:gM G.β nx (some (w.heap.size+1)) j=some x:=hx
   rwa[ah _ _ hj]at this,fun _ _ _ _ q=>q⟩,fun b hb _=>⟨zZ b hb,rfl⟩,aaA,by
   rintro j rfl
   rw[bo]
   exact⟨w.heap.size+1,fn,a.tmps,w.heap.size,bo _ _ _,by rw[aaz,<-hr];rfl,jr⟩,by
   rintro j b rfl ho
   rw[bo]at ho
   have hb:some (w.heap.size+1)=some b:=by
    have:gM G.β j (some (w.heap.size+1)) j=some b:=ho
    rwa[bo]at this
   injection hb with hb
   exact⟨.inl (by omega),Yn b (by omega)⟩,fun _ _ _ h1 h2 _ _=>h1.trans h2.symm,by rw[aW];omega,rfl,rfl,rfl⟩
  (fun i hi=>by
   show gM G.β nx _ i=G.β i
   exact ah _ _ (by omega))
 refine⟨{ st with tL:=?_ },hle⟩
 obtain⟨D,h1,h2,h3⟩:=h.tL
 have Vk:∀q,q∈D->q<w.heap.size:=fun q hq=>(abN.1 (h3 q hq).1).1
 have key:∀i,∀q,q<=w.heap.size->cx { G with β:=gM G.β nx (some (w.heap.size+1)) } i (gM κ nx (.c5 rc .ready (bR ρ 0 n)) i) q->cx G i (κ i) q:=by
  intro i q hq ho
  by_cases e:i=nx
  ·subst e
   rw[bo]at ho
   have:gM G.β i (some (w.heap.size+1)) i=some q:=ho
   rw[bo]at this
   injection this with this
   omega
  ·rw[ah _ _ e]at ho
   cases hk:κ i with
   |cells l=>rw[hk]at ho;have:gM G.β nx (some (w.heap.size+1)) i=some q:=ho;rwa[ah _ _ e]at this
   |c5 rc st l=>rw[hk]at ho;have:gM G.β nx (some (w.heap.size+1)) i=some q:=ho;rwa[ah _ _ e]at this
   |ka a b c d f=>rw[hk]at ho;exact ho.imp id fun ho=>by have:gM G.β nx (some (w.heap.size+1)) i=some q:=ho;rwa[ah _ _ e]at this
   |_=>rw[hk]at ho;exact ho
 refine⟨w.heap.size::D,by rw[List.map_cons,<-h1],List.nodup_cons.2 ⟨fun hm=>Nat.lt_irrefl _ (Vk _ hm),h2⟩,fun q hq=>?_⟩
 rcases abG.1 hq with rfl|hq
 ·exact⟨UX,fun i ho=>Nat.lt_irrefl _ ((key i _ (ab3 _) ho).lt h.fit),Yn _ (ab3 _),h.grow⟩
 ·obtain⟨a1,a2,a3,a4⟩:=h3 q hq
  exact⟨by rw[zZ q (Vk q hq)];exact a1,fun i ho=>a2 i (key i q (Nat.le_of_lt (Vk q hq)) ho),a3,a4⟩
end
end
end Go.TM
