import Derived.Test.YtpbiiigpphehbaaGreatDoorFM17
set_option linter.all false
namespace Go.TM
open Go.RowKit
variable [cj]
def ar.gO:ar->Bool
 |.none=>true
 |_=>false
theorem Lb{b:ar}(h:b.gO=true):b=.none:=by cases b<;>simp[ar.gO]at h;rfl
def qo(m:Nat)(h:Nat->Nat->List PS->Option Value)(i V E v e:Nat):List PS->Option Value
 |[]=>if v=(jb m i V E).1/\e=0 then h V 0 []else if i<m/\v=0/\e=0 then h 0 0 []else none
 |s::q=>if v=(jb m i V E).1/\e=(jb m i V E).2 then h V E (s::q)else if i<m/\v=0/\e=0 then h 0 0 (s::q)else none
def EK(v e:Nat)(p:List PS):Option Value:=match v,e,p with
 |0,0,[]=>some (.slice none 0 0)
 |_,_,_=>none
def wQ(m:Nat)(κ κ':Nat->ar)(H:Nat->Nat->Nat->List PS->Option Value)(i v e:Nat)(p:List PS):Option Value:=
 match(κ' i).gO with
 |true=>none
 |false=>match κ i with
  |.tree V E _=>qo m (H i) i V E v e p
  |.fz V _=>qo m (H i) i V 0 v e p
  |.held=>qo m (H i) i 0 0 v e p
  |.none=>EK v e p
  |_=>if i<m/\v=0/\e=0 then H i 0 0 p else none
def reβ(κ':Nat->ar)(β:Nat->Option Nat)(i:Nat):Option Nat:=match(κ' i).gO with
 |true=>none
 |false=>β i
def dS(m:Nat)(κ κ':Nat->ar)(G:Gh):Gh:={ G with β:=reβ κ' G.β,H:=wQ m κ κ' G.H }
theorem Rt(m i V E E':Nat):(jb m i V E).1=(jb m i V E').1:=by
 unfold jb
 cases Nat.blt i m with
 |false=>rfl
 |true=>cases V with
  |zero=>cases E<;>cases E'<;>rfl
  |succ V=>rfl
theorem EL{m i V E:Nat}(hi:i<m)(h:(jb m i V E).1=0):V=0/\((jb m i V E).2=0->E=0):=by
 unfold jb at*
 have hb:Nat.blt i m=true:=by rw[Nat.blt_eq];exact hi
 rw[hb]at h⊢
 cases V with
 |zero=>cases E with
  |zero=>exact⟨rfl,fun _=>rfl⟩
  |succ E=>exact⟨rfl,fun h=>by simp at h⟩
 |succ V=>simp at h
theorem wR{m i V E:Nat}(hi:¬i<m):jb m i V E=(0,0):=by
 unfold jb
 have hb:Nat.blt i m=false:=by cases hb:Nat.blt i m with|false=>rfl|true=>rw[Nat.blt_eq]at hb;exact absurd hb hi
 rw[hb];rfl
theorem kL(m:Nat)(h:Nat->Nat->List PS->Option Value)(i V E:Nat)(s:PS)(q:List PS):qo m h i V E (jb m i V E).1 0 []=h V 0 []/\qo m h i V E (jb m i V E).1 (jb m i V E).2 (s::q)=h V E (s::q):=by
 simp[qo]
theorem xZ{m:Nat}{h:Nat->Nat->List PS->Option Value}{i V E:Nat}(hi:i<m)(p:List PS):qo m h i V E 0 0 p=h 0 0 p:=by
 cases p with
 |nil=>
  simp only[qo]
  split
  ·rename_i hh;rw[(EL hi hh.1.symm).1]
  ·rw[if_pos (by simp[hi])]
 |cons s q=>
  simp only[qo]
  split
  ·rename_i hh;obtain⟨h1,h2⟩:=EL hi hh.1.symm;rw[h1,h2 hh.2.symm]
  ·rw[if_pos (by simp[hi])]
theorem Cv{m:Nat}{h:Nat->Nat->List PS->Option Value}{i V E v:Nat}(hv:(jb m i V E).1<v)(e:Nat)(p:List PS):qo m h i V E v e p=none:=by
 cases p with
 |nil=>simp only[qo];rw[if_neg (by omega),if_neg (by omega)]
 |cons s q=>simp only[qo];rw[if_neg (by omega),if_neg (by omega)]
theorem Jy{m:Nat}{h:Nat->Nat->List PS->Option Value}{i V E e:Nat}(hv:(jb m i V E).2<e)(p:List PS):qo m h i V E (jb m i V E).1 e p=none:=by
 cases p with
 |nil=>simp only[qo];rw[if_neg (by omega),if_neg (by omega)]
 |cons s q=>simp only[qo];rw[if_neg (by omega),if_neg (by omega)]
section
variable {m:Nat} {κ κ':Nat->ar} {G:Gh} {w:World}
theorem o5{H:Nat->Nat->Nat->List PS->Option Value}{i V E:Nat}{d:DV}(hk:κ i=.tree V E d)(hn:(κ' i).gO=false)(p:List PS):aJ (wQ m κ κ' H) i (jb m i V E).1 (jb m i V E).2 p=aJ H i V E p:=by
 cases p with
 |nil=>simp only[aJ,wQ,hn,hk];exact(kL m (H i) i V E (.el 0 0) []).1
 |cons s q=>simp only[aJ,wQ,hn,hk];exact(kL m (H i) i V E s q).2
theorem Cw(m i:Nat):jb m i 0 0=(0,0):=by
 unfold jb
 cases Nat.blt i m<;>rfl
theorem x3{H:Nat->Nat->Nat->List PS->Option Value}{i:Nat}(hk:κ i=.held)(hn:(κ' i).gO=false):aJ (wQ m κ κ' H) i 0 0=aJ H i 0 0:=by
 have e:=Cw m i
 funext p
 cases p with
 |nil=>
  simp only[aJ,wQ,hn,hk]
  have:=(kL m (H i) i 0 0 (.el 0 0) []).1
  rw[e]at this;exact this
 |cons s q=>
  simp only[aJ,wQ,hn,hk]
  have:=(kL m (H i) i 0 0 s q).2
  rw[e]at this;exact this
theorem EM{a b:ar}(h:match a,b with| .held,.held=>True|_,_=>False):a=.held/\b=.held:=by
 split at h
 ·exact⟨rfl,rfl⟩
 ·exact h.elim
theorem Ru{v:AV}{i ver ep:Nat}{p:List PS}(h:jU m κ v=.own i ver ep p):(∃V E e d,v=.own i V e p/\κ i=.tree V E d/\(p=[]\/e=E)/\ver=(jb m i V E).1/\ep=(jb m i V E).2)\/∃e,v=.own i 0 e p/\κ i=.held/\(p=[]\/e=0)/\ver=0/\ep=0:=by
 cases v with
 |own j V e q=>
  simp only[jU]at h
  split at h
  ·rename_i V' E' d hk
   cases hb:Nat.beq V V'&&(emp q||Nat.beq e E')with
   |false=>rw[hb]at h;cases h
   |true=>
    rw[hb]at h
    obtain⟨rfl,hc⟩:=dA hb
    simp only[cond_true,AV.own.injEq]at h
    obtain⟨rfl,h1,h2,rfl⟩:=h
    exact .inl ⟨V,E',e,d,rfl,hk,hc,h1.symm,h2.symm⟩
  ·rename_i hk
   cases hb:Nat.beq V 0&&(emp q||Nat.beq e 0)with
   |false=>rw[hb]at h;cases h
   |true=>
    rw[hb]at h
    obtain⟨rfl,hc⟩:=dA hb
    simp only[cond_true,AV.own.injEq]at h
    obtain⟨rfl,h1,h2,rfl⟩:=h
    exact .inr ⟨e,rfl,hk,hc,h1.symm,h2.symm⟩
  ·cases h
 |loc j V e q a b c=>
  simp only[jU]at h
  split at h
  ·rename_i V' E' d hk
   cases hb:Nat.beq V V'&&(emp q||Nat.beq e E')<;>rw[hb]at h<;>cases h
  ·cases h
 |pre j V e q a b c=>
  simp only[jU]at h
  split at h
  ·rename_i V' E' d hk
   cases hb:Nat.beq V V'&&(emp q||Nat.beq e E')<;>rw[hb]at h<;>cases h
  ·cases h
 |cq j V=>
  simp only[jU]at h
  split at h
  ·rename_i V' E' d hk
   cases hb:Nat.beq V V'<;>rw[hb]at h<;>cases h
  ·cases h
 |_=>simp[jU]at h
theorem NC{v:AV}{i ver:Nat}(h:jU m κ v=.cq i ver):∃V E d,v=.cq i V/\κ i=.tree V E d/\ver=(jb m i V E).1:=by
 cases v with
 |cq j V=>
  simp only[jU]at h
  split at h
  ·rename_i V' E' d hk
   cases hb:Nat.beq V V' with
   |false=>rw[hb]at h;cases h
   |true=>
    rw[hb]at h
    have:=abD hb
    subst this
    simp only[cond_true,AV.cq.injEq]at h
    obtain⟨rfl,h1⟩:=h
    exact⟨V,E',d,rfl,hk,h1.symm⟩
  ·cases h
 |own j V e q=>
  simp only[jU]at h
  split at h
  ·rename_i V' E' d hk
   cases hb:Nat.beq V V'&&(emp q||Nat.beq e E')<;>rw[hb]at h<;>cases h
  ·cases hb:Nat.beq V 0&&(emp q||Nat.beq e 0)<;>rw[hb]at h<;>cases h
  ·cases h
 |loc j V e q a b c=>
  simp only[jU]at h
  split at h
  ·rename_i V' E' d hk
   cases hb:Nat.beq V V'&&(emp q||Nat.beq e E')<;>rw[hb]at h<;>cases h
  ·cases h
 |pre j V e q a b c=>
  simp only[jU]at h
  split at h
  ·rename_i V' E' d hk
   cases hb:Nat.beq V V'&&(emp q||Nat.beq e E')<;>rw[hb]at h<;>cases h
  ·cases h
 |_=>simp[jU]at h
theorem Rv{v:AV}{i ver ep a b c:Nat}{p:List PS}(h:jU m κ v=.loc i ver ep p a b c):∃V E e d,v=.loc i V e p a b c/\κ i=.tree V E d/\(p=[]\/e=E)/\ver=(jb m i V E).1/\ep=(jb m i V E).2:=by
 cases v with
 |loc j V e q a b c=>
  simp only[jU]at h
  split at h
  ·rename_i V' E' d hk
   cases hb:Nat.beq V V'&&(emp q||Nat.beq e E')with
   |false=>rw[hb]at h;cases h
   |true=>
    rw[hb]at h
    obtain⟨rfl,hc⟩:=dA hb
    simp only[cond_true,AV.loc.injEq]at h
    obtain⟨rfl,h1,h2,rfl,rfl,rfl,rfl⟩:=h
    exact⟨V,E',e,d,rfl,hk,hc,h1.symm,h2.symm⟩
  ·cases h
 |pre j V e q a b c=>
  simp only[jU]at h
  split at h
  ·rename_i V' E' d hk
   cases hb:Nat.beq V V'&&(emp q||Nat.beq e E')<;>rw[hb]at h<;>cases h
  ·cases h
 |own j V e q=>
  simp only[jU]at h
  split at h
  ·rename_i V' E' d hk
   cases hb:Nat.beq V V'&&(emp q||Nat.beq e E')<;>rw[hb]at h<;>cases h
  ·cases hb:Nat.beq V 0&&(emp q||Nat.beq e 0)<;>rw[hb]at h<;>cases h
  ·cases h
 |cq j V=>
  simp only[jU]at h
  split at h
  ·rename_i V' E' d hk
   cases hb:Nat.beq V V'<;>rw[hb]at h<;>cases h
  ·cases h
 |_=>simp[jU]at h
theorem Rw{v:AV}{i ver ep a b c:Nat}{p:List PS}(h:jU m κ v=.pre i ver ep p a b c):∃V E e d,v=.pre i V e p a b c/\κ i=.tree V E d/\(p=[]\/e=E)/\ver=(jb m i V E).1/\ep=(jb m i V E).2:=by
 cases v with
 |pre j V e q a b c=>
  simp only[jU]at h
  split at h
  ·rename_i V' E' d hk
   cases hb:Nat.beq V V'&&(emp q||Nat.beq e E')with
   |false=>rw[hb]at h;cases h
   |true=>
    rw[hb]at h
    obtain⟨rfl,hc⟩:=dA hb
    simp only[cond_true,AV.pre.injEq]at h
    obtain⟨rfl,h1,h2,rfl,rfl,rfl,rfl⟩:=h
    exact⟨V,E',e,d,rfl,hk,hc,h1.symm,h2.symm⟩
  ·cases h
 |loc j V e q a b c=>
  simp only[jU]at h
  split at h
  ·rename_i V' E' d hk
   cases hb:Nat.beq V V'&&(emp q||Nat.beq e E')<;>rw[hb]at h<;>cases h
  ·cases h
 |own j V e q=>
  simp only[jU]at h
  split at h
  ·rename_i V' E' d hk
   cases hb:Nat.beq V V'&&(emp q||Nat.beq e E')<;>rw[hb]at h<;>cases h
  ·cases hb:Nat.beq V 0&&(emp q||Nat.beq e 0)<;>rw[hb]at h<;>cases h
  ·cases h
 |cq j V=>
  simp only[jU]at h
  split at h
  ·rename_i V' E' d hk
   cases hb:Nat.beq V V'<;>rw[hb]at h<;>cases h
  ·cases h
 |_=>simp[jU]at h
theorem Cx{b:ar}(h:b.ND=true):b.gO=false:=by cases b<;>simp[ar.ND]at h<;>rfl
theorem Cy{b:ar}{v e:Nat}(h:b.WY v e=true):b.gO=false:=by cases b<;>simp[ar.WY]at h<;>rfl
theorem sD:∀{l' l:List AV},dU m κ κ' l' l->l'.length=l.length
 |[],[],_=>rfl
 |[],_::_,h=>by simp[dU]at h
 |_::_,[],h=>by simp[dU]at h
 |_::_,_::_,h=>by simp only[dU]at h;simp[sD h.2]
theorem o6{κc:Nat->ar}{F:List Nat}{G1:Gh}(hle:Gh.Le G G1)(hβ:G1.β=G.β)(hH:G1.H=G.H)(NF:∀i,i∈F->κc i=κ i)(ln:Fit G1 w (ay κc (kl κ F))):∀(N:Nat),
 (∀(u v:AV) (x:Value),SizeOf.sizeOf u<N->fC m κ κ' u v->AV.sc κ' u=true->(∀i,i∈x4 κ u v->i∈F)->aH G v x->aH (dS m κ κ' G1) u x)/\
 (∀(us vs:List AV) (xs:List Value),SizeOf.sizeOf us<N->dU m κ κ' us vs->AV.Jz κ' us=true->(∀i,i∈dc κ us vs->i∈F)->cb G vs xs->cb (dS m κ κ' G1) us xs):=by
 intro N
 induction N with
 |zero=>exact⟨fun _ _ _ h=>by omega,fun _ _ _ h=>by omega⟩
 |succ N ih=>
  have Cz:∀{i b:Nat},G.β i=some b->(κ' i).gO=false->(dS m κ κ' G1).β i=some b:=fun {i b} h hn=>by simp only[dS,reβ,hn,hβ];exact h
  refine⟨fun u v x aW hs hc hF hv=>?_,fun us vs xs aW hs hc hF hr=>?_⟩
  ·cases u with
   |any=>exact .any _
   |dv d'=>
    simp only[fC,X1]at hs
    split at hs
    ·rename_i d ids hd
     simp only[x4,X2,hd]at hF
     exact .dv (hs _ x (tU (κ:=κ) (κ':=κc) (w:=w) (G':=G1) hd hF NF hle ln hv))
    ·exact hs.elim
   |agg l'=>
    cases v with
    |agg l=>
     simp only[fC]at hs
     simp only[AV.sc]at hc
     simp only[x4]at hF
     cases hv with|agg _ ys hl hr=>
     have:=ih.2 l' l ys (by simp at aW;omega) hs hc hF ⟨hl,hr⟩
     exact .agg l' ys this.1 this.2
    |_=>simp[fC]at hs
   |fO l'=>
    cases v with
    |fO l=>
     simp only[fC]at hs
     simp only[AV.sc]at hc
     simp only[x4]at hF
     cases hv with|fO _ ys hl hr=>
     have:=ih.2 l' l ys (by simp at aW;omega) hs hc hF ⟨hl,hr⟩
     exact .fO l' ys this.1 this.2
    |_=>simp[fC]at hs
   |fn f' l'=>
    cases v with
    |fn f l=>
     simp only[fC]at hs
     simp only[AV.sc]at hc
     simp only[x4]at hF
     obtain⟨rfl,hs⟩:=hs
     cases hv with|fn _ _ ys hl hr=>
     have:=ih.2 l' l ys (by simp at aW;omega) hs hc hF ⟨hl,hr⟩
     exact .fn f l' ys this.1 this.2
    |_=>simp[fC]at hs
   |jQ f' l'=>
    cases v with
    |jQ f l=>
     simp only[fC]at hs
     simp only[AV.sc]at hc
     simp only[x4]at hF
     obtain⟨rfl,hs⟩:=hs
     cases hv with|jQ _ _ ys hl hr=>
     have:=ih.2 l' l ys (by simp at aW;omega) hs hc hF ⟨hl,hr⟩
     exact .jQ f l' ys this.1 this.2
    |_=>simp[fC]at hs
   |ptr i off=>
    simp only[fC]at hs
    simp only[AV.sc]at hc
    subst hs
    cases hv with|ptr _ _ b hb=>exact .ptr i off b (Cz hb (Cx hc))
   |eP i=>
    simp only[fC]at hs
    simp only[AV.sc]at hc
    subst hs
    cases hv with|eP _ l hb=>exact .eP i l (Cz hb (Cx hc))
   |sle i k=>
    simp only[fC]at hs
    simp only[AV.sc]at hc
    subst hs
    cases hv with|sle _ _ b hb=>exact .sle i k b (Cz hb (Cx hc))
   |own i ver ep p=>
    simp only[fC]at hs
    simp only[AV.sc]at hc
    have c6:=Cy hc
    unfold CA at hs
    split at hs
    ·obtain⟨rfl,rfl,rfl,hb,sz,dI⟩:=hs
     cases hv with|dv hv=>cases hv with|az=>
     refine .own i 0 0 [] _ ?_ rfl
     simp only[aJ,dS,wQ,c6,hb,EK]
    ·rcases Ru hs with⟨V,E,e,d,QY,hk,dG,rfl,rfl⟩|⟨e,QY,hk,dG,rfl,rfl⟩
     ·have hv:=AB hv
      rw[QY]at hv
      cases hv with|own _ _ _ _ _ hh jt=>
      refine .own i _ _ p x ?_ jt
      rw[cR dG]at hh
      simp only[dS]
      rw[o5 hk c6,hH];exact hh
     ·have hv:=AB hv
      rw[QY]at hv
      cases hv with|own _ _ _ _ _ hh jt=>
      refine .own i _ _ p x ?_ jt
      rw[cR dG]at hh
      simp only[dS]
      rw[x3 hk c6,hH];exact hh
   |loc i ver ep p a b c=>
    simp only[fC]at hs
    simp only[AV.sc]at hc
    have c6:=Cy hc
    obtain⟨V,E,e,d,rfl,hk,dG,rfl,rfl⟩:=Rv hs
    cases hv with
    |loc _ _ _ _ _ _ _ A q q' hh=>
     refine .loc i _ _ p a b c A q q' ?_
     rw[cR dG]at hh
     simp only[dS]
     rw[o5 hk c6,hH];exact hh
    |qm _ _ _ _ _ _ _ A hh=>
     refine .qm i _ _ p a b c A ?_
     rw[cR dG]at hh
     simp only[dS]
     rw[o5 hk c6,hH];exact hh
   |pre i ver ep p a b c=>
    simp only[fC]at hs
    simp only[AV.sc]at hc
    have c6:=Cy hc
    obtain⟨V,E,e,d,rfl,hk,dG,rfl,rfl⟩:=Rw hs
    cases hv with
    |pre _ _ _ _ _ _ _ q q' hh=>
     refine .pre i _ _ p a b c q q' fun hn=>?_
     obtain⟨A,N,c',hh,e2⟩:=hh hn
     refine⟨A,N,c',?_,e2⟩
     rw[cR dG]at hh
     simp only[dS]
     rw[o5 hk c6,hH];exact hh
   |cq i ver=>
    simp only[fC]at hs
    simp only[AV.sc]at hc
    have c6:=Cy hc
    obtain⟨V,E,d,rfl,hk,rfl⟩:=NC hs
    cases hv with|cq _ _ A q hh=>
    refine .cq i _ A q ?_
    have:=o5 (m:=m) (H:=G1.H) hk c6 []
    simp only[aJ]at this
    simp only[dS]
    rw[this,hH];exact hh
   |opt g u=>simp[AV.sc]at hc
  ·cases us with
   |nil=>
    cases vs with
    |nil=>exact⟨hr.1,by simp⟩
    |cons=>simp[dU]at hs
   |cons u us=>
    cases vs with
    |nil=>simp[dU]at hs
    |cons v vs=>
     simp only[dU]at hs
     simp only[AV.Jz,aca]at hc
     simp only[dc]at hF
     match xs,hr with
     |[],hr=>have:=hr.1;simp at this
     |x::xs,hr=>
      have h1:=ih.1 u v x (by simp at aW;omega) hs.1 hc.1 (fun i hi=>hF i (by simp[hi])) (hr.2 0 v x rfl rfl)
      have h2:=ih.2 us vs xs (by simp at aW;omega) hs.2 hc.2 (fun i hi=>hF i (by simp[hi])) ⟨by simpa using hr.1,fun q e y he hy=>hr.2 (q+1) e y (by simpa using he) (by simpa using hy)⟩
      refine⟨by simp[h2.1],fun j d y hd hy=>?_⟩
      cases j with
      |zero=>simp at hd hy;subst hd;subst hy;exact h1
      |succ j=>exact h2.2 j d y (by simpa using hd) (by simpa using hy)
theorem x5:∀{F:List Nat},Ac κ' F=true->∀i,i∈F->∀v e d,κ' i≠.tree v e d
 |[],_,i,hi,_,_,_=>by simp at hi
 |j::F,h,i,hi,v,e,d=>by
  simp only[Ac,aca]at h
  rcases abG.1 hi with rfl|hi
  ·intro hk;rw[hk]at h;cases h.1
  ·exact x5 h.2 i hi v e d
def EO(m:Nat)(κ κ':Nat->ar)(F:List Nat)(i:Nat):Prop:=oq m κ κ' i (κ i) (κ' i)/\(κ' i).WZ κ'=true/\∀j,j∈vA κ i (κ i) (κ' i)->j∈F
theorem Tr{κc:Nat->ar}{F:List Nat}{G1:Gh}(hf:Fit G w κc)(hle:Gh.Le G G1)(hβ:G1.β=G.β)(hH:G1.H=G.H)(hX:G1.X=G.X)(NF:∀i,i∈F->κc i=κ i)(UW:∀i,(κ' i).gO=false->κc i=κ i)(ln:Fit G1 w (ay κc (kl κ F)))(ec:Ac κ' F=true)(hs:∀i,EO m κ κ' F i):
 Fit (dS m κ κ' G1) w κ'/\∀i b,cx (dS m κ κ' G1) i (κ' i) b->cx G1 i (ay κc (kl κ F) i) b:=by
 have UX:=oK (κ:=κ) (κ':=κc) (ids:=F) NF
 have jN:∀j,(κ' j).gO=false->ay κc (kl κ F) j=if j∈F then(κ j).eN else κ j:=fun j hj=>by rw[UX,UW j hj]
 have jz:∀i b,cx (dS m κ κ' G1) i (κ' i) b->cx G1 i (ay κc (kl κ F) i) b:=by
  intro i b ho
  obtain⟨hx,Hv,wS⟩:=hs i
  cases fP:κ' i with
  |none=>rw[fP]at ho;exact ho.elim
  |dead=>rw[fP]at ho;exact ho.elim
  |fz=>rw[fP]at ho;exact ho.elim
  |cells l'=>
   rw[fP]at ho hx
   cases hk:κ i with
   |cells l=>
    have eE:ay κc (kl κ F) i=.cells l:=by rw[jN i (by rw[fP];rfl),hk];simp[ar.eN]
    rw[eE]
    simp only[cx,dS,reβ,fP,ar.gO]at ho⊢
    exact ho
   |_=>rw[hk]at hx;exact hx.elim
  |tree v e d'=>
   rw[fP]at ho hx
   cases hk:κ i with
   |tree V E d=>
    rw[hk]at hx
    simp only[oq]at hx
    obtain⟨hx,rfl⟩:=hx
    have hnf:i∉F:=fun hi=>x5 ec i hi _ _ _ fP
    have eE:ay κc (kl κ F) i=.tree V E d:=by rw[jN i (by rw[fP];rfl),if_neg hnf,hk]
    rw[eE]
    have e1:v=(jb m i V E).1:=by rw[hx]
    have e2:e=(jb m i V E).2:=by rw[hx]
    subst e1;subst e2
    obtain⟨p,nd,u,h1,h2,h3,h4⟩:=ho
    simp only[dS]at h3
    rw[o5 hk (by rw[fP];rfl)]at h3
    exact⟨p,nd,u,h1,h2,h3,h4⟩
   |none=>
    rw[hk]at hx
    simp only[oq]at hx
    obtain⟨rfl,rfl,sz,rfl⟩:=hx
    obtain⟨p,nd,u,h1,h2,h3,h4⟩:=ho
    cases p with
    |nil=>
     simp only[aJ,dS,wQ,fP,ar.gO,hk,EK,Option.some.injEq]at h3
     subst h3;simp[cS]at h4
    |cons s p=>cases s<;>simp[get,step]at h1
   |_=>rw[hk]at hx;exact hx.elim
  |c5 rc st l'=>
   rw[fP]at ho hx
   cases hk:κ i with
   |c5 rc0 st0 l=>
    have eE:ay κc (kl κ F) i=.c5 rc0 st0 l:=by rw[jN i (by rw[fP];rfl),hk];simp[ar.eN]
    rw[eE]
    simp only[cx,dS,reβ,fP,ar.gO]at ho⊢
    exact ho
   |_=>rw[hk]at hx;exact hx.elim
  |held=>rw[fP]at ho;exact ho.elim
  |ka j' p' d' NG Rx=>
   rw[fP]at ho hx
   cases hk:κ i with
   |ka j p d left cur=>
    rw[hk]at hx
    simp only[oq]at hx
    obtain⟨rfl,rfl,rfl,rfl,_,hh⟩:=hx
    obtain⟨e1,e2⟩:=EM hh
    have eE:ay κc (kl κ F) i=.ka j p d left cur:=by rw[jN i (by rw[fP];rfl),hk];simp[ar.eN]
    rw[eE]
    simp only[cx,dS,reβ,fP,ar.gO]at ho⊢
    rw[x3 e1 (by rw[e2];rfl)]at ho
    exact ho
   |_=>rw[hk]at hx;exact hx.elim
 refine⟨⟨ln.sub,fun i=>?_,fun i b ho=>ln.own i b (jz i b ho),fun i j b ho ju=>ln.inj i j b (jz i b ho) (jz j b ju)⟩,jz⟩
 obtain⟨hx,Hv,wS⟩:=hs i
 have jP:=ln.box i
 cases fP:κ' i with
 |none=>exact⟨by simp[dS,reβ,fP,ar.gO],fun v e p=>by simp[dS,wQ,fP,ar.gO]⟩
 |dead=>trivial
 |cells l'=>
  rw[fP]at hx Hv wS
  cases hk:κ i with
  |cells l=>
   rw[hk]at hx wS
   simp only[oq]at hx
   simp only[vA]at wS
   simp only[ar.WZ,aca]at Hv
   have hb:=hf.box i
   rw[UW i (by rw[fP];rfl),hk]at hb
   obtain⟨b,c,t,lk,hw,aW,mX,hr⟩:=hb
   have hlen:=sD hx
   refine⟨b,c,t,by simp only[dS,reβ,fP,ar.gO,hβ];exact lk,hw,by rw[aW,hlen],fK Hv.2,fun j d v hd hv=>?_⟩
   have:=(o6 (m:=m) (κ:=κ) (κ':=κ') (w:=w) hle hβ hH NF ln (SizeOf.sizeOf l'+1)).2 l' l c.toList (by omega) hx Hv.1 wS ⟨by simp[aW],fun j d v hd hv=>hr j d v hd (by simpa using hv)⟩
   exact this.2 j d v hd (by simpa using hv)
  |_=>rw[hk]at hx;exact hx.elim
 |tree v e d'=>
  rw[fP]at hx
  cases hk:κ i with
  |tree V E d=>
   rw[hk]at hx
   simp only[oq]at hx
   obtain⟨hx,rfl⟩:=hx
   have hnf:i∉F:=fun hi=>x5 ec i hi _ _ _ fP
   rw[jN i (by rw[fP];rfl),if_neg hnf,hk]at jP
   have e1:v=(jb m i V E).1:=by rw[hx]
   have e2:e=(jb m i V E).2:=by rw[hx]
   subst e1;subst e2
   have c6:(κ' i).gO=false:=by rw[fP];rfl
   have Ts:aJ (dS m κ κ' G1).H i (jb m i V E).1 (jb m i V E).2=aJ G1.H i V E:=funext fun p=>by simp only[dS];exact o5 hk c6 p
   refine⟨?_,?_,fun v hv e p=>?_,fun e he p=>?_⟩
   ·rw[Ts];exact jP.1
   ·rw[Ts];exact jP.2.1
   ·simp only[dS,wQ,c6,hk];exact Cv hv e p
   ·simp only[dS,wQ,c6,hk];exact Jy he p
  |none=>
   rw[hk]at hx
   simp only[oq]at hx
   obtain⟨rfl,rfl,sz,rfl⟩:=hx
   have c6:(κ' i).gO=false:=by rw[fP];rfl
   have h0:aJ (dS m κ κ' G1).H i 0 0 []=some (.slice none 0 0):=by simp only[aJ,dS,wQ,c6,hk,EK]
   refine⟨⟨rfl,fun p nd hp hn=>?_⟩,?_,fun v hv e p=>?_,fun e he p=>?_⟩
   ·cases p with
    |nil=>
     simp only[get,Option.some.injEq]at hp
     subst hp
     exact⟨_,h0,rfl,.inl ⟨rfl,rfl⟩⟩
    |cons s p=>cases s<;>simp[get,step]at hp
   ·intro p q nd md u v b h1 h2 h3 h4 h5 h6 h7 h8
    cases p with
    |nil=>rw[h0]at h3;injection h3 with h3;subst h3;simp[cS]at h4
    |cons s p=>cases s<;>simp[get,step]at h1
   ·simp only[dS,wQ,c6,hk]
    cases v with
    |zero=>omega
    |succ v=>rfl
   ·simp only[dS,wQ,c6,hk]
    cases e with
    |zero=>omega
    |succ e=>rfl
  |_=>rw[hk]at hx;exact hx.elim
 |fz v d'=>
  rw[fP]at hx wS
  have c6:(κ' i).gO=false:=by rw[fP];rfl
  cases hk:κ i with
  |tree V E d=>
   rw[hk]at hx wS
   simp only[oq]at hx
   obtain⟨rfl,hx⟩:=hx
   have hi:i∈F:=wS i (by simp[vA])
   rw[jN i c6,if_pos hi,hk]at jP
   obtain⟨u,h1,h2,h3⟩:=jP
   refine⟨u,?_,h2,hx _ _ h3⟩
   simp only[dS,wQ,c6,hk]
   rw[Rt m i V 0 E,(kL m (G1.H i) i V E (.el 0 0) []).1]
   exact h1
  |fz V d=>
   rw[hk]at hx
   simp only[oq]at hx
   obtain⟨rfl,hx⟩:=hx
   have eE:ay κc (kl κ F) i=.fz V d:=by rw[jN i c6,hk];simp[ar.eN]
   rw[eE]at jP
   obtain⟨u,h1,h2,h3⟩:=jP
   refine⟨u,?_,h2,hx _ _ h3⟩
   simp only[dS,wQ,c6,hk]
   rw[(kL m (G1.H i) i V 0 (.el 0 0) []).1]
   exact h1
  |_=>rw[hk]at hx;exact hx.elim
 |c5 rc st l'=>
  rw[fP]at hx Hv wS
  cases hk:κ i with
  |c5 rc0 st0 l=>
   rw[hk]at hx wS
   simp only[oq]at hx
   simp only[vA]at wS
   simp only[ar.WZ]at Hv
   obtain⟨rfl,rfl,hx⟩:=hx
   have hb:=hf.box i
   rw[UW i (by rw[fP];rfl),hk]at hb
   obtain⟨b,fn,tmps,D,lk,hw,hr⟩:=hb
   exact⟨b,fn,tmps,D,by simp only[dS,reβ,fP,ar.gO,hβ];exact lk,hw,(o6 (m:=m) (κ:=κ) (κ':=κ') (w:=w) hle hβ hH NF ln (SizeOf.sizeOf l'+1)).2 l' l tmps.toList (by omega) hx Hv wS hr⟩
  |_=>rw[hk]at hx;exact hx.elim
 |held=>
  rw[fP]at hx
  cases hk:κ i with
  |held=>
   have c6:(κ' i).gO=false:=by rw[fP];rfl
   refine⟨fun v hv e p=>?_,fun e he p=>?_⟩
   ·simp only[dS,wQ,c6,hk]
    exact Cv (by rw[Cw];exact hv) e p
   ·simp only[dS,wQ,c6,hk]
    have:=Jy (m:=m) (h:=G1.H i) (i:=i) (V:=0) (E:=0) (e:=e) (by rw[Cw];exact he) p
    rw[Cw]at this
    exact this
  |_=>rw[hk]at hx;exact hx.elim
 |ka j' p' d' NG Rx=>
  rw[fP]at hx
  cases hk:κ i with
  |ka j p d left cur=>
   rw[hk]at hx
   simp only[oq]at hx
   obtain⟨rfl,rfl,rfl,rfl,hc,hh⟩:=hx
   obtain⟨e1,e2⟩:=EM hh
   have c6:(κ' i).gO=false:=by rw[fP];rfl
   rw[jN i c6,hk]at jP
   simp only[ar.eN,ite_self]at jP
   obtain⟨r,mb,es,clock,seen,ks,mm,hi⟩:=jP
   have Ts:aJ (dS m κ κ' G1).H j 0 0=aJ G1.H j 0 0:=x3 e1 (by rw[e2];rfl)
   refine⟨r,mb,es,clock,seen,ks,mm,by simp only[dS,reβ,c6];exact hi.eX,hi.it,by rw[Ts];exact hi.tree,by rw[Ts];exact hi.inj,hi.node,by rw[Ts];exact hi.head,hi.map,hi.left,?_⟩
   rcases hc with rfl|rfl
   ·trivial
   ·exact hi.cur
  |_=>rw[hk]at hx;exact hx.elim
end
end Go.TM
