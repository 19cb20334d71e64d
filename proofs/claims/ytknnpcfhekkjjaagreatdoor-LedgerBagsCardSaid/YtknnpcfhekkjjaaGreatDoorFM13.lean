import Derived.Test.YtknnpcfhekkjjaaGreatDoorFM12
set_option linter.all false
namespace Go.TM
open Go.RowKit
variable [cn]
def aq.gN:aq->Bool
 |.none=>true
 |_=>false
theorem KN{b:aq}(h:b.gN=true):b=.none:=by cases b<;>simp[aq.gN]at h;rfl
def qu(m:Nat)(h:Nat->Nat->List PS->Option Value)(i V E v e:Nat):List PS->Option Value
 |[]=>if v=(jh m i V E).1/\e=0 then h V 0 []else if i<m/\v=0/\e=0 then h 0 0 []else none
 |s::q=>if v=(jh m i V E).1/\e=(jh m i V E).2 then h V E (s::q)else if i<m/\v=0/\e=0 then h 0 0 (s::q)else none
def Ep(v e:Nat)(p:List PS):Option Value:=match v,e,p with
 |0,0,[]=>some (.slice none 0 0)
 |_,_,_=>none
def wR(m:Nat)(κ κ':Nat->aq)(H:Nat->Nat->Nat->List PS->Option Value)(i v e:Nat)(p:List PS):Option Value:=
 match(κ' i).gN with
 |true=>none
 |false=>match κ i with
  |.tree V E _=>qu m (H i) i V E v e p
  |.fz V _=>qu m (H i) i V 0 v e p
  |.held=>qu m (H i) i 0 0 v e p
  |.none=>Ep v e p
  |_=>if i<m/\v=0/\e=0 then H i 0 0 p else none
def reβ(κ':Nat->aq)(β:Nat->Option Nat)(i:Nat):Option Nat:=match(κ' i).gN with
 |true=>none
 |false=>β i
def dR(m:Nat)(κ κ':Nat->aq)(G:Gh):Gh:={ G with β:=reβ κ' G.β,H:=wR m κ κ' G.H }
theorem Rr(m i V E E':Nat):(jh m i V E).1=(jh m i V E').1:=by
 unfold jh
 cases Nat.blt i m with
 |false=>rfl
 |true=>cases V with
  |zero=>cases E<;>cases E'<;>rfl
  |succ V=>rfl
theorem Er{m i V E:Nat}(hi:i<m)(h:(jh m i V E).1=0):V=0/\((jh m i V E).2=0->E=0):=by
 unfold jh at*
 have hb:Nat.blt i m=true:=by rw[Nat.blt_eq];exact hi
 rw[hb]at h⊢
 cases V with
 |zero=>cases E with
  |zero=>exact⟨rfl,fun _=>rfl⟩
  |succ E=>exact⟨rfl,fun h=>by simp at h⟩
 |succ V=>simp at h
theorem wS{m i V E:Nat}(hi:¬i<m):jh m i V E=(0,0):=by
 unfold jh
 have hb:Nat.blt i m=false:=by cases hb:Nat.blt i m with|false=>rfl|true=>rw[Nat.blt_eq]at hb;exact absurd hb hi
 rw[hb];rfl
theorem kU(m:Nat)(h:Nat->Nat->List PS->Option Value)(i V E:Nat)(s:PS)(q:List PS):qu m h i V E (jh m i V E).1 0 []=h V 0 []/\qu m h i V E (jh m i V E).1 (jh m i V E).2 (s::q)=h V E (s::q):=by
 simp[qu]
theorem xN{m:Nat}{h:Nat->Nat->List PS->Option Value}{i V E:Nat}(hi:i<m)(p:List PS):qu m h i V E 0 0 p=h 0 0 p:=by
 cases p with
 |nil=>
  simp only[qu]
  split
  ·rename_i hh;rw[(Er hi hh.1.symm).1]
  ·rw[if_pos (by simp[hi])]
 |cons s q=>
  simp only[qu]
  split
  ·rename_i hh;obtain⟨h1,h2⟩:=Er hi hh.1.symm;rw[h1,h2 hh.2.symm]
  ·rw[if_pos (by simp[hi])]
theorem Ci{m:Nat}{h:Nat->Nat->List PS->Option Value}{i V E v:Nat}(hv:(jh m i V E).1<v)(e:Nat)(p:List PS):qu m h i V E v e p=none:=by
 cases p with
 |nil=>simp only[qu];rw[if_neg (by omega),if_neg (by omega)]
 |cons s q=>simp only[qu];rw[if_neg (by omega),if_neg (by omega)]
theorem Jo{m:Nat}{h:Nat->Nat->List PS->Option Value}{i V E e:Nat}(hv:(jh m i V E).2<e)(p:List PS):qu m h i V E (jh m i V E).1 e p=none:=by
 cases p with
 |nil=>simp only[qu];rw[if_neg (by omega),if_neg (by omega)]
 |cons s q=>simp only[qu];rw[if_neg (by omega),if_neg (by omega)]
section
variable {m:Nat} {κ κ':Nat->aq} {G:Gh} {w:World}
theorem oX{H:Nat->Nat->Nat->List PS->Option Value}{i V E:Nat}{d:DV}(hk:κ i=.tree V E d)(hn:(κ' i).gN=false)(p:List PS):aH (wR m κ κ' H) i (jh m i V E).1 (jh m i V E).2 p=aH H i V E p:=by
 cases p with
 |nil=>simp only[aH,wR,hn,hk];exact(kU m (H i) i V E (.el 0 0) []).1
 |cons s q=>simp only[aH,wR,hn,hk];exact(kU m (H i) i V E s q).2
theorem Cj(m i:Nat):jh m i 0 0=(0,0):=by
 unfold jh
 cases Nat.blt i m<;>rfl
theorem xO{H:Nat->Nat->Nat->List PS->Option Value}{i:Nat}(hk:κ i=.held)(hn:(κ' i).gN=false):aH (wR m κ κ' H) i 0 0=aH H i 0 0:=by
 have e:=Cj m i
 funext p
 cases p with
 |nil=>
  simp only[aH,wR,hn,hk]
  have:=(kU m (H i) i 0 0 (.el 0 0) []).1
  rw[e]at this;exact this
 |cons s q=>
  simp only[aH,wR,hn,hk]
  have:=(kU m (H i) i 0 0 s q).2
  rw[e]at this;exact this
theorem Es{a b:aq}(h:match a,b with| .held,.held=>True|_,_=>False):a=.held/\b=.held:=by
 split at h
 ·exact⟨rfl,rfl⟩
 ·exact h.elim
theorem Rs{v:AV}{i ver ep:Nat}{p:List PS}(h:j4 m κ v=.own i ver ep p):(∃V E e d,v=.own i V e p/\κ i=.tree V E d/\(p=[]\/e=E)/\ver=(jh m i V E).1/\ep=(jh m i V E).2)\/∃e,v=.own i 0 e p/\κ i=.held/\(p=[]\/e=0)/\ver=0/\ep=0:=by
 cases v with
 |own j V e q=>
  simp only[j4]at h
  split at h
  ·rename_i V' E' d hk
   cases hb:Nat.beq V V'&&(emp q||Nat.beq e E')with
   |false=>rw[hb]at h;cases h
   |true=>
    rw[hb]at h
    obtain⟨rfl,hc⟩:=dC hb
    simp only[cond_true,AV.own.injEq]at h
    obtain⟨rfl,h1,h2,rfl⟩:=h
    exact .inl ⟨V,E',e,d,rfl,hk,hc,h1.symm,h2.symm⟩
  ·rename_i hk
   cases hb:Nat.beq V 0&&(emp q||Nat.beq e 0)with
   |false=>rw[hb]at h;cases h
   |true=>
    rw[hb]at h
    obtain⟨rfl,hc⟩:=dC hb
    simp only[cond_true,AV.own.injEq]at h
    obtain⟨rfl,h1,h2,rfl⟩:=h
    exact .inr ⟨e,rfl,hk,hc,h1.symm,h2.symm⟩
  ·cases h
 |loc j V e q a b c=>
  simp only[j4]at h
  split at h
  ·rename_i V' E' d hk
   cases hb:Nat.beq V V'&&(emp q||Nat.beq e E')<;>rw[hb]at h<;>cases h
  ·cases h
 |pre j V e q a b c=>
  simp only[j4]at h
  split at h
  ·rename_i V' E' d hk
   cases hb:Nat.beq V V'&&(emp q||Nat.beq e E')<;>rw[hb]at h<;>cases h
  ·cases h
 |cq j V=>
  simp only[j4]at h
  split at h
  ·rename_i V' E' d hk
   cases hb:Nat.beq V V'<;>rw[hb]at h<;>cases h
  ·cases h
 |_=>simp[j4]at h
theorem Nh{v:AV}{i ver:Nat}(h:j4 m κ v=.cq i ver):∃V E d,v=.cq i V/\κ i=.tree V E d/\ver=(jh m i V E).1:=by
 cases v with
 |cq j V=>
  simp only[j4]at h
  split at h
  ·rename_i V' E' d hk
   cases hb:Nat.beq V V' with
   |false=>rw[hb]at h;cases h
   |true=>
    rw[hb]at h
    have:=abL hb
    subst this
    simp only[cond_true,AV.cq.injEq]at h
    obtain⟨rfl,h1⟩:=h
    exact⟨V,E',d,rfl,hk,h1.symm⟩
  ·cases h
 |own j V e q=>
  simp only[j4]at h
  split at h
  ·rename_i V' E' d hk
   cases hb:Nat.beq V V'&&(emp q||Nat.beq e E')<;>rw[hb]at h<;>cases h
  ·cases hb:Nat.beq V 0&&(emp q||Nat.beq e 0)<;>rw[hb]at h<;>cases h
  ·cases h
 |loc j V e q a b c=>
  simp only[j4]at h
  split at h
  ·rename_i V' E' d hk
   cases hb:Nat.beq V V'&&(emp q||Nat.beq e E')<;>rw[hb]at h<;>cases h
  ·cases h
 |pre j V e q a b c=>
  simp only[j4]at h
  split at h
  ·rename_i V' E' d hk
   cases hb:Nat.beq V V'&&(emp q||Nat.beq e E')<;>rw[hb]at h<;>cases h
  ·cases h
 |_=>simp[j4]at h
theorem Rt{v:AV}{i ver ep a b c:Nat}{p:List PS}(h:j4 m κ v=.loc i ver ep p a b c):∃V E e d,v=.loc i V e p a b c/\κ i=.tree V E d/\(p=[]\/e=E)/\ver=(jh m i V E).1/\ep=(jh m i V E).2:=by
 cases v with
 |loc j V e q a b c=>
  simp only[j4]at h
  split at h
  ·rename_i V' E' d hk
   cases hb:Nat.beq V V'&&(emp q||Nat.beq e E')with
   |false=>rw[hb]at h;cases h
   |true=>
    rw[hb]at h
    obtain⟨rfl,hc⟩:=dC hb
    simp only[cond_true,AV.loc.injEq]at h
    obtain⟨rfl,h1,h2,rfl,rfl,rfl,rfl⟩:=h
    exact⟨V,E',e,d,rfl,hk,hc,h1.symm,h2.symm⟩
  ·cases h
 |pre j V e q a b c=>
  simp only[j4]at h
  split at h
  ·rename_i V' E' d hk
   cases hb:Nat.beq V V'&&(emp q||Nat.beq e E')<;>rw[hb]at h<;>cases h
  ·cases h
 |own j V e q=>
  simp only[j4]at h
  split at h
  ·rename_i V' E' d hk
   cases hb:Nat.beq V V'&&(emp q||Nat.beq e E')<;>rw[hb]at h<;>cases h
  ·cases hb:Nat.beq V 0&&(emp q||Nat.beq e 0)<;>rw[hb]at h<;>cases h
  ·cases h
 |cq j V=>
  simp only[j4]at h
  split at h
  ·rename_i V' E' d hk
   cases hb:Nat.beq V V'<;>rw[hb]at h<;>cases h
  ·cases h
 |_=>simp[j4]at h
theorem Ru{v:AV}{i ver ep a b c:Nat}{p:List PS}(h:j4 m κ v=.pre i ver ep p a b c):∃V E e d,v=.pre i V e p a b c/\κ i=.tree V E d/\(p=[]\/e=E)/\ver=(jh m i V E).1/\ep=(jh m i V E).2:=by
 cases v with
 |pre j V e q a b c=>
  simp only[j4]at h
  split at h
  ·rename_i V' E' d hk
   cases hb:Nat.beq V V'&&(emp q||Nat.beq e E')with
   |false=>rw[hb]at h;cases h
   |true=>
    rw[hb]at h
    obtain⟨rfl,hc⟩:=dC hb
    simp only[cond_true,AV.pre.injEq]at h
    obtain⟨rfl,h1,h2,rfl,rfl,rfl,rfl⟩:=h
    exact⟨V,E',e,d,rfl,hk,hc,h1.symm,h2.symm⟩
  ·cases h
 |loc j V e q a b c=>
  simp only[j4]at h
  split at h
  ·rename_i V' E' d hk
   cases hb:Nat.beq V V'&&(emp q||Nat.beq e E')<;>rw[hb]at h<;>cases h
  ·cases h
 |own j V e q=>
  simp only[j4]at h
  split at h
  ·rename_i V' E' d hk
   cases hb:Nat.beq V V'&&(emp q||Nat.beq e E')<;>rw[hb]at h<;>cases h
  ·cases hb:Nat.beq V 0&&(emp q||Nat.beq e 0)<;>rw[hb]at h<;>cases h
  ·cases h
 |cq j V=>
  simp only[j4]at h
  split at h
  ·rename_i V' E' d hk
   cases hb:Nat.beq V V'<;>rw[hb]at h<;>cases h
  ·cases h
 |_=>simp[j4]at h
theorem Ck{b:aq}(h:b.Ni=true):b.gN=false:=by cases b<;>simp[aq.Ni]at h<;>rfl
theorem Cl{b:aq}{v e:Nat}(h:b.W8 v e=true):b.gN=false:=by cases b<;>simp[aq.W8]at h<;>rfl
theorem sF:∀{l' l:List AV},dT m κ κ' l' l->l'.length=l.length
 |[],[],_=>rfl
 |[],_::_,h=>by simp[dT]at h
 |_::_,[],h=>by simp[dT]at h
 |_::_,_::_,h=>by simp only[dT]at h;simp[sF h.2]
theorem oY{κc:Nat->aq}{F:List Nat}{G1:Gh}(hle:Gh.Le G G1)(hβ:G1.β=G.β)(hH:G1.H=G.H)(Nj:∀i,i∈F->κc i=κ i)(lD:Fit G1 w (ay κc (kB κ F))):∀(N:Nat),
 (∀(u v:AV) (x:Value),SizeOf.sizeOf u<N->fG m κ κ' u v->AV.sc κ' u=true->(∀i,i∈xP κ u v->i∈F)->aG G v x->aG (dR m κ κ' G1) u x)/\
 (∀(us vs:List AV) (xs:List Value),SizeOf.sizeOf us<N->dT m κ κ' us vs->AV.Jp κ' us=true->(∀i,i∈dh κ us vs->i∈F)->cj G vs xs->cj (dR m κ κ' G1) us xs):=by
 intro N
 induction N with
 |zero=>exact⟨fun _ _ _ h=>by omega,fun _ _ _ h=>by omega⟩
 |succ N ih=>
  have BX:∀{i b:Nat},G.β i=some b->(κ' i).gN=false->(dR m κ κ' G1).β i=some b:=fun {i b} h hn=>by simp only[dR,reβ,hn,hβ];exact h
  refine⟨fun u v x aV hs hc hF hv=>?_,fun us vs xs aV hs hc hF hr=>?_⟩
  ·cases u with
   |any=>exact .any _
   |dv d'=>
    simp only[fG,XU]at hs
    split at hs
    ·rename_i d ids hd
     simp only[xP,XW,hd]at hF
     exact .dv (hs _ x (uv (κ:=κ) (κ':=κc) (w:=w) (G':=G1) hd hF Nj hle lD hv))
    ·exact hs.elim
   |agg l'=>
    cases v with
    |agg l=>
     simp only[fG]at hs
     simp only[AV.sc]at hc
     simp only[xP]at hF
     cases hv with|agg _ ys hl hr=>
     have:=ih.2 l' l ys (by simp at aV;omega) hs hc hF ⟨hl,hr⟩
     exact .agg l' ys this.1 this.2
    |_=>simp[fG]at hs
   |fL l'=>
    cases v with
    |fL l=>
     simp only[fG]at hs
     simp only[AV.sc]at hc
     simp only[xP]at hF
     cases hv with|fL _ ys hl hr=>
     have:=ih.2 l' l ys (by simp at aV;omega) hs hc hF ⟨hl,hr⟩
     exact .fL l' ys this.1 this.2
    |_=>simp[fG]at hs
   |fn f' l'=>
    cases v with
    |fn f l=>
     simp only[fG]at hs
     simp only[AV.sc]at hc
     simp only[xP]at hF
     obtain⟨rfl,hs⟩:=hs
     cases hv with|fn _ _ ys hl hr=>
     have:=ih.2 l' l ys (by simp at aV;omega) hs hc hF ⟨hl,hr⟩
     exact .fn f l' ys this.1 this.2
    |_=>simp[fG]at hs
   |jV f' l'=>
    cases v with
    |jV f l=>
     simp only[fG]at hs
     simp only[AV.sc]at hc
     simp only[xP]at hF
     obtain⟨rfl,hs⟩:=hs
     cases hv with|jV _ _ ys hl hr=>
     have:=ih.2 l' l ys (by simp at aV;omega) hs hc hF ⟨hl,hr⟩
     exact .jV f l' ys this.1 this.2
    |_=>simp[fG]at hs
   |ptr i off=>
    simp only[fG]at hs
    simp only[AV.sc]at hc
    subst hs
    cases hv with|ptr _ _ b hb=>exact .ptr i off b (BX hb (Ck hc))
   |eN i=>
    simp only[fG]at hs
    simp only[AV.sc]at hc
    subst hs
    cases hv with|eN _ l hb=>exact .eN i l (BX hb (Ck hc))
   |sle i k=>
    simp only[fG]at hs
    simp only[AV.sc]at hc
    subst hs
    cases hv with|sle _ _ b hb=>exact .sle i k b (BX hb (Ck hc))
   |own i ver ep p=>
    simp only[fG]at hs
    simp only[AV.sc]at hc
    have cW:=Cl hc
    unfold Cm at hs
    split at hs
    ·obtain⟨rfl,rfl,rfl,hb,sz,dV⟩:=hs
     cases hv with|dv hv=>cases hv with|az=>
     refine .own i 0 0 [] _ ?_ rfl
     simp only[aH,dR,wR,cW,hb,Ep]
    ·rcases Rs hs with⟨V,E,e,d,Q5,hk,dJ,rfl,rfl⟩|⟨e,Q5,hk,dJ,rfl,rfl⟩
     ·have hv:=AF hv
      rw[Q5]at hv
      cases hv with|own _ _ _ _ _ hh lF=>
      refine .own i _ _ p x ?_ lF
      rw[cV dJ]at hh
      simp only[dR]
      rw[oX hk cW,hH];exact hh
     ·have hv:=AF hv
      rw[Q5]at hv
      cases hv with|own _ _ _ _ _ hh lF=>
      refine .own i _ _ p x ?_ lF
      rw[cV dJ]at hh
      simp only[dR]
      rw[xO hk cW,hH];exact hh
   |loc i ver ep p a b c=>
    simp only[fG]at hs
    simp only[AV.sc]at hc
    have cW:=Cl hc
    obtain⟨V,E,e,d,rfl,hk,dJ,rfl,rfl⟩:=Rt hs
    cases hv with
    |loc _ _ _ _ _ _ _ A q q' hh=>
     refine .loc i _ _ p a b c A q q' ?_
     rw[cV dJ]at hh
     simp only[dR]
     rw[oX hk cW,hH];exact hh
    |qo _ _ _ _ _ _ _ A hh=>
     refine .qo i _ _ p a b c A ?_
     rw[cV dJ]at hh
     simp only[dR]
     rw[oX hk cW,hH];exact hh
   |pre i ver ep p a b c=>
    simp only[fG]at hs
    simp only[AV.sc]at hc
    have cW:=Cl hc
    obtain⟨V,E,e,d,rfl,hk,dJ,rfl,rfl⟩:=Ru hs
    cases hv with
    |pre _ _ _ _ _ _ _ q q' hh=>
     refine .pre i _ _ p a b c q q' fun hn=>?_
     obtain⟨A,N,c',hh,e2⟩:=hh hn
     refine⟨A,N,c',?_,e2⟩
     rw[cV dJ]at hh
     simp only[dR]
     rw[oX hk cW,hH];exact hh
   |cq i ver=>
    simp only[fG]at hs
    simp only[AV.sc]at hc
    have cW:=Cl hc
    obtain⟨V,E,d,rfl,hk,rfl⟩:=Nh hs
    cases hv with|cq _ _ A q hh=>
    refine .cq i _ A q ?_
    have:=oX (m:=m) (H:=G1.H) hk cW []
    simp only[aH]at this
    simp only[dR]
    rw[this,hH];exact hh
   |opt g u=>simp[AV.sc]at hc
  ·cases us with
   |nil=>
    cases vs with
    |nil=>exact⟨hr.1,by simp⟩
    |cons=>simp[dT]at hs
   |cons u us=>
    cases vs with
    |nil=>simp[dT]at hs
    |cons v vs=>
     simp only[dT]at hs
     simp only[AV.Jp,acj]at hc
     simp only[dh]at hF
     match xs,hr with
     |[],hr=>have:=hr.1;simp at this
     |x::xs,hr=>
      have h1:=ih.1 u v x (by simp at aV;omega) hs.1 hc.1 (fun i hi=>hF i (by simp[hi])) (hr.2 0 v x rfl rfl)
      have h2:=ih.2 us vs xs (by simp at aV;omega) hs.2 hc.2 (fun i hi=>hF i (by simp[hi])) ⟨by simpa using hr.1,fun q e y he hy=>hr.2 (q+1) e y (by simpa using he) (by simpa using hy)⟩
      refine⟨by simp[h2.1],fun j d y hd hy=>?_⟩
      cases j with
      |zero=>simp at hd hy;subst hd;subst hy;exact h1
      |succ j=>exact h2.2 j d y (by simpa using hd) (by simpa using hy)
theorem xQ:∀{F:List Nat},Aa κ' F=true->∀i,i∈F->∀v e d,κ' i≠.tree v e d
 |[],_,i,hi,_,_,_=>by simp at hi
 |j::F,h,i,hi,v,e,d=>by
  simp only[Aa,acj]at h
  rcases abO.1 hi with rfl|hi
  ·intro hk;rw[hk]at h;cases h.1
  ·exact xQ h.2 i hi v e d
def Et(m:Nat)(κ κ':Nat->aq)(F:List Nat)(i:Nat):Prop:=oA m κ κ' i (κ i) (κ' i)/\(κ' i).W9 κ'=true/\∀j,j∈vI κ i (κ i) (κ' i)->j∈F
theorem Tx{κc:Nat->aq}{F:List Nat}{G1:Gh}(hf:Fit G w κc)(hle:Gh.Le G G1)(hβ:G1.β=G.β)(hH:G1.H=G.H)(hX:G1.X=G.X)(Nj:∀i,i∈F->κc i=κ i)(UZ:∀i,(κ' i).gN=false->κc i=κ i)(lD:Fit G1 w (ay κc (kB κ F)))(dQ:Aa κ' F=true)(hs:∀i,Et m κ κ' F i):
 Fit (dR m κ κ' G1) w κ'/\∀i b,cx (dR m κ κ' G1) i (κ' i) b->cx G1 i (ay κc (kB κ F) i) b:=by
 have U0:=oZ (κ:=κ) (κ':=κc) (ids:=F) Nj
 have dw:∀j,(κ' j).gN=false->ay κc (kB κ F) j=if j∈F then(κ j).eU else κ j:=fun j hj=>by rw[U0,UZ j hj]
 have jy:∀i b,cx (dR m κ κ' G1) i (κ' i) b->cx G1 i (ay κc (kB κ F) i) b:=by
  intro i b ho
  obtain⟨hx,Hh,vJ⟩:=hs i
  cases fN:κ' i with
  |none=>rw[fN]at ho;exact ho.elim
  |dead=>rw[fN]at ho;exact ho.elim
  |fz=>rw[fN]at ho;exact ho.elim
  |cells l'=>
   rw[fN]at ho hx
   cases hk:κ i with
   |cells l=>
    have ez:ay κc (kB κ F) i=.cells l:=by rw[dw i (by rw[fN];rfl),hk];simp[aq.eU]
    rw[ez]
    simp only[cx,dR,reβ,fN,aq.gN]at ho⊢
    exact ho
   |_=>rw[hk]at hx;exact hx.elim
  |tree v e d'=>
   rw[fN]at ho hx
   cases hk:κ i with
   |tree V E d=>
    rw[hk]at hx
    simp only[oA]at hx
    obtain⟨hx,rfl⟩:=hx
    have hnf:i∉F:=fun hi=>xQ dQ i hi _ _ _ fN
    have ez:ay κc (kB κ F) i=.tree V E d:=by rw[dw i (by rw[fN];rfl),if_neg hnf,hk]
    rw[ez]
    have e1:v=(jh m i V E).1:=by rw[hx]
    have e2:e=(jh m i V E).2:=by rw[hx]
    subst e1;subst e2
    obtain⟨p,nd,u,h1,h2,h3,h4⟩:=ho
    simp only[dR]at h3
    rw[oX hk (by rw[fN];rfl)]at h3
    exact⟨p,nd,u,h1,h2,h3,h4⟩
   |none=>
    rw[hk]at hx
    simp only[oA]at hx
    obtain⟨rfl,rfl,sz,rfl⟩:=hx
    obtain⟨p,nd,u,h1,h2,h3,h4⟩:=ho
    cases p with
    |nil=>
     simp only[aH,dR,wR,fN,aq.gN,hk,Ep,Option.some.injEq]at h3
     subst h3;simp[cF]at h4
    |cons s p=>cases s<;>simp[get,step]at h1
   |_=>rw[hk]at hx;exact hx.elim
  |c8 rc st l'=>
   rw[fN]at ho hx
   cases hk:κ i with
   |c8 rc0 st0 l=>
    have ez:ay κc (kB κ F) i=.c8 rc0 st0 l:=by rw[dw i (by rw[fN];rfl),hk];simp[aq.eU]
    rw[ez]
    simp only[cx,dR,reβ,fN,aq.gN]at ho⊢
    exact ho
   |_=>rw[hk]at hx;exact hx.elim
  |held=>rw[fN]at ho;exact ho.elim
  |kz j' p' d' Nl Rv=>
   rw[fN]at ho hx
   cases hk:κ i with
   |kz j p d left cur=>
    rw[hk]at hx
    simp only[oA]at hx
    obtain⟨rfl,rfl,rfl,rfl,_,hh⟩:=hx
    obtain⟨e1,e2⟩:=Es hh
    have ez:ay κc (kB κ F) i=.kz j p d left cur:=by rw[dw i (by rw[fN];rfl),hk];simp[aq.eU]
    rw[ez]
    simp only[cx,dR,reβ,fN,aq.gN]at ho⊢
    rw[xO e1 (by rw[e2];rfl)]at ho
    exact ho
   |_=>rw[hk]at hx;exact hx.elim
 refine⟨⟨lD.sub,fun i=>?_,fun i b ho=>lD.own i b (jy i b ho),fun i j b ho jz=>lD.inj i j b (jy i b ho) (jy j b jz)⟩,jy⟩
 obtain⟨hx,Hh,vJ⟩:=hs i
 have iZ:=lD.box i
 cases fN:κ' i with
 |none=>exact⟨by simp[dR,reβ,fN,aq.gN],fun v e p=>by simp[dR,wR,fN,aq.gN]⟩
 |dead=>trivial
 |cells l'=>
  rw[fN]at hx Hh vJ
  cases hk:κ i with
  |cells l=>
   rw[hk]at hx vJ
   simp only[oA]at hx
   simp only[vI]at vJ
   simp only[aq.W9,acj]at Hh
   have hb:=hf.box i
   rw[UZ i (by rw[fN];rfl),hk]at hb
   obtain⟨b,c,t,lC,hw,aV,mq,hr⟩:=hb
   have hlen:=sF hx
   refine⟨b,c,t,by simp only[dR,reβ,fN,aq.gN,hβ];exact lC,hw,by rw[aV,hlen],fS Hh.2,fun j d v hd hv=>?_⟩
   have:=(oY (m:=m) (κ:=κ) (κ':=κ') (w:=w) hle hβ hH Nj lD (SizeOf.sizeOf l'+1)).2 l' l c.toList (by omega) hx Hh.1 vJ ⟨by simp[aV],fun j d v hd hv=>hr j d v hd (by simpa using hv)⟩
   exact this.2 j d v hd (by simpa using hv)
  |_=>rw[hk]at hx;exact hx.elim
 |tree v e d'=>
  rw[fN]at hx
  cases hk:κ i with
  |tree V E d=>
   rw[hk]at hx
   simp only[oA]at hx
   obtain⟨hx,rfl⟩:=hx
   have hnf:i∉F:=fun hi=>xQ dQ i hi _ _ _ fN
   rw[dw i (by rw[fN];rfl),if_neg hnf,hk]at iZ
   have e1:v=(jh m i V E).1:=by rw[hx]
   have e2:e=(jh m i V E).2:=by rw[hx]
   subst e1;subst e2
   have cW:(κ' i).gN=false:=by rw[fN];rfl
   have Ty:aH (dR m κ κ' G1).H i (jh m i V E).1 (jh m i V E).2=aH G1.H i V E:=funext fun p=>by simp only[dR];exact oX hk cW p
   refine⟨?_,?_,fun v hv e p=>?_,fun e he p=>?_⟩
   ·rw[Ty];exact iZ.1
   ·rw[Ty];exact iZ.2.1
   ·simp only[dR,wR,cW,hk];exact Ci hv e p
   ·simp only[dR,wR,cW,hk];exact Jo he p
  |none=>
   rw[hk]at hx
   simp only[oA]at hx
   obtain⟨rfl,rfl,sz,rfl⟩:=hx
   have cW:(κ' i).gN=false:=by rw[fN];rfl
   have h0:aH (dR m κ κ' G1).H i 0 0 []=some (.slice none 0 0):=by simp only[aH,dR,wR,cW,hk,Ep]
   refine⟨⟨rfl,fun p nd hp hn=>?_⟩,?_,fun v hv e p=>?_,fun e he p=>?_⟩
   ·cases p with
    |nil=>
     simp only[get,Option.some.injEq]at hp
     subst hp
     exact⟨_,h0,rfl,.inl ⟨rfl,rfl⟩⟩
    |cons s p=>cases s<;>simp[get,step]at hp
   ·intro p q nd md u v b h1 h2 h3 h4 h5 h6 h7 h8
    cases p with
    |nil=>rw[h0]at h3;injection h3 with h3;subst h3;simp[cF]at h4
    |cons s p=>cases s<;>simp[get,step]at h1
   ·simp only[dR,wR,cW,hk]
    cases v with
    |zero=>omega
    |succ v=>rfl
   ·simp only[dR,wR,cW,hk]
    cases e with
    |zero=>omega
    |succ e=>rfl
  |_=>rw[hk]at hx;exact hx.elim
 |fz v d'=>
  rw[fN]at hx vJ
  have cW:(κ' i).gN=false:=by rw[fN];rfl
  cases hk:κ i with
  |tree V E d=>
   rw[hk]at hx vJ
   simp only[oA]at hx
   obtain⟨rfl,hx⟩:=hx
   have hi:i∈F:=vJ i (by simp[vI])
   rw[dw i cW,if_pos hi,hk]at iZ
   obtain⟨u,h1,h2,h3⟩:=iZ
   refine⟨u,?_,h2,hx _ _ h3⟩
   simp only[dR,wR,cW,hk]
   rw[Rr m i V 0 E,(kU m (G1.H i) i V E (.el 0 0) []).1]
   exact h1
  |fz V d=>
   rw[hk]at hx
   simp only[oA]at hx
   obtain⟨rfl,hx⟩:=hx
   have ez:ay κc (kB κ F) i=.fz V d:=by rw[dw i cW,hk];simp[aq.eU]
   rw[ez]at iZ
   obtain⟨u,h1,h2,h3⟩:=iZ
   refine⟨u,?_,h2,hx _ _ h3⟩
   simp only[dR,wR,cW,hk]
   rw[(kU m (G1.H i) i V 0 (.el 0 0) []).1]
   exact h1
  |_=>rw[hk]at hx;exact hx.elim
 |c8 rc st l'=>
  rw[fN]at hx Hh vJ
  cases hk:κ i with
  |c8 rc0 st0 l=>
   rw[hk]at hx vJ
   simp only[oA]at hx
   simp only[vI]at vJ
   simp only[aq.W9]at Hh
   obtain⟨rfl,rfl,hx⟩:=hx
   have hb:=hf.box i
   rw[UZ i (by rw[fN];rfl),hk]at hb
   obtain⟨b,fn,tmps,D,lC,hw,hr⟩:=hb
   exact⟨b,fn,tmps,D,by simp only[dR,reβ,fN,aq.gN,hβ];exact lC,hw,(oY (m:=m) (κ:=κ) (κ':=κ') (w:=w) hle hβ hH Nj lD (SizeOf.sizeOf l'+1)).2 l' l tmps.toList (by omega) hx Hh vJ hr⟩
  |_=>rw[hk]at hx;exact hx.elim
 |held=>
  rw[fN]at hx
  cases hk:κ i with
  |held=>
   have cW:(κ' i).gN=false:=by rw[fN];rfl
   refine⟨fun v hv e p=>?_,fun e he p=>?_⟩
   ·simp only[dR,wR,cW,hk]
    exact Ci (by rw[Cj];exact hv) e p
   ·simp only[dR,wR,cW,hk]
    have:=Jo (m:=m) (h:=G1.H i) (i:=i) (V:=0) (E:=0) (e:=e) (by rw[Cj];exact he) p
    rw[Cj]at this
    exact this
  |_=>rw[hk]at hx;exact hx.elim
 |kz j' p' d' Nl Rv=>
  rw[fN]at hx
  cases hk:κ i with
  |kz j p d left cur=>
   rw[hk]at hx
   simp only[oA]at hx
   obtain⟨rfl,rfl,rfl,rfl,hc,hh⟩:=hx
   obtain⟨e1,e2⟩:=Es hh
   have cW:(κ' i).gN=false:=by rw[fN];rfl
   rw[dw i cW,hk]at iZ
   simp only[aq.eU,ite_self]at iZ
   obtain⟨r,mb,es,clock,seen,ks,mm,hi⟩:=iZ
   have Ty:aH (dR m κ κ' G1).H j 0 0=aH G1.H j 0 0:=xO e1 (by rw[e2];rfl)
   refine⟨r,mb,es,clock,seen,ks,mm,by simp only[dR,reβ,cW];exact hi.fe,hi.it,by rw[Ty];exact hi.tree,by rw[Ty];exact hi.inj,hi.node,by rw[Ty];exact hi.head,hi.map,hi.left,?_⟩
   rcases hc with rfl|rfl
   ·trivial
   ·exact hi.cur
  |_=>rw[hk]at hx;exact hx.elim
end
end Go.TM
