import Derived.Test.YtpbdohkbiklflaaGreatDoorPM12
set_option linter.unusedVariables false
set_option linter.unusedSimpArgs false
set_option linter.unusedSectionVars false
namespace Go.TM
open Go.RowKit
variable [ct]
def ao.fA:ao→Bool
 | .none=>true
 | _=>false
theorem Hg {b:ao} (h:b.fA=true):b=.none:=by cases b <;> simp [ao.fA] at h; rfl
def oj (m:Nat) (h:Nat→Nat→List PS→Option Value) (i V E v e:Nat):List PS→Option Value
 | []=>if v=(iA m i V E).1∧e=0 then h V 0 [] else if i<m∧v=0∧e=0 then h 0 0 [] else none
 | s::q=>if v=(iA m i V E).1∧e=(iA m i V E).2 then h V E (s::q) else if i<m∧v=0∧e=0 then h 0 0 (s::q) else none
def BA (v e:Nat) (p:List PS):Option Value:=match v,e,p with
 | 0,0,[]=>some (.slice none 0 0)
 | _,_,_=>none
def tN (m:Nat) (κ κ':Nat→ao) (H:Nat→Nat→Nat→List PS→Option Value) (i v e:Nat) (p:List PS):Option Value :=
 match (κ' i).fA with
 | true=>none
 | false=>match κ i with
  | .tree V E _=>oj m (H i) i V E v e p
  | .fz V _=>oj m (H i) i V 0 v e p
  | .held=>oj m (H i) i 0 0 v e p
  | .none=>BA v e p
  | _=>if i<m∧v=0∧e=0 then H i 0 0 p else none
def reβ (κ':Nat→ao) (β:Nat→Option Nat) (i:Nat):Option Nat:=match (κ' i).fA with
 | true=>none
 | false=>β i
def dA (m:Nat) (κ κ':Nat→ao) (G:Gh):Gh:={ G with β:=reβ κ' G.β,H:=tN m κ κ' G.H }
theorem Mi (m i V E E':Nat):(iA m i V E).1=(iA m i V E').1:=by
 unfold iA
 cases Nat.blt i m with
 | false=>rfl
 | true=>cases V with
  | zero=>cases E <;> cases E' <;> rfl
  | succ V=>rfl
theorem BB {m i V E:Nat} (hi:i<m) (h:(iA m i V E).1=0):V=0∧((iA m i V E).2=0→E=0):=by
 unfold iA at *
 have hb:Nat.blt i m=true:=by rw [Nat.blt_eq]; exact hi
 rw [hb] at h ⊢
 cases V with
 | zero=>cases E with
  | zero=>exact ⟨rfl,fun _=>rfl⟩
  | succ E=>exact ⟨rfl,fun h=>by simp at h⟩
 | succ V=>simp at h
theorem tO {m i V E:Nat} (hi:¬ i<m):iA m i V E=(0,0):=by
 unfold iA
 have hb:Nat.blt i m=false:=by cases hb:Nat.blt i m with | false=>rfl | true=>rw [Nat.blt_eq] at hb; exact absurd hb hi
 rw [hb]; rfl
theorem jx (m:Nat) (h:Nat→Nat→List PS→Option Value) (i V E:Nat) (s:PS) (q:List PS):oj m h i V E (iA m i V E).1 0 []=h V 0 []∧oj m h i V E (iA m i V E).1 (iA m i V E).2 (s::q)=h V E (s::q):=by
 simp [oj]
theorem uW {m:Nat} {h:Nat→Nat→List PS→Option Value} {i V E:Nat} (hi:i<m) (p:List PS):oj m h i V E 0 0 p=h 0 0 p:=by
 cases p with
 | nil =>
  simp only [oj]
  split
  ·rename_i hh; rw [(BB hi hh.1.symm).1]
  ·rw [if_pos (by simp [hi])]
 | cons s q =>
  simp only [oj]
  split
  ·rename_i hh; obtain ⟨h1,h2⟩:=BB hi hh.1.symm; rw [h1,h2 hh.2.symm]
  ·rw [if_pos (by simp [hi])]
theorem zB {m:Nat} {h:Nat→Nat→List PS→Option Value} {i V E v:Nat} (hv:(iA m i V E).1<v) (e:Nat) (p:List PS):oj m h i V E v e p=none:=by
 cases p with
 | nil=>simp only [oj]; rw [if_neg (by omega),if_neg (by omega)]
 | cons s q=>simp only [oj]; rw [if_neg (by omega),if_neg (by omega)]
theorem FU {m:Nat} {h:Nat→Nat→List PS→Option Value} {i V E e:Nat} (hv:(iA m i V E).2<e) (p:List PS):oj m h i V E (iA m i V E).1 e p=none:=by
 cases p with
 | nil=>simp only [oj]; rw [if_neg (by omega),if_neg (by omega)]
 | cons s q=>simp only [oj]; rw [if_neg (by omega),if_neg (by omega)]
section
variable {m:Nat} {κ κ':Nat→ao} {G:Gh} {w:World}
theorem mT {H:Nat→Nat→Nat→List PS→Option Value} {i V E:Nat} {d:DV} (hk:κ i=.tree V E d) (hn:(κ' i).fA=false) (p:List PS):az (tN m κ κ' H) i (iA m i V E).1 (iA m i V E).2 p=az H i V E p:=by
 cases p with
 | nil=>simp only [az,tN,hn,hk]; exact (jx m (H i) i V E (.el 0 0) []).1
 | cons s q=>simp only [az,tN,hn,hk]; exact (jx m (H i) i V E s q).2
theorem zC (m i:Nat):iA m i 0 0=(0,0):=by
 unfold iA
 cases Nat.blt i m <;> rfl
theorem uX {H:Nat→Nat→Nat→List PS→Option Value} {i:Nat} (hk:κ i=.held) (hn:(κ' i).fA=false):az (tN m κ κ' H) i 0 0=az H i 0 0:=by
 have e:=zC m i
 funext p
 cases p with
 | nil =>
  simp only [az,tN,hn,hk]
  have:=(jx m (H i) i 0 0 (.el 0 0) []).1
  rw [e] at this; exact this
 | cons s q =>
  simp only [az,tN,hn,hk]
  have:=(jx m (H i) i 0 0 s q).2
  rw [e] at this; exact this
theorem BC {a b:ao} (h:match a,b with | .held,.held=>True | _,_=>False):a=.held∧b=.held:=by
 split at h
 ·exact ⟨rfl,rfl⟩
 ·exact h.elim
theorem Mj {v:AV} {i ver ep:Nat} {p:List PS} (h:kH m κ v=.own i ver ep p):(∃V E e d,v=.own i V e p∧κ i=.tree V E d∧(p=[] ∨ e=E)∧ver=(iA m i V E).1∧ep=(iA m i V E).2) ∨ ∃e,v=.own i 0 e p∧κ i=.held∧(p=[] ∨ e=0)∧ver=0∧ep=0:=by
 cases v with
 | own j V e q =>
  simp only [kH] at h
  split at h
  ·rename_i V' E' d hk
   cases hb:Nat.beq V V' && (emp q || Nat.beq e E') with
   | false=>rw [hb] at h; cases h
   | true =>
    rw [hb] at h
    obtain ⟨rfl,hc⟩:=di hb
    simp only [cond_true,AV.own.injEq] at h
    obtain ⟨rfl,h1,h2,rfl⟩:=h
    exact .inl ⟨V,E',e,d,rfl,hk,hc,h1.symm,h2.symm⟩
  ·rename_i hk
   cases hb:Nat.beq V 0 && (emp q || Nat.beq e 0) with
   | false=>rw [hb] at h; cases h
   | true =>
    rw [hb] at h
    obtain ⟨rfl,hc⟩:=di hb
    simp only [cond_true,AV.own.injEq] at h
    obtain ⟨rfl,h1,h2,rfl⟩:=h
    exact .inr ⟨e,rfl,hk,hc,h1.symm,h2.symm⟩
  ·cases h
 | loc j V e q a b c =>
  simp only [kH] at h
  split at h
  ·rename_i V' E' d hk
   cases hb:Nat.beq V V' && (emp q || Nat.beq e E') <;> rw [hb] at h <;> cases h
  ·cases h
 | pre j V e q a b c =>
  simp only [kH] at h
  split at h
  ·rename_i V' E' d hk
   cases hb:Nat.beq V V' && (emp q || Nat.beq e E') <;> rw [hb] at h <;> cases h
  ·cases h
 | bT j V =>
  simp only [kH] at h
  split at h
  ·rename_i V' E' d hk
   cases hb:Nat.beq V V' <;> rw [hb] at h <;> cases h
  ·cases h
 | _=>simp [kH] at h
theorem Jg {v:AV} {i ver:Nat} (h:kH m κ v=.bT i ver):∃V E d,v=.bT i V∧κ i=.tree V E d∧ver=(iA m i V E).1:=by
 cases v with
 | bT j V =>
  simp only [kH] at h
  split at h
  ·rename_i V' E' d hk
   cases hb:Nat.beq V V' with
   | false=>rw [hb] at h; cases h
   | true =>
    rw [hb] at h
    have:=Nat.eq_of_beq_eq_true hb
    subst this
    simp only [cond_true,AV.bT.injEq] at h
    obtain ⟨rfl,h1⟩:=h
    exact ⟨V,E',d,rfl,hk,h1.symm⟩
  ·cases h
 | own j V e q =>
  simp only [kH] at h
  split at h
  ·rename_i V' E' d hk
   cases hb:Nat.beq V V' && (emp q || Nat.beq e E') <;> rw [hb] at h <;> cases h
  ·cases hb:Nat.beq V 0 && (emp q || Nat.beq e 0) <;> rw [hb] at h <;> cases h
  ·cases h
 | loc j V e q a b c =>
  simp only [kH] at h
  split at h
  ·rename_i V' E' d hk
   cases hb:Nat.beq V V' && (emp q || Nat.beq e E') <;> rw [hb] at h <;> cases h
  ·cases h
 | pre j V e q a b c =>
  simp only [kH] at h
  split at h
  ·rename_i V' E' d hk
   cases hb:Nat.beq V V' && (emp q || Nat.beq e E') <;> rw [hb] at h <;> cases h
  ·cases h
 | _=>simp [kH] at h
theorem Mk {v:AV} {i ver ep a b c:Nat} {p:List PS} (h:kH m κ v=.loc i ver ep p a b c):∃V E e d,v=.loc i V e p a b c∧κ i=.tree V E d∧(p=[] ∨ e=E)∧ver=(iA m i V E).1∧ep=(iA m i V E).2:=by
 cases v with
 | loc j V e q a b c =>
  simp only [kH] at h
  split at h
  ·rename_i V' E' d hk
   cases hb:Nat.beq V V' && (emp q || Nat.beq e E') with
   | false=>rw [hb] at h; cases h
   | true =>
    rw [hb] at h
    obtain ⟨rfl,hc⟩:=di hb
    simp only [cond_true,AV.loc.injEq] at h
    obtain ⟨rfl,h1,h2,rfl,rfl,rfl,rfl⟩:=h
    exact ⟨V,E',e,d,rfl,hk,hc,h1.symm,h2.symm⟩
  ·cases h
 | pre j V e q a b c =>
  simp only [kH] at h
  split at h
  ·rename_i V' E' d hk
   cases hb:Nat.beq V V' && (emp q || Nat.beq e E') <;> rw [hb] at h <;> cases h
  ·cases h
 | own j V e q =>
  simp only [kH] at h
  split at h
  ·rename_i V' E' d hk
   cases hb:Nat.beq V V' && (emp q || Nat.beq e E') <;> rw [hb] at h <;> cases h
  ·cases hb:Nat.beq V 0 && (emp q || Nat.beq e 0) <;> rw [hb] at h <;> cases h
  ·cases h
 | bT j V =>
  simp only [kH] at h
  split at h
  ·rename_i V' E' d hk
   cases hb:Nat.beq V V' <;> rw [hb] at h <;> cases h
  ·cases h
 | _=>simp [kH] at h
theorem Ml {v:AV} {i ver ep a b c:Nat} {p:List PS} (h:kH m κ v=.pre i ver ep p a b c):∃V E e d,v=.pre i V e p a b c∧κ i=.tree V E d∧(p=[] ∨ e=E)∧ver=(iA m i V E).1∧ep=(iA m i V E).2:=by
 cases v with
 | pre j V e q a b c =>
  simp only [kH] at h
  split at h
  ·rename_i V' E' d hk
   cases hb:Nat.beq V V' && (emp q || Nat.beq e E') with
   | false=>rw [hb] at h; cases h
   | true =>
    rw [hb] at h
    obtain ⟨rfl,hc⟩:=di hb
    simp only [cond_true,AV.pre.injEq] at h
    obtain ⟨rfl,h1,h2,rfl,rfl,rfl,rfl⟩:=h
    exact ⟨V,E',e,d,rfl,hk,hc,h1.symm,h2.symm⟩
  ·cases h
 | loc j V e q a b c =>
  simp only [kH] at h
  split at h
  ·rename_i V' E' d hk
   cases hb:Nat.beq V V' && (emp q || Nat.beq e E') <;> rw [hb] at h <;> cases h
  ·cases h
 | own j V e q =>
  simp only [kH] at h
  split at h
  ·rename_i V' E' d hk
   cases hb:Nat.beq V V' && (emp q || Nat.beq e E') <;> rw [hb] at h <;> cases h
  ·cases hb:Nat.beq V 0 && (emp q || Nat.beq e 0) <;> rw [hb] at h <;> cases h
  ·cases h
 | bT j V =>
  simp only [kH] at h
  split at h
  ·rename_i V' E' d hk
   cases hb:Nat.beq V V' <;> rw [hb] at h <;> cases h
  ·cases h
 | _=>simp [kH] at h
theorem zD {b:ao} (h:b.Jh=true):b.fA=false:=by cases b <;> simp [ao.Jh] at h <;> rfl
theorem zE {b:ao} {v e:Nat} (h:b.Q7 v e=true):b.fA=false:=by cases b <;> simp [ao.Q7] at h <;> rfl
theorem ql:∀{l' l:List AV},eg m κ κ' l' l→l'.length=l.length
 | [],[],_=>rfl
 | [],_::_,h=>by simp [eg] at h
 | _::_,[],h=>by simp [eg] at h
 | _::_,_::_,h=>by simp only [eg] at h; simp [ql h.2]
theorem mU {κc:Nat→ao} {F:List Nat} {G1:Gh} (hle:Gh.Le G G1) (hβ:G1.β=G.β) (hH:G1.H=G.H) (Ji:∀i,i∈F→κc i=κ i) (iE:Fit G1 w (aw κc (jV κ F))):∀(N:Nat),
  (∀(u v:AV) (x:Value),SizeOf.sizeOf u<N→eN m κ κ' u v→AV.sc κ' u=true→(∀i,i∈uY κ u v→i∈F)→aE G v x→aE (dA m κ κ' G1) u x) ∧
  (∀(us vs:List AV) (xs:List Value),SizeOf.sizeOf us<N→eg m κ κ' us vs→AV.FV κ' us=true→(∀i,i∈dB κ us vs→i∈F)→bR G vs xs→bR (dA m κ κ' G1) us xs):=by
 intro N
 induction N with
 | zero=>exact ⟨fun _ _ _ h=>by omega,fun _ _ _ h=>by omega⟩
 | succ N ih =>
  have za:∀{i b:Nat},G.β i=some b→(κ' i).fA=false→(dA m κ κ' G1).β i=some b:=fun {i b} h hn=>by simp only [dA,reβ,hn,hβ]; exact h
  refine ⟨fun u v x aT hs hc hF hv=>?_,fun us vs xs aT hs hc hF hr=>?_⟩
  ·cases u with
   | any=>exact .any _
   | dv d' =>
    simp only [eN,RI] at hs
    split at hs
    ·rename_i d ids hd
     simp only [uY,RJ,hd] at hF
     exact .dv (hs _ x (rJ (κ:=κ) (κ':=κc) (w:=w) (G':=G1) hd hF Ji hle iE hv))
    ·exact hs.elim
   | agg l' =>
    cases v with
    | agg l =>
     simp only [eN] at hs
     simp only [AV.sc] at hc
     simp only [uY] at hF
     cases hv with | agg _ ys hl hr =>
     have:=ih.2 l' l ys (by simp at aT; omega) hs hc hF ⟨hl,hr⟩
     exact .agg l' ys this.1 this.2
    | _=>simp [eN] at hs
   | eP l' =>
    cases v with
    | eP l =>
     simp only [eN] at hs
     simp only [AV.sc] at hc
     simp only [uY] at hF
     cases hv with | eP _ ys hl hr =>
     have:=ih.2 l' l ys (by simp at aT; omega) hs hc hF ⟨hl,hr⟩
     exact .eP l' ys this.1 this.2
    | _=>simp [eN] at hs
   | fn f' l' =>
    cases v with
    | fn f l =>
     simp only [eN] at hs
     simp only [AV.sc] at hc
     simp only [uY] at hF
     obtain ⟨rfl,hs⟩:=hs
     cases hv with | fn _ _ ys hl hr =>
     have:=ih.2 l' l ys (by simp at aT; omega) hs hc hF ⟨hl,hr⟩
     exact .fn f l' ys this.1 this.2
    | _=>simp [eN] at hs
   | hJ f' l' =>
    cases v with
    | hJ f l =>
     simp only [eN] at hs
     simp only [AV.sc] at hc
     simp only [uY] at hF
     obtain ⟨rfl,hs⟩:=hs
     cases hv with | hJ _ _ ys hl hr =>
     have:=ih.2 l' l ys (by simp at aT; omega) hs hc hF ⟨hl,hr⟩
     exact .hJ f l' ys this.1 this.2
    | _=>simp [eN] at hs
   | ptr i off =>
    simp only [eN] at hs
    simp only [AV.sc] at hc
    subst hs
    cases hv with | ptr _ _ b hb=>exact .ptr i off b (za hb (zD hc))
   | fy i =>
    simp only [eN] at hs
    simp only [AV.sc] at hc
    subst hs
    cases hv with | fy _ l hb=>exact .fy i l (za hb (zD hc))
   | sle i k =>
    simp only [eN] at hs
    simp only [AV.sc] at hc
    subst hs
    cases hv with | sle _ _ b hb=>exact .sle i k b (za hb (zD hc))
   | own i ver ep p =>
    simp only [eN] at hs
    simp only [AV.sc] at hc
    have dm:=zE hc
    unfold zF at hs
    split at hs
    ·obtain ⟨rfl,rfl,rfl,hb,sz,cO⟩:=hs
     cases hv with | dv hv=>cases hv with | aG =>
     refine .own i 0 0 [] _ ?_ rfl
     simp only [az,dA,tN,dm,hb,BA]
    ·rcases Mj hs with ⟨V,E,e,d,UC,hk,dk,rfl,rfl⟩ | ⟨e,UC,hk,dk,rfl,rfl⟩
     ·have hv:=xU hv
      rw [UC] at hv
      cases hv with | own _ _ _ _ _ hh gU =>
      refine .own i _ _ p x ?_ gU
      rw [cK dk] at hh
      simp only [dA]
      rw [mT hk dm,hH]; exact hh
     ·have hv:=xU hv
      rw [UC] at hv
      cases hv with | own _ _ _ _ _ hh gU =>
      refine .own i _ _ p x ?_ gU
      rw [cK dk] at hh
      simp only [dA]
      rw [uX hk dm,hH]; exact hh
   | loc i ver ep p a b c =>
    simp only [eN] at hs
    simp only [AV.sc] at hc
    have dm:=zE hc
    obtain ⟨V,E,e,d,rfl,hk,dk,rfl,rfl⟩:=Mk hs
    cases hv with
    | loc _ _ _ _ _ _ _ A q q' hh =>
     refine .loc i _ _ p a b c A q q' ?_
     rw [cK dk] at hh
     simp only [dA]
     rw [mT hk dm,hH]; exact hh
    | my _ _ _ _ _ _ _ A hh =>
     refine .my i _ _ p a b c A ?_
     rw [cK dk] at hh
     simp only [dA]
     rw [mT hk dm,hH]; exact hh
   | pre i ver ep p a b c =>
    simp only [eN] at hs
    simp only [AV.sc] at hc
    have dm:=zE hc
    obtain ⟨V,E,e,d,rfl,hk,dk,rfl,rfl⟩:=Ml hs
    cases hv with
    | pre _ _ _ _ _ _ _ q q' hh =>
     refine .pre i _ _ p a b c q q' fun hn=>?_
     obtain ⟨A,N,c',hh,e2⟩:=hh hn
     refine ⟨A,N,c',?_,e2⟩
     rw [cK dk] at hh
     simp only [dA]
     rw [mT hk dm,hH]; exact hh
   | bT i ver =>
    simp only [eN] at hs
    simp only [AV.sc] at hc
    have dm:=zE hc
    obtain ⟨V,E,d,rfl,hk,rfl⟩:=Jg hs
    cases hv with | bT _ _ A q hh =>
    refine .bT i _ A q ?_
    have:=mT (m:=m) (H:=G1.H) hk dm []
    simp only [az] at this
    simp only [dA]
    rw [this,hH]; exact hh
   | opt g u=>simp [AV.sc] at hc
  ·cases us with
   | nil =>
    cases vs with
    | nil=>exact ⟨hr.1,by simp⟩
    | cons=>simp [eg] at hs
   | cons u us =>
    cases vs with
    | nil=>simp [eg] at hs
    | cons v vs =>
     simp only [eg] at hs
     simp only [AV.FV,Bool.and_eq_true] at hc
     simp only [dB] at hF
     match xs,hr with
     | [],hr=>have:=hr.1; simp at this
     | x::xs,hr =>
      have h1:=ih.1 u v x (by simp at aT; omega) hs.1 hc.1 (fun i hi=>hF i (by simp [hi])) (hr.2 0 v x rfl rfl)
      have h2:=ih.2 us vs xs (by simp at aT; omega) hs.2 hc.2 (fun i hi=>hF i (by simp [hi])) ⟨by simpa using hr.1,fun q e y he hy=>hr.2 (q+1) e y (by simpa using he) (by simpa using hy)⟩
      refine ⟨by simp [h2.1],fun j d y hd hy=>?_⟩
      cases j with
      | zero=>simp at hd hy; subst hd; subst hy; exact h1
      | succ j=>exact h2.2 j d y (by simpa using hd) (by simpa using hy)
theorem uZ:∀{F:List Nat},zG κ' F=true→∀i,i∈F→∀v e d,κ' i ≠ .tree v e d
 | [],_,i,hi,_,_,_=>by simp at hi
 | j::F,h,i,hi,v,e,d=>by
  simp only [zG,Bool.and_eq_true] at h
  rcases List.mem_cons.1 hi with rfl | hi
  ·intro hk; rw [hk] at h; cases h.1
  ·exact uZ h.2 i hi v e d
def BD (m:Nat) (κ κ':Nat→ao) (F:List Nat) (i:Nat):Prop:=mV m κ κ' i (κ i) (κ' i)∧(κ' i).Q8 κ'=true∧∀j,j∈sS κ i (κ i) (κ' i)→j∈F
theorem N8 {κc:Nat→ao} {F:List Nat} {G1:Gh} (hf:Fit G w κc) (hle:Gh.Le G G1) (hβ:G1.β=G.β) (hH:G1.H=G.H) (hX:G1.X=G.X) (Ji:∀i,i∈F→κc i=κ i) (Pl:∀i,(κ' i).fA=false→κc i=κ i) (iE:Fit G1 w (aw κc (jV κ F))) (gI:zG κ' F=true) (hs:∀i,BD m κ κ' F i) :
  Fit (dA m κ κ' G1) w κ'∧∀i b,bI (dA m κ κ' G1) i (κ' i) b→bI G1 i (aw κc (jV κ F) i) b:=by
 have Pm:=mW (κ:=κ) (κ':=κc) (ids:=F) Ji
 have jf:∀j,(κ' j).fA=false→aw κc (jV κ F) j=if j∈F then (κ j).dR else κ j:=fun j hj=>by rw [Pm,Pl j hj]
 have hP:∀i b,bI (dA m κ κ' G1) i (κ' i) b→bI G1 i (aw κc (jV κ F) i) b:=by
  intro i b ho
  obtain ⟨hx,D2,Du⟩:=hs i
  cases ey:κ' i with
  | none=>rw [ey] at ho; exact ho.elim
  | dead=>rw [ey] at ho; exact ho.elim
  | fz=>rw [ey] at ho; exact ho.elim
  | cells l' =>
   rw [ey] at ho hx
   cases hk:κ i with
   | cells l =>
    have dJ:aw κc (jV κ F) i=.cells l:=by rw [jf i (by rw [ey]; rfl),hk]; simp [ao.dR]
    rw [dJ]
    simp only [bI,dA,reβ,ey,ao.fA] at ho ⊢
    exact ho
   | _=>rw [hk] at hx; exact hx.elim
  | tree v e d' =>
   rw [ey] at ho hx
   cases hk:κ i with
   | tree V E d =>
    rw [hk] at hx
    simp only [mV] at hx
    obtain ⟨hx,rfl⟩:=hx
    have UD:i ∉ F:=fun hi=>uZ gI i hi _ _ _ ey
    have dJ:aw κc (jV κ F) i=.tree V E d:=by rw [jf i (by rw [ey]; rfl),if_neg UD,hk]
    rw [dJ]
    have e1:v=(iA m i V E).1:=by rw [hx]
    have e2:e=(iA m i V E).2:=by rw [hx]
    subst e1; subst e2
    obtain ⟨p,nd,u,h1,h2,h3,h4⟩:=ho
    simp only [dA] at h3
    rw [mT hk (by rw [ey]; rfl)] at h3
    exact ⟨p,nd,u,h1,h2,h3,h4⟩
   | none =>
    rw [hk] at hx
    simp only [mV] at hx
    obtain ⟨rfl,rfl,sz,rfl⟩:=hx
    obtain ⟨p,nd,u,h1,h2,h3,h4⟩:=ho
    cases p with
    | nil =>
     simp only [az,dA,tN,ey,ao.fA,hk,BA,Option.some.injEq] at h3
     subst h3; simp [fm] at h4
    | cons s p=>cases s <;> simp [get,step] at h1
   | _=>rw [hk] at hx; exact hx.elim
  | eA rc st l' =>
   rw [ey] at ho hx
   cases hk:κ i with
   | eA Wu Q9 l =>
    have dJ:aw κc (jV κ F) i=.eA Wu Q9 l:=by rw [jf i (by rw [ey]; rfl),hk]; simp [ao.dR]
    rw [dJ]
    simp only [bI,dA,reβ,ey,ao.fA] at ho ⊢
    exact ho
   | _=>rw [hk] at hx; exact hx.elim
  | held=>rw [ey] at ho; exact ho.elim
  | jd j' p' d' Jj Mm =>
   rw [ey] at ho hx
   cases hk:κ i with
   | jd j p d left cur =>
    rw [hk] at hx
    simp only [mV] at hx
    obtain ⟨rfl,rfl,rfl,rfl,_,hh⟩:=hx
    obtain ⟨e1,e2⟩:=BC hh
    have dJ:aw κc (jV κ F) i=.jd j p d left cur:=by rw [jf i (by rw [ey]; rfl),hk]; simp [ao.dR]
    rw [dJ]
    simp only [bI,dA,reβ,ey,ao.fA] at ho ⊢
    rw [uX e1 (by rw [e2]; rfl)] at ho
    exact ho
   | _=>rw [hk] at hx; exact hx.elim
 refine ⟨⟨iE.sub,fun i=>?_,fun i b ho=>iE.own i b (hP i b ho),fun i j b ho hU=>iE.inj i j b (hP i b ho) (hP j b hU)⟩,hP⟩
 obtain ⟨hx,D2,Du⟩:=hs i
 have kj:=iE.box i
 cases ey:κ' i with
 | none=>exact ⟨by simp [dA,reβ,ey,ao.fA],fun v e p=>by simp [dA,tN,ey,ao.fA]⟩
 | dead=>trivial
 | cells l' =>
  rw [ey] at hx D2 Du
  cases hk:κ i with
  | cells l =>
   rw [hk] at hx Du
   simp only [mV] at hx
   simp only [sS] at Du
   simp only [ao.Q8,Bool.and_eq_true] at D2
   have hb:=hf.box i
   rw [Pl i (by rw [ey]; rfl),hk] at hb
   obtain ⟨b,c,t,jq,hw,aT,jY,hr⟩:=hb
   have hlen:=ql hx
   refine ⟨b,c,t,by simp only [dA,reβ,ey,ao.fA,hβ]; exact jq,hw,by rw [aT,hlen],eU D2.2,fun j d v hd hv=>?_⟩
   have:=(mU (m:=m) (κ:=κ) (κ':=κ') (w:=w) hle hβ hH Ji iE (SizeOf.sizeOf l'+1)).2 l' l c.toList (by omega) hx D2.1 Du ⟨by simp [aT],fun j d v hd hv=>hr j d v hd (by simpa using hv)⟩
   exact this.2 j d v hd (by simpa using hv)
  | _=>rw [hk] at hx; exact hx.elim
 | tree v e d' =>
  rw [ey] at hx
  cases hk:κ i with
  | tree V E d =>
   rw [hk] at hx
   simp only [mV] at hx
   obtain ⟨hx,rfl⟩:=hx
   have UD:i ∉ F:=fun hi=>uZ gI i hi _ _ _ ey
   rw [jf i (by rw [ey]; rfl),if_neg UD,hk] at kj
   have e1:v=(iA m i V E).1:=by rw [hx]
   have e2:e=(iA m i V E).2:=by rw [hx]
   subst e1; subst e2
   have dm:(κ' i).fA=false:=by rw [ey]; rfl
   have Hh:az (dA m κ κ' G1).H i (iA m i V E).1 (iA m i V E).2=az G1.H i V E:=funext fun p=>by simp only [dA]; exact mT hk dm p
   refine ⟨?_,?_,fun v hv e p=>?_,fun e he p=>?_⟩
   ·rw [Hh]; exact kj.1
   ·rw [Hh]; exact kj.2.1
   ·simp only [dA,tN,dm,hk]; exact zB hv e p
   ·simp only [dA,tN,dm,hk]; exact FU he p
  | none =>
   rw [hk] at hx
   simp only [mV] at hx
   obtain ⟨rfl,rfl,sz,rfl⟩:=hx
   have dm:(κ' i).fA=false:=by rw [ey]; rfl
   have h0:az (dA m κ κ' G1).H i 0 0 []=some (.slice none 0 0):=by simp only [az,dA,tN,dm,hk,BA]
   refine ⟨⟨rfl,fun p nd hp hn=>?_⟩,?_,fun v hv e p=>?_,fun e he p=>?_⟩
   ·cases p with
    | nil =>
     simp only [get,Option.some.injEq] at hp
     subst hp
     exact ⟨_,h0,rfl,.inl ⟨rfl,rfl⟩⟩
    | cons s p=>cases s <;> simp [get,step] at hp
   ·intro p q nd md u v b h1 h2 h3 h4 h5 h6 h7 h8
    cases p with
    | nil=>rw [h0] at h3; injection h3 with h3; subst h3; simp [fm] at h4
    | cons s p=>cases s <;> simp [get,step] at h1
   ·simp only [dA,tN,dm,hk]
    cases v with
    | zero=>omega
    | succ v=>rfl
   ·simp only [dA,tN,dm,hk]
    cases e with
    | zero=>omega
    | succ e=>rfl
  | _=>rw [hk] at hx; exact hx.elim
 | fz v d' =>
  rw [ey] at hx Du
  have dm:(κ' i).fA=false:=by rw [ey]; rfl
  cases hk:κ i with
  | tree V E d =>
   rw [hk] at hx Du
   simp only [mV] at hx
   obtain ⟨rfl,hx⟩:=hx
   have hi:i∈F:=Du i (by simp [sS])
   rw [jf i dm,if_pos hi,hk] at kj
   obtain ⟨u,h1,h2,h3⟩:=kj
   refine ⟨u,?_,h2,hx _ _ h3⟩
   simp only [dA,tN,dm,hk]
   rw [Mi m i V 0 E,(jx m (G1.H i) i V E (.el 0 0) []).1]
   exact h1
  | fz V d =>
   rw [hk] at hx
   simp only [mV] at hx
   obtain ⟨rfl,hx⟩:=hx
   have dJ:aw κc (jV κ F) i=.fz V d:=by rw [jf i dm,hk]; simp [ao.dR]
   rw [dJ] at kj
   obtain ⟨u,h1,h2,h3⟩:=kj
   refine ⟨u,?_,h2,hx _ _ h3⟩
   simp only [dA,tN,dm,hk]
   rw [(jx m (G1.H i) i V 0 (.el 0 0) []).1]
   exact h1
  | _=>rw [hk] at hx; exact hx.elim
 | eA rc st l' =>
  rw [ey] at hx D2 Du
  cases hk:κ i with
  | eA Wu Q9 l =>
   rw [hk] at hx Du
   simp only [mV] at hx
   simp only [sS] at Du
   simp only [ao.Q8] at D2
   obtain ⟨rfl,rfl,hx⟩:=hx
   have hb:=hf.box i
   rw [Pl i (by rw [ey]; rfl),hk] at hb
   obtain ⟨b,fn,tmps,D,jq,hw,hr⟩:=hb
   exact ⟨b,fn,tmps,D,by simp only [dA,reβ,ey,ao.fA,hβ]; exact jq,hw,(mU (m:=m) (κ:=κ) (κ':=κ') (w:=w) hle hβ hH Ji iE (SizeOf.sizeOf l'+1)).2 l' l tmps.toList (by omega) hx D2 Du hr⟩
  | _=>rw [hk] at hx; exact hx.elim
 | held =>
  rw [ey] at hx
  cases hk:κ i with
  | held =>
   have dm:(κ' i).fA=false:=by rw [ey]; rfl
   refine ⟨fun v hv e p=>?_,fun e he p=>?_⟩
   ·simp only [dA,tN,dm,hk]
    exact zB (by rw [zC]; exact hv) e p
   ·simp only [dA,tN,dm,hk]
    have:=FU (m:=m) (h:=G1.H i) (i:=i) (V:=0) (E:=0) (e:=e) (by rw [zC]; exact he) p
    rw [zC] at this
    exact this
  | _=>rw [hk] at hx; exact hx.elim
 | jd j' p' d' Jj Mm =>
  rw [ey] at hx
  cases hk:κ i with
  | jd j p d left cur =>
   rw [hk] at hx
   simp only [mV] at hx
   obtain ⟨rfl,rfl,rfl,rfl,hc,hh⟩:=hx
   obtain ⟨e1,e2⟩:=BC hh
   have dm:(κ' i).fA=false:=by rw [ey]; rfl
   rw [jf i dm,hk] at kj
   simp only [ao.dR,ite_self] at kj
   obtain ⟨r,mb,es,clock,seen,ks,mm,hi⟩:=kj
   have Hh:az (dA m κ κ' G1).H j 0 0=az G1.H j 0 0:=uX e1 (by rw [e2]; rfl)
   refine ⟨r,mb,es,clock,seen,ks,mm,by simp only [dA,reβ,dm]; exact hi.jW,hi.it,by rw [Hh]; exact hi.tree,by rw [Hh]; exact hi.inj,hi.node,by rw [Hh]; exact hi.head,hi.map,hi.left,?_⟩
   rcases hc with rfl | rfl
   ·trivial
   ·exact hi.cur
  | _=>rw [hk] at hx; exact hx.elim
end
end Go.TM
