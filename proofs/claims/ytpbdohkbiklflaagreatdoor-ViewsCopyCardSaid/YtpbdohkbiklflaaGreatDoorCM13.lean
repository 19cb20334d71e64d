import Derived.Test.YtpbdohkbiklflaaGreatDoorCM12
set_option linter.unusedVariables false
set_option linter.unusedSimpArgs false
set_option linter.unusedSectionVars false
namespace Go.TM
open Go.RowKit
variable [cu]
def ar.fO:ar→Bool
 | .none=>true
 | _=>false
theorem IZ {b:ar} (h:b.fO=true):b=.none:=by cases b <;> simp [ar.fO] at h; rfl
def o8 (m:Nat) (h:Nat→Nat→List PS→Option Value) (i V E v e:Nat):List PS→Option Value
 | []=>if v=(iV m i V E).1∧e=0 then h V 0 [] else if i<m∧v=0∧e=0 then h 0 0 [] else none
 | s::q=>if v=(iV m i V E).1∧e=(iV m i V E).2 then h V E (s::q) else if i<m∧v=0∧e=0 then h 0 0 (s::q) else none
def CE (v e:Nat) (p:List PS):Option Value:=match v,e,p with
 | 0,0,[]=>some (.slice none 0 0)
 | _,_,_=>none
def uM (m:Nat) (κ κ':Nat→ar) (H:Nat→Nat→Nat→List PS→Option Value) (i v e:Nat) (p:List PS):Option Value :=
 match (κ' i).fO with
 | true=>none
 | false=>match κ i with
  | .tree V E _=>o8 m (H i) i V E v e p
  | .fz V _=>o8 m (H i) i V 0 v e p
  | .held=>o8 m (H i) i 0 0 v e p
  | .none=>CE v e p
  | _=>if i<m∧v=0∧e=0 then H i 0 0 p else none
def reβ (κ':Nat→ar) (β:Nat→Option Nat) (i:Nat):Option Nat:=match (κ' i).fO with
 | true=>none
 | false=>β i
def dF (m:Nat) (κ κ':Nat→ar) (G:Gh):Gh:={ G with β:=reβ κ' G.β,H:=uM m κ κ' G.H }
theorem N9 (m i V E E':Nat):(iV m i V E).1=(iV m i V E').1:=by
 unfold iV
 cases Nat.blt i m with
 | false=>rfl
 | true=>cases V with
  | zero=>cases E <;> cases E' <;> rfl
  | succ V=>rfl
theorem CF {m i V E:Nat} (hi:i<m) (h:(iV m i V E).1=0):V=0∧((iV m i V E).2=0→E=0):=by
 unfold iV at *
 have hb:Nat.blt i m=true:=by rw [Nat.blt_eq]; exact hi
 rw [hb] at h ⊢
 cases V with
 | zero=>cases E with
  | zero=>exact ⟨rfl,fun _=>rfl⟩
  | succ E=>exact ⟨rfl,fun h=>by simp at h⟩
 | succ V=>simp at h
theorem uN {m i V E:Nat} (hi:¬ i<m):iV m i V E=(0,0):=by
 unfold iV
 have hb:Nat.blt i m=false:=by cases hb:Nat.blt i m with | false=>rfl | true=>rw [Nat.blt_eq] at hb; exact absurd hb hi
 rw [hb]; rfl
theorem jO (m:Nat) (h:Nat→Nat→List PS→Option Value) (i V E:Nat) (s:PS) (q:List PS):o8 m h i V E (iV m i V E).1 0 []=h V 0 []∧o8 m h i V E (iV m i V E).1 (iV m i V E).2 (s::q)=h V E (s::q):=by
 simp [o8]
theorem vV {m:Nat} {h:Nat→Nat→List PS→Option Value} {i V E:Nat} (hi:i<m) (p:List PS):o8 m h i V E 0 0 p=h 0 0 p:=by
 cases p with
 | nil =>
  simp only [o8]
  split
  ·rename_i hh; rw [(CF hi hh.1.symm).1]
  ·rw [if_pos (by simp [hi])]
 | cons s q =>
  simp only [o8]
  split
  ·rename_i hh; obtain ⟨h1,h2⟩:=CF hi hh.1.symm; rw [h1,h2 hh.2.symm]
  ·rw [if_pos (by simp [hi])]
theorem Az {m:Nat} {h:Nat→Nat→List PS→Option Value} {i V E v:Nat} (hv:(iV m i V E).1<v) (e:Nat) (p:List PS):o8 m h i V E v e p=none:=by
 cases p with
 | nil=>simp only [o8]; rw [if_neg (by omega),if_neg (by omega)]
 | cons s q=>simp only [o8]; rw [if_neg (by omega),if_neg (by omega)]
theorem Hs {m:Nat} {h:Nat→Nat→List PS→Option Value} {i V E e:Nat} (hv:(iV m i V E).2<e) (p:List PS):o8 m h i V E (iV m i V E).1 e p=none:=by
 cases p with
 | nil=>simp only [o8]; rw [if_neg (by omega),if_neg (by omega)]
 | cons s q=>simp only [o8]; rw [if_neg (by omega),if_neg (by omega)]
section
variable {m:Nat} {κ κ':Nat→ar} {G:Gh} {w:World}
theorem nz {H:Nat→Nat→Nat→List PS→Option Value} {i V E:Nat} {d:DV} (hk:κ i=.tree V E d) (hn:(κ' i).fO=false) (p:List PS):aB (uM m κ κ' H) i (iV m i V E).1 (iV m i V E).2 p=aB H i V E p:=by
 cases p with
 | nil=>simp only [aB,uM,hn,hk]; exact (jO m (H i) i V E (.el 0 0) []).1
 | cons s q=>simp only [aB,uM,hn,hk]; exact (jO m (H i) i V E s q).2
theorem AA (m i:Nat):iV m i 0 0=(0,0):=by
 unfold iV
 cases Nat.blt i m <;> rfl
theorem vW {H:Nat→Nat→Nat→List PS→Option Value} {i:Nat} (hk:κ i=.held) (hn:(κ' i).fO=false):aB (uM m κ κ' H) i 0 0=aB H i 0 0:=by
 have e:=AA m i
 funext p
 cases p with
 | nil =>
  simp only [aB,uM,hn,hk]
  have:=(jO m (H i) i 0 0 (.el 0 0) []).1
  rw [e] at this; exact this
 | cons s q =>
  simp only [aB,uM,hn,hk]
  have:=(jO m (H i) i 0 0 s q).2
  rw [e] at this; exact this
theorem CG {a b:ar} (h:match a,b with | .held,.held=>True | _,_=>False):a=.held∧b=.held:=by
 split at h
 ·exact ⟨rfl,rfl⟩
 ·exact h.elim
theorem Oa {v:AV} {i ver ep:Nat} {p:List PS} (h:kZ m κ v=.own i ver ep p):(∃V E e d,v=.own i V e p∧κ i=.tree V E d∧(p=[] ∨ e=E)∧ver=(iV m i V E).1∧ep=(iV m i V E).2) ∨ ∃e,v=.own i 0 e p∧κ i=.held∧(p=[] ∨ e=0)∧ver=0∧ep=0:=by
 cases v with
 | own j V e q =>
  simp only [kZ] at h
  split at h
  ·rename_i V' E' d hk
   cases hb:Nat.beq V V' && (emp q || Nat.beq e E') with
   | false=>rw [hb] at h; cases h
   | true =>
    rw [hb] at h
    obtain ⟨rfl,hc⟩:=dt hb
    simp only [cond_true,AV.own.injEq] at h
    obtain ⟨rfl,h1,h2,rfl⟩:=h
    exact .inl ⟨V,E',e,d,rfl,hk,hc,h1.symm,h2.symm⟩
  ·rename_i hk
   cases hb:Nat.beq V 0 && (emp q || Nat.beq e 0) with
   | false=>rw [hb] at h; cases h
   | true =>
    rw [hb] at h
    obtain ⟨rfl,hc⟩:=dt hb
    simp only [cond_true,AV.own.injEq] at h
    obtain ⟨rfl,h1,h2,rfl⟩:=h
    exact .inr ⟨e,rfl,hk,hc,h1.symm,h2.symm⟩
  ·cases h
 | loc j V e q a b c =>
  simp only [kZ] at h
  split at h
  ·rename_i V' E' d hk
   cases hb:Nat.beq V V' && (emp q || Nat.beq e E') <;> rw [hb] at h <;> cases h
  ·cases h
 | pre j V e q a b c =>
  simp only [kZ] at h
  split at h
  ·rename_i V' E' d hk
   cases hb:Nat.beq V V' && (emp q || Nat.beq e E') <;> rw [hb] at h <;> cases h
  ·cases h
 | bX j V =>
  simp only [kZ] at h
  split at h
  ·rename_i V' E' d hk
   cases hb:Nat.beq V V' <;> rw [hb] at h <;> cases h
  ·cases h
 | _=>simp [kZ] at h
theorem KV {v:AV} {i ver:Nat} (h:kZ m κ v=.bX i ver):∃V E d,v=.bX i V∧κ i=.tree V E d∧ver=(iV m i V E).1:=by
 cases v with
 | bX j V =>
  simp only [kZ] at h
  split at h
  ·rename_i V' E' d hk
   cases hb:Nat.beq V V' with
   | false=>rw [hb] at h; cases h
   | true =>
    rw [hb] at h
    have:=Nat.eq_of_beq_eq_true hb
    subst this
    simp only [cond_true,AV.bX.injEq] at h
    obtain ⟨rfl,h1⟩:=h
    exact ⟨V,E',d,rfl,hk,h1.symm⟩
  ·cases h
 | own j V e q =>
  simp only [kZ] at h
  split at h
  ·rename_i V' E' d hk
   cases hb:Nat.beq V V' && (emp q || Nat.beq e E') <;> rw [hb] at h <;> cases h
  ·cases hb:Nat.beq V 0 && (emp q || Nat.beq e 0) <;> rw [hb] at h <;> cases h
  ·cases h
 | loc j V e q a b c =>
  simp only [kZ] at h
  split at h
  ·rename_i V' E' d hk
   cases hb:Nat.beq V V' && (emp q || Nat.beq e E') <;> rw [hb] at h <;> cases h
  ·cases h
 | pre j V e q a b c =>
  simp only [kZ] at h
  split at h
  ·rename_i V' E' d hk
   cases hb:Nat.beq V V' && (emp q || Nat.beq e E') <;> rw [hb] at h <;> cases h
  ·cases h
 | _=>simp [kZ] at h
theorem Ob {v:AV} {i ver ep a b c:Nat} {p:List PS} (h:kZ m κ v=.loc i ver ep p a b c):∃V E e d,v=.loc i V e p a b c∧κ i=.tree V E d∧(p=[] ∨ e=E)∧ver=(iV m i V E).1∧ep=(iV m i V E).2:=by
 cases v with
 | loc j V e q a b c =>
  simp only [kZ] at h
  split at h
  ·rename_i V' E' d hk
   cases hb:Nat.beq V V' && (emp q || Nat.beq e E') with
   | false=>rw [hb] at h; cases h
   | true =>
    rw [hb] at h
    obtain ⟨rfl,hc⟩:=dt hb
    simp only [cond_true,AV.loc.injEq] at h
    obtain ⟨rfl,h1,h2,rfl,rfl,rfl,rfl⟩:=h
    exact ⟨V,E',e,d,rfl,hk,hc,h1.symm,h2.symm⟩
  ·cases h
 | pre j V e q a b c =>
  simp only [kZ] at h
  split at h
  ·rename_i V' E' d hk
   cases hb:Nat.beq V V' && (emp q || Nat.beq e E') <;> rw [hb] at h <;> cases h
  ·cases h
 | own j V e q =>
  simp only [kZ] at h
  split at h
  ·rename_i V' E' d hk
   cases hb:Nat.beq V V' && (emp q || Nat.beq e E') <;> rw [hb] at h <;> cases h
  ·cases hb:Nat.beq V 0 && (emp q || Nat.beq e 0) <;> rw [hb] at h <;> cases h
  ·cases h
 | bX j V =>
  simp only [kZ] at h
  split at h
  ·rename_i V' E' d hk
   cases hb:Nat.beq V V' <;> rw [hb] at h <;> cases h
  ·cases h
 | _=>simp [kZ] at h
theorem Oc {v:AV} {i ver ep a b c:Nat} {p:List PS} (h:kZ m κ v=.pre i ver ep p a b c):∃V E e d,v=.pre i V e p a b c∧κ i=.tree V E d∧(p=[] ∨ e=E)∧ver=(iV m i V E).1∧ep=(iV m i V E).2:=by
 cases v with
 | pre j V e q a b c =>
  simp only [kZ] at h
  split at h
  ·rename_i V' E' d hk
   cases hb:Nat.beq V V' && (emp q || Nat.beq e E') with
   | false=>rw [hb] at h; cases h
   | true =>
    rw [hb] at h
    obtain ⟨rfl,hc⟩:=dt hb
    simp only [cond_true,AV.pre.injEq] at h
    obtain ⟨rfl,h1,h2,rfl,rfl,rfl,rfl⟩:=h
    exact ⟨V,E',e,d,rfl,hk,hc,h1.symm,h2.symm⟩
  ·cases h
 | loc j V e q a b c =>
  simp only [kZ] at h
  split at h
  ·rename_i V' E' d hk
   cases hb:Nat.beq V V' && (emp q || Nat.beq e E') <;> rw [hb] at h <;> cases h
  ·cases h
 | own j V e q =>
  simp only [kZ] at h
  split at h
  ·rename_i V' E' d hk
   cases hb:Nat.beq V V' && (emp q || Nat.beq e E') <;> rw [hb] at h <;> cases h
  ·cases hb:Nat.beq V 0 && (emp q || Nat.beq e 0) <;> rw [hb] at h <;> cases h
  ·cases h
 | bX j V =>
  simp only [kZ] at h
  split at h
  ·rename_i V' E' d hk
   cases hb:Nat.beq V V' <;> rw [hb] at h <;> cases h
  ·cases h
 | _=>simp [kZ] at h
theorem AB {b:ar} (h:b.KW=true):b.fO=false:=by cases b <;> simp [ar.KW] at h <;> rfl
theorem AD {b:ar} {v e:Nat} (h:b.Tm v e=true):b.fO=false:=by cases b <;> simp [ar.Tm] at h <;> rfl
theorem qZ:∀{l' l:List AV},eu m κ κ' l' l→l'.length=l.length
 | [],[],_=>rfl
 | [],_::_,h=>by simp [eu] at h
 | _::_,[],h=>by simp [eu] at h
 | _::_,_::_,h=>by simp only [eu] at h; simp [qZ h.2]
theorem nA {κc:Nat→ar} {F:List Nat} {G1:Gh} (hle:Gh.Le G G1) (hβ:G1.β=G.β) (hH:G1.H=G.H) (KX:∀i,i∈F→κc i=κ i) (iF:Fit G1 w (az κc (kg κ F))):∀(N:Nat),
  (∀(u v:AV) (x:Value),SizeOf.sizeOf u<N→eU m κ κ' u v→AV.sc κ' u=true→(∀i,i∈vX κ u v→i∈F)→aH G v x→aH (dF m κ κ' G1) u x) ∧
  (∀(us vs:List AV) (xs:List Value),SizeOf.sizeOf us<N→eu m κ κ' us vs→AV.Ht κ' us=true→(∀i,i∈dG κ us vs→i∈F)→bU G vs xs→bU (dF m κ κ' G1) us xs):=by
 intro N
 induction N with
 | zero=>exact ⟨fun _ _ _ h=>by omega,fun _ _ _ h=>by omega⟩
 | succ N ih =>
  have Af:∀{i b:Nat},G.β i=some b→(κ' i).fO=false→(dF m κ κ' G1).β i=some b:=fun {i b} h hn=>by simp only [dF,reβ,hn,hβ]; exact h
  refine ⟨fun u v x aU hs hc hF hv=>?_,fun us vs xs aU hs hc hF hr=>?_⟩
  ·cases u with
   | any=>exact .any _
   | dv d' =>
    simp only [eU,TS] at hs
    split at hs
    ·rename_i d ids hd
     simp only [vX,TT,hd] at hF
     exact .dv (hs _ x (sA (κ:=κ) (κ':=κc) (w:=w) (G':=G1) hd hF KX hle iF hv))
    ·exact hs.elim
   | agg l' =>
    cases v with
    | agg l =>
     simp only [eU] at hs
     simp only [AV.sc] at hc
     simp only [vX] at hF
     cases hv with | agg _ ys hl hr =>
     have:=ih.2 l' l ys (by simp at aU; omega) hs hc hF ⟨hl,hr⟩
     exact .agg l' ys this.1 this.2
    | _=>simp [eU] at hs
   | eV l' =>
    cases v with
    | eV l =>
     simp only [eU] at hs
     simp only [AV.sc] at hc
     simp only [vX] at hF
     cases hv with | eV _ ys hl hr =>
     have:=ih.2 l' l ys (by simp at aU; omega) hs hc hF ⟨hl,hr⟩
     exact .eV l' ys this.1 this.2
    | _=>simp [eU] at hs
   | fn f' l' =>
    cases v with
    | fn f l =>
     simp only [eU] at hs
     simp only [AV.sc] at hc
     simp only [vX] at hF
     obtain ⟨rfl,hs⟩:=hs
     cases hv with | fn _ _ ys hl hr =>
     have:=ih.2 l' l ys (by simp at aU; omega) hs hc hF ⟨hl,hr⟩
     exact .fn f l' ys this.1 this.2
    | _=>simp [eU] at hs
   | iA f' l' =>
    cases v with
    | iA f l =>
     simp only [eU] at hs
     simp only [AV.sc] at hc
     simp only [vX] at hF
     obtain ⟨rfl,hs⟩:=hs
     cases hv with | iA _ _ ys hl hr =>
     have:=ih.2 l' l ys (by simp at aU; omega) hs hc hF ⟨hl,hr⟩
     exact .iA f l' ys this.1 this.2
    | _=>simp [eU] at hs
   | ptr i off =>
    simp only [eU] at hs
    simp only [AV.sc] at hc
    subst hs
    cases hv with | ptr _ _ b hb=>exact .ptr i off b (Af hb (AB hc))
   | fN i =>
    simp only [eU] at hs
    simp only [AV.sc] at hc
    subst hs
    cases hv with | fN _ l hb=>exact .fN i l (Af hb (AB hc))
   | sle i k =>
    simp only [eU] at hs
    simp only [AV.sc] at hc
    subst hs
    cases hv with | sle _ _ b hb=>exact .sle i k b (Af hb (AB hc))
   | own i ver ep p =>
    simp only [eU] at hs
    simp only [AV.sc] at hc
    have dj:=AD hc
    unfold AE at hs
    split at hs
    ·obtain ⟨rfl,rfl,rfl,hb,sz,cL⟩:=hs
     cases hv with | dv hv=>cases hv with | aG =>
     refine .own i 0 0 [] _ ?_ rfl
     simp only [aB,dF,uM,dj,hb,CE]
    ·rcases Oa hs with ⟨V,E,e,d,WH,hk,dx,rfl,rfl⟩ | ⟨e,WH,hk,dx,rfl,rfl⟩
     ·have hv:=yS hv
      rw [WH] at hv
      cases hv with | own _ _ _ _ _ hh il =>
      refine .own i _ _ p x ?_ il
      rw [cU dx] at hh
      simp only [dF]
      rw [nz hk dj,hH]; exact hh
     ·have hv:=yS hv
      rw [WH] at hv
      cases hv with | own _ _ _ _ _ hh il =>
      refine .own i _ _ p x ?_ il
      rw [cU dx] at hh
      simp only [dF]
      rw [vW hk dj,hH]; exact hh
   | loc i ver ep p a b c =>
    simp only [eU] at hs
    simp only [AV.sc] at hc
    have dj:=AD hc
    obtain ⟨V,E,e,d,rfl,hk,dx,rfl,rfl⟩:=Ob hs
    cases hv with
    | loc _ _ _ _ _ _ _ A q q' hh =>
     refine .loc i _ _ p a b c A q q' ?_
     rw [cU dx] at hh
     simp only [dF]
     rw [nz hk dj,hH]; exact hh
    | mU _ _ _ _ _ _ _ A hh =>
     refine .mU i _ _ p a b c A ?_
     rw [cU dx] at hh
     simp only [dF]
     rw [nz hk dj,hH]; exact hh
   | pre i ver ep p a b c =>
    simp only [eU] at hs
    simp only [AV.sc] at hc
    have dj:=AD hc
    obtain ⟨V,E,e,d,rfl,hk,dx,rfl,rfl⟩:=Oc hs
    cases hv with
    | pre _ _ _ _ _ _ _ q q' hh =>
     refine .pre i _ _ p a b c q q' fun hn=>?_
     obtain ⟨A,N,c',hh,e2⟩:=hh hn
     refine ⟨A,N,c',?_,e2⟩
     rw [cU dx] at hh
     simp only [dF]
     rw [nz hk dj,hH]; exact hh
   | bX i ver =>
    simp only [eU] at hs
    simp only [AV.sc] at hc
    have dj:=AD hc
    obtain ⟨V,E,d,rfl,hk,rfl⟩:=KV hs
    cases hv with | bX _ _ A q hh =>
    refine .bX i _ A q ?_
    have:=nz (m:=m) (H:=G1.H) hk dj []
    simp only [aB] at this
    simp only [dF]
    rw [this,hH]; exact hh
   | opt g u=>simp [AV.sc] at hc
  ·cases us with
   | nil =>
    cases vs with
    | nil=>exact ⟨hr.1,by simp⟩
    | cons=>simp [eu] at hs
   | cons u us =>
    cases vs with
    | nil=>simp [eu] at hs
    | cons v vs =>
     simp only [eu] at hs
     simp only [AV.Ht,Bool.and_eq_true] at hc
     simp only [dG] at hF
     match xs,hr with
     | [],hr=>have:=hr.1; simp at this
     | x::xs,hr =>
      have h1:=ih.1 u v x (by simp at aU; omega) hs.1 hc.1 (fun i hi=>hF i (by simp [hi])) (hr.2 0 v x rfl rfl)
      have h2:=ih.2 us vs xs (by simp at aU; omega) hs.2 hc.2 (fun i hi=>hF i (by simp [hi])) ⟨by simpa using hr.1,fun q e y he hy=>hr.2 (q+1) e y (by simpa using he) (by simpa using hy)⟩
      refine ⟨by simp [h2.1],fun j d y hd hy=>?_⟩
      cases j with
      | zero=>simp at hd hy; subst hd; subst hy; exact h1
      | succ j=>exact h2.2 j d y (by simpa using hd) (by simpa using hy)
theorem vY:∀{F:List Nat},AF κ' F=true→∀i,i∈F→∀v e d,κ' i ≠ .tree v e d
 | [],_,i,hi,_,_,_=>by simp at hi
 | j::F,h,i,hi,v,e,d=>by
  simp only [AF,Bool.and_eq_true] at h
  rcases List.mem_cons.1 hi with rfl | hi
  ·intro hk; rw [hk] at h; cases h.1
  ·exact vY h.2 i hi v e d
def CH (m:Nat) (κ κ':Nat→ar) (F:List Nat) (i:Nat):Prop:=nC m κ κ' i (κ i) (κ' i)∧(κ' i).Tn κ'=true∧∀j,j∈tL κ i (κ i) (κ' i)→j∈F
theorem P7 {κc:Nat→ar} {F:List Nat} {G1:Gh} (hf:Fit G w κc) (hle:Gh.Le G G1) (hβ:G1.β=G.β) (hH:G1.H=G.H) (hX:G1.X=G.X) (KX:∀i,i∈F→κc i=κ i) (Rj:∀i,(κ' i).fO=false→κc i=κ i) (iF:Fit G1 w (az κc (kg κ F))) (fA:AF κ' F=true) (hs:∀i,CH m κ κ' F i) :
  Fit (dF m κ κ' G1) w κ'∧∀i b,bL (dF m κ κ' G1) i (κ' i) b→bL G1 i (az κc (kg κ F) i) b:=by
 have Rm:=nD (κ:=κ) (κ':=κc) (ids:=F) KX
 have jz:∀j,(κ' j).fO=false→az κc (kg κ F) j=if j∈F then (κ j).dZ else κ j:=fun j hj=>by rw [Rm,Rj j hj]
 have iB:∀i b,bL (dF m κ κ' G1) i (κ' i) b→bL G1 i (az κc (kg κ F) i) b:=by
  intro i b ho
  obtain ⟨hx,Fh,EG⟩:=hs i
  cases eG:κ' i with
  | none=>rw [eG] at ho; exact ho.elim
  | dead=>rw [eG] at ho; exact ho.elim
  | fz=>rw [eG] at ho; exact ho.elim
  | cells l' =>
   rw [eG] at ho hx
   cases hk:κ i with
   | cells l =>
    have dQ:az κc (kg κ F) i=.cells l:=by rw [jz i (by rw [eG]; rfl),hk]; simp [ar.dZ]
    rw [dQ]
    simp only [bL,dF,reβ,eG,ar.fO] at ho ⊢
    exact ho
   | _=>rw [hk] at hx; exact hx.elim
  | tree v e d' =>
   rw [eG] at ho hx
   cases hk:κ i with
   | tree V E d =>
    rw [hk] at hx
    simp only [nC] at hx
    obtain ⟨hx,rfl⟩:=hx
    have WI:i ∉ F:=fun hi=>vY fA i hi _ _ _ eG
    have dQ:az κc (kg κ F) i=.tree V E d:=by rw [jz i (by rw [eG]; rfl),if_neg WI,hk]
    rw [dQ]
    have e1:v=(iV m i V E).1:=by rw [hx]
    have e2:e=(iV m i V E).2:=by rw [hx]
    subst e1; subst e2
    obtain ⟨p,nd,u,h1,h2,h3,h4⟩:=ho
    simp only [dF] at h3
    rw [nz hk (by rw [eG]; rfl)] at h3
    exact ⟨p,nd,u,h1,h2,h3,h4⟩
   | none =>
    rw [hk] at hx
    simp only [nC] at hx
    obtain ⟨rfl,rfl,sz,rfl⟩:=hx
    obtain ⟨p,nd,u,h1,h2,h3,h4⟩:=ho
    cases p with
    | nil =>
     simp only [aB,dF,uM,eG,ar.fO,hk,CE,Option.some.injEq] at h3
     subst h3; simp [fj] at h4
    | cons s p=>cases s <;> simp [get,step] at h1
   | _=>rw [hk] at hx; exact hx.elim
  | eI rc st l' =>
   rw [eG] at ho hx
   cases hk:κ i with
   | eI YF P8 l =>
    have dQ:az κc (kg κ F) i=.eI YF P8 l:=by rw [jz i (by rw [eG]; rfl),hk]; simp [ar.dZ]
    rw [dQ]
    simp only [bL,dF,reβ,eG,ar.fO] at ho ⊢
    exact ho
   | _=>rw [hk] at hx; exact hx.elim
  | held=>rw [eG] at ho; exact ho.elim
  | jw j' p' d' KY Od =>
   rw [eG] at ho hx
   cases hk:κ i with
   | jw j p d left cur =>
    rw [hk] at hx
    simp only [nC] at hx
    obtain ⟨rfl,rfl,rfl,rfl,_,hh⟩:=hx
    obtain ⟨e1,e2⟩:=CG hh
    have dQ:az κc (kg κ F) i=.jw j p d left cur:=by rw [jz i (by rw [eG]; rfl),hk]; simp [ar.dZ]
    rw [dQ]
    simp only [bL,dF,reβ,eG,ar.fO] at ho ⊢
    rw [vW e1 (by rw [e2]; rfl)] at ho
    exact ho
   | _=>rw [hk] at hx; exact hx.elim
 refine ⟨⟨iF.sub,fun i=>?_,fun i b ho=>iF.own i b (iB i b ho),fun i j b ho iC=>iF.inj i j b (iB i b ho) (iB j b iC)⟩,iB⟩
 obtain ⟨hx,Fh,EG⟩:=hs i
 have ki:=iF.box i
 cases eG:κ' i with
 | none=>exact ⟨by simp [dF,reβ,eG,ar.fO],fun v e p=>by simp [dF,uM,eG,ar.fO]⟩
 | dead=>trivial
 | cells l' =>
  rw [eG] at hx Fh EG
  cases hk:κ i with
  | cells l =>
   rw [hk] at hx EG
   simp only [nC] at hx
   simp only [tL] at EG
   simp only [ar.Tn,Bool.and_eq_true] at Fh
   have hb:=hf.box i
   rw [Rj i (by rw [eG]; rfl),hk] at hb
   obtain ⟨b,c,t,jy,hw,aU,fM,hr⟩:=hb
   have hlen:=qZ hx
   refine ⟨b,c,t,by simp only [dF,reβ,eG,ar.fO,hβ]; exact jy,hw,by rw [aU,hlen],fb Fh.2,fun j d v hd hv=>?_⟩
   have:=(nA (m:=m) (κ:=κ) (κ':=κ') (w:=w) hle hβ hH KX iF (SizeOf.sizeOf l'+1)).2 l' l c.toList (by omega) hx Fh.1 EG ⟨by simp [aU],fun j d v hd hv=>hr j d v hd (by simpa using hv)⟩
   exact this.2 j d v hd (by simpa using hv)
  | _=>rw [hk] at hx; exact hx.elim
 | tree v e d' =>
  rw [eG] at hx
  cases hk:κ i with
  | tree V E d =>
   rw [hk] at hx
   simp only [nC] at hx
   obtain ⟨hx,rfl⟩:=hx
   have WI:i ∉ F:=fun hi=>vY fA i hi _ _ _ eG
   rw [jz i (by rw [eG]; rfl),if_neg WI,hk] at ki
   have e1:v=(iV m i V E).1:=by rw [hx]
   have e2:e=(iV m i V E).2:=by rw [hx]
   subst e1; subst e2
   have dj:(κ' i).fO=false:=by rw [eG]; rfl
   have I0:aB (dF m κ κ' G1).H i (iV m i V E).1 (iV m i V E).2=aB G1.H i V E:=funext fun p=>by simp only [dF]; exact nz hk dj p
   refine ⟨?_,?_,fun v hv e p=>?_,fun e he p=>?_⟩
   ·rw [I0]; exact ki.1
   ·rw [I0]; exact ki.2.1
   ·simp only [dF,uM,dj,hk]; exact Az hv e p
   ·simp only [dF,uM,dj,hk]; exact Hs he p
  | none =>
   rw [hk] at hx
   simp only [nC] at hx
   obtain ⟨rfl,rfl,sz,rfl⟩:=hx
   have dj:(κ' i).fO=false:=by rw [eG]; rfl
   have h0:aB (dF m κ κ' G1).H i 0 0 []=some (.slice none 0 0):=by simp only [aB,dF,uM,dj,hk,CE]
   refine ⟨⟨rfl,fun p nd hp hn=>?_⟩,?_,fun v hv e p=>?_,fun e he p=>?_⟩
   ·cases p with
    | nil =>
     simp only [get,Option.some.injEq] at hp
     subst hp
     exact ⟨_,h0,rfl,.inl ⟨rfl,rfl⟩⟩
    | cons s p=>cases s <;> simp [get,step] at hp
   ·intro p q nd md u v b h1 h2 h3 h4 h5 h6 h7 h8
    cases p with
    | nil=>rw [h0] at h3; injection h3 with h3; subst h3; simp [fj] at h4
    | cons s p=>cases s <;> simp [get,step] at h1
   ·simp only [dF,uM,dj,hk]
    cases v with
    | zero=>omega
    | succ v=>rfl
   ·simp only [dF,uM,dj,hk]
    cases e with
    | zero=>omega
    | succ e=>rfl
  | _=>rw [hk] at hx; exact hx.elim
 | fz v d' =>
  rw [eG] at hx EG
  have dj:(κ' i).fO=false:=by rw [eG]; rfl
  cases hk:κ i with
  | tree V E d =>
   rw [hk] at hx EG
   simp only [nC] at hx
   obtain ⟨rfl,hx⟩:=hx
   have hi:i∈F:=EG i (by simp [tL])
   rw [jz i dj,if_pos hi,hk] at ki
   obtain ⟨u,h1,h2,h3⟩:=ki
   refine ⟨u,?_,h2,hx _ _ h3⟩
   simp only [dF,uM,dj,hk]
   rw [N9 m i V 0 E,(jO m (G1.H i) i V E (.el 0 0) []).1]
   exact h1
  | fz V d =>
   rw [hk] at hx
   simp only [nC] at hx
   obtain ⟨rfl,hx⟩:=hx
   have dQ:az κc (kg κ F) i=.fz V d:=by rw [jz i dj,hk]; simp [ar.dZ]
   rw [dQ] at ki
   obtain ⟨u,h1,h2,h3⟩:=ki
   refine ⟨u,?_,h2,hx _ _ h3⟩
   simp only [dF,uM,dj,hk]
   rw [(jO m (G1.H i) i V 0 (.el 0 0) []).1]
   exact h1
  | _=>rw [hk] at hx; exact hx.elim
 | eI rc st l' =>
  rw [eG] at hx Fh EG
  cases hk:κ i with
  | eI YF P8 l =>
   rw [hk] at hx EG
   simp only [nC] at hx
   simp only [tL] at EG
   simp only [ar.Tn] at Fh
   obtain ⟨rfl,rfl,hx⟩:=hx
   have hb:=hf.box i
   rw [Rj i (by rw [eG]; rfl),hk] at hb
   obtain ⟨b,fn,tmps,D,jy,hw,hr⟩:=hb
   exact ⟨b,fn,tmps,D,by simp only [dF,reβ,eG,ar.fO,hβ]; exact jy,hw,(nA (m:=m) (κ:=κ) (κ':=κ') (w:=w) hle hβ hH KX iF (SizeOf.sizeOf l'+1)).2 l' l tmps.toList (by omega) hx Fh EG hr⟩
  | _=>rw [hk] at hx; exact hx.elim
 | held =>
  rw [eG] at hx
  cases hk:κ i with
  | held =>
   have dj:(κ' i).fO=false:=by rw [eG]; rfl
   refine ⟨fun v hv e p=>?_,fun e he p=>?_⟩
   ·simp only [dF,uM,dj,hk]
    exact Az (by rw [AA]; exact hv) e p
   ·simp only [dF,uM,dj,hk]
    have:=Hs (m:=m) (h:=G1.H i) (i:=i) (V:=0) (E:=0) (e:=e) (by rw [AA]; exact he) p
    rw [AA] at this
    exact this
  | _=>rw [hk] at hx; exact hx.elim
 | jw j' p' d' KY Od =>
  rw [eG] at hx
  cases hk:κ i with
  | jw j p d left cur =>
   rw [hk] at hx
   simp only [nC] at hx
   obtain ⟨rfl,rfl,rfl,rfl,hc,hh⟩:=hx
   obtain ⟨e1,e2⟩:=CG hh
   have dj:(κ' i).fO=false:=by rw [eG]; rfl
   rw [jz i dj,hk] at ki
   simp only [ar.dZ,ite_self] at ki
   obtain ⟨r,mb,es,clock,seen,ks,mm,hi⟩:=ki
   have I0:aB (dF m κ κ' G1).H j 0 0=aB G1.H j 0 0:=vW e1 (by rw [e2]; rfl)
   refine ⟨r,mb,es,clock,seen,ks,mm,by simp only [dF,reβ,dj]; exact hi.jg,hi.it,by rw [I0]; exact hi.tree,by rw [I0]; exact hi.inj,hi.node,by rw [I0]; exact hi.head,hi.map,hi.left,?_⟩
   rcases hc with rfl | rfl
   ·trivial
   ·exact hi.cur
  | _=>rw [hk] at hx; exact hx.elim
end
end Go.TM
