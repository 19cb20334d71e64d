import Derived.Test.YtpbdohkbiklflaaGreatDoorSM12
set_option linter.unusedVariables false
set_option linter.unusedSimpArgs false
set_option linter.unusedSectionVars false
namespace Go.TM
open Go.RowKit
variable [cj]
def ak.fe:ak→Bool
 | .none=>true
 | _=>false
theorem Fh {b:ak} (h:b.fe=true):b=.none:=by cases b <;> simp [ak.fe] at h; rfl
def nD (m:Nat) (h:Nat→Nat→List PS→Option Value) (i V E v e:Nat):List PS→Option Value
 | []=>if v=(hP m i V E).1∧e=0 then h V 0 [] else if i<m∧v=0∧e=0 then h 0 0 [] else none
 | s::q=>if v=(hP m i V E).1∧e=(hP m i V E).2 then h V E (s::q) else if i<m∧v=0∧e=0 then h 0 0 (s::q) else none
def Ab (v e:Nat) (p:List PS):Option Value:=match v,e,p with
 | 0,0,[]=>some (.slice none 0 0)
 | _,_,_=>none
def sH (m:Nat) (κ κ':Nat→ak) (H:Nat→Nat→Nat→List PS→Option Value) (i v e:Nat) (p:List PS):Option Value :=
 match (κ' i).fe with
 | true=>none
 | false=>match κ i with
  | .tree V E _=>nD m (H i) i V E v e p
  | .fz V _=>nD m (H i) i V 0 v e p
  | .held=>nD m (H i) i 0 0 v e p
  | .none=>Ab v e p
  | _=>if i<m∧v=0∧e=0 then H i 0 0 p else none
def reβ (κ':Nat→ak) (β:Nat→Option Nat) (i:Nat):Option Nat:=match (κ' i).fe with
 | true=>none
 | false=>β i
def dh (m:Nat) (κ κ':Nat→ak) (G:Gh):Gh:={ G with β:=reβ κ' G.β,H:=sH m κ κ' G.H }
theorem Ke (m i V E E':Nat):(hP m i V E).1=(hP m i V E').1:=by
 unfold hP
 cases Nat.blt i m with
 | false=>rfl
 | true=>cases V with
  | zero=>cases E <;> cases E' <;> rfl
  | succ V=>rfl
theorem Ac {m i V E:Nat} (hi:i<m) (h:(hP m i V E).1=0):V=0∧((hP m i V E).2=0→E=0):=by
 unfold hP at *
 have hb:Nat.blt i m=true:=by rw [Nat.blt_eq]; exact hi
 rw [hb] at h ⊢
 cases V with
 | zero=>cases E with
  | zero=>exact ⟨rfl,fun _=>rfl⟩
  | succ E=>exact ⟨rfl,fun h=>by simp at h⟩
 | succ V=>simp at h
theorem sI {m i V E:Nat} (hi:¬ i<m):hP m i V E=(0,0):=by
 unfold hP
 have hb:Nat.blt i m=false:=by cases hb:Nat.blt i m with | false=>rfl | true=>rw [Nat.blt_eq] at hb; exact absurd hb hi
 rw [hb]; rfl
theorem iW (m:Nat) (h:Nat→Nat→List PS→Option Value) (i V E:Nat) (s:PS) (q:List PS):nD m h i V E (hP m i V E).1 0 []=h V 0 []∧nD m h i V E (hP m i V E).1 (hP m i V E).2 (s::q)=h V E (s::q):=by
 simp [nD]
theorem tI {m:Nat} {h:Nat→Nat→List PS→Option Value} {i V E:Nat} (hi:i<m) (p:List PS):nD m h i V E 0 0 p=h 0 0 p:=by
 cases p with
 | nil =>
  simp only [nD]
  split
  ·rename_i hh; rw [(Ac hi hh.1.symm).1]
  ·rw [if_pos (by simp [hi])]
 | cons s q =>
  simp only [nD]
  split
  ·rename_i hh; obtain ⟨h1,h2⟩:=Ac hi hh.1.symm; rw [h1,h2 hh.2.symm]
  ·rw [if_pos (by simp [hi])]
theorem ye {m:Nat} {h:Nat→Nat→List PS→Option Value} {i V E v:Nat} (hv:(hP m i V E).1<v) (e:Nat) (p:List PS):nD m h i V E v e p=none:=by
 cases p with
 | nil=>simp only [nD]; rw [if_neg (by omega),if_neg (by omega)]
 | cons s q=>simp only [nD]; rw [if_neg (by omega),if_neg (by omega)]
theorem D4 {m:Nat} {h:Nat→Nat→List PS→Option Value} {i V E e:Nat} (hv:(hP m i V E).2<e) (p:List PS):nD m h i V E (hP m i V E).1 e p=none:=by
 cases p with
 | nil=>simp only [nD]; rw [if_neg (by omega),if_neg (by omega)]
 | cons s q=>simp only [nD]; rw [if_neg (by omega),if_neg (by omega)]
section
variable {m:Nat} {κ κ':Nat→ak} {G:Gh} {w:World}
theorem mg {H:Nat→Nat→Nat→List PS→Option Value} {i V E:Nat} {d:DV} (hk:κ i=.tree V E d) (hn:(κ' i).fe=false) (p:List PS):az (sH m κ κ' H) i (hP m i V E).1 (hP m i V E).2 p=az H i V E p:=by
 cases p with
 | nil=>simp only [az,sH,hn,hk]; exact (iW m (H i) i V E (.el 0 0) []).1
 | cons s q=>simp only [az,sH,hn,hk]; exact (iW m (H i) i V E s q).2
theorem yf (m i:Nat):hP m i 0 0=(0,0):=by
 unfold hP
 cases Nat.blt i m <;> rfl
theorem tJ {H:Nat→Nat→Nat→List PS→Option Value} {i:Nat} (hk:κ i=.held) (hn:(κ' i).fe=false):az (sH m κ κ' H) i 0 0=az H i 0 0:=by
 have e:=yf m i
 funext p
 cases p with
 | nil =>
  simp only [az,sH,hn,hk]
  have:=(iW m (H i) i 0 0 (.el 0 0) []).1
  rw [e] at this; exact this
 | cons s q =>
  simp only [az,sH,hn,hk]
  have:=(iW m (H i) i 0 0 s q).2
  rw [e] at this; exact this
theorem Ad {a b:ak} (h:match a,b with | .held,.held=>True | _,_=>False):a=.held∧b=.held:=by
 split at h
 ·exact ⟨rfl,rfl⟩
 ·exact h.elim
theorem Kf {v:AV} {i ver ep:Nat} {p:List PS} (h:j8 m κ v=.own i ver ep p):(∃V E e d,v=.own i V e p∧κ i=.tree V E d∧(p=[] ∨ e=E)∧ver=(hP m i V E).1∧ep=(hP m i V E).2) ∨ ∃e,v=.own i 0 e p∧κ i=.held∧(p=[] ∨ e=0)∧ver=0∧ep=0:=by
 cases v with
 | own j V e q =>
  simp only [j8] at h
  split at h
  ·rename_i V' E' d hk
   cases hb:Nat.beq V V' && (emp q || Nat.beq e E') with
   | false=>rw [hb] at h; cases h
   | true =>
    rw [hb] at h
    obtain ⟨rfl,hc⟩:=c6 hb
    simp only [cond_true,AV.own.injEq] at h
    obtain ⟨rfl,h1,h2,rfl⟩:=h
    exact .inl ⟨V,E',e,d,rfl,hk,hc,h1.symm,h2.symm⟩
  ·rename_i hk
   cases hb:Nat.beq V 0 && (emp q || Nat.beq e 0) with
   | false=>rw [hb] at h; cases h
   | true =>
    rw [hb] at h
    obtain ⟨rfl,hc⟩:=c6 hb
    simp only [cond_true,AV.own.injEq] at h
    obtain ⟨rfl,h1,h2,rfl⟩:=h
    exact .inr ⟨e,rfl,hk,hc,h1.symm,h2.symm⟩
  ·cases h
 | loc j V e q a b c =>
  simp only [j8] at h
  split at h
  ·rename_i V' E' d hk
   cases hb:Nat.beq V V' && (emp q || Nat.beq e E') <;> rw [hb] at h <;> cases h
  ·cases h
 | pre j V e q a b c =>
  simp only [j8] at h
  split at h
  ·rename_i V' E' d hk
   cases hb:Nat.beq V V' && (emp q || Nat.beq e E') <;> rw [hb] at h <;> cases h
  ·cases h
 | bM j V =>
  simp only [j8] at h
  split at h
  ·rename_i V' E' d hk
   cases hb:Nat.beq V V' <;> rw [hb] at h <;> cases h
  ·cases h
 | _=>simp [j8] at h
theorem Hi {v:AV} {i ver:Nat} (h:j8 m κ v=.bM i ver):∃V E d,v=.bM i V∧κ i=.tree V E d∧ver=(hP m i V E).1:=by
 cases v with
 | bM j V =>
  simp only [j8] at h
  split at h
  ·rename_i V' E' d hk
   cases hb:Nat.beq V V' with
   | false=>rw [hb] at h; cases h
   | true =>
    rw [hb] at h
    have:=Nat.eq_of_beq_eq_true hb
    subst this
    simp only [cond_true,AV.bM.injEq] at h
    obtain ⟨rfl,h1⟩:=h
    exact ⟨V,E',d,rfl,hk,h1.symm⟩
  ·cases h
 | own j V e q =>
  simp only [j8] at h
  split at h
  ·rename_i V' E' d hk
   cases hb:Nat.beq V V' && (emp q || Nat.beq e E') <;> rw [hb] at h <;> cases h
  ·cases hb:Nat.beq V 0 && (emp q || Nat.beq e 0) <;> rw [hb] at h <;> cases h
  ·cases h
 | loc j V e q a b c =>
  simp only [j8] at h
  split at h
  ·rename_i V' E' d hk
   cases hb:Nat.beq V V' && (emp q || Nat.beq e E') <;> rw [hb] at h <;> cases h
  ·cases h
 | pre j V e q a b c =>
  simp only [j8] at h
  split at h
  ·rename_i V' E' d hk
   cases hb:Nat.beq V V' && (emp q || Nat.beq e E') <;> rw [hb] at h <;> cases h
  ·cases h
 | _=>simp [j8] at h
theorem Kg {v:AV} {i ver ep a b c:Nat} {p:List PS} (h:j8 m κ v=.loc i ver ep p a b c):∃V E e d,v=.loc i V e p a b c∧κ i=.tree V E d∧(p=[] ∨ e=E)∧ver=(hP m i V E).1∧ep=(hP m i V E).2:=by
 cases v with
 | loc j V e q a b c =>
  simp only [j8] at h
  split at h
  ·rename_i V' E' d hk
   cases hb:Nat.beq V V' && (emp q || Nat.beq e E') with
   | false=>rw [hb] at h; cases h
   | true =>
    rw [hb] at h
    obtain ⟨rfl,hc⟩:=c6 hb
    simp only [cond_true,AV.loc.injEq] at h
    obtain ⟨rfl,h1,h2,rfl,rfl,rfl,rfl⟩:=h
    exact ⟨V,E',e,d,rfl,hk,hc,h1.symm,h2.symm⟩
  ·cases h
 | pre j V e q a b c =>
  simp only [j8] at h
  split at h
  ·rename_i V' E' d hk
   cases hb:Nat.beq V V' && (emp q || Nat.beq e E') <;> rw [hb] at h <;> cases h
  ·cases h
 | own j V e q =>
  simp only [j8] at h
  split at h
  ·rename_i V' E' d hk
   cases hb:Nat.beq V V' && (emp q || Nat.beq e E') <;> rw [hb] at h <;> cases h
  ·cases hb:Nat.beq V 0 && (emp q || Nat.beq e 0) <;> rw [hb] at h <;> cases h
  ·cases h
 | bM j V =>
  simp only [j8] at h
  split at h
  ·rename_i V' E' d hk
   cases hb:Nat.beq V V' <;> rw [hb] at h <;> cases h
  ·cases h
 | _=>simp [j8] at h
theorem Kh {v:AV} {i ver ep a b c:Nat} {p:List PS} (h:j8 m κ v=.pre i ver ep p a b c):∃V E e d,v=.pre i V e p a b c∧κ i=.tree V E d∧(p=[] ∨ e=E)∧ver=(hP m i V E).1∧ep=(hP m i V E).2:=by
 cases v with
 | pre j V e q a b c =>
  simp only [j8] at h
  split at h
  ·rename_i V' E' d hk
   cases hb:Nat.beq V V' && (emp q || Nat.beq e E') with
   | false=>rw [hb] at h; cases h
   | true =>
    rw [hb] at h
    obtain ⟨rfl,hc⟩:=c6 hb
    simp only [cond_true,AV.pre.injEq] at h
    obtain ⟨rfl,h1,h2,rfl,rfl,rfl,rfl⟩:=h
    exact ⟨V,E',e,d,rfl,hk,hc,h1.symm,h2.symm⟩
  ·cases h
 | loc j V e q a b c =>
  simp only [j8] at h
  split at h
  ·rename_i V' E' d hk
   cases hb:Nat.beq V V' && (emp q || Nat.beq e E') <;> rw [hb] at h <;> cases h
  ·cases h
 | own j V e q =>
  simp only [j8] at h
  split at h
  ·rename_i V' E' d hk
   cases hb:Nat.beq V V' && (emp q || Nat.beq e E') <;> rw [hb] at h <;> cases h
  ·cases hb:Nat.beq V 0 && (emp q || Nat.beq e 0) <;> rw [hb] at h <;> cases h
  ·cases h
 | bM j V =>
  simp only [j8] at h
  split at h
  ·rename_i V' E' d hk
   cases hb:Nat.beq V V' <;> rw [hb] at h <;> cases h
  ·cases h
 | _=>simp [j8] at h
theorem yg {b:ak} (h:b.Hj=true):b.fe=false:=by cases b <;> simp [ak.Hj] at h <;> rfl
theorem yh {b:ak} {v e:Nat} (h:b.OT v e=true):b.fe=false:=by cases b <;> simp [ak.OT] at h <;> rfl
theorem pA:∀{l' l:List AV},dW m κ κ' l' l→l'.length=l.length
 | [],[],_=>rfl
 | [],_::_,h=>by simp [dW] at h
 | _::_,[],h=>by simp [dW] at h
 | _::_,_::_,h=>by simp only [dW] at h; simp [pA h.2]
theorem mi {κc:Nat→ak} {F:List Nat} {G1:Gh} (hle:Gh.Le G G1) (hβ:G1.β=G.β) (hH:G1.H=G.H) (Hk:∀i,i∈F→κc i=κ i) (jt:Fit G1 w (aq κc (js κ F))):∀(N:Nat),
  (∀(u v:AV) (x:Value),SizeOf.sizeOf u<N→eB m κ κ' u v→AV.sc κ' u=true→(∀i,i∈tK κ u v→i∈F)→aC G v x→aC (dh m κ κ' G1) u x) ∧
  (∀(us vs:List AV) (xs:List Value),SizeOf.sizeOf us<N→dW m κ κ' us vs→AV.D5 κ' us=true→(∀i,i∈di κ us vs→i∈F)→bJ G vs xs→bJ (dh m κ κ' G1) us xs):=by
 intro N
 induction N with
 | zero=>exact ⟨fun _ _ _ h=>by omega,fun _ _ _ h=>by omega⟩
 | succ N ih =>
  have xR:∀{i b:Nat},G.β i=some b→(κ' i).fe=false→(dh m κ κ' G1).β i=some b:=fun {i b} h hn=>by simp only [dh,reβ,hn,hβ]; exact h
  refine ⟨fun u v x aN hs hc hF hv=>?_,fun us vs xs aN hs hc hF hr=>?_⟩
  ·cases u with
   | any=>exact .any _
   | dv d' =>
    simp only [eB,Ps] at hs
    split at hs
    ·rename_i d ids hd
     simp only [tK,Pt,hd] at hF
     exact .dv (hs _ x (qD (κ:=κ) (κ':=κc) (w:=w) (G':=G1) hd hF Hk hle jt hv))
    ·exact hs.elim
   | agg l' =>
    cases v with
    | agg l =>
     simp only [eB] at hs
     simp only [AV.sc] at hc
     simp only [tK] at hF
     cases hv with | agg _ ys hl hr =>
     have:=ih.2 l' l ys (by simp at aN; omega) hs hc hF ⟨hl,hr⟩
     exact .agg l' ys this.1 this.2
    | _=>simp [eB] at hs
   | eJ l' =>
    cases v with
    | eJ l =>
     simp only [eB] at hs
     simp only [AV.sc] at hc
     simp only [tK] at hF
     cases hv with | eJ _ ys hl hr =>
     have:=ih.2 l' l ys (by simp at aN; omega) hs hc hF ⟨hl,hr⟩
     exact .eJ l' ys this.1 this.2
    | _=>simp [eB] at hs
   | fn f' l' =>
    cases v with
    | fn f l =>
     simp only [eB] at hs
     simp only [AV.sc] at hc
     simp only [tK] at hF
     obtain ⟨rfl,hs⟩:=hs
     cases hv with | fn _ _ ys hl hr =>
     have:=ih.2 l' l ys (by simp at aN; omega) hs hc hF ⟨hl,hr⟩
     exact .fn f l' ys this.1 this.2
    | _=>simp [eB] at hs
   | gJ f' l' =>
    cases v with
    | gJ f l =>
     simp only [eB] at hs
     simp only [AV.sc] at hc
     simp only [tK] at hF
     obtain ⟨rfl,hs⟩:=hs
     cases hv with | gJ _ _ ys hl hr =>
     have:=ih.2 l' l ys (by simp at aN; omega) hs hc hF ⟨hl,hr⟩
     exact .gJ f l' ys this.1 this.2
    | _=>simp [eB] at hs
   | ptr i off =>
    simp only [eB] at hs
    simp only [AV.sc] at hc
    subst hs
    cases hv with | ptr _ _ b hb=>exact .ptr i off b (xR hb (yg hc))
   | fc i =>
    simp only [eB] at hs
    simp only [AV.sc] at hc
    subst hs
    cases hv with | fc _ l hb=>exact .fc i l (xR hb (yg hc))
   | sle i k =>
    simp only [eB] at hs
    simp only [AV.sc] at hc
    subst hs
    cases hv with | sle _ _ b hb=>exact .sle i k b (xR hb (yg hc))
   | own i ver ep p =>
    simp only [eB] at hs
    simp only [AV.sc] at hc
    have dj:=yh hc
    unfold yi at hs
    split at hs
    ·obtain ⟨rfl,rfl,rfl,hb,sz,cE⟩:=hs
     cases hv with | dv hv=>cases hv with | aD =>
     refine .own i 0 0 [] _ ?_ rfl
     simp only [az,dh,sH,dj,hb,Ab]
    ·rcases Kf hs with ⟨V,E,e,d,R5,hk,c9,rfl,rfl⟩ | ⟨e,R5,hk,c9,rfl,rfl⟩
     ·have hv:=wN hv
      rw [R5] at hv
      cases hv with | own _ _ _ _ _ hh hU =>
      refine .own i _ _ p x ?_ hU
      rw [cB c9] at hh
      simp only [dh]
      rw [mg hk dj,hH]; exact hh
     ·have hv:=wN hv
      rw [R5] at hv
      cases hv with | own _ _ _ _ _ hh hU =>
      refine .own i _ _ p x ?_ hU
      rw [cB c9] at hh
      simp only [dh]
      rw [tJ hk dj,hH]; exact hh
   | loc i ver ep p a b c =>
    simp only [eB] at hs
    simp only [AV.sc] at hc
    have dj:=yh hc
    obtain ⟨V,E,e,d,rfl,hk,c9,rfl,rfl⟩:=Kg hs
    cases hv with
    | loc _ _ _ _ _ _ _ A q q' hh =>
     refine .loc i _ _ p a b c A q q' ?_
     rw [cB c9] at hh
     simp only [dh]
     rw [mg hk dj,hH]; exact hh
    | lP _ _ _ _ _ _ _ A hh =>
     refine .lP i _ _ p a b c A ?_
     rw [cB c9] at hh
     simp only [dh]
     rw [mg hk dj,hH]; exact hh
   | pre i ver ep p a b c =>
    simp only [eB] at hs
    simp only [AV.sc] at hc
    have dj:=yh hc
    obtain ⟨V,E,e,d,rfl,hk,c9,rfl,rfl⟩:=Kh hs
    cases hv with
    | pre _ _ _ _ _ _ _ q q' hh =>
     refine .pre i _ _ p a b c q q' fun hn=>?_
     obtain ⟨A,N,c',hh,e2⟩:=hh hn
     refine ⟨A,N,c',?_,e2⟩
     rw [cB c9] at hh
     simp only [dh]
     rw [mg hk dj,hH]; exact hh
   | bM i ver =>
    simp only [eB] at hs
    simp only [AV.sc] at hc
    have dj:=yh hc
    obtain ⟨V,E,d,rfl,hk,rfl⟩:=Hi hs
    cases hv with | bM _ _ A q hh =>
    refine .bM i _ A q ?_
    have:=mg (m:=m) (H:=G1.H) hk dj []
    simp only [az] at this
    simp only [dh]
    rw [this,hH]; exact hh
   | opt g u=>simp [AV.sc] at hc
  ·cases us with
   | nil =>
    cases vs with
    | nil=>exact ⟨hr.1,by simp⟩
    | cons=>simp [dW] at hs
   | cons u us =>
    cases vs with
    | nil=>simp [dW] at hs
    | cons v vs =>
     simp only [dW] at hs
     simp only [AV.D5,Bool.and_eq_true] at hc
     simp only [di] at hF
     match xs,hr with
     | [],hr=>have:=hr.1; simp at this
     | x::xs,hr =>
      have h1:=ih.1 u v x (by simp at aN; omega) hs.1 hc.1 (fun i hi=>hF i (by simp [hi])) (hr.2 0 v x rfl rfl)
      have h2:=ih.2 us vs xs (by simp at aN; omega) hs.2 hc.2 (fun i hi=>hF i (by simp [hi])) ⟨by simpa using hr.1,fun q e y he hy=>hr.2 (q+1) e y (by simpa using he) (by simpa using hy)⟩
      refine ⟨by simp [h2.1],fun j d y hd hy=>?_⟩
      cases j with
      | zero=>simp at hd hy; subst hd; subst hy; exact h1
      | succ j=>exact h2.2 j d y (by simpa using hd) (by simpa using hy)
theorem tL:∀{F:List Nat},yj κ' F=true→∀i,i∈F→∀v e d,κ' i ≠ .tree v e d
 | [],_,i,hi,_,_,_=>by simp at hi
 | j::F,h,i,hi,v,e,d=>by
  simp only [yj,Bool.and_eq_true] at h
  rcases List.mem_cons.1 hi with rfl | hi
  ·intro hk; rw [hk] at h; cases h.1
  ·exact tL h.2 i hi v e d
def Ae (m:Nat) (κ κ':Nat→ak) (F:List Nat) (i:Nat):Prop:=mj m κ κ' i (κ i) (κ' i)∧(κ' i).OU κ'=true∧∀j,j∈rQ κ i (κ i) (κ' i)→j∈F
theorem L4 {κc:Nat→ak} {F:List Nat} {G1:Gh} (hf:Fit G w κc) (hle:Gh.Le G G1) (hβ:G1.β=G.β) (hH:G1.H=G.H) (hX:G1.X=G.X) (Hk:∀i,i∈F→κc i=κ i) (M8:∀i,(κ' i).fe=false→κc i=κ i) (jt:Fit G1 w (aq κc (js κ F))) (jv:yj κ' F=true) (hs:∀i,Ae m κ κ' F i) :
  Fit (dh m κ κ' G1) w κ'∧∀i b,bE (dh m κ κ' G1) i (κ' i) b→bE G1 i (aq κc (js κ F) i) b:=by
 have M9:=mn (κ:=κ) (κ':=κc) (ids:=F) Hk
 have iH:∀j,(κ' j).fe=false→aq κc (js κ F) j=if j∈F then (κ j).dI else κ j:=fun j hj=>by rw [M9,M8 j hj]
 have gK:∀i b,bE (dh m κ κ' G1) i (κ' i) b→bE G1 i (aq κc (js κ F) i) b:=by
  intro i b ho
  obtain ⟨hx,Cq,BT⟩:=hs i
  cases ed:κ' i with
  | none=>rw [ed] at ho; exact ho.elim
  | dead=>rw [ed] at ho; exact ho.elim
  | fz=>rw [ed] at ho; exact ho.elim
  | cells l' =>
   rw [ed] at ho hx
   cases hk:κ i with
   | cells l =>
    have dz:aq κc (js κ F) i=.cells l:=by rw [iH i (by rw [ed]; rfl),hk]; simp [ak.dI]
    rw [dz]
    simp only [bE,dh,reβ,ed,ak.fe] at ho ⊢
    exact ho
   | _=>rw [hk] at hx; exact hx.elim
  | tree v e d' =>
   rw [ed] at ho hx
   cases hk:κ i with
   | tree V E d =>
    rw [hk] at hx
    simp only [mj] at hx
    obtain ⟨hx,rfl⟩:=hx
    have R6:i ∉ F:=fun hi=>tL jv i hi _ _ _ ed
    have dz:aq κc (js κ F) i=.tree V E d:=by rw [iH i (by rw [ed]; rfl),if_neg R6,hk]
    rw [dz]
    have e1:v=(hP m i V E).1:=by rw [hx]
    have e2:e=(hP m i V E).2:=by rw [hx]
    subst e1; subst e2
    obtain ⟨p,nd,u,h1,h2,h3,h4⟩:=ho
    simp only [dh] at h3
    rw [mg hk (by rw [ed]; rfl)] at h3
    exact ⟨p,nd,u,h1,h2,h3,h4⟩
   | none =>
    rw [hk] at hx
    simp only [mj] at hx
    obtain ⟨rfl,rfl,sz,rfl⟩:=hx
    obtain ⟨p,nd,u,h1,h2,h3,h4⟩:=ho
    cases p with
    | nil =>
     simp only [az,dh,sH,ed,ak.fe,hk,Ab,Option.some.injEq] at h3
     subst h3; simp [eW] at h4
    | cons s p=>cases s <;> simp [get,step] at h1
   | _=>rw [hk] at hx; exact hx.elim
  | eg rc st l' =>
   rw [ed] at ho hx
   cases hk:κ i with
   | eg TT TU l =>
    have dz:aq κc (js κ F) i=.eg TT TU l:=by rw [iH i (by rw [ed]; rfl),hk]; simp [ak.dI]
    rw [dz]
    simp only [bE,dh,reβ,ed,ak.fe] at ho ⊢
    exact ho
   | _=>rw [hk] at hx; exact hx.elim
  | held=>rw [ed] at ho; exact ho.elim
  | iF j' p' d' Hl Ki =>
   rw [ed] at ho hx
   cases hk:κ i with
   | iF j p d left cur =>
    rw [hk] at hx
    simp only [mj] at hx
    obtain ⟨rfl,rfl,rfl,rfl,_,hh⟩:=hx
    obtain ⟨e1,e2⟩:=Ad hh
    have dz:aq κc (js κ F) i=.iF j p d left cur:=by rw [iH i (by rw [ed]; rfl),hk]; simp [ak.dI]
    rw [dz]
    simp only [bE,dh,reβ,ed,ak.fe] at ho ⊢
    rw [tJ e1 (by rw [e2]; rfl)] at ho
    exact ho
   | _=>rw [hk] at hx; exact hx.elim
 refine ⟨⟨jt.sub,fun i=>?_,fun i b ho=>jt.own i b (gK i b ho),fun i j b ho gL=>jt.inj i j b (gK i b ho) (gK j b gL)⟩,gK⟩
 obtain ⟨hx,Cq,BT⟩:=hs i
 have jN:=jt.box i
 cases ed:κ' i with
 | none=>exact ⟨by simp [dh,reβ,ed,ak.fe],fun v e p=>by simp [dh,sH,ed,ak.fe]⟩
 | dead=>trivial
 | cells l' =>
  rw [ed] at hx Cq BT
  cases hk:κ i with
  | cells l =>
   rw [hk] at hx BT
   simp only [mj] at hx
   simp only [rQ] at BT
   simp only [ak.OU,Bool.and_eq_true] at Cq
   have hb:=hf.box i
   rw [M8 i (by rw [ed]; rfl),hk] at hb
   obtain ⟨b,c,t,iQ,hw,aN,jL,hr⟩:=hb
   have hlen:=pA hx
   refine ⟨b,c,t,by simp only [dh,reβ,ed,ak.fe,hβ]; exact iQ,hw,by rw [aN,hlen],eF Cq.2,fun j d v hd hv=>?_⟩
   have:=(mi (m:=m) (κ:=κ) (κ':=κ') (w:=w) hle hβ hH Hk jt (SizeOf.sizeOf l'+1)).2 l' l c.toList (by omega) hx Cq.1 BT ⟨by simp [aN],fun j d v hd hv=>hr j d v hd (by simpa using hv)⟩
   exact this.2 j d v hd (by simpa using hv)
  | _=>rw [hk] at hx; exact hx.elim
 | tree v e d' =>
  rw [ed] at hx
  cases hk:κ i with
  | tree V E d =>
   rw [hk] at hx
   simp only [mj] at hx
   obtain ⟨hx,rfl⟩:=hx
   have R6:i ∉ F:=fun hi=>tL jv i hi _ _ _ ed
   rw [iH i (by rw [ed]; rfl),if_neg R6,hk] at jN
   have e1:v=(hP m i V E).1:=by rw [hx]
   have e2:e=(hP m i V E).2:=by rw [hx]
   subst e1; subst e2
   have dj:(κ' i).fe=false:=by rw [ed]; rfl
   have Fi:az (dh m κ κ' G1).H i (hP m i V E).1 (hP m i V E).2=az G1.H i V E:=funext fun p=>by simp only [dh]; exact mg hk dj p
   refine ⟨?_,?_,fun v hv e p=>?_,fun e he p=>?_⟩
   ·rw [Fi]; exact jN.1
   ·rw [Fi]; exact jN.2.1
   ·simp only [dh,sH,dj,hk]; exact ye hv e p
   ·simp only [dh,sH,dj,hk]; exact D4 he p
  | none =>
   rw [hk] at hx
   simp only [mj] at hx
   obtain ⟨rfl,rfl,sz,rfl⟩:=hx
   have dj:(κ' i).fe=false:=by rw [ed]; rfl
   have h0:az (dh m κ κ' G1).H i 0 0 []=some (.slice none 0 0):=by simp only [az,dh,sH,dj,hk,Ab]
   refine ⟨⟨rfl,fun p nd hp hn=>?_⟩,?_,fun v hv e p=>?_,fun e he p=>?_⟩
   ·cases p with
    | nil =>
     simp only [get,Option.some.injEq] at hp
     subst hp
     exact ⟨_,h0,rfl,.inl ⟨rfl,rfl⟩⟩
    | cons s p=>cases s <;> simp [get,step] at hp
   ·intro p q nd md u v b h1 h2 h3 h4 h5 h6 h7 h8
    cases p with
    | nil=>rw [h0] at h3; injection h3 with h3; subst h3; simp [eW] at h4
    | cons s p=>cases s <;> simp [get,step] at h1
   ·simp only [dh,sH,dj,hk]
    cases v with
    | zero=>omega
    | succ v=>rfl
   ·simp only [dh,sH,dj,hk]
    cases e with
    | zero=>omega
    | succ e=>rfl
  | _=>rw [hk] at hx; exact hx.elim
 | fz v d' =>
  rw [ed] at hx BT
  have dj:(κ' i).fe=false:=by rw [ed]; rfl
  cases hk:κ i with
  | tree V E d =>
   rw [hk] at hx BT
   simp only [mj] at hx
   obtain ⟨rfl,hx⟩:=hx
   have hi:i∈F:=BT i (by simp [rQ])
   rw [iH i dj,if_pos hi,hk] at jN
   obtain ⟨u,h1,h2,h3⟩:=jN
   refine ⟨u,?_,h2,hx _ _ h3⟩
   simp only [dh,sH,dj,hk]
   rw [Ke m i V 0 E,(iW m (G1.H i) i V E (.el 0 0) []).1]
   exact h1
  | fz V d =>
   rw [hk] at hx
   simp only [mj] at hx
   obtain ⟨rfl,hx⟩:=hx
   have dz:aq κc (js κ F) i=.fz V d:=by rw [iH i dj,hk]; simp [ak.dI]
   rw [dz] at jN
   obtain ⟨u,h1,h2,h3⟩:=jN
   refine ⟨u,?_,h2,hx _ _ h3⟩
   simp only [dh,sH,dj,hk]
   rw [(iW m (G1.H i) i V 0 (.el 0 0) []).1]
   exact h1
  | _=>rw [hk] at hx; exact hx.elim
 | eg rc st l' =>
  rw [ed] at hx Cq BT
  cases hk:κ i with
  | eg TT TU l =>
   rw [hk] at hx BT
   simp only [mj] at hx
   simp only [rQ] at BT
   simp only [ak.OU] at Cq
   obtain ⟨rfl,rfl,hx⟩:=hx
   have hb:=hf.box i
   rw [M8 i (by rw [ed]; rfl),hk] at hb
   obtain ⟨b,fn,tmps,D,iQ,hw,hr⟩:=hb
   exact ⟨b,fn,tmps,D,by simp only [dh,reβ,ed,ak.fe,hβ]; exact iQ,hw,(mi (m:=m) (κ:=κ) (κ':=κ') (w:=w) hle hβ hH Hk jt (SizeOf.sizeOf l'+1)).2 l' l tmps.toList (by omega) hx Cq BT hr⟩
  | _=>rw [hk] at hx; exact hx.elim
 | held =>
  rw [ed] at hx
  cases hk:κ i with
  | held =>
   have dj:(κ' i).fe=false:=by rw [ed]; rfl
   refine ⟨fun v hv e p=>?_,fun e he p=>?_⟩
   ·simp only [dh,sH,dj,hk]
    exact ye (by rw [yf]; exact hv) e p
   ·simp only [dh,sH,dj,hk]
    have:=D4 (m:=m) (h:=G1.H i) (i:=i) (V:=0) (E:=0) (e:=e) (by rw [yf]; exact he) p
    rw [yf] at this
    exact this
  | _=>rw [hk] at hx; exact hx.elim
 | iF j' p' d' Hl Ki =>
  rw [ed] at hx
  cases hk:κ i with
  | iF j p d left cur =>
   rw [hk] at hx
   simp only [mj] at hx
   obtain ⟨rfl,rfl,rfl,rfl,hc,hh⟩:=hx
   obtain ⟨e1,e2⟩:=Ad hh
   have dj:(κ' i).fe=false:=by rw [ed]; rfl
   rw [iH i dj,hk] at jN
   simp only [ak.dI,ite_self] at jN
   obtain ⟨r,mb,es,clock,seen,ks,mm,hi⟩:=jN
   have Fi:az (dh m κ κ' G1).H j 0 0=az G1.H j 0 0:=tJ e1 (by rw [e2]; rfl)
   refine ⟨r,mb,es,clock,seen,ks,mm,by simp only [dh,reβ,dj]; exact hi.ju,hi.it,by rw [Fi]; exact hi.tree,by rw [Fi]; exact hi.inj,hi.node,by rw [Fi]; exact hi.head,hi.map,hi.left,?_⟩
   rcases hc with rfl | rfl
   ·trivial
   ·exact hi.cur
  | _=>rw [hk] at hx; exact hx.elim
end
end Go.TM
