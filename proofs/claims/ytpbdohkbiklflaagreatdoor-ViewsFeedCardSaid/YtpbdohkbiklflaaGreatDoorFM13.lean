import Derived.Test.YtpbdohkbiklflaaGreatDoorFM12
set_option linter.unusedVariables false
set_option linter.unusedSimpArgs false
set_option linter.unusedSectionVars false
namespace Go.TM
open Go.RowKit
variable [cu]
def ao.fA:ao→Bool
 | .none=>true
 | _=>false
theorem Hu {b:ao} (h:b.fA=true):b=.none:=by cases b <;> simp [ao.fA] at h; rfl
def ow (m:Nat) (h:Nat→Nat→List PS→Option Value) (i V E v e:Nat):List PS→Option Value
 | []=>if v=(iz m i V E).1∧e=0 then h V 0 [] else if i<m∧v=0∧e=0 then h 0 0 [] else none
 | s::q=>if v=(iz m i V E).1∧e=(iz m i V E).2 then h V E (s::q) else if i<m∧v=0∧e=0 then h 0 0 (s::q) else none
def BH (v e:Nat) (p:List PS):Option Value:=match v,e,p with
 | 0,0,[]=>some (.slice none 0 0)
 | _,_,_=>none
def tS (m:Nat) (κ κ':Nat→ao) (H:Nat→Nat→Nat→List PS→Option Value) (i v e:Nat) (p:List PS):Option Value :=
 match (κ' i).fA with
 | true=>none
 | false=>match κ i with
  | .tree V E _=>ow m (H i) i V E v e p
  | .fz V _=>ow m (H i) i V 0 v e p
  | .held=>ow m (H i) i 0 0 v e p
  | .none=>BH v e p
  | _=>if i<m∧v=0∧e=0 then H i 0 0 p else none
def reβ (κ':Nat→ao) (β:Nat→Option Nat) (i:Nat):Option Nat:=match (κ' i).fA with
 | true=>none
 | false=>β i
def dy (m:Nat) (κ κ':Nat→ao) (G:Gh):Gh:={ G with β:=reβ κ' G.β,H:=tS m κ κ' G.H }
theorem Mp (m i V E E':Nat):(iz m i V E).1=(iz m i V E').1:=by
 unfold iz
 cases Nat.blt i m with
 | false=>rfl
 | true=>cases V with
  | zero=>cases E <;> cases E' <;> rfl
  | succ V=>rfl
theorem BI {m i V E:Nat} (hi:i<m) (h:(iz m i V E).1=0):V=0∧((iz m i V E).2=0→E=0):=by
 unfold iz at *
 have hb:Nat.blt i m=true:=by rw [Nat.blt_eq]; exact hi
 rw [hb] at h ⊢
 cases V with
 | zero=>cases E with
  | zero=>exact ⟨rfl,fun _=>rfl⟩
  | succ E=>exact ⟨rfl,fun h=>by simp at h⟩
 | succ V=>simp at h
theorem tT {m i V E:Nat} (hi:¬ i<m):iz m i V E=(0,0):=by
 unfold iz
 have hb:Nat.blt i m=false:=by cases hb:Nat.blt i m with | false=>rfl | true=>rw [Nat.blt_eq] at hb; exact absurd hb hi
 rw [hb]; rfl
theorem jv (m:Nat) (h:Nat→Nat→List PS→Option Value) (i V E:Nat) (s:PS) (q:List PS):ow m h i V E (iz m i V E).1 0 []=h V 0 []∧ow m h i V E (iz m i V E).1 (iz m i V E).2 (s::q)=h V E (s::q):=by
 simp [ow]
theorem u6 {m:Nat} {h:Nat→Nat→List PS→Option Value} {i V E:Nat} (hi:i<m) (p:List PS):ow m h i V E 0 0 p=h 0 0 p:=by
 cases p with
 | nil =>
  simp only [ow]
  split
  ·rename_i hh; rw [(BI hi hh.1.symm).1]
  ·rw [if_pos (by simp [hi])]
 | cons s q =>
  simp only [ow]
  split
  ·rename_i hh; obtain ⟨h1,h2⟩:=BI hi hh.1.symm; rw [h1,h2 hh.2.symm]
  ·rw [if_pos (by simp [hi])]
theorem zI {m:Nat} {h:Nat→Nat→List PS→Option Value} {i V E v:Nat} (hv:(iz m i V E).1<v) (e:Nat) (p:List PS):ow m h i V E v e p=none:=by
 cases p with
 | nil=>simp only [ow]; rw [if_neg (by omega),if_neg (by omega)]
 | cons s q=>simp only [ow]; rw [if_neg (by omega),if_neg (by omega)]
theorem F4 {m:Nat} {h:Nat→Nat→List PS→Option Value} {i V E e:Nat} (hv:(iz m i V E).2<e) (p:List PS):ow m h i V E (iz m i V E).1 e p=none:=by
 cases p with
 | nil=>simp only [ow]; rw [if_neg (by omega),if_neg (by omega)]
 | cons s q=>simp only [ow]; rw [if_neg (by omega),if_neg (by omega)]
section
variable {m:Nat} {κ κ':Nat→ao} {G:Gh} {w:World}
theorem mQ {H:Nat→Nat→Nat→List PS→Option Value} {i V E:Nat} {d:DV} (hk:κ i=.tree V E d) (hn:(κ' i).fA=false) (p:List PS):aB (tS m κ κ' H) i (iz m i V E).1 (iz m i V E).2 p=aB H i V E p:=by
 cases p with
 | nil=>simp only [aB,tS,hn,hk]; exact (jv m (H i) i V E (.el 0 0) []).1
 | cons s q=>simp only [aB,tS,hn,hk]; exact (jv m (H i) i V E s q).2
theorem zJ (m i:Nat):iz m i 0 0=(0,0):=by
 unfold iz
 cases Nat.blt i m <;> rfl
theorem u7 {H:Nat→Nat→Nat→List PS→Option Value} {i:Nat} (hk:κ i=.held) (hn:(κ' i).fA=false):aB (tS m κ κ' H) i 0 0=aB H i 0 0:=by
 have e:=zJ m i
 funext p
 cases p with
 | nil =>
  simp only [aB,tS,hn,hk]
  have:=(jv m (H i) i 0 0 (.el 0 0) []).1
  rw [e] at this; exact this
 | cons s q =>
  simp only [aB,tS,hn,hk]
  have:=(jv m (H i) i 0 0 s q).2
  rw [e] at this; exact this
theorem BJ {a b:ao} (h:match a,b with | .held,.held=>True | _,_=>False):a=.held∧b=.held:=by
 split at h
 ·exact ⟨rfl,rfl⟩
 ·exact h.elim
theorem Mq {v:AV} {i ver ep:Nat} {p:List PS} (h:kB m κ v=.own i ver ep p):(∃V E e d,v=.own i V e p∧κ i=.tree V E d∧(p=[] ∨ e=E)∧ver=(iz m i V E).1∧ep=(iz m i V E).2) ∨ ∃e,v=.own i 0 e p∧κ i=.held∧(p=[] ∨ e=0)∧ver=0∧ep=0:=by
 cases v with
 | own j V e q =>
  simp only [kB] at h
  split at h
  ·rename_i V' E' d hk
   cases hb:Nat.beq V V' && (emp q || Nat.beq e E') with
   | false=>rw [hb] at h; cases h
   | true =>
    rw [hb] at h
    obtain ⟨rfl,hc⟩:=dh hb
    simp only [cond_true,AV.own.injEq] at h
    obtain ⟨rfl,h1,h2,rfl⟩:=h
    exact .inl ⟨V,E',e,d,rfl,hk,hc,h1.symm,h2.symm⟩
  ·rename_i hk
   cases hb:Nat.beq V 0 && (emp q || Nat.beq e 0) with
   | false=>rw [hb] at h; cases h
   | true =>
    rw [hb] at h
    obtain ⟨rfl,hc⟩:=dh hb
    simp only [cond_true,AV.own.injEq] at h
    obtain ⟨rfl,h1,h2,rfl⟩:=h
    exact .inr ⟨e,rfl,hk,hc,h1.symm,h2.symm⟩
  ·cases h
 | loc j V e q a b c =>
  simp only [kB] at h
  split at h
  ·rename_i V' E' d hk
   cases hb:Nat.beq V V' && (emp q || Nat.beq e E') <;> rw [hb] at h <;> cases h
  ·cases h
 | pre j V e q a b c =>
  simp only [kB] at h
  split at h
  ·rename_i V' E' d hk
   cases hb:Nat.beq V V' && (emp q || Nat.beq e E') <;> rw [hb] at h <;> cases h
  ·cases h
 | bS j V =>
  simp only [kB] at h
  split at h
  ·rename_i V' E' d hk
   cases hb:Nat.beq V V' <;> rw [hb] at h <;> cases h
  ·cases h
 | _=>simp [kB] at h
theorem Js {v:AV} {i ver:Nat} (h:kB m κ v=.bS i ver):∃V E d,v=.bS i V∧κ i=.tree V E d∧ver=(iz m i V E).1:=by
 cases v with
 | bS j V =>
  simp only [kB] at h
  split at h
  ·rename_i V' E' d hk
   cases hb:Nat.beq V V' with
   | false=>rw [hb] at h; cases h
   | true =>
    rw [hb] at h
    have:=Nat.eq_of_beq_eq_true hb
    subst this
    simp only [cond_true,AV.bS.injEq] at h
    obtain ⟨rfl,h1⟩:=h
    exact ⟨V,E',d,rfl,hk,h1.symm⟩
  ·cases h
 | own j V e q =>
  simp only [kB] at h
  split at h
  ·rename_i V' E' d hk
   cases hb:Nat.beq V V' && (emp q || Nat.beq e E') <;> rw [hb] at h <;> cases h
  ·cases hb:Nat.beq V 0 && (emp q || Nat.beq e 0) <;> rw [hb] at h <;> cases h
  ·cases h
 | loc j V e q a b c =>
  simp only [kB] at h
  split at h
  ·rename_i V' E' d hk
   cases hb:Nat.beq V V' && (emp q || Nat.beq e E') <;> rw [hb] at h <;> cases h
  ·cases h
 | pre j V e q a b c =>
  simp only [kB] at h
  split at h
  ·rename_i V' E' d hk
   cases hb:Nat.beq V V' && (emp q || Nat.beq e E') <;> rw [hb] at h <;> cases h
  ·cases h
 | _=>simp [kB] at h
theorem Mr {v:AV} {i ver ep a b c:Nat} {p:List PS} (h:kB m κ v=.loc i ver ep p a b c):∃V E e d,v=.loc i V e p a b c∧κ i=.tree V E d∧(p=[] ∨ e=E)∧ver=(iz m i V E).1∧ep=(iz m i V E).2:=by
 cases v with
 | loc j V e q a b c =>
  simp only [kB] at h
  split at h
  ·rename_i V' E' d hk
   cases hb:Nat.beq V V' && (emp q || Nat.beq e E') with
   | false=>rw [hb] at h; cases h
   | true =>
    rw [hb] at h
    obtain ⟨rfl,hc⟩:=dh hb
    simp only [cond_true,AV.loc.injEq] at h
    obtain ⟨rfl,h1,h2,rfl,rfl,rfl,rfl⟩:=h
    exact ⟨V,E',e,d,rfl,hk,hc,h1.symm,h2.symm⟩
  ·cases h
 | pre j V e q a b c =>
  simp only [kB] at h
  split at h
  ·rename_i V' E' d hk
   cases hb:Nat.beq V V' && (emp q || Nat.beq e E') <;> rw [hb] at h <;> cases h
  ·cases h
 | own j V e q =>
  simp only [kB] at h
  split at h
  ·rename_i V' E' d hk
   cases hb:Nat.beq V V' && (emp q || Nat.beq e E') <;> rw [hb] at h <;> cases h
  ·cases hb:Nat.beq V 0 && (emp q || Nat.beq e 0) <;> rw [hb] at h <;> cases h
  ·cases h
 | bS j V =>
  simp only [kB] at h
  split at h
  ·rename_i V' E' d hk
   cases hb:Nat.beq V V' <;> rw [hb] at h <;> cases h
  ·cases h
 | _=>simp [kB] at h
theorem Ms {v:AV} {i ver ep a b c:Nat} {p:List PS} (h:kB m κ v=.pre i ver ep p a b c):∃V E e d,v=.pre i V e p a b c∧κ i=.tree V E d∧(p=[] ∨ e=E)∧ver=(iz m i V E).1∧ep=(iz m i V E).2:=by
 cases v with
 | pre j V e q a b c =>
  simp only [kB] at h
  split at h
  ·rename_i V' E' d hk
   cases hb:Nat.beq V V' && (emp q || Nat.beq e E') with
   | false=>rw [hb] at h; cases h
   | true =>
    rw [hb] at h
    obtain ⟨rfl,hc⟩:=dh hb
    simp only [cond_true,AV.pre.injEq] at h
    obtain ⟨rfl,h1,h2,rfl,rfl,rfl,rfl⟩:=h
    exact ⟨V,E',e,d,rfl,hk,hc,h1.symm,h2.symm⟩
  ·cases h
 | loc j V e q a b c =>
  simp only [kB] at h
  split at h
  ·rename_i V' E' d hk
   cases hb:Nat.beq V V' && (emp q || Nat.beq e E') <;> rw [hb] at h <;> cases h
  ·cases h
 | own j V e q =>
  simp only [kB] at h
  split at h
  ·rename_i V' E' d hk
   cases hb:Nat.beq V V' && (emp q || Nat.beq e E') <;> rw [hb] at h <;> cases h
  ·cases hb:Nat.beq V 0 && (emp q || Nat.beq e 0) <;> rw [hb] at h <;> cases h
  ·cases h
 | bS j V =>
  simp only [kB] at h
  split at h
  ·rename_i V' E' d hk
   cases hb:Nat.beq V V' <;> rw [hb] at h <;> cases h
  ·cases h
 | _=>simp [kB] at h
theorem zK {b:ao} (h:b.Jt=true):b.fA=false:=by cases b <;> simp [ao.Jt] at h <;> rfl
theorem zL {b:ao} {v e:Nat} (h:b.Rj v e=true):b.fA=false:=by cases b <;> simp [ao.Rj] at h <;> rfl
theorem qp:∀{l' l:List AV},ef m κ κ' l' l→l'.length=l.length
 | [],[],_=>rfl
 | [],_::_,h=>by simp [ef] at h
 | _::_,[],h=>by simp [ef] at h
 | _::_,_::_,h=>by simp only [ef] at h; simp [qp h.2]
theorem mR {κc:Nat→ao} {F:List Nat} {G1:Gh} (hle:Gh.Le G G1) (hβ:G1.β=G.β) (hH:G1.H=G.H) (Ju:∀i,i∈F→κc i=κ i) (hZ:Fit G1 w (aw κc (jS κ F))):∀(N:Nat),
  (∀(u v:AV) (x:Value),SizeOf.sizeOf u<N→eJ m κ κ' u v→AV.sc κ' u=true→(∀i,i∈u9 κ u v→i∈F)→aE G v x→aE (dy m κ κ' G1) u x) ∧
  (∀(us vs:List AV) (xs:List Value),SizeOf.sizeOf us<N→ef m κ κ' us vs→AV.F5 κ' us=true→(∀i,i∈dz κ us vs→i∈F)→bR G vs xs→bR (dy m κ κ' G1) us xs):=by
 intro N
 induction N with
 | zero=>exact ⟨fun _ _ _ h=>by omega,fun _ _ _ h=>by omega⟩
 | succ N ih =>
  have zk:∀{i b:Nat},G.β i=some b→(κ' i).fA=false→(dy m κ κ' G1).β i=some b:=fun {i b} h hn=>by simp only [dy,reβ,hn,hβ]; exact h
  refine ⟨fun u v x aT hs hc hF hv=>?_,fun us vs xs aT hs hc hF hr=>?_⟩
  ·cases u with
   | any=>exact .any _
   | dv d' =>
    simp only [eJ,RS] at hs
    split at hs
    ·rename_i d ids hd
     simp only [u9,RT,hd] at hF
     exact .dv (hs _ x (rL (κ:=κ) (κ':=κc) (w:=w) (G':=G1) hd hF Ju hle hZ hv))
    ·exact hs.elim
   | agg l' =>
    cases v with
    | agg l =>
     simp only [eJ] at hs
     simp only [AV.sc] at hc
     simp only [u9] at hF
     cases hv with | agg _ ys hl hr =>
     have:=ih.2 l' l ys (by simp at aT; omega) hs hc hF ⟨hl,hr⟩
     exact .agg l' ys this.1 this.2
    | _=>simp [eJ] at hs
   | eL l' =>
    cases v with
    | eL l =>
     simp only [eJ] at hs
     simp only [AV.sc] at hc
     simp only [u9] at hF
     cases hv with | eL _ ys hl hr =>
     have:=ih.2 l' l ys (by simp at aT; omega) hs hc hF ⟨hl,hr⟩
     exact .eL l' ys this.1 this.2
    | _=>simp [eJ] at hs
   | fn f' l' =>
    cases v with
    | fn f l =>
     simp only [eJ] at hs
     simp only [AV.sc] at hc
     simp only [u9] at hF
     obtain ⟨rfl,hs⟩:=hs
     cases hv with | fn _ _ ys hl hr =>
     have:=ih.2 l' l ys (by simp at aT; omega) hs hc hF ⟨hl,hr⟩
     exact .fn f l' ys this.1 this.2
    | _=>simp [eJ] at hs
   | gY f' l' =>
    cases v with
    | gY f l =>
     simp only [eJ] at hs
     simp only [AV.sc] at hc
     simp only [u9] at hF
     obtain ⟨rfl,hs⟩:=hs
     cases hv with | gY _ _ ys hl hr =>
     have:=ih.2 l' l ys (by simp at aT; omega) hs hc hF ⟨hl,hr⟩
     exact .gY f l' ys this.1 this.2
    | _=>simp [eJ] at hs
   | ptr i off =>
    simp only [eJ] at hs
    simp only [AV.sc] at hc
    subst hs
    cases hv with | ptr _ _ b hb=>exact .ptr i off b (zk hb (zK hc))
   | fw i =>
    simp only [eJ] at hs
    simp only [AV.sc] at hc
    subst hs
    cases hv with | fw _ l hb=>exact .fw i l (zk hb (zK hc))
   | sle i k =>
    simp only [eJ] at hs
    simp only [AV.sc] at hc
    subst hs
    cases hv with | sle _ _ b hb=>exact .sle i k b (zk hb (zK hc))
   | own i ver ep p =>
    simp only [eJ] at hs
    simp only [AV.sc] at hc
    have dm:=zL hc
    unfold zM at hs
    split at hs
    ·obtain ⟨rfl,rfl,rfl,hb,sz,cO⟩:=hs
     cases hv with | dv hv=>cases hv with | aH =>
     refine .own i 0 0 [] _ ?_ rfl
     simp only [aB,dy,tS,dm,hb,BH]
    ·rcases Mq hs with ⟨V,E,e,d,UJ,hk,dj,rfl,rfl⟩ | ⟨e,UJ,hk,dj,rfl,rfl⟩
     ·have hv:=x8 hv
      rw [UJ] at hv
      cases hv with | own _ _ _ _ _ hh iA =>
      refine .own i _ _ p x ?_ iA
      rw [cK dj] at hh
      simp only [dy]
      rw [mQ hk dm,hH]; exact hh
     ·have hv:=x8 hv
      rw [UJ] at hv
      cases hv with | own _ _ _ _ _ hh iA =>
      refine .own i _ _ p x ?_ iA
      rw [cK dj] at hh
      simp only [dy]
      rw [u7 hk dm,hH]; exact hh
   | loc i ver ep p a b c =>
    simp only [eJ] at hs
    simp only [AV.sc] at hc
    have dm:=zL hc
    obtain ⟨V,E,e,d,rfl,hk,dj,rfl,rfl⟩:=Mr hs
    cases hv with
    | loc _ _ _ _ _ _ _ A q q' hh =>
     refine .loc i _ _ p a b c A q q' ?_
     rw [cK dj] at hh
     simp only [dy]
     rw [mQ hk dm,hH]; exact hh
    | mr _ _ _ _ _ _ _ A hh =>
     refine .mr i _ _ p a b c A ?_
     rw [cK dj] at hh
     simp only [dy]
     rw [mQ hk dm,hH]; exact hh
   | pre i ver ep p a b c =>
    simp only [eJ] at hs
    simp only [AV.sc] at hc
    have dm:=zL hc
    obtain ⟨V,E,e,d,rfl,hk,dj,rfl,rfl⟩:=Ms hs
    cases hv with
    | pre _ _ _ _ _ _ _ q q' hh =>
     refine .pre i _ _ p a b c q q' fun hn=>?_
     obtain ⟨A,N,c',hh,e2⟩:=hh hn
     refine ⟨A,N,c',?_,e2⟩
     rw [cK dj] at hh
     simp only [dy]
     rw [mQ hk dm,hH]; exact hh
   | bS i ver =>
    simp only [eJ] at hs
    simp only [AV.sc] at hc
    have dm:=zL hc
    obtain ⟨V,E,d,rfl,hk,rfl⟩:=Js hs
    cases hv with | bS _ _ A q hh =>
    refine .bS i _ A q ?_
    have:=mQ (m:=m) (H:=G1.H) hk dm []
    simp only [aB] at this
    simp only [dy]
    rw [this,hH]; exact hh
   | opt g u=>simp [AV.sc] at hc
  ·cases us with
   | nil =>
    cases vs with
    | nil=>exact ⟨hr.1,by simp⟩
    | cons=>simp [ef] at hs
   | cons u us =>
    cases vs with
    | nil=>simp [ef] at hs
    | cons v vs =>
     simp only [ef] at hs
     simp only [AV.F5,Bool.and_eq_true] at hc
     simp only [dz] at hF
     match xs,hr with
     | [],hr=>have:=hr.1; simp at this
     | x::xs,hr =>
      have h1:=ih.1 u v x (by simp at aT; omega) hs.1 hc.1 (fun i hi=>hF i (by simp [hi])) (hr.2 0 v x rfl rfl)
      have h2:=ih.2 us vs xs (by simp at aT; omega) hs.2 hc.2 (fun i hi=>hF i (by simp [hi])) ⟨by simpa using hr.1,fun q e y he hy=>hr.2 (q+1) e y (by simpa using he) (by simpa using hy)⟩
      refine ⟨by simp [h2.1],fun j d y hd hy=>?_⟩
      cases j with
      | zero=>simp at hd hy; subst hd; subst hy; exact h1
      | succ j=>exact h2.2 j d y (by simpa using hd) (by simpa using hy)
theorem vd:∀{F:List Nat},zN κ' F=true→∀i,i∈F→∀v e d,κ' i ≠ .tree v e d
 | [],_,i,hi,_,_,_=>by simp at hi
 | j::F,h,i,hi,v,e,d=>by
  simp only [zN,Bool.and_eq_true] at h
  rcases List.mem_cons.1 hi with rfl | hi
  ·intro hk; rw [hk] at h; cases h.1
  ·exact vd h.2 i hi v e d
def BK (m:Nat) (κ κ':Nat→ao) (F:List Nat) (i:Nat):Prop:=mS m κ κ' i (κ i) (κ' i)∧(κ' i).Rm κ'=true∧∀j,j∈sY κ i (κ i) (κ' i)→j∈F
theorem Oh {κc:Nat→ao} {F:List Nat} {G1:Gh} (hf:Fit G w κc) (hle:Gh.Le G G1) (hβ:G1.β=G.β) (hH:G1.H=G.H) (hX:G1.X=G.X) (Ju:∀i,i∈F→κc i=κ i) (Pw:∀i,(κ' i).fA=false→κc i=κ i) (hZ:Fit G1 w (aw κc (jS κ F))) (fy:zN κ' F=true) (hs:∀i,BK m κ κ' F i) :
  Fit (dy m κ κ' G1) w κ'∧∀i b,bI (dy m κ κ' G1) i (κ' i) b→bI G1 i (aw κc (jS κ F) i) b:=by
 have Px:=mT (κ:=κ) (κ':=κc) (ids:=F) Ju
 have je:∀j,(κ' j).fA=false→aw κc (jS κ F) j=if j∈F then (κ j).dQ else κ j:=fun j hj=>by rw [Px,Pw j hj]
 have gZ:∀i b,bI (dy m κ κ' G1) i (κ' i) b→bI G1 i (aw κc (jS κ F) i) b:=by
  intro i b ho
  obtain ⟨hx,D8,DB⟩:=hs i
  cases ey:κ' i with
  | none=>rw [ey] at ho; exact ho.elim
  | dead=>rw [ey] at ho; exact ho.elim
  | fz=>rw [ey] at ho; exact ho.elim
  | cells l' =>
   rw [ey] at ho hx
   cases hk:κ i with
   | cells l =>
    have dJ:aw κc (jS κ F) i=.cells l:=by rw [je i (by rw [ey]; rfl),hk]; simp [ao.dQ]
    rw [dJ]
    simp only [bI,dy,reβ,ey,ao.fA] at ho ⊢
    exact ho
   | _=>rw [hk] at hx; exact hx.elim
  | tree v e d' =>
   rw [ey] at ho hx
   cases hk:κ i with
   | tree V E d =>
    rw [hk] at hx
    simp only [mS] at hx
    obtain ⟨hx,rfl⟩:=hx
    have UL:i ∉ F:=fun hi=>vd fy i hi _ _ _ ey
    have dJ:aw κc (jS κ F) i=.tree V E d:=by rw [je i (by rw [ey]; rfl),if_neg UL,hk]
    rw [dJ]
    have e1:v=(iz m i V E).1:=by rw [hx]
    have e2:e=(iz m i V E).2:=by rw [hx]
    subst e1; subst e2
    obtain ⟨p,nd,u,h1,h2,h3,h4⟩:=ho
    simp only [dy] at h3
    rw [mQ hk (by rw [ey]; rfl)] at h3
    exact ⟨p,nd,u,h1,h2,h3,h4⟩
   | none =>
    rw [hk] at hx
    simp only [mS] at hx
    obtain ⟨rfl,rfl,sz,rfl⟩:=hx
    obtain ⟨p,nd,u,h1,h2,h3,h4⟩:=ho
    cases p with
    | nil =>
     simp only [aB,dy,tS,ey,ao.fA,hk,BH,Option.some.injEq] at h3
     subst h3; simp [fh] at h4
    | cons s p=>cases s <;> simp [get,step] at h1
   | _=>rw [hk] at hx; exact hx.elim
  | eA rc st l' =>
   rw [ey] at ho hx
   cases hk:κ i with
   | eA Wx Rn l =>
    have dJ:aw κc (jS κ F) i=.eA Wx Rn l:=by rw [je i (by rw [ey]; rfl),hk]; simp [ao.dQ]
    rw [dJ]
    simp only [bI,dy,reβ,ey,ao.fA] at ho ⊢
    exact ho
   | _=>rw [hk] at hx; exact hx.elim
  | held=>rw [ey] at ho; exact ho.elim
  | jb j' p' d' Jv Mt =>
   rw [ey] at ho hx
   cases hk:κ i with
   | jb j p d left cur =>
    rw [hk] at hx
    simp only [mS] at hx
    obtain ⟨rfl,rfl,rfl,rfl,_,hh⟩:=hx
    obtain ⟨e1,e2⟩:=BJ hh
    have dJ:aw κc (jS κ F) i=.jb j p d left cur:=by rw [je i (by rw [ey]; rfl),hk]; simp [ao.dQ]
    rw [dJ]
    simp only [bI,dy,reβ,ey,ao.fA] at ho ⊢
    rw [u7 e1 (by rw [e2]; rfl)] at ho
    exact ho
   | _=>rw [hk] at hx; exact hx.elim
 refine ⟨⟨hZ.sub,fun i=>?_,fun i b ho=>hZ.own i b (gZ i b ho),fun i j b ho g9=>hZ.inj i j b (gZ i b ho) (gZ j b g9)⟩,gZ⟩
 obtain ⟨hx,D8,DB⟩:=hs i
 have jV:=hZ.box i
 cases ey:κ' i with
 | none=>exact ⟨by simp [dy,reβ,ey,ao.fA],fun v e p=>by simp [dy,tS,ey,ao.fA]⟩
 | dead=>trivial
 | cells l' =>
  rw [ey] at hx D8 DB
  cases hk:κ i with
  | cells l =>
   rw [hk] at hx DB
   simp only [mS] at hx
   simp only [sY] at DB
   simp only [ao.Rm,Bool.and_eq_true] at D8
   have hb:=hf.box i
   rw [Pw i (by rw [ey]; rfl),hk] at hb
   obtain ⟨b,c,t,jd,hw,aT,j9,hr⟩:=hb
   have hlen:=qp hx
   refine ⟨b,c,t,by simp only [dy,reβ,ey,ao.fA,hβ]; exact jd,hw,by rw [aT,hlen],eP D8.2,fun j d v hd hv=>?_⟩
   have:=(mR (m:=m) (κ:=κ) (κ':=κ') (w:=w) hle hβ hH Ju hZ (SizeOf.sizeOf l'+1)).2 l' l c.toList (by omega) hx D8.1 DB ⟨by simp [aT],fun j d v hd hv=>hr j d v hd (by simpa using hv)⟩
   exact this.2 j d v hd (by simpa using hv)
  | _=>rw [hk] at hx; exact hx.elim
 | tree v e d' =>
  rw [ey] at hx
  cases hk:κ i with
  | tree V E d =>
   rw [hk] at hx
   simp only [mS] at hx
   obtain ⟨hx,rfl⟩:=hx
   have UL:i ∉ F:=fun hi=>vd fy i hi _ _ _ ey
   rw [je i (by rw [ey]; rfl),if_neg UL,hk] at jV
   have e1:v=(iz m i V E).1:=by rw [hx]
   have e2:e=(iz m i V E).2:=by rw [hx]
   subst e1; subst e2
   have dm:(κ' i).fA=false:=by rw [ey]; rfl
   have Hv:aB (dy m κ κ' G1).H i (iz m i V E).1 (iz m i V E).2=aB G1.H i V E:=funext fun p=>by simp only [dy]; exact mQ hk dm p
   refine ⟨?_,?_,fun v hv e p=>?_,fun e he p=>?_⟩
   ·rw [Hv]; exact jV.1
   ·rw [Hv]; exact jV.2.1
   ·simp only [dy,tS,dm,hk]; exact zI hv e p
   ·simp only [dy,tS,dm,hk]; exact F4 he p
  | none =>
   rw [hk] at hx
   simp only [mS] at hx
   obtain ⟨rfl,rfl,sz,rfl⟩:=hx
   have dm:(κ' i).fA=false:=by rw [ey]; rfl
   have h0:aB (dy m κ κ' G1).H i 0 0 []=some (.slice none 0 0):=by simp only [aB,dy,tS,dm,hk,BH]
   refine ⟨⟨rfl,fun p nd hp hn=>?_⟩,?_,fun v hv e p=>?_,fun e he p=>?_⟩
   ·cases p with
    | nil =>
     simp only [get,Option.some.injEq] at hp
     subst hp
     exact ⟨_,h0,rfl,.inl ⟨rfl,rfl⟩⟩
    | cons s p=>cases s <;> simp [get,step] at hp
   ·intro p q nd md u v b h1 h2 h3 h4 h5 h6 h7 h8
    cases p with
    | nil=>rw [h0] at h3; injection h3 with h3; subst h3; simp [fh] at h4
    | cons s p=>cases s <;> simp [get,step] at h1
   ·simp only [dy,tS,dm,hk]
    cases v with
    | zero=>omega
    | succ v=>rfl
   ·simp only [dy,tS,dm,hk]
    cases e with
    | zero=>omega
    | succ e=>rfl
  | _=>rw [hk] at hx; exact hx.elim
 | fz v d' =>
  rw [ey] at hx DB
  have dm:(κ' i).fA=false:=by rw [ey]; rfl
  cases hk:κ i with
  | tree V E d =>
   rw [hk] at hx DB
   simp only [mS] at hx
   obtain ⟨rfl,hx⟩:=hx
   have hi:i∈F:=DB i (by simp [sY])
   rw [je i dm,if_pos hi,hk] at jV
   obtain ⟨u,h1,h2,h3⟩:=jV
   refine ⟨u,?_,h2,hx _ _ h3⟩
   simp only [dy,tS,dm,hk]
   rw [Mp m i V 0 E,(jv m (G1.H i) i V E (.el 0 0) []).1]
   exact h1
  | fz V d =>
   rw [hk] at hx
   simp only [mS] at hx
   obtain ⟨rfl,hx⟩:=hx
   have dJ:aw κc (jS κ F) i=.fz V d:=by rw [je i dm,hk]; simp [ao.dQ]
   rw [dJ] at jV
   obtain ⟨u,h1,h2,h3⟩:=jV
   refine ⟨u,?_,h2,hx _ _ h3⟩
   simp only [dy,tS,dm,hk]
   rw [(jv m (G1.H i) i V 0 (.el 0 0) []).1]
   exact h1
  | _=>rw [hk] at hx; exact hx.elim
 | eA rc st l' =>
  rw [ey] at hx D8 DB
  cases hk:κ i with
  | eA Wx Rn l =>
   rw [hk] at hx DB
   simp only [mS] at hx
   simp only [sY] at DB
   simp only [ao.Rm] at D8
   obtain ⟨rfl,rfl,hx⟩:=hx
   have hb:=hf.box i
   rw [Pw i (by rw [ey]; rfl),hk] at hb
   obtain ⟨b,fn,tmps,D,jd,hw,hr⟩:=hb
   exact ⟨b,fn,tmps,D,by simp only [dy,reβ,ey,ao.fA,hβ]; exact jd,hw,(mR (m:=m) (κ:=κ) (κ':=κ') (w:=w) hle hβ hH Ju hZ (SizeOf.sizeOf l'+1)).2 l' l tmps.toList (by omega) hx D8 DB hr⟩
  | _=>rw [hk] at hx; exact hx.elim
 | held =>
  rw [ey] at hx
  cases hk:κ i with
  | held =>
   have dm:(κ' i).fA=false:=by rw [ey]; rfl
   refine ⟨fun v hv e p=>?_,fun e he p=>?_⟩
   ·simp only [dy,tS,dm,hk]
    exact zI (by rw [zJ]; exact hv) e p
   ·simp only [dy,tS,dm,hk]
    have:=F4 (m:=m) (h:=G1.H i) (i:=i) (V:=0) (E:=0) (e:=e) (by rw [zJ]; exact he) p
    rw [zJ] at this
    exact this
  | _=>rw [hk] at hx; exact hx.elim
 | jb j' p' d' Jv Mt =>
  rw [ey] at hx
  cases hk:κ i with
  | jb j p d left cur =>
   rw [hk] at hx
   simp only [mS] at hx
   obtain ⟨rfl,rfl,rfl,rfl,hc,hh⟩:=hx
   obtain ⟨e1,e2⟩:=BJ hh
   have dm:(κ' i).fA=false:=by rw [ey]; rfl
   rw [je i dm,hk] at jV
   simp only [ao.dQ,ite_self] at jV
   obtain ⟨r,mb,es,clock,seen,ks,mm,hi⟩:=jV
   have Hv:aB (dy m κ κ' G1).H j 0 0=aB G1.H j 0 0:=u7 e1 (by rw [e2]; rfl)
   refine ⟨r,mb,es,clock,seen,ks,mm,by simp only [dy,reβ,dm]; exact hi.jU,hi.it,by rw [Hv]; exact hi.tree,by rw [Hv]; exact hi.inj,hi.node,by rw [Hv]; exact hi.head,hi.map,hi.left,?_⟩
   rcases hc with rfl | rfl
   ·trivial
   ·exact hi.cur
  | _=>rw [hk] at hx; exact hx.elim
end
end Go.TM
