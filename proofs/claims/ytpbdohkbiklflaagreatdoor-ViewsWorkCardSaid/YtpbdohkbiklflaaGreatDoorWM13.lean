import Derived.Test.YtpbdohkbiklflaaGreatDoorWM12
set_option linter.unusedVariables false
set_option linter.unusedSimpArgs false
set_option linter.unusedSectionVars false
namespace Go.TM
open Go.RowKit
variable [ct]
def ao.fv:ao→Bool
 | .none=>true
 | _=>false
theorem GN {b:ao} (h:b.fv=true):b=.none:=by cases b <;> simp [ao.fv] at h; rfl
def od (m:Nat) (h:Nat→Nat→List PS→Option Value) (i V E v e:Nat):List PS→Option Value
 | []=>if v=(iw m i V E).1∧e=0 then h V 0 [] else if i<m∧v=0∧e=0 then h 0 0 [] else none
 | s::q=>if v=(iw m i V E).1∧e=(iw m i V E).2 then h V E (s::q) else if i<m∧v=0∧e=0 then h 0 0 (s::q) else none
def Bh (v e:Nat) (p:List PS):Option Value:=match v,e,p with
 | 0,0,[]=>some (.slice none 0 0)
 | _,_,_=>none
def tH (m:Nat) (κ κ':Nat→ao) (H:Nat→Nat→Nat→List PS→Option Value) (i v e:Nat) (p:List PS):Option Value :=
 match (κ' i).fv with
 | true=>none
 | false=>match κ i with
  | .tree V E _=>od m (H i) i V E v e p
  | .fz V _=>od m (H i) i V 0 v e p
  | .held=>od m (H i) i 0 0 v e p
  | .none=>Bh v e p
  | _=>if i<m∧v=0∧e=0 then H i 0 0 p else none
def reβ (κ':Nat→ao) (β:Nat→Option Nat) (i:Nat):Option Nat:=match (κ' i).fv with
 | true=>none
 | false=>β i
def dz (m:Nat) (κ κ':Nat→ao) (G:Gh):Gh:={ G with β:=reβ κ' G.β,H:=tH m κ κ' G.H }
theorem LO (m i V E E':Nat):(iw m i V E).1=(iw m i V E').1:=by
 unfold iw
 cases Nat.blt i m with
 | false=>rfl
 | true=>cases V with
  | zero=>cases E <;> cases E' <;> rfl
  | succ V=>rfl
theorem Bi {m i V E:Nat} (hi:i<m) (h:(iw m i V E).1=0):V=0∧((iw m i V E).2=0→E=0):=by
 unfold iw at *
 have hb:Nat.blt i m=true:=by rw [Nat.blt_eq]; exact hi
 rw [hb] at h ⊢
 cases V with
 | zero=>cases E with
  | zero=>exact ⟨rfl,fun _=>rfl⟩
  | succ E=>exact ⟨rfl,fun h=>by simp at h⟩
 | succ V=>simp at h
theorem tI {m i V E:Nat} (hi:¬ i<m):iw m i V E=(0,0):=by
 unfold iw
 have hb:Nat.blt i m=false:=by cases hb:Nat.blt i m with | false=>rfl | true=>rw [Nat.blt_eq] at hb; exact absurd hb hi
 rw [hb]; rfl
theorem jt (m:Nat) (h:Nat→Nat→List PS→Option Value) (i V E:Nat) (s:PS) (q:List PS):od m h i V E (iw m i V E).1 0 []=h V 0 []∧od m h i V E (iw m i V E).1 (iw m i V E).2 (s::q)=h V E (s::q):=by
 simp [od]
theorem uO {m:Nat} {h:Nat→Nat→List PS→Option Value} {i V E:Nat} (hi:i<m) (p:List PS):od m h i V E 0 0 p=h 0 0 p:=by
 cases p with
 | nil =>
  simp only [od]
  split
  ·rename_i hh; rw [(Bi hi hh.1.symm).1]
  ·rw [if_pos (by simp [hi])]
 | cons s q =>
  simp only [od]
  split
  ·rename_i hh; obtain ⟨h1,h2⟩:=Bi hi hh.1.symm; rw [h1,h2 hh.2.symm]
  ·rw [if_pos (by simp [hi])]
theorem zf {m:Nat} {h:Nat→Nat→List PS→Option Value} {i V E v:Nat} (hv:(iw m i V E).1<v) (e:Nat) (p:List PS):od m h i V E v e p=none:=by
 cases p with
 | nil=>simp only [od]; rw [if_neg (by omega),if_neg (by omega)]
 | cons s q=>simp only [od]; rw [if_neg (by omega),if_neg (by omega)]
theorem Fx {m:Nat} {h:Nat→Nat→List PS→Option Value} {i V E e:Nat} (hv:(iw m i V E).2<e) (p:List PS):od m h i V E (iw m i V E).1 e p=none:=by
 cases p with
 | nil=>simp only [od]; rw [if_neg (by omega),if_neg (by omega)]
 | cons s q=>simp only [od]; rw [if_neg (by omega),if_neg (by omega)]
section
variable {m:Nat} {κ κ':Nat→ao} {G:Gh} {w:World}
theorem mN {H:Nat→Nat→Nat→List PS→Option Value} {i V E:Nat} {d:DV} (hk:κ i=.tree V E d) (hn:(κ' i).fv=false) (p:List PS):aA (tH m κ κ' H) i (iw m i V E).1 (iw m i V E).2 p=aA H i V E p:=by
 cases p with
 | nil=>simp only [aA,tH,hn,hk]; exact (jt m (H i) i V E (.el 0 0) []).1
 | cons s q=>simp only [aA,tH,hn,hk]; exact (jt m (H i) i V E s q).2
theorem zg (m i:Nat):iw m i 0 0=(0,0):=by
 unfold iw
 cases Nat.blt i m <;> rfl
theorem uP {H:Nat→Nat→Nat→List PS→Option Value} {i:Nat} (hk:κ i=.held) (hn:(κ' i).fv=false):aA (tH m κ κ' H) i 0 0=aA H i 0 0:=by
 have e:=zg m i
 funext p
 cases p with
 | nil =>
  simp only [aA,tH,hn,hk]
  have:=(jt m (H i) i 0 0 (.el 0 0) []).1
  rw [e] at this; exact this
 | cons s q =>
  simp only [aA,tH,hn,hk]
  have:=(jt m (H i) i 0 0 s q).2
  rw [e] at this; exact this
theorem Bj {a b:ao} (h:match a,b with | .held,.held=>True | _,_=>False):a=.held∧b=.held:=by
 split at h
 ·exact ⟨rfl,rfl⟩
 ·exact h.elim
theorem LP {v:AV} {i ver ep:Nat} {p:List PS} (h:kB m κ v=.own i ver ep p):(∃V E e d,v=.own i V e p∧κ i=.tree V E d∧(p=[] ∨ e=E)∧ver=(iw m i V E).1∧ep=(iw m i V E).2) ∨ ∃e,v=.own i 0 e p∧κ i=.held∧(p=[] ∨ e=0)∧ver=0∧ep=0:=by
 cases v with
 | own j V e q =>
  simp only [kB] at h
  split at h
  ·rename_i V' E' d hk
   cases hb:Nat.beq V V' && (emp q || Nat.beq e E') with
   | false=>rw [hb] at h; cases h
   | true =>
    rw [hb] at h
    obtain ⟨rfl,hc⟩:=dh hb
    simp only [cond_true,AV.own.injEq] at h
    obtain ⟨rfl,h1,h2,rfl⟩:=h
    exact .inl ⟨V,E',e,d,rfl,hk,hc,h1.symm,h2.symm⟩
  ·rename_i hk
   cases hb:Nat.beq V 0 && (emp q || Nat.beq e 0) with
   | false=>rw [hb] at h; cases h
   | true =>
    rw [hb] at h
    obtain ⟨rfl,hc⟩:=dh hb
    simp only [cond_true,AV.own.injEq] at h
    obtain ⟨rfl,h1,h2,rfl⟩:=h
    exact .inr ⟨e,rfl,hk,hc,h1.symm,h2.symm⟩
  ·cases h
 | loc j V e q a b c =>
  simp only [kB] at h
  split at h
  ·rename_i V' E' d hk
   cases hb:Nat.beq V V' && (emp q || Nat.beq e E') <;> rw [hb] at h <;> cases h
  ·cases h
 | pre j V e q a b c =>
  simp only [kB] at h
  split at h
  ·rename_i V' E' d hk
   cases hb:Nat.beq V V' && (emp q || Nat.beq e E') <;> rw [hb] at h <;> cases h
  ·cases h
 | bS j V =>
  simp only [kB] at h
  split at h
  ·rename_i V' E' d hk
   cases hb:Nat.beq V V' <;> rw [hb] at h <;> cases h
  ·cases h
 | _=>simp [kB] at h
theorem IL {v:AV} {i ver:Nat} (h:kB m κ v=.bS i ver):∃V E d,v=.bS i V∧κ i=.tree V E d∧ver=(iw m i V E).1:=by
 cases v with
 | bS j V =>
  simp only [kB] at h
  split at h
  ·rename_i V' E' d hk
   cases hb:Nat.beq V V' with
   | false=>rw [hb] at h; cases h
   | true =>
    rw [hb] at h
    have:=Nat.eq_of_beq_eq_true hb
    subst this
    simp only [cond_true,AV.bS.injEq] at h
    obtain ⟨rfl,h1⟩:=h
    exact ⟨V,E',d,rfl,hk,h1.symm⟩
  ·cases h
 | own j V e q =>
  simp only [kB] at h
  split at h
  ·rename_i V' E' d hk
   cases hb:Nat.beq V V' && (emp q || Nat.beq e E') <;> rw [hb] at h <;> cases h
  ·cases hb:Nat.beq V 0 && (emp q || Nat.beq e 0) <;> rw [hb] at h <;> cases h
  ·cases h
 | loc j V e q a b c =>
  simp only [kB] at h
  split at h
  ·rename_i V' E' d hk
   cases hb:Nat.beq V V' && (emp q || Nat.beq e E') <;> rw [hb] at h <;> cases h
  ·cases h
 | pre j V e q a b c =>
  simp only [kB] at h
  split at h
  ·rename_i V' E' d hk
   cases hb:Nat.beq V V' && (emp q || Nat.beq e E') <;> rw [hb] at h <;> cases h
  ·cases h
 | _=>simp [kB] at h
theorem LQ {v:AV} {i ver ep a b c:Nat} {p:List PS} (h:kB m κ v=.loc i ver ep p a b c):∃V E e d,v=.loc i V e p a b c∧κ i=.tree V E d∧(p=[] ∨ e=E)∧ver=(iw m i V E).1∧ep=(iw m i V E).2:=by
 cases v with
 | loc j V e q a b c =>
  simp only [kB] at h
  split at h
  ·rename_i V' E' d hk
   cases hb:Nat.beq V V' && (emp q || Nat.beq e E') with
   | false=>rw [hb] at h; cases h
   | true =>
    rw [hb] at h
    obtain ⟨rfl,hc⟩:=dh hb
    simp only [cond_true,AV.loc.injEq] at h
    obtain ⟨rfl,h1,h2,rfl,rfl,rfl,rfl⟩:=h
    exact ⟨V,E',e,d,rfl,hk,hc,h1.symm,h2.symm⟩
  ·cases h
 | pre j V e q a b c =>
  simp only [kB] at h
  split at h
  ·rename_i V' E' d hk
   cases hb:Nat.beq V V' && (emp q || Nat.beq e E') <;> rw [hb] at h <;> cases h
  ·cases h
 | own j V e q =>
  simp only [kB] at h
  split at h
  ·rename_i V' E' d hk
   cases hb:Nat.beq V V' && (emp q || Nat.beq e E') <;> rw [hb] at h <;> cases h
  ·cases hb:Nat.beq V 0 && (emp q || Nat.beq e 0) <;> rw [hb] at h <;> cases h
  ·cases h
 | bS j V =>
  simp only [kB] at h
  split at h
  ·rename_i V' E' d hk
   cases hb:Nat.beq V V' <;> rw [hb] at h <;> cases h
  ·cases h
 | _=>simp [kB] at h
theorem LR {v:AV} {i ver ep a b c:Nat} {p:List PS} (h:kB m κ v=.pre i ver ep p a b c):∃V E e d,v=.pre i V e p a b c∧κ i=.tree V E d∧(p=[] ∨ e=E)∧ver=(iw m i V E).1∧ep=(iw m i V E).2:=by
 cases v with
 | pre j V e q a b c =>
  simp only [kB] at h
  split at h
  ·rename_i V' E' d hk
   cases hb:Nat.beq V V' && (emp q || Nat.beq e E') with
   | false=>rw [hb] at h; cases h
   | true =>
    rw [hb] at h
    obtain ⟨rfl,hc⟩:=dh hb
    simp only [cond_true,AV.pre.injEq] at h
    obtain ⟨rfl,h1,h2,rfl,rfl,rfl,rfl⟩:=h
    exact ⟨V,E',e,d,rfl,hk,hc,h1.symm,h2.symm⟩
  ·cases h
 | loc j V e q a b c =>
  simp only [kB] at h
  split at h
  ·rename_i V' E' d hk
   cases hb:Nat.beq V V' && (emp q || Nat.beq e E') <;> rw [hb] at h <;> cases h
  ·cases h
 | own j V e q =>
  simp only [kB] at h
  split at h
  ·rename_i V' E' d hk
   cases hb:Nat.beq V V' && (emp q || Nat.beq e E') <;> rw [hb] at h <;> cases h
  ·cases hb:Nat.beq V 0 && (emp q || Nat.beq e 0) <;> rw [hb] at h <;> cases h
  ·cases h
 | bS j V =>
  simp only [kB] at h
  split at h
  ·rename_i V' E' d hk
   cases hb:Nat.beq V V' <;> rw [hb] at h <;> cases h
  ·cases h
 | _=>simp [kB] at h
theorem zh {b:ao} (h:b.IN=true):b.fv=false:=by cases b <;> simp [ao.IN] at h <;> rfl
theorem zk {b:ao} {v e:Nat} (h:b.QB v e=true):b.fv=false:=by cases b <;> simp [ao.QB] at h <;> rfl
theorem qb:∀{l' l:List AV},ed m κ κ' l' l→l'.length=l.length
 | [],[],_=>rfl
 | [],_::_,h=>by simp [ed] at h
 | _::_,[],h=>by simp [ed] at h
 | _::_,_::_,h=>by simp only [ed] at h; simp [qb h.2]
theorem mO {κc:Nat→ao} {F:List Nat} {G1:Gh} (hle:Gh.Le G G1) (hβ:G1.β=G.β) (hH:G1.H=G.H) (IP:∀i,i∈F→κc i=κ i) (iC:Fit G1 w (aw κc (jQ κ F))):∀(N:Nat),
  (∀(u v:AV) (x:Value),SizeOf.sizeOf u<N→eI m κ κ' u v→AV.sc κ' u=true→(∀i,i∈uQ κ u v→i∈F)→aD G v x→aD (dz m κ κ' G1) u x) ∧
  (∀(us vs:List AV) (xs:List Value),SizeOf.sizeOf us<N→ed m κ κ' us vs→AV.Fy κ' us=true→(∀i,i∈dA κ us vs→i∈F)→bP G vs xs→bP (dz m κ κ' G1) us xs):=by
 intro N
 induction N with
 | zero=>exact ⟨fun _ _ _ h=>by omega,fun _ _ _ h=>by omega⟩
 | succ N ih =>
  have yS:∀{i b:Nat},G.β i=some b→(κ' i).fv=false→(dz m κ κ' G1).β i=some b:=fun {i b} h hn=>by simp only [dz,reβ,hn,hβ]; exact h
  refine ⟨fun u v x aT hs hc hF hv=>?_,fun us vs xs aT hs hc hF hr=>?_⟩
  ·cases u with
   | any=>exact .any _
   | dv d' =>
    simp only [eI,Q8] at hs
    split at hs
    ·rename_i d ids hd
     simp only [uQ,Q9,hd] at hF
     exact .dv (hs _ x (rB (κ:=κ) (κ':=κc) (w:=w) (G':=G1) hd hF IP hle iC hv))
    ·exact hs.elim
   | agg l' =>
    cases v with
    | agg l =>
     simp only [eI] at hs
     simp only [AV.sc] at hc
     simp only [uQ] at hF
     cases hv with | agg _ ys hl hr =>
     have:=ih.2 l' l ys (by simp at aT; omega) hs hc hF ⟨hl,hr⟩
     exact .agg l' ys this.1 this.2
    | _=>simp [eI] at hs
   | eK l' =>
    cases v with
    | eK l =>
     simp only [eI] at hs
     simp only [AV.sc] at hc
     simp only [uQ] at hF
     cases hv with | eK _ ys hl hr =>
     have:=ih.2 l' l ys (by simp at aT; omega) hs hc hF ⟨hl,hr⟩
     exact .eK l' ys this.1 this.2
    | _=>simp [eI] at hs
   | fn f' l' =>
    cases v with
    | fn f l =>
     simp only [eI] at hs
     simp only [AV.sc] at hc
     simp only [uQ] at hF
     obtain ⟨rfl,hs⟩:=hs
     cases hv with | fn _ _ ys hl hr =>
     have:=ih.2 l' l ys (by simp at aT; omega) hs hc hF ⟨hl,hr⟩
     exact .fn f l' ys this.1 this.2
    | _=>simp [eI] at hs
   | gV f' l' =>
    cases v with
    | gV f l =>
     simp only [eI] at hs
     simp only [AV.sc] at hc
     simp only [uQ] at hF
     obtain ⟨rfl,hs⟩:=hs
     cases hv with | gV _ _ ys hl hr =>
     have:=ih.2 l' l ys (by simp at aT; omega) hs hc hF ⟨hl,hr⟩
     exact .gV f l' ys this.1 this.2
    | _=>simp [eI] at hs
   | ptr i off =>
    simp only [eI] at hs
    simp only [AV.sc] at hc
    subst hs
    cases hv with | ptr _ _ b hb=>exact .ptr i off b (yS hb (zh hc))
   | fq i =>
    simp only [eI] at hs
    simp only [AV.sc] at hc
    subst hs
    cases hv with | fq _ l hb=>exact .fq i l (yS hb (zh hc))
   | sle i k =>
    simp only [eI] at hs
    simp only [AV.sc] at hc
    subst hs
    cases hv with | sle _ _ b hb=>exact .sle i k b (yS hb (zh hc))
   | own i ver ep p =>
    simp only [eI] at hs
    simp only [AV.sc] at hc
    have dk:=zk hc
    unfold zm at hs
    split at hs
    ·obtain ⟨rfl,rfl,rfl,hb,sz,cM⟩:=hs
     cases hv with | dv hv=>cases hv with | aG =>
     refine .own i 0 0 [] _ ?_ rfl
     simp only [aA,dz,tH,dk,hb,Bh]
    ·rcases LP hs with ⟨V,E,e,d,TY,hk,dj,rfl,rfl⟩ | ⟨e,TY,hk,dj,rfl,rfl⟩
     ·have hv:=xG hv
      rw [TY] at hv
      cases hv with | own _ _ _ _ _ hh iy =>
      refine .own i _ _ p x ?_ iy
      rw [cJ dj] at hh
      simp only [dz]
      rw [mN hk dk,hH]; exact hh
     ·have hv:=xG hv
      rw [TY] at hv
      cases hv with | own _ _ _ _ _ hh iy =>
      refine .own i _ _ p x ?_ iy
      rw [cJ dj] at hh
      simp only [dz]
      rw [uP hk dk,hH]; exact hh
   | loc i ver ep p a b c =>
    simp only [eI] at hs
    simp only [AV.sc] at hc
    have dk:=zk hc
    obtain ⟨V,E,e,d,rfl,hk,dj,rfl,rfl⟩:=LQ hs
    cases hv with
    | loc _ _ _ _ _ _ _ A q q' hh =>
     refine .loc i _ _ p a b c A q q' ?_
     rw [cJ dj] at hh
     simp only [dz]
     rw [mN hk dk,hH]; exact hh
    | mn _ _ _ _ _ _ _ A hh =>
     refine .mn i _ _ p a b c A ?_
     rw [cJ dj] at hh
     simp only [dz]
     rw [mN hk dk,hH]; exact hh
   | pre i ver ep p a b c =>
    simp only [eI] at hs
    simp only [AV.sc] at hc
    have dk:=zk hc
    obtain ⟨V,E,e,d,rfl,hk,dj,rfl,rfl⟩:=LR hs
    cases hv with
    | pre _ _ _ _ _ _ _ q q' hh =>
     refine .pre i _ _ p a b c q q' fun hn=>?_
     obtain ⟨A,N,c',hh,e2⟩:=hh hn
     refine ⟨A,N,c',?_,e2⟩
     rw [cJ dj] at hh
     simp only [dz]
     rw [mN hk dk,hH]; exact hh
   | bS i ver =>
    simp only [eI] at hs
    simp only [AV.sc] at hc
    have dk:=zk hc
    obtain ⟨V,E,d,rfl,hk,rfl⟩:=IL hs
    cases hv with | bS _ _ A q hh =>
    refine .bS i _ A q ?_
    have:=mN (m:=m) (H:=G1.H) hk dk []
    simp only [aA] at this
    simp only [dz]
    rw [this,hH]; exact hh
   | opt g u=>simp [AV.sc] at hc
  ·cases us with
   | nil =>
    cases vs with
    | nil=>exact ⟨hr.1,by simp⟩
    | cons=>simp [ed] at hs
   | cons u us =>
    cases vs with
    | nil=>simp [ed] at hs
    | cons v vs =>
     simp only [ed] at hs
     simp only [AV.Fy,Bool.and_eq_true] at hc
     simp only [dA] at hF
     match xs,hr with
     | [],hr=>have:=hr.1; simp at this
     | x::xs,hr =>
      have h1:=ih.1 u v x (by simp at aT; omega) hs.1 hc.1 (fun i hi=>hF i (by simp [hi])) (hr.2 0 v x rfl rfl)
      have h2:=ih.2 us vs xs (by simp at aT; omega) hs.2 hc.2 (fun i hi=>hF i (by simp [hi])) ⟨by simpa using hr.1,fun q e y he hy=>hr.2 (q+1) e y (by simpa using he) (by simpa using hy)⟩
      refine ⟨by simp [h2.1],fun j d y hd hy=>?_⟩
      cases j with
      | zero=>simp at hd hy; subst hd; subst hy; exact h1
      | succ j=>exact h2.2 j d y (by simpa using hd) (by simpa using hy)
theorem uR:∀{F:List Nat},zn κ' F=true→∀i,i∈F→∀v e d,κ' i ≠ .tree v e d
 | [],_,i,hi,_,_,_=>by simp at hi
 | j::F,h,i,hi,v,e,d=>by
  simp only [zn,Bool.and_eq_true] at h
  rcases List.mem_cons.1 hi with rfl | hi
  ·intro hk; rw [hk] at h; cases h.1
  ·exact uR h.2 i hi v e d
def Bk (m:Nat) (κ κ':Nat→ao) (F:List Nat) (i:Nat):Prop:=mP m κ κ' i (κ i) (κ' i)∧(κ' i).QC κ'=true∧∀j,j∈sN κ i (κ i) (κ' i)→j∈F
theorem NH {κc:Nat→ao} {F:List Nat} {G1:Gh} (hf:Fit G w κc) (hle:Gh.Le G G1) (hβ:G1.β=G.β) (hH:G1.H=G.H) (hX:G1.X=G.X) (IP:∀i,i∈F→κc i=κ i) (OR:∀i,(κ' i).fv=false→κc i=κ i) (iC:Fit G1 w (aw κc (jQ κ F))) (gI:zn κ' F=true) (hs:∀i,Bk m κ κ' F i) :
  Fit (dz m κ κ' G1) w κ'∧∀i b,bG (dz m κ κ' G1) i (κ' i) b→bG G1 i (aw κc (jQ κ F) i) b:=by
 have OS:=mQ (κ:=κ) (κ':=κc) (ids:=F) IP
 have jb:∀j,(κ' j).fv=false→aw κc (jQ κ F) j=if j∈F then (κ j).dP else κ j:=fun j hj=>by rw [OS,OR j hj]
 have gW:∀i b,bG (dz m κ κ' G1) i (κ' i) b→bG G1 i (aw κc (jQ κ F) i) b:=by
  intro i b ho
  obtain ⟨hx,DD,C5⟩:=hs i
  cases er:κ' i with
  | none=>rw [er] at ho; exact ho.elim
  | dead=>rw [er] at ho; exact ho.elim
  | fz=>rw [er] at ho; exact ho.elim
  | cells l' =>
   rw [er] at ho hx
   cases hk:κ i with
   | cells l =>
    have dI:aw κc (jQ κ F) i=.cells l:=by rw [jb i (by rw [er]; rfl),hk]; simp [ao.dP]
    rw [dI]
    simp only [bG,dz,reβ,er,ao.fv] at ho ⊢
    exact ho
   | _=>rw [hk] at hx; exact hx.elim
  | tree v e d' =>
   rw [er] at ho hx
   cases hk:κ i with
   | tree V E d =>
    rw [hk] at hx
    simp only [mP] at hx
    obtain ⟨hx,rfl⟩:=hx
    have TZ:i ∉ F:=fun hi=>uR gI i hi _ _ _ er
    have dI:aw κc (jQ κ F) i=.tree V E d:=by rw [jb i (by rw [er]; rfl),if_neg TZ,hk]
    rw [dI]
    have e1:v=(iw m i V E).1:=by rw [hx]
    have e2:e=(iw m i V E).2:=by rw [hx]
    subst e1; subst e2
    obtain ⟨p,nd,u,h1,h2,h3,h4⟩:=ho
    simp only [dz] at h3
    rw [mN hk (by rw [er]; rfl)] at h3
    exact ⟨p,nd,u,h1,h2,h3,h4⟩
   | none =>
    rw [hk] at hx
    simp only [mP] at hx
    obtain ⟨rfl,rfl,sz,rfl⟩:=hx
    obtain ⟨p,nd,u,h1,h2,h3,h4⟩:=ho
    cases p with
    | nil =>
     simp only [aA,dz,tH,er,ao.fv,hk,Bh,Option.some.injEq] at h3
     subst h3; simp [fh] at h4
    | cons s p=>cases s <;> simp [get,step] at h1
   | _=>rw [hk] at hx; exact hx.elim
  | ey rc st l' =>
   rw [er] at ho hx
   cases hk:κ i with
   | ey VN QD l =>
    have dI:aw κc (jQ κ F) i=.ey VN QD l:=by rw [jb i (by rw [er]; rfl),hk]; simp [ao.dP]
    rw [dI]
    simp only [bG,dz,reβ,er,ao.fv] at ho ⊢
    exact ho
   | _=>rw [hk] at hx; exact hx.elim
  | held=>rw [er] at ho; exact ho.elim
  | iZ j' p' d' IQ LS =>
   rw [er] at ho hx
   cases hk:κ i with
   | iZ j p d left cur =>
    rw [hk] at hx
    simp only [mP] at hx
    obtain ⟨rfl,rfl,rfl,rfl,_,hh⟩:=hx
    obtain ⟨e1,e2⟩:=Bj hh
    have dI:aw κc (jQ κ F) i=.iZ j p d left cur:=by rw [jb i (by rw [er]; rfl),hk]; simp [ao.dP]
    rw [dI]
    simp only [bG,dz,reβ,er,ao.fv] at ho ⊢
    rw [uP e1 (by rw [e2]; rfl)] at ho
    exact ho
   | _=>rw [hk] at hx; exact hx.elim
 refine ⟨⟨iC.sub,fun i=>?_,fun i b ho=>iC.own i b (gW i b ho),fun i j b ho gX=>iC.inj i j b (gW i b ho) (gW j b gX)⟩,gW⟩
 obtain ⟨hx,DD,C5⟩:=hs i
 have j9:=iC.box i
 cases er:κ' i with
 | none=>exact ⟨by simp [dz,reβ,er,ao.fv],fun v e p=>by simp [dz,tH,er,ao.fv]⟩
 | dead=>trivial
 | cells l' =>
  rw [er] at hx DD C5
  cases hk:κ i with
  | cells l =>
   rw [hk] at hx C5
   simp only [mP] at hx
   simp only [sN] at C5
   simp only [ao.QC,Bool.and_eq_true] at DD
   have hb:=hf.box i
   rw [OR i (by rw [er]; rfl),hk] at hb
   obtain ⟨b,c,t,jm,hw,aT,j7,hr⟩:=hb
   have hlen:=qb hx
   refine ⟨b,c,t,by simp only [dz,reβ,er,ao.fv,hβ]; exact jm,hw,by rw [aT,hlen],eO DD.2,fun j d v hd hv=>?_⟩
   have:=(mO (m:=m) (κ:=κ) (κ':=κ') (w:=w) hle hβ hH IP iC (SizeOf.sizeOf l'+1)).2 l' l c.toList (by omega) hx DD.1 C5 ⟨by simp [aT],fun j d v hd hv=>hr j d v hd (by simpa using hv)⟩
   exact this.2 j d v hd (by simpa using hv)
  | _=>rw [hk] at hx; exact hx.elim
 | tree v e d' =>
  rw [er] at hx
  cases hk:κ i with
  | tree V E d =>
   rw [hk] at hx
   simp only [mP] at hx
   obtain ⟨hx,rfl⟩:=hx
   have TZ:i ∉ F:=fun hi=>uR gI i hi _ _ _ er
   rw [jb i (by rw [er]; rfl),if_neg TZ,hk] at j9
   have e1:v=(iw m i V E).1:=by rw [hx]
   have e2:e=(iw m i V E).2:=by rw [hx]
   subst e1; subst e2
   have dk:(κ' i).fv=false:=by rw [er]; rfl
   have GO:aA (dz m κ κ' G1).H i (iw m i V E).1 (iw m i V E).2=aA G1.H i V E:=funext fun p=>by simp only [dz]; exact mN hk dk p
   refine ⟨?_,?_,fun v hv e p=>?_,fun e he p=>?_⟩
   ·rw [GO]; exact j9.1
   ·rw [GO]; exact j9.2.1
   ·simp only [dz,tH,dk,hk]; exact zf hv e p
   ·simp only [dz,tH,dk,hk]; exact Fx he p
  | none =>
   rw [hk] at hx
   simp only [mP] at hx
   obtain ⟨rfl,rfl,sz,rfl⟩:=hx
   have dk:(κ' i).fv=false:=by rw [er]; rfl
   have h0:aA (dz m κ κ' G1).H i 0 0 []=some (.slice none 0 0):=by simp only [aA,dz,tH,dk,hk,Bh]
   refine ⟨⟨rfl,fun p nd hp hn=>?_⟩,?_,fun v hv e p=>?_,fun e he p=>?_⟩
   ·cases p with
    | nil =>
     simp only [get,Option.some.injEq] at hp
     subst hp
     exact ⟨_,h0,rfl,.inl ⟨rfl,rfl⟩⟩
    | cons s p=>cases s <;> simp [get,step] at hp
   ·intro p q nd md u v b h1 h2 h3 h4 h5 h6 h7 h8
    cases p with
    | nil=>rw [h0] at h3; injection h3 with h3; subst h3; simp [fh] at h4
    | cons s p=>cases s <;> simp [get,step] at h1
   ·simp only [dz,tH,dk,hk]
    cases v with
    | zero=>omega
    | succ v=>rfl
   ·simp only [dz,tH,dk,hk]
    cases e with
    | zero=>omega
    | succ e=>rfl
  | _=>rw [hk] at hx; exact hx.elim
 | fz v d' =>
  rw [er] at hx C5
  have dk:(κ' i).fv=false:=by rw [er]; rfl
  cases hk:κ i with
  | tree V E d =>
   rw [hk] at hx C5
   simp only [mP] at hx
   obtain ⟨rfl,hx⟩:=hx
   have hi:i∈F:=C5 i (by simp [sN])
   rw [jb i dk,if_pos hi,hk] at j9
   obtain ⟨u,h1,h2,h3⟩:=j9
   refine ⟨u,?_,h2,hx _ _ h3⟩
   simp only [dz,tH,dk,hk]
   rw [LO m i V 0 E,(jt m (G1.H i) i V E (.el 0 0) []).1]
   exact h1
  | fz V d =>
   rw [hk] at hx
   simp only [mP] at hx
   obtain ⟨rfl,hx⟩:=hx
   have dI:aw κc (jQ κ F) i=.fz V d:=by rw [jb i dk,hk]; simp [ao.dP]
   rw [dI] at j9
   obtain ⟨u,h1,h2,h3⟩:=j9
   refine ⟨u,?_,h2,hx _ _ h3⟩
   simp only [dz,tH,dk,hk]
   rw [(jt m (G1.H i) i V 0 (.el 0 0) []).1]
   exact h1
  | _=>rw [hk] at hx; exact hx.elim
 | ey rc st l' =>
  rw [er] at hx DD C5
  cases hk:κ i with
  | ey VN QD l =>
   rw [hk] at hx C5
   simp only [mP] at hx
   simp only [sN] at C5
   simp only [ao.QC] at DD
   obtain ⟨rfl,rfl,hx⟩:=hx
   have hb:=hf.box i
   rw [OR i (by rw [er]; rfl),hk] at hb
   obtain ⟨b,fn,tmps,D,jm,hw,hr⟩:=hb
   exact ⟨b,fn,tmps,D,by simp only [dz,reβ,er,ao.fv,hβ]; exact jm,hw,(mO (m:=m) (κ:=κ) (κ':=κ') (w:=w) hle hβ hH IP iC (SizeOf.sizeOf l'+1)).2 l' l tmps.toList (by omega) hx DD C5 hr⟩
  | _=>rw [hk] at hx; exact hx.elim
 | held =>
  rw [er] at hx
  cases hk:κ i with
  | held =>
   have dk:(κ' i).fv=false:=by rw [er]; rfl
   refine ⟨fun v hv e p=>?_,fun e he p=>?_⟩
   ·simp only [dz,tH,dk,hk]
    exact zf (by rw [zg]; exact hv) e p
   ·simp only [dz,tH,dk,hk]
    have:=Fx (m:=m) (h:=G1.H i) (i:=i) (V:=0) (E:=0) (e:=e) (by rw [zg]; exact he) p
    rw [zg] at this
    exact this
  | _=>rw [hk] at hx; exact hx.elim
 | iZ j' p' d' IQ LS =>
  rw [er] at hx
  cases hk:κ i with
  | iZ j p d left cur =>
   rw [hk] at hx
   simp only [mP] at hx
   obtain ⟨rfl,rfl,rfl,rfl,hc,hh⟩:=hx
   obtain ⟨e1,e2⟩:=Bj hh
   have dk:(κ' i).fv=false:=by rw [er]; rfl
   rw [jb i dk,hk] at j9
   simp only [ao.dP,ite_self] at j9
   obtain ⟨r,mb,es,clock,seen,ks,mm,hi⟩:=j9
   have GO:aA (dz m κ κ' G1).H j 0 0=aA G1.H j 0 0:=uP e1 (by rw [e2]; rfl)
   refine ⟨r,mb,es,clock,seen,ks,mm,by simp only [dz,reβ,dk]; exact hi.jR,hi.it,by rw [GO]; exact hi.tree,by rw [GO]; exact hi.inj,hi.node,by rw [GO]; exact hi.head,hi.map,hi.left,?_⟩
   rcases hc with rfl | rfl
   ·trivial
   ·exact hi.cur
  | _=>rw [hk] at hx; exact hx.elim
end
end Go.TM
