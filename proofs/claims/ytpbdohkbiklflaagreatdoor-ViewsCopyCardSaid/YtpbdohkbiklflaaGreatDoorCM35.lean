import Derived.Test.YtpbdohkbiklflaaGreatDoorCM31
set_option linter.unusedVariables false
set_option linter.unusedSimpArgs false
set_option linter.unusedSectionVars false
namespace Go.TM
open Go.RowKit
variable [cu]
def BX:List AV→Bool
 | []=>true
 | .dv _::r=>BX r
 | _=>false
theorem zY:∀{l:List AV},BX l=true→∀(j:Nat) (d:AV),l[j]?=some d→∃x,d=.dv x
 | .dv x::r,h,0,d,hd=>by simp at hd; exact ⟨x,hd.symm⟩
 | .dv x::r,h,j+1,d,hd=>zY (l:=r) h j d (by simpa using hd)
def zZ (i:Nat):AV→Bool
 | .dv _=>true
 | .agg l=>BX l
 | .ptr _ _=>true
 | .own j _ _ _=>!Nat.beq j i
 | _=>false
def BY (i:Nat):List AV→Bool
 | []=>true
 | v::r=>zZ i v && BY i r
def J9 (i:Nat):ar→Bool
 | .none=>true
 | .dead=>true
 | .cells l=>BY i l
 | .tree _ _ _=>true
 | _=>false
theorem xM {i:Nat}:∀{l:List AV},BY i l=true→∀v,v∈l→zZ i v=true
 | x::r,h,v,hv=>by
  simp only [BY,Bool.and_eq_true] at h
  rcases List.mem_cons.1 hv with rfl | hv
  ·exact h.1
  ·exact xM h.2 v hv
abbrev um:=Nat→Nat→List PS→Option Value
def iQ (G:Gh) (i:Nat) (Hi:um):Gh:={ G with H:=fun j=>if j=i then Hi else G.H j }
theorem fg {G:Gh} {i j:Nat} {Hi:um} (h:j ≠ i):(iQ G i Hi).H j=G.H j:=by
 show (if j=i then Hi else G.H j)=_; rw [if_neg h]
theorem mB {G:Gh} {i:Nat} {Hi:um}:(iQ G i Hi).H i=Hi:=by
 show (if i=i then Hi else G.H i)=_; rw [if_pos rfl]
theorem o4 {G:Gh} {i j:Nat} {Hi:um} (h:j ≠ i) (v e:Nat):aB (iQ G i Hi).H j v e=aB G.H j v e:=by
 funext p
 cases p with
 | nil=>show (iQ G i Hi).H j v 0 []=_; rw [fg h]; rfl
 | cons s p=>show (iQ G i Hi).H j v e (s::p)=_; rw [fg h]; rfl
theorem Ei {G:Gh} {i:Nat} {Hi:um} {a:AV} {x:Value} (ha:zZ i a=true) (h:aH G a x):aH (iQ G i Hi) a x:=by
 cases h with
 | dv hd=>exact .dv hd
 | agg l vs hl hr =>
  refine .agg l vs hl fun j d v hd hv=>?_
  obtain ⟨x,rfl⟩:=zY (show BX l=true from ha) j d hd
  cases hr j _ v hd hv with | dv h=>exact .dv h
 | ptr j off b hb=>exact .ptr j off b hb
 | own j ver ep p _ hv hc =>
  have hj:j ≠ i:=by
   rintro rfl
   simp only [zZ,Bool.not_eq_true'] at ha
   have:Nat.beq j j=true:=Nat.beq_refl j
   rw [this] at ha; cases ha
  exact .own j ver ep p _ (by rw [o4 hj]; exact hv) hc
 | _=>cases ha
theorem IC {G:Gh} {w:World} {i j:Nat} {Hi:um} {b:ar} (hj:j ≠ i) (hb:J9 i b=true) (h:eY G w j b):eY (iQ G i Hi) w j b:=by
 cases b with
 | none=>exact ⟨h.1,fun v e p=>by rw [fg hj]; exact h.2 v e p⟩
 | dead=>trivial
 | cells l =>
  obtain ⟨b,c,t,h1,h2,h3,h4,h5⟩:=h
  exact ⟨b,c,t,h1,h2,h3,h4,fun q d u hd hu=>Ei (xM hb d (List.mem_of_getElem? hd)) (h5 q d u hd hu)⟩
 | tree ver ep d =>
  obtain ⟨h1,h2,h3,h4⟩:=h
  exact ⟨by rw [o4 hj]; exact h1,by rw [o4 hj]; exact h2,fun v hv e p=>by rw [fg hj]; exact h3 v hv e p,fun e he p=>by rw [fg hj]; exact h4 e he p⟩
 | _=>cases hb
theorem ID {G:Gh} {i j:Nat} {Hi:um} {b:ar} (hj:j ≠ i) (hb:J9 i b=true) (x:Nat):bL (iQ G i Hi) j b x ↔ bL G j b x:=by
 cases b with
 | none=>exact Iff.rfl
 | dead=>exact Iff.rfl
 | cells l=>exact Iff.rfl
 | tree ver ep d=>show aQ (aB (iQ G i Hi).H j ver ep) d x ↔ aQ (aB G.H j ver ep) d x; rw [o4 hj]
 | _=>cases hb
theorem Ka {M:Mem} {w:World} {H:Nat→Nat→Nat→List PS→Option Value} {i b:Nat} {ds:List DV} {c:Array Value} {t:TypeId}
  (hw:w.heap[b]?=some (.cells c t (0,0))) (aU:c.size=ds.length) (cE:∀d,d∈ds→d.aq=true) (NT:∀d,d∈ds→d.ah=false) (dg:∀(j:Nat) (d:DV) (u:Value),ds[j]?=some d→c[j]?=some u→bo M d u)
  (hH:H i=fun ve ep p=>if ve=0∧ep=0∧p=[] then some (.pointer (some ⟨b,0,none⟩)) else none) :
  aX M w (aB H i 0 0) (.cB (.agg ds))∧fk (aB H i 0 0) (.cB (.agg ds))∧(∀v,0<v→∀e p,H i v e p=none)∧(∀e,0<e→∀p,H i 0 e p=none)∧∀x,aQ (aB H i 0 0) (.cB (.agg ds)) x ↔ x=b:=by
 have h0:aB H i 0 0 []=some (.pointer (some ⟨b,0,none⟩)):=by show H i 0 0 []=_; rw [hH]; rfl
 have hs:∀s p,aB H i 0 0 (s::p)=none:=fun s p=>by show H i 0 0 (s::p)=_; rw [hH]; rfl
 refine ⟨⟨rfl,fun p n hg hn=>?_⟩,?_,fun v hv e p=>?_,fun e he p=>?_,fun x=>⟨?_,?_⟩⟩
 ·cases p with
  | nil =>
   simp only [get,Option.some.injEq] at hg
   subst hg
   refine ⟨_,h0,rfl,b,c,t,rfl,hw,aU,fun j d hd=>?_⟩
   have hd:ds[j]?=some d:=hd
   have hl:j<c.size:=by rw [aU]; exact (List.getElem?_eq_some_iff.1 hd).1
   exact ⟨cE d (List.mem_of_getElem? hd),c[j],by simp [hl],.inr ⟨NT d (List.mem_of_getElem? hd),dg j d c[j] hd (by simp [hl])⟩⟩
  | cons s r =>
   exfalso
   simp only [get] at hg
   cases s with
   | key k j=>simp [step] at hg
   | el i j =>
    simp only [step] at hg
    cases hi:Nat.beq i 0 with
    | false=>rw [hi] at hg; simp at hg
    | true =>
     rw [hi] at hg
     simp only [cond_true] at hg
     cases hj:(DV.agg ds).cells[j]? with
     | none=>rw [hj] at hg; simp at hg
     | some y =>
      rw [hj] at hg
      simp only at hg
      have hy:=NT y (List.mem_of_getElem? (l:=ds) hj)
      cases r with
      | nil=>simp only [get,Option.some.injEq] at hg; subst hg; rw [hy] at hn; cases hn
      | cons s' r' =>
       have:step y s'=none:=by
        cases y <;> first | (cases hy; done) | (cases s' <;> rfl)
       simp only [get,this] at hg
       cases hg
 ·intro p q n m u v' x _ _ h3 _ _ _ h7 _
  cases p with
  | nil =>
   cases q with
   | nil=>rfl
   | cons s r=>rw [hs] at h7; cases h7
  | cons s r=>rw [hs] at h3; cases h3
 ·rw [hH]; show (if v=0∧e=0∧p=[] then _ else none)=none; rw [if_neg (by omega)]
 ·rw [hH]; show (if (0:Nat)=0∧e=0∧p=[] then _ else none)=none; rw [if_neg (by omega)]
 ·rintro ⟨p,n,u,h1,h2,h3,h4⟩
  cases p with
  | nil =>
   rw [h0] at h3; injection h3 with h3; subst h3
   simp [fj] at h4; exact h4.symm
  | cons s r=>rw [hs] at h3; cases h3
 ·rintro rfl
  exact ⟨[],_,_,rfl,rfl,h0,rfl⟩
inductive iy (i:Nat):List AV→List AV→Prop
 | nil:iy i [] []
 | same (x:AV) (hx:zZ i x=true) {l l':List AV} (h:iy i l l'):iy i (x::l) (x::l')
 | ptr {l l':List AV} (h:iy i l l'):iy i (.own i 0 0 []::l) (.ptr i 0::l')
theorem iy.len {i:Nat} {l l':List AV} (h:iy i l l'):l.length=l'.length:=by
 induction h with
 | nil=>rfl
 | same x _ _ ih=>simp [ih]
 | ptr _ ih=>simp [ih]
theorem iy.at {i:Nat} {l l':List AV} (h:iy i l l'):∀(j:Nat) (d:AV),l[j]?=some d→(l'[j]?=some d∧zZ i d=true) ∨ (l'[j]?=some (.ptr i 0)∧d=.own i 0 0 []):=by
 induction h with
 | nil=>intro j d hd; simp at hd
 | same x hx _ ih =>
  intro j d hd
  cases j with
  | zero=>simp at hd; subst hd; exact .inl ⟨rfl,hx⟩
  | succ j=>simp only [List.getElem?_cons_succ] at hd ⊢; exact ih j d hd
 | ptr _ ih =>
  intro j d hd
  cases j with
  | zero=>simp at hd; exact .inr ⟨rfl,hd.symm⟩
  | succ j=>simp only [List.getElem?_cons_succ] at hd ⊢; exact ih j d hd
theorem xN {P:Program} {f:Nat} {i:Nat} {args QR:List AV} {m:Nat} {K K2:aj} {ex:Nat} {d0:DV} {K' Vr:aj} {ds uc:List DV} (h:aO P f args m K ex [.dv d0] K') (NO:i<m)
  (h1:aa K i=.tree 0 0 (.cB (.agg ds))) (h2:aa K2 i=.cells (iU ds)) (hn:∀d,d∈ds→d.ah=false) (h3:∀j,j ≠ i→aa K2 j=aa K j∧J9 i (aa K j)=true)
  (Qc:aa K' i=.tree 0 0 (.cB (.agg uc))) (B9:aa Vr i=.cells (iU uc)) (yN:∀d,d∈uc→d.ah=false) (Cn:∀j,j ≠ i→aa Vr j=aa K' j∧J9 i (aa K' j)=true)
  (bM:iy i args QR):aO P f QR m K2 ex [.dv d0] Vr:=by
 refine ⟨h.1,fun w G2 vs oH ck hr=>?_⟩
 obtain ⟨b,c,t,hb,hw,aU,cE,dg⟩:eY G2 w i (.cells (iU ds)):=by have:=ck.box i; rw [h2] at this; exact this
 let Hi:um:=fun ve ep p=>if ve=0∧ep=0∧p=[] then some (.pointer (some ⟨b,0,none⟩)) else none
 have hdc:∀d,d∈ds→d.aq=true:=fun d hd=>by
  obtain ⟨j,hj⟩:=List.getElem?_of_mem hd
  exact cE _ (List.mem_of_getElem? (kz hj))
 have hot:=Ka (M:=G2.M) (H:=(iQ G2 i Hi).H) hw (by rw [aU,ir]) hdc hn (fun j d u hd hu=>by
  have:=dg j _ u (kz hd) hu
  cases this with | dv h=>exact h) mB
 obtain ⟨t1,t2,t3,t4,t5⟩:=hot
 have fo:∀j x,bL (iQ G2 i Hi) j (aa K j) x ↔ bL G2 j (aa K2 j) x:=by
  intro j x
  by_cases hj:j=i
  ·subst hj
   rw [h1,h2]
   refine (t5 x).trans ⟨fun e=>by subst e; exact hb,fun e=>?_⟩
   have e:G2.β j=some x:=e
   rw [hb] at e; injection e with e; exact e.symm
  ·rw [(h3 j hj).1]; exact ID hj (h3 j hj).2 x
 have pA:Fit (iQ G2 i Hi) w (aa K):=by
  refine ⟨ck.sub,fun j=>?_,fun j x o=>ck.own j x ((fo j x).1 o),fun j j' x o o'=>ck.inj j j' x ((fo j x).1 o) ((fo j' x).1 o')⟩
  by_cases hj:j=i
  ·subst hj; rw [h1]; exact ⟨t1,t2,t3,t4⟩
  ·have:=ck.box j
   rw [(h3 j hj).1] at this
   exact IC hj (h3 j hj).2 this
 have NU:bU (iQ G2 i Hi) args vs:=by
  refine ⟨by rw [bM.len]; exact hr.1,fun j d u hd hu=>?_⟩
  rcases bM.at j d hd with ⟨h4,h5⟩ | ⟨h4,rfl⟩
  ·exact Ei h5 (hr.2 j d u h4 hu)
  ·have h6:=hr.2 j _ u h4 hu
   cases h6 with
   | ptr _ _ b' cL =>
    rw [hb] at cL; injection cL with cL; subst cL
    exact .own i 0 0 [] _ (by show (iQ G2 i Hi).H i 0 0 []=_; rw [mB]; rfl) rfl
 refine Calls.mono (h.2 w (iQ G2 i Hi) vs oH pA NU) ?_
 rintro en w' ⟨u,r,k,G',rfl,⟨rfl,rfl⟩,hc⟩
 have Ni:G'.H i 0 0 []=some (.pointer (some ⟨b,0,none⟩)):=hc.pH i NO [] _ (by rw [mB]; rfl)
 have nc:=hc.fit.box i
 rw [Qc] at nc
 obtain ⟨b1,b2,b3,b4⟩:=nc
 obtain ⟨u',q1,q2,b',c',t',q3,q4,q5,q6⟩:=b1.2 [] _ rfl rfl
 have q1:G'.H i 0 0 []=some u':=q1
 rw [Ni] at q1; injection q1 with q1; subst q1
 injection q3 with q3; injection q3 with q3
 have q3:b=b':=by injection q3
 subst q3
 have q5:c'.size=uc.length:=q5
 have q6:∀(j:Nat) (d:DV),uc[j]?=some d→d.aq=true∧∃u,c'[j]?=some u∧db G'.M (aB G'.H i 0 0 ([]++[PS.el 0 j])) d u:=q6
 have Nj:G'.β i=some b:=by rw [hc.jg i NO]; exact hb
 have hTO:∀x,aQ (aB G'.H i 0 0) (.cB (.agg uc)) x ↔ x=b:=by
  intro x
  constructor
  ·rintro ⟨p,n,v,g1,g2,g3,g4⟩
   cases p with
   | nil =>
    have g3:G'.H i 0 0 []=some v:=g3
    rw [Ni] at g3; injection g3 with g3; subst g3
    simp [fj] at g4; exact g4.symm
   | cons s r =>
    exfalso
    simp only [get] at g1
    cases s with
    | key k j=>simp [step] at g1
    | el i' j =>
     simp only [step] at g1
     cases hi:Nat.beq i' 0 with
     | false=>rw [hi] at g1; simp at g1
     | true =>
      rw [hi] at g1
      simp only [cond_true] at g1
      cases hj:(DV.agg uc).cells[j]? with
      | none=>rw [hj] at g1; simp at g1
      | some y =>
       rw [hj] at g1
       simp only at g1
       have hy:=yN y (List.mem_of_getElem? (l:=uc) hj)
       cases r with
       | nil=>simp only [get,Option.some.injEq] at g1; subst g1; rw [hy] at g2; cases g2
       | cons s' r' =>
        have:step y s'=none:=by
         cases y <;> first | (cases hy; done) | (cases s' <;> rfl)
        simp only [get,this] at g1
        cases g1
  ·rintro rfl
   exact ⟨[],_,_,rfl,rfl,Ni,rfl⟩
 have IE:∀j x,bL (iQ G' i (G2.H i)) j (aa Vr j) x ↔ bL G' j (aa k j) x:=by
  intro j x
  by_cases hj:j=i
  ·subst hj
   rw [Qc,B9]
   refine Iff.trans ⟨fun e=>?_,fun e=>?_⟩ (hTO x).symm
   ·have e:G'.β j=some x:=e
    rw [Nj] at e; injection e with e; exact e.symm
   ·subst e; exact Nj
  ·rw [(Cn j hj).1]; exact ID hj (Cn j hj).2 x
 refine ⟨u,_,Vr,iQ G' i (G2.H i),rfl,⟨rfl,rfl⟩,⟨⟨hc.fit.sub,fun j=>?_,fun j x o=>hc.fit.own j x ((IE j x).1 o),fun j j' x o o'=>hc.fit.inj j j' x ((IE j x).1 o) ((IE j' x).1 o')⟩,fun j hj=>?_,?_,hc.le,hc.jg,fun j hj p x hx=>?_,fun x hx dj=>hc.frame x hx fun j o=>dj j ((fo j x).1 o),fun j x o=>?_,hc.os,hc.tape,hc.output,hc.size⟩⟩
 ·by_cases hj:j=i
  ·subst hj
   rw [B9]
   refine ⟨b,c',t',Nj,q4,by rw [q5,ir],fun v hv=>?_,fun q d v hd hv=>?_⟩
   ·obtain ⟨q,hq⟩:=List.getElem?_of_mem hv
    have hl:q<uc.length:=by have:=(List.getElem?_eq_some_iff.1 hq).1; rw [ir] at this; exact this
    have:=kz (List.getElem?_eq_getElem hl)
    rw [hq] at this; injection this with this; subst this
    exact (q6 q _ (List.getElem?_eq_getElem hl)).1
   ·have hl:q<uc.length:=by have:=(List.getElem?_eq_some_iff.1 hd).1; rw [ir] at this; exact this
    have h8:=kz (List.getElem?_eq_getElem hl)
    rw [hd] at h8; injection h8 with h8; subst h8
    obtain ⟨_,v',h9,EM⟩:=q6 q _ (List.getElem?_eq_getElem hl)
    rw [hv] at h9; injection h9 with h9; subst h9
    rcases EM with ⟨e,_⟩ | ⟨_,e⟩
    ·rw [yN _ (List.getElem_mem hl)] at e; cases e
    ·exact .dv e
  ·rw [(Cn j hj).1]
   exact IC hj (Cn j hj).2 (hc.fit.box j)
 ·have hn:=hc.no j hj
  rw [(Cn j (by omega)).1]; exact hn
 ·have:=hc.res
  simp only [hU] at this ⊢
  cases this with | dv h=>exact .dv h
 ·by_cases na:j=i
  ·subst na; rw [mB]; exact hx
  ·rw [fg na]
   exact hc.pH j hj p x (by rw [fg na]; exact hx)
 ·rcases hc.mY j x ((IE j x).1 o) with h9 | ⟨j',h9⟩
  ·exact .inl h9
  ·exact .inr ⟨j',(fo j' x).1 h9⟩
end Go.TM
