import Derived.Test.YtpbdohkbiklflaaGreatDoorCM28
set_option linter.unusedVariables false
set_option linter.unusedSimpArgs false
set_option linter.unusedSectionVars false
namespace Go.TM
open Go.RowKit
variable [cu]
inductive oe (i v e:Nat):List AV→List AV→Prop
 | nil:oe i v e [] []
 | same (x:AV) {l l':List AV} (h:oe i v e l l'):oe i v e (x::l) (x::l')
 | Vh {l l':List AV} (h:oe i v e l l'):oe i v e (.own i 0 0 []::l) (.own i v e []::l')
inductive D8 (i v e:Nat):ar→ar→Prop
 | refl (b:ar):D8 i v e b b
 | cells {l l':List AV} (h:oe i v e l l'):D8 i v e (.cells l) (.cells l')
def Pr (i v e:Nat) (k k':aj):Prop:=∃d,aa k i=.tree 0 0 d∧aa k' i=.tree v e d∧∀j,j ≠ i→D8 i v e (aa k j) (aa k' j)
theorem oe.refl (i v e:Nat):∀l,oe i v e l l
 | []=>.nil
 | x::l=>.same x (oe.refl i v e l)
theorem oe.len {i v e:Nat} {l l':List AV} (h:oe i v e l l'):l.length=l'.length:=by
 induction h with
 | nil=>rfl
 | same x _ ih=>simp [ih]
 | Vh _ ih=>simp [ih]
theorem oe.aq {i v e:Nat} {l l':List AV} (h:oe i v e l l') (hc:∀v,v∈l→v.aq=true):∀v,v∈l'→v.aq=true:=by
 induction h with
 | nil=>exact hc
 | same x _ ih =>
  intro y hy
  rcases List.mem_cons.1 hy with rfl | hy
  ·exact hc _ List.mem_cons_self
  ·exact ih (fun z hz=>hc z (List.mem_cons_of_mem _ hz)) y hy
 | Vh _ ih =>
  intro y hy
  rcases List.mem_cons.1 hy with rfl | hy
  ·rfl
  ·exact ih (fun z hz=>hc z (List.mem_cons_of_mem _ hz)) y hy
theorem oe.at {i v e:Nat} {l l':List AV} (h:oe i v e l l'):∀(j:Nat) (d:AV),l'[j]?=some d→l[j]?=some d ∨ (l[j]?=some (.own i 0 0 [])∧d=.own i v e []):=by
 induction h with
 | nil=>intro j d hd; simp at hd
 | same x _ ih =>
  intro j d hd
  cases j with
  | zero=>exact .inl hd
  | succ j=>simp only [List.getElem?_cons_succ] at hd ⊢; exact ih j d hd
 | Vh _ ih =>
  intro j d hd
  cases j with
  | zero=>simp at hd; exact .inr ⟨rfl,hd.symm⟩
  | succ j=>simp only [List.getElem?_cons_succ] at hd ⊢; exact ih j d hd
def D9 (H:Nat→Nat→Nat→List PS→Option Value) (i v e:Nat):Nat→Nat→Nat→List PS→Option Value :=
 fun j v' e' p=>if j=i∧v'=v∧e'=e then H i 0 0 p else H j v' e' p
def ka (G:Gh) (i v e:Nat):Gh:={ G with H:=D9 G.H i v e }
theorem GA (H:Nat→Nat→Nat→List PS→Option Value) (i v e j v' e':Nat) (hn:j ≠ i):aB (D9 H i v e) j v' e'=aB H j v' e':=by
 funext p
 cases p with
 | nil=>show (if _ then _ else _)=_; rw [if_neg (fun h=>hn h.1)]; rfl
 | cons s p=>show (if _ then _ else _)=_; rw [if_neg (fun h=>hn h.1)]; rfl
theorem J5 (H:Nat→Nat→Nat→List PS→Option Value) (i v e j:Nat) (Ce:(v=0∧e=1) ∨ (v=1∧e=0)):aB (D9 H i v e) j 0 0=aB H j 0 0:=by
 funext p
 cases p with
 | nil=>show (if _ then _ else _)=_; rw [if_neg (fun h=>by omega)]; rfl
 | cons s p=>show (if _ then _ else _)=_; rw [if_neg (fun h=>by omega)]; rfl
theorem zW (H:Nat→Nat→Nat→List PS→Option Value) (i v e:Nat) (Ce:(v=0∧e=1) ∨ (v=1∧e=0)):aB (D9 H i v e) i v e=aB H i 0 0:=by
 funext p
 cases p with
 | nil =>
  show (if i=i∧v=v∧0=e then H i 0 0 [] else H i v 0 [])=H i 0 0 []
  rcases Ce with ⟨rfl,rfl⟩ | ⟨rfl,rfl⟩
  ·rw [if_neg (by omega)]
  ·rw [if_pos ⟨rfl,rfl,rfl⟩]
 | cons s p=>show (if i=i∧v=v∧e=e then _ else _)=_; rw [if_pos ⟨rfl,rfl,rfl⟩]; rfl
theorem Ps {G:Gh} {i v e:Nat} (Ce:(v=0∧e=1) ∨ (v=1∧e=0)) (h1:∀v,0<v→∀e p,G.H i v e p=none) (h2:∀e,0<e→∀p,G.H i 0 e p=none):Gh.Le G (ka G i v e):=by
 refine ⟨Mem.Le.refl _,fun _ _ h=>h,fun j v' e' p x hx=>?_⟩
 show (if j=i∧v'=v∧e'=e then _ else _)=_
 rw [if_neg]
 ·exact hx
 ·rintro ⟨rfl,rfl,rfl⟩
  rcases Ce with ⟨rfl,rfl⟩ | ⟨rfl,rfl⟩
  ·rw [h2 1 (by omega)] at hx; cases hx
  ·rw [h1 1 (by omega)] at hx; cases hx
theorem M7 {G:Gh} {w:World} {i v e j:Nat} {b b':ar} (Ce:(v=0∧e=1) ∨ (v=1∧e=0)) (hle:Gh.Le G (ka G i v e)) (hj:j ≠ i) (hb:eY G w j b) (hr:D8 i v e b b') :
  eY (ka G i v e) w j b'∧∀x,bL (ka G i v e) j b' x ↔ bL G j b x:=by
 have dj:∀v' e' p,(ka G i v e).H j v' e' p=G.H j v' e' p:=fun v' e' p=>by
  show (if _ then _ else _)=_; rw [if_neg (fun h=>hj h.1)]
 have hh:∀v' e',aB (ka G i v e).H j v' e'=aB G.H j v' e':=fun v' e'=>GA G.H i v e j v' e' hj
 cases hr with
 | cells h =>
  obtain ⟨b,c,t,h1,h2,h3,h4,h5⟩:=hb
  refine ⟨⟨b,c,t,h1,h2,by rw [h3]; exact h.len,h.aq h4,fun q d u hd hu=>?_⟩,fun x=>Iff.rfl⟩
  rcases h.at q d hd with h6 | ⟨h6,rfl⟩
  ·exact (h5 q d u h6 hu).mono hle
  ·have h7:=h5 q _ u h6 hu
   cases h7 with
   | own _ _ _ _ _ h8 h9 =>
    refine .own _ _ _ _ _ ?_ h9
    show aB (D9 G.H i v e) i v e []=_
    rw [zW _ _ _ _ Ce]; exact h8
 | refl =>
  cases b with
  | none=>exact ⟨⟨hb.1,fun v' e' p=>by rw [dj]; exact hb.2 v' e' p⟩,fun x=>Iff.rfl⟩
  | dead=>exact ⟨tv,fun x=>Iff.rfl⟩
  | cells l =>
   obtain ⟨b,c,t,h1,h2,h3,h4,h5⟩:=hb
   exact ⟨⟨b,c,t,h1,h2,h3,h4,fun q d u hd hu=>(h5 q d u hd hu).mono hle⟩,fun x=>Iff.rfl⟩
  | tree ver ep d =>
   obtain ⟨h1,h2,h3,h4⟩:=hb
   refine ⟨⟨by rw [hh]; exact h1,by rw [hh]; exact h2,fun v' hv e' p=>by rw [dj]; exact h3 v' hv e' p,fun e' he p=>by rw [dj]; exact h4 e' he p⟩,fun x=>?_⟩
   show aQ (aB (ka G i v e).H j ver ep) d x ↔ aQ (aB G.H j ver ep) d x
   rw [hh]
  | fz ver d =>
   obtain ⟨u,h1,h2,h3⟩:=hb
   exact ⟨⟨u,by rw [dj]; exact h1,h2,h3⟩,fun x=>Iff.rfl⟩
  | eI rc st l =>
   obtain ⟨b,fn,tmps,D,h1,h2,h3⟩:=hb
   exact ⟨⟨b,fn,tmps,D,h1,h2,h3.mono hle⟩,fun x=>Iff.rfl⟩
  | held=>exact ⟨⟨fun v' hv e' p=>by rw [dj]; exact hb.1 v' hv e' p,fun e' he p=>by rw [dj]; exact hb.2 e' he p⟩,fun x=>Iff.rfl⟩
  | jw k p d left cur =>
   have h0:aB (ka G i v e).H k 0 0=aB G.H k 0 0:=J5 G.H i v e k Ce
   obtain ⟨r,mb,es,clock,seen,ks,m,hi⟩:=hb
   refine ⟨⟨r,mb,es,clock,seen,ks,m,⟨hi.jg,hi.it,by rw [h0]; exact hi.tree,by rw [h0]; exact hi.inj,hi.node,by rw [h0]; exact hi.head,hi.map,hi.left,hi.cur⟩⟩,fun x=>?_⟩
   show (aQ (aB (ka G i v e).H k 0 0) d x ∨ _) ↔ _
   rw [h0]; exact Iff.rfl
theorem Ea {P:Program} {f:Nat} {args:List AV} {m:Nat} {K:aj} {ex:Nat} {R R':List AV→aj→Prop} (h:dR P f args m K ex R) {i v e:Nat} (NO:i<m+ex) (Ce:(v=0∧e=1) ∨ (v=1∧e=0))
  (hR:∀rs k,R rs k→∃k',R' rs k'∧Pr i v e k k'):dR P f args m K ex R':=by
 refine ⟨h.1,fun w G vs oH ck hr=>?_⟩
 refine Calls.mono (h.2 w G vs oH ck hr) ?_
 rintro en w' ⟨u,r,k,G',rfl,hk,hc⟩
 obtain ⟨k',h1,d,h2,h3,h4⟩:=hR r k hk
 have nc:=hc.fit.box i
 rw [h2] at nc
 obtain ⟨b1,b2,b3,b4⟩:=nc
 have hle:Gh.Le G' (ka G' i v e):=Ps Ce b3 b4
 have dk:∀j,eY (ka G' i v e) w' j (aa k' j)∧∀x,bL (ka G' i v e) j (aa k' j) x ↔ bL G' j (aa k j) x:=by
  intro j
  by_cases hj:j=i
  ·subst hj
   have hs:aB (ka G' j v e).H j v e=aB G'.H j 0 0:=zW G'.H j v e Ce
   rw [h2,h3]
   refine ⟨⟨by rw [hs]; exact b1,by rw [hs]; exact b2,fun v' hv e' p=>?_,fun e' he p=>?_⟩,fun x=>?_⟩
   ·show (if _ then _ else _)=_
    rw [if_neg (by omega)]; exact b3 v' (by omega) e' p
   ·show (if _ then _ else _)=_
    rw [if_neg (by omega)]
    rcases Ce with ⟨rfl,rfl⟩ | ⟨rfl,rfl⟩
    ·exact b4 e' (by omega) p
    ·exact b3 1 (by omega) e' p
   ·show aQ (aB (ka G' j v e).H j v e) d x ↔ aQ (aB G'.H j 0 0) d x
    rw [hs]
  ·exact M7 Ce hle hj (hc.fit.box j) (h4 j hj)
 refine ⟨u,r,k',ka G' i v e,rfl,h1,⟨⟨hc.fit.sub,fun j=>(dk j).1,fun j b o=>hc.fit.own j b (((dk j).2 b).1 o),fun j j' b o o'=>hc.fit.inj j j' b (((dk j).2 b).1 o) (((dk j').2 b).1 o')⟩,fun j hj=>?_,hc.res.mono hle,hc.le,hc.jg,fun j hj p x hx=>?_,hc.frame,fun j b o=>hc.mY j b (((dk j).2 b).1 o),hc.os,hc.tape,hc.output,hc.size⟩⟩
 ·have hn:=hc.no j hj
  have h5:=h4 j (by omega)
  rw [hn] at h5
  generalize aa k' j=c at h5
  cases h5; rfl
 ·have:=hc.pH j hj p x hx
  exact hle.head _ _ _ _ _ this
theorem xG {P:Program} {f:Nat} {args:List AV} {m:Nat} {K:aj} {ex:Nat} {rs:List AV} {K1 K2:aj} (h:aO P f args m K ex rs K1) {i v e:Nat} (NO:i<m+ex) (Ce:(v=0∧e=1) ∨ (v=1∧e=0)) (hb:Pr i v e K1 K2):aO P f args m K ex rs K2 :=
 Ea h NO Ce fun r k hk=>⟨K2,⟨hk.1,rfl⟩,by rw [hk.2]; exact hb⟩
end Go.TM
namespace Go.TM
open Go.RowKit
variable [cu]
theorem Eb {P:Program} {f:Nat} {args:List AV} {ds:List DV} {d0:DV} (h:aO P f args 0 [] 2 [.ptr 1 0,.dv d0] [(1,.cells (iU ds))]):aO P f args 0 [] 2 [.own 1 0 0 [],.dv d0] [(1,.tree 0 0 (.cB (.agg ds)))]:=by
 refine ⟨h.1,fun w G vs oH ck hr=>?_⟩
 refine Calls.mono (h.2 w G vs oH ck hr) ?_
 rintro e w' ⟨v,r,k,G',rfl,⟨rfl,rfl⟩,hc⟩
 obtain ⟨b,c,t,hb,hw,aU,cE,dg⟩:eY G' w' 1 (.cells (iU ds)):=hc.fit.box 1
 obtain ⟨y,H5,hy⟩:∃y,v=.tuple #[.pointer (some ⟨b,0,none⟩),y]∧aH G' (.dv d0) y:=by
  have:=hc.res
  simp only [hU] at this
  cases this with
  | eV _ vs hl hr =>
   obtain ⟨u,y,rfl⟩:∃u y,vs=[u,y]:=by
    match vs,hl with
    | [u,y],_=>exact ⟨u,y,rfl⟩
   have h0:=hr 0 _ _ rfl rfl
   have h1:=hr 1 _ _ rfl rfl
   cases h0 with
   | ptr _ _ b' h'=>rw [hb] at h'; injection h' with h'; subst h'; exact ⟨y,rfl,h1⟩
 obtain ⟨pv,hv⟩:∃pv,pv=Value.pointer (some ⟨b,0,none⟩):=⟨_,rfl⟩
 rw [←hv] at H5
 have dj:∀i,i ≠ 1→aa [(1,ar.tree 0 0 (.cB (.agg ds)))] i=.none∧aa [(1,ar.cells (iU ds))] i=.none:=by
  intro i hi
  have:Nat.beq 1 i=false:=by
   cases hq:Nat.beq 1 i with
   | false=>rfl
   | true=>exact absurd (Nat.eq_of_beq_eq_true hq).symm hi
  simp only [aa,this,cond_false]
  exact ⟨tv,tv⟩
 have NT:∀d,d∈ds→d.ah=false:=by
  intro d hd
  obtain ⟨j,hj⟩:=List.getElem?_of_mem hd
  have h1:=kz hj
  have hl:j<c.size:=by rw [aU,ir]; exact (List.getElem?_eq_some_iff.1 hj).1
  have:=dg j (.dv d) c[j] h1 (by simp [hl])
  cases this with
  | dv hd=>exact hd.dO
 let H':Nat→Nat→Nat→List PS→Option Value:=fun i ve ep p=>if i=1 then (if ve=0∧ep=0∧p=[] then some pv else none) else G'.H i ve ep p
 have FU:H' 1 0 0 []=some pv:=rfl
 have rb:aX G'.M w' (aB H' 1 0 0) (.cB (.agg ds)):=by
  refine ⟨rfl,fun p n hg hn=>?_⟩
  cases p with
  | nil =>
   simp only [get,Option.some.injEq] at hg
   subst hg
   refine ⟨pv,FU,by rw [hv]; rfl,b,c,t,hv,hw,by rw [aU,ir]; rfl,fun j d hd=>?_⟩
   have hd:ds[j]?=some d:=hd
   have h1:=kz hd
   have hl:j<c.size:=by rw [aU,ir]; exact (List.getElem?_eq_some_iff.1 hd).1
   have h2:=cE (.dv d) (List.mem_of_getElem? h1)
   have h3:=dg j (.dv d) c[j] h1 (by simp [hl])
   refine ⟨h2,c[j],by simp [hl],.inr ⟨NT d (List.mem_of_getElem? hd),?_⟩⟩
   cases h3 with
   | dv h3=>exact h3
  | cons s r =>
   exfalso
   simp only [get] at hg
   cases s with
   | key k j=>simp [step] at hg
   | el i j =>
    simp only [step] at hg
    cases hi:Nat.beq i 0 with
    | false=>rw [hi] at hg; simp at hg
    | true =>
     rw [hi] at hg
     simp only [cond_true] at hg
     cases hj:(DV.agg ds).cells[j]? with
     | none=>rw [hj] at hg; simp at hg
     | some y =>
      rw [hj] at hg
      simp only at hg
      have hy:=NT y (List.mem_of_getElem? (l:=ds) hj)
      cases r with
      | nil=>simp only [get,Option.some.injEq] at hg; subst hg; rw [hy] at hn; cases hn
      | cons s' r' =>
       have:step y s'=none:=by
        cases y <;> first | (cases hy; done) | (cases s' <;> rfl)
       simp only [get,this] at hg
       cases hg
 have fo:∀x,aQ (aB H' 1 0 0) (.cB (.agg ds)) x→x=b:=by
  rintro x ⟨p,n,u,h1,h2,h3,h4⟩
  cases p with
  | nil =>
   have:some pv=some u:=h3
   injection this with this; subst this
   rw [hv] at h4; simp [fj] at h4; exact h4.symm
  | cons s r =>
   have:(none:Option Value)=some u:=h3
   cases this
 have dB:fk (aB H' 1 0 0) (.cB (.agg ds)):=by
  intro p q n m u v' x _ _ h3 _ _ _ h7 _
  cases p with
  | nil =>
   cases q with
   | nil=>rfl
   | cons s r=>have:(none:Option Value)=some v':=h7; cases this
  | cons s r=>have:(none:Option Value)=some u:=h3; cases this
 have yA:∀i x,bL { G' with H:=H' } i (aa [(1,ar.tree 0 0 (.cB (.agg ds)))] i) x→i=1∧x=b:=by
  intro i x ho
  by_cases hi:i=1
  ·subst hi; exact ⟨rfl,fo x ho⟩
  ·rw [(dj i hi).1] at ho; cases ho
 have Gu:bL G' 1 (aa [(1,ar.cells (iU ds))] 1) b:=hb
 refine ⟨v,_,_,{ G' with H:=H' },rfl,⟨rfl,rfl⟩,{ hc with fit:=⟨hc.fit.sub,fun i=>?_,fun i x ho=>?_,fun i j x o o'=>?_⟩,no:=fun i hi=>?_,res:=?_,pH:=fun i hi=>absurd hi (by omega),mY:=fun i x ho=>?_ }⟩
 ·by_cases hi:i=1
  ·subst hi
   refine ⟨rb,dB,fun ve Ce e p=>?_,fun e he p=>?_⟩
   ·show (if ve=0∧e=0∧p=[] then some pv else none)=none
    rw [if_neg (by omega)]
   ·show (if (0:Nat)=0∧e=0∧p=[] then some pv else none)=none
    rw [if_neg (by omega)]
  ·rw [(dj i hi).1]
   have:=hc.fit.box i
   rw [(dj i hi).2] at this
   refine ⟨this.1,fun ve e p=>?_⟩
   show (if i=1 then _ else G'.H i ve e p)=none
   rw [if_neg hi]; exact this.2 ve e p
 ·obtain ⟨rfl,rfl⟩:=yA i x ho
  exact hc.fit.own 1 _ Gu
 ·rw [(yA i x o).1,(yA j x o').1]
 ·exact (dj i (by omega)).1
 ·show aH { G' with H:=H' } (.eV [.own 1 0 0 [],.dv d0]) v
  rw [H5]
  refine .eV _ [pv,y] rfl fun j d u hd hu=>?_
  match j,hd,hu with
  | 0,hd,hu=>simp at hd hu; subst hd; subst hu; exact .own 1 0 0 [] pv FU (by rw [hv]; rfl)
  | 1,hd,hu =>
   simp at hd hu; subst hd; subst hu
   cases hy with
   | dv hy=>exact .dv hy
  | j+2,hd,hu=>simp at hd
 ·obtain ⟨rfl,rfl⟩:=yA i x ho
  exact hc.mY 1 _ Gu
end Go.TM
