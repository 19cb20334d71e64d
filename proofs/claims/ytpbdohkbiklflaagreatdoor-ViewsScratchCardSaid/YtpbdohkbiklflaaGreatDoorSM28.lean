import Derived.Test.YtpbdohkbiklflaaGreatDoorSM26
set_option linter.unusedVariables false
set_option linter.unusedSimpArgs false
set_option linter.unusedSectionVars false
namespace Go.TM
open Go.RowKit
variable [cj]
inductive mP (i v e:Nat):List AV→List AV→Prop
 | nil:mP i v e [] []
 | same (x:AV) {l l':List AV} (h:mP i v e l l'):mP i v e (x::l) (x::l')
 | QE {l l':List AV} (h:mP i v e l l'):mP i v e (.own i 0 0 []::l) (.own i v e []::l')
inductive Bl (i v e:Nat):ak→ak→Prop
 | refl (b:ak):Bl i v e b b
 | cells {l l':List AV} (h:mP i v e l l'):Bl i v e (.cells l) (.cells l')
def Lo (i v e:Nat) (k k':af):Prop:=∃d,aa k i=.tree 0 0 d∧aa k' i=.tree v e d∧∀j,j ≠ i→Bl i v e (aa k j) (aa k' j)
theorem mP.refl (i v e:Nat):∀l,mP i v e l l
 | []=>.nil
 | x::l=>.same x (mP.refl i v e l)
theorem mP.len {i v e:Nat} {l l':List AV} (h:mP i v e l l'):l.length=l'.length:=by
 induction h with
 | nil=>rfl
 | same x _ ih=>simp [ih]
 | QE _ ih=>simp [ih]
theorem mP.aj {i v e:Nat} {l l':List AV} (h:mP i v e l l') (hc:∀v,v∈l→v.aj=true):∀v,v∈l'→v.aj=true:=by
 induction h with
 | nil=>exact hc
 | same x _ ih =>
  intro y hy
  rcases List.mem_cons.1 hy with rfl | hy
  ·exact hc _ List.mem_cons_self
  ·exact ih (fun z hz=>hc z (List.mem_cons_of_mem _ hz)) y hy
 | QE _ ih =>
  intro y hy
  rcases List.mem_cons.1 hy with rfl | hy
  ·rfl
  ·exact ih (fun z hz=>hc z (List.mem_cons_of_mem _ hz)) y hy
theorem mP.at {i v e:Nat} {l l':List AV} (h:mP i v e l l'):∀(j:Nat) (d:AV),l'[j]?=some d→l[j]?=some d ∨ (l[j]?=some (.own i 0 0 [])∧d=.own i v e []):=by
 induction h with
 | nil=>intro j d hd; simp at hd
 | same x _ ih =>
  intro j d hd
  cases j with
  | zero=>exact .inl hd
  | succ j=>simp only [List.getElem?_cons_succ] at hd ⊢; exact ih j d hd
 | QE _ ih =>
  intro j d hd
  cases j with
  | zero=>simp at hd; exact .inr ⟨rfl,hd.symm⟩
  | succ j=>simp only [List.getElem?_cons_succ] at hd ⊢; exact ih j d hd
def Bm (H:Nat→Nat→Nat→List PS→Option Value) (i v e:Nat):Nat→Nat→Nat→List PS→Option Value :=
 fun j v' e' p=>if j=i∧v'=v∧e'=e then H i 0 0 p else H j v' e' p
def jn (G:Gh) (i v e:Nat):Gh:={ G with H:=Bm G.H i v e }
theorem Du (H:Nat→Nat→Nat→List PS→Option Value) (i v e j v' e':Nat) (hn:j ≠ i):az (Bm H i v e) j v' e'=az H j v' e':=by
 funext p
 cases p with
 | nil=>show (if _ then _ else _)=_; rw [if_neg (fun h=>hn h.1)]; rfl
 | cons s p=>show (if _ then _ else _)=_; rw [if_neg (fun h=>hn h.1)]; rfl
theorem Gj (H:Nat→Nat→Nat→List PS→Option Value) (i v e j:Nat) (Bc:(v=0∧e=1) ∨ (v=1∧e=0)):az (Bm H i v e) j 0 0=az H j 0 0:=by
 funext p
 cases p with
 | nil=>show (if _ then _ else _)=_; rw [if_neg (fun h=>by omega)]; rfl
 | cons s p=>show (if _ then _ else _)=_; rw [if_neg (fun h=>by omega)]; rfl
theorem xG (H:Nat→Nat→Nat→List PS→Option Value) (i v e:Nat) (Bc:(v=0∧e=1) ∨ (v=1∧e=0)):az (Bm H i v e) i v e=az H i 0 0:=by
 funext p
 cases p with
 | nil =>
  show (if i=i∧v=v∧0=e then H i 0 0 [] else H i v 0 [])=H i 0 0 []
  rcases Bc with ⟨rfl,rfl⟩ | ⟨rfl,rfl⟩
  ·rw [if_neg (by omega)]
  ·rw [if_pos ⟨rfl,rfl,rfl⟩]
 | cons s p=>show (if i=i∧v=v∧e=e then _ else _)=_; rw [if_pos ⟨rfl,rfl,rfl⟩]; rfl
theorem Lp {G:Gh} {i v e:Nat} (Bc:(v=0∧e=1) ∨ (v=1∧e=0)) (h1:∀v,0<v→∀e p,G.H i v e p=none) (h2:∀e,0<e→∀p,G.H i 0 e p=none):Gh.Le G (jn G i v e):=by
 refine ⟨Mem.Le.refl _,fun _ _ h=>h,fun j v' e' p x hx=>?_⟩
 show (if j=i∧v'=v∧e'=e then _ else _)=_
 rw [if_neg]
 ·exact hx
 ·rintro ⟨rfl,rfl,rfl⟩
  rcases Bc with ⟨rfl,rfl⟩ | ⟨rfl,rfl⟩
  ·rw [h2 1 (by omega)] at hx; cases hx
  ·rw [h1 1 (by omega)] at hx; cases hx
theorem Jk {G:Gh} {w:World} {i v e j:Nat} {b b':ak} (Bc:(v=0∧e=1) ∨ (v=1∧e=0)) (hle:Gh.Le G (jn G i v e)) (hj:j ≠ i) (hb:fP G w j b) (hr:Bl i v e b b') :
  fP (jn G i v e) w j b'∧∀x,bE (jn G i v e) j b' x ↔ bE G j b x:=by
 have dj:∀v' e' p,(jn G i v e).H j v' e' p=G.H j v' e' p:=fun v' e' p=>by
  show (if _ then _ else _)=_; rw [if_neg (fun h=>hj h.1)]
 have hh:∀v' e',az (jn G i v e).H j v' e'=az G.H j v' e':=fun v' e'=>Du G.H i v e j v' e' hj
 cases hr with
 | cells h =>
  obtain ⟨b,c,t,h1,h2,h3,h4,h5⟩:=hb
  refine ⟨⟨b,c,t,h1,h2,by rw [h3]; exact h.len,h.aj h4,fun q d u hd hu=>?_⟩,fun x=>Iff.rfl⟩
  rcases h.at q d hd with h6 | ⟨h6,rfl⟩
  ·exact (h5 q d u h6 hu).mono hle
  ·have h7:=h5 q _ u h6 hu
   cases h7 with
   | own _ _ _ _ _ h8 h9 =>
    refine .own _ _ _ _ _ ?_ h9
    show az (Bm G.H i v e) i v e []=_
    rw [xG _ _ _ _ Bc]; exact h8
 | refl =>
  cases b with
  | none=>exact ⟨⟨hb.1,fun v' e' p=>by rw [dj]; exact hb.2 v' e' p⟩,fun x=>Iff.rfl⟩
  | dead=>exact ⟨tv,fun x=>Iff.rfl⟩
  | cells l =>
   obtain ⟨b,c,t,h1,h2,h3,h4,h5⟩:=hb
   exact ⟨⟨b,c,t,h1,h2,h3,h4,fun q d u hd hu=>(h5 q d u hd hu).mono hle⟩,fun x=>Iff.rfl⟩
  | tree ver ep d =>
   obtain ⟨h1,h2,h3,h4⟩:=hb
   refine ⟨⟨by rw [hh]; exact h1,by rw [hh]; exact h2,fun v' hv e' p=>by rw [dj]; exact h3 v' hv e' p,fun e' he p=>by rw [dj]; exact h4 e' he p⟩,fun x=>?_⟩
   show aJ (az (jn G i v e).H j ver ep) d x ↔ aJ (az G.H j ver ep) d x
   rw [hh]
  | fz ver d =>
   obtain ⟨u,h1,h2,h3⟩:=hb
   exact ⟨⟨u,by rw [dj]; exact h1,h2,h3⟩,fun x=>Iff.rfl⟩
  | eg rc st l =>
   obtain ⟨b,fn,tmps,D,h1,h2,h3⟩:=hb
   exact ⟨⟨b,fn,tmps,D,h1,h2,h3.mono hle⟩,fun x=>Iff.rfl⟩
  | held=>exact ⟨⟨fun v' hv e' p=>by rw [dj]; exact hb.1 v' hv e' p,fun e' he p=>by rw [dj]; exact hb.2 e' he p⟩,fun x=>Iff.rfl⟩
  | iF k p d left cur =>
   have h0:az (jn G i v e).H k 0 0=az G.H k 0 0:=Gj G.H i v e k Bc
   obtain ⟨r,mb,es,clock,seen,ks,m,hi⟩:=hb
   refine ⟨⟨r,mb,es,clock,seen,ks,m,⟨hi.ju,hi.it,by rw [h0]; exact hi.tree,by rw [h0]; exact hi.inj,hi.node,by rw [h0]; exact hi.head,hi.map,hi.left,hi.cur⟩⟩,fun x=>?_⟩
   show (aJ (az (jn G i v e).H k 0 0) d x ∨ _) ↔ _
   rw [h0]; exact Iff.rfl
theorem Bn {P:Program} {f:Nat} {args:List AV} {m:Nat} {K:af} {ex:Nat} {R R':List AV→af→Prop} (h:dA P f args m K ex R) {i v e:Nat} (Nc:i<m+ex) (Bc:(v=0∧e=1) ∨ (v=1∧e=0))
  (hR:∀rs k,R rs k→∃k',R' rs k'∧Lo i v e k k'):dA P f args m K ex R':=by
 refine ⟨h.1,fun w G vs rU cC hr=>?_⟩
 refine Calls.mono (h.2 w G vs rU cC hr) ?_
 rintro en w' ⟨u,r,k,G',rfl,hk,hc⟩
 obtain ⟨k',h1,d,h2,h3,h4⟩:=hR r k hk
 have nE:=hc.fit.box i
 rw [h2] at nE
 obtain ⟨b1,b2,b3,b4⟩:=nE
 have hle:Gh.Le G' (jn G' i v e):=Lp Bc b3 b4
 have cZ:∀j,fP (jn G' i v e) w' j (aa k' j)∧∀x,bE (jn G' i v e) j (aa k' j) x ↔ bE G' j (aa k j) x:=by
  intro j
  by_cases hj:j=i
  ·subst hj
   have hs:az (jn G' j v e).H j v e=az G'.H j 0 0:=xG G'.H j v e Bc
   rw [h2,h3]
   refine ⟨⟨by rw [hs]; exact b1,by rw [hs]; exact b2,fun v' hv e' p=>?_,fun e' he p=>?_⟩,fun x=>?_⟩
   ·show (if _ then _ else _)=_
    rw [if_neg (by omega)]; exact b3 v' (by omega) e' p
   ·show (if _ then _ else _)=_
    rw [if_neg (by omega)]
    rcases Bc with ⟨rfl,rfl⟩ | ⟨rfl,rfl⟩
    ·exact b4 e' (by omega) p
    ·exact b3 1 (by omega) e' p
   ·show aJ (az (jn G' j v e).H j v e) d x ↔ aJ (az G'.H j 0 0) d x
    rw [hs]
  ·exact Jk Bc hle hj (hc.fit.box j) (h4 j hj)
 refine ⟨u,r,k',jn G' i v e,rfl,h1,⟨⟨hc.fit.sub,fun j=>(cZ j).1,fun j b o=>hc.fit.own j b (((cZ j).2 b).1 o),fun j j' b o o'=>hc.fit.inj j j' b (((cZ j).2 b).1 o) (((cZ j').2 b).1 o')⟩,fun j hj=>?_,hc.res.mono hle,hc.le,hc.ju,fun j hj p x hx=>?_,hc.frame,fun j b o=>hc.ow j b (((cZ j).2 b).1 o),hc.os,hc.tape,hc.output,hc.size⟩⟩
 ·have hn:=hc.no j hj
  have h5:=h4 j (by omega)
  rw [hn] at h5
  generalize aa k' j=c at h5
  cases h5; rfl
 ·have:=hc.rE j hj p x hx
  exact hle.head _ _ _ _ _ this
theorem vj {P:Program} {f:Nat} {args:List AV} {m:Nat} {K:af} {ex:Nat} {rs:List AV} {K1 K2:af} (h:bg P f args m K ex rs K1) {i v e:Nat} (Nc:i<m+ex) (Bc:(v=0∧e=1) ∨ (v=1∧e=0)) (hb:Lo i v e K1 K2):bg P f args m K ex rs K2 :=
 Bn h Nc Bc fun r k hk=>⟨K2,⟨hk.1,rfl⟩,by rw [hk.2]; exact hb⟩
end Go.TM
namespace Go.TM
open Go.RowKit
variable [cj]
end Go.TM
