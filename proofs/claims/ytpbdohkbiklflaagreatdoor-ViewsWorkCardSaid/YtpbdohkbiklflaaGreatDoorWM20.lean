import Derived.Test.YtpbdohkbiklflaaGreatDoorWM19
set_option linter.unusedVariables false
set_option linter.unusedSimpArgs false
set_option linter.unusedSectionVars false
namespace Go.TM
open Go.RowKit
variable [ct]
theorem vP {G G':Gh} {ok:Nat→Bool} (hM:Mem.Le G.M G'.M) (hβ:∀j b,G.β j=some b→G'.β j=some b) (hH:∀j v e p x,ok j=true→aA G.H j v e p=some x→aA G'.H j v e p=some x):∀N:Nat,
  (∀(u:AV) (x:Value),SizeOf.sizeOf u<N→AV.nm ok u=true→aD G u x→aD G' u x)∧(∀(us:List AV) (xs:List Value),SizeOf.sizeOf us<N→AV.w9 ok us=true→bP G us xs→bP G' us xs):=by
 intro N
 induction N with
 | zero=>exact ⟨fun _ _ h=>by omega,fun _ _ h=>by omega⟩
 | succ N ih =>
  refine ⟨fun u x aT hn hv=>?_,fun us xs aT hn hr=>?_⟩
  ·cases u with
   | any=>exact .any _
   | dv d=>cases hv with | dv h=>exact .dv (h.mono hM)
   | ptr i off=>cases hv with | ptr _ _ b h=>exact .ptr _ off b (hβ _ _ h)
   | fq i=>cases hv with | fq _ b h=>exact .fq _ b (hβ _ _ h)
   | sle i n=>cases hv with | sle _ _ b h=>exact .sle _ n b (hβ _ _ h)
   | bS i v =>
    simp only [AV.nm] at hn
    cases hv with | bS _ _ a n h=>exact .bS _ _ a n (hH i v 0 [] _ hn h)
   | own i v e p =>
    simp only [AV.nm] at hn
    cases hv with | own _ _ _ _ _ h hc=>exact .own _ _ _ p x (hH _ _ _ _ _ hn h) hc
   | loc i v e p a b c =>
    simp only [AV.nm] at hn
    cases hv with
    | loc _ _ _ _ _ _ _ A q q' h=>exact .loc _ _ _ p a b c A q q' (hH _ _ _ _ _ hn h)
    | mn _ _ _ _ _ _ _ A h=>exact .mn _ _ _ p a b c A (hH _ _ _ _ _ hn h)
   | pre i v e p a b c =>
    simp only [AV.nm] at hn
    cases hv with
    | pre _ _ _ _ _ _ _ q q' h=>exact .pre _ _ _ p a b c q q' fun hz=>by obtain ⟨A,N,c',e1,e2⟩:=h hz; exact ⟨A,N,c',hH _ _ _ _ _ hn e1,e2⟩
   | fn f l=>simp only [AV.nm] at hn; cases hv with | fn _ _ vs hl hr=>have:=ih.2 l vs (by simp at aT; omega) hn ⟨hl,hr⟩; exact .fn f _ vs this.1 this.2
   | gV f l=>simp only [AV.nm] at hn; cases hv with | gV _ _ vs hl hr=>have:=ih.2 l vs (by simp at aT; omega) hn ⟨hl,hr⟩; exact .gV f _ vs this.1 this.2
   | agg l=>simp only [AV.nm] at hn; cases hv with | agg _ vs hl hr=>have:=ih.2 l vs (by simp at aT; omega) hn ⟨hl,hr⟩; exact .agg _ vs this.1 this.2
   | eK l=>simp only [AV.nm] at hn; cases hv with | eK _ vs hl hr=>have:=ih.2 l vs (by simp at aT; omega) hn ⟨hl,hr⟩; exact .eK _ vs this.1 this.2
   | opt g v=>simp only [AV.nm] at hn; cases hv with | opt _ _ _ h hu=>exact .opt g _ x (fun hg=>ih.1 v x (by simp at aT; omega) hn (h hg)) hu
  ·cases us with
   | nil=>exact ⟨hr.1,by simp⟩
   | cons u us =>
    simp only [AV.w9,Bool.and_eq_true] at hn
    cases xs with
    | nil=>simp [bP] at hr
    | cons x xs =>
     have h1:=ih.1 u x (by simp at aT; omega) hn.1 (hr.2 0 u x rfl rfl)
     have h2:=ih.2 us xs (by simp at aT; omega) hn.2 ⟨by have:=hr.1; simpa using this,fun j d v hd hv=>hr.2 (j+1) d v hd hv⟩
     refine ⟨by have:=h2.1; simp [this],fun j d v hd hv=>?_⟩
     cases j with
     | zero=>simp at hd hv; subst hd; subst hv; exact h1
     | succ j=>exact h2.2 j d v hd hv
open Classical in
noncomputable def fL (p:List PS) (nh h:List PS→Option Value):List PS→Option Value:=fun q=>if p <+: q then nh (q.drop p.length) else h q
theorem fk {p r:List PS} {nh h:List PS→Option Value}:fL p nh h (p++r)=nh r:=by
 unfold fL; rw [if_pos (List.prefix_append p r)]; simp
theorem dV {p q:List PS} {nh h:List PS→Option Value} (e:¬ p <+: q):fL p nh h q=h q:=by
 unfold fL; rw [if_neg e]
open Classical in
theorem yc {M:Mem} {w w':World} {h nh:List PS→Option Value} {D c c':DV} {p:List PS} {u:Value} (ht:aS M w h D) (hi:fc h D) (hp:get D p=some c) (hc:c.af=true) (bB:p ≠ []) (hu:h p=some u)
  (Mm:aS M w' nh c') (wM:fc nh c') (LA:nh []=some u)
  (gI:∀b,aN h D b→¬ aN (fun r=>h (p++r)) c b→w'.heap[b]?=w.heap[b]?)
  (dk:∀b,aN nh c' b→aN (fun r=>h (p++r)) c b ∨ w.heap.size≤b) :
  aS M w' (fL p nh h) (bL D p c')∧fc (fL p nh h) (bL D p c')∧∀b,aN (fL p nh h) (bL D p c') b→aN h D b ∨ w.heap.size≤b:=by
 have cS:∀(q:List PS) (x:DV),get D q=some x→q ≠ []→x.ak=true:=fun q x hx _=>ht.cells q x hx
 have Hn:=ea Mm.1
 have lG:∀q m,get (bL D p c') q=some m→m.af=true →
   (∃r,q=p++r∧get c' r=some m) ∨ (¬ p <+: q∧∃x,get D q=some x∧x.af=true∧m=if q <+: p then bL x (p.drop q.length) c' else x):=by
  intro q m hm zW
  by_cases gy:p <+: q
  ·obtain ⟨r,rfl⟩:=bF gy
   rw [fT hp Hn cS] at hm
   exact .inl ⟨r,rfl,hm⟩
  ·right
   rw [fU Hn cS gy] at hm
   refine ⟨gy,?_⟩
   cases hx:get D q with
   | none=>rw [hx] at hm; cases hm
   | some x =>
    rw [hx] at hm
    simp only [Option.some.injEq] at hm
    refine ⟨x,rfl,?_,hm.symm⟩
    by_cases hq:q <+: p
    ·rw [if_pos hq] at hm
     subst hm
     obtain ⟨r,rfl⟩:=bF hq
     cases r with
     | nil=>exact absurd (by simp) gy
     | cons s r=>simp only [List.drop_left] at zW; rw [dY] at zW; exact zW
    ·rw [if_neg hq] at hm; subst hm; exact zW
 have beside:∀q x v b,¬ p <+: q→get D q=some x→x.af=true→h q=some v→fh v=some b→¬ aN (fun r=>h (p++r)) c b:=by
  rintro q x v b gy hx xg hv hb ⟨r,m,v',e1,e2,e3,e4⟩
  have:=hi q (p++r) x m v v' b hx xg hv hb (by rw [get_append,hp]; exact e1) e2 e3 e4
  exact gy (by rw [this]; exact List.prefix_append p r)
 refine ⟨⟨?_,fun q m hm zW=>?_⟩,?_,?_⟩
 ·cases p with
  | nil=>exact absurd rfl bB
  | cons s p=>rw [dY]; exact ht.1
 ·rcases lG q m hm zW with ⟨r,rfl,hr⟩ | ⟨gy,x,hx,xg,Xq⟩
  ·obtain ⟨v,h1,h2,h3⟩:=Mm.2 r m hr zW
   refine ⟨v,fk.trans h1,h2,?_⟩
   have:(fun s=>fL p nh h (p++r++[s]))=fun s=>nh (r++[s]):=by funext s; rw [List.append_assoc,fk]
   rw [this]; exact h3
  ·obtain ⟨v,h1,h2,h3⟩:=ht.2 q x hx xg
   refine ⟨v,(dV gy).trans h1,h2,?_⟩
   have eb:bW M w' v (fun s=>fL p nh h (q++[s])) x:=by
    refine h3.fO (Mem.Le.refl _) (fun b hb=>gI b ⟨_,x,v,hx,xg,h1,hb⟩ (beside q x v b gy hx xg h1 hb)) (fun s' c2 dC mo y hy=>?_) h3.keys
    by_cases e:p <+: q++[s']
    ·have:p=q++[s']:=by
      obtain ⟨r,hr⟩:=e
      rcases List.eq_nil_or_concat r with rfl | ⟨r',z,rfl⟩
      ·simpa using hr
      ·rw [List.concat_eq_append,←List.append_assoc] at hr
       have:=(List.append_inj' hr (by simp)).1
       exact absurd ⟨r',this⟩ gy
     rw [←this] at hy ⊢
     rw [hu] at hy
     have:=fk (p:=p) (r:=[]) (nh:=nh) (h:=h)
     rw [List.append_nil] at this
     rw [this,LA]; exact hy
    ·rw [dV e]; exact hy
   rw [Xq]
   by_cases hq:q <+: p
   ·rw [if_pos hq]
    obtain ⟨r,rfl⟩:=bF hq
    cases r with
    | nil=>exact absurd (by simp) gy
    | cons s r =>
     simp only [List.drop_left]
     rw [get_append,hx] at hp
     simp only [get] at hp
     cases hs:step x s with
     | none=>rw [hs] at hp; cases hp
     | some c1 =>
      rw [hs] at hp
      have gw:c1.af=true:=by
       cases r with
       | nil=>simp [get] at hp; subst hp; exact hc
       | cons s' r=>simp only [get] at hp; cases dC:step c1 s' with
        | none=>rw [dC] at hp; cases hp
        | some _=>exact dZ dC
      have gC:(bL c1 r c').af=true:=by
       cases r with
       | nil=>exact Mm.1
       | cons s' r=>rw [dY]; exact gw
      simp only [bL,hs]
      exact eb.Ga hs gw gC
   ·rw [if_neg hq]; exact eb
 ·intro q q' m m' v v' b e1 e2 e3 e4 f1 f2 f3 f4
  rcases lG q m e1 e2 with ⟨r,rfl,hr⟩ | ⟨gy,x,hx,xg,_⟩
  ·rcases lG q' m' f1 f2 with ⟨r',rfl,DE⟩ | ⟨Mn,x',wR,Mo,_⟩
   ·rw [fk] at e3 f3
    rw [wM r r' m m' v v' b hr e2 e3 e4 DE f2 f3 f4]
   ·exfalso
    rw [fk] at e3
    rw [dV Mn] at f3
    rcases dk b ⟨r,m,v,hr,e2,e3,e4⟩ with h5 | h5
    ·exact beside q' x' v' b Mn wR Mo f3 f4 h5
    ·have:=ht.lt (b:=b) ⟨q',x',v',wR,Mo,f3,f4⟩
     omega
  ·rcases lG q' m' f1 f2 with ⟨r',rfl,DE⟩ | ⟨Mn,x',wR,Mo,_⟩
   ·exfalso
    rw [fk] at f3
    rw [dV gy] at e3
    rcases dk b ⟨r',m',v',DE,f2,f3,f4⟩ with h5 | h5
    ·exact beside q x v b gy hx xg e3 e4 h5
    ·have:=ht.lt (b:=b) ⟨q,x,v,hx,xg,e3,e4⟩
     omega
   ·rw [dV gy] at e3
    rw [dV Mn] at f3
    exact hi q q' x x' v v' b hx xg e3 e4 wR Mo f3 f4
 ·rintro b ⟨q,m,v,e1,e2,e3,e4⟩
  rcases lG q m e1 e2 with ⟨r,rfl,hr⟩ | ⟨gy,x,hx,xg,_⟩
  ·rw [fk] at e3
   rcases dk b ⟨r,m,v,hr,e2,e3,e4⟩ with h5 | h5
   ·exact .inl (aN.sub hp h5)
   ·exact .inr h5
  ·rw [dV gy] at e3
   exact .inl ⟨q,x,v,hx,xg,e3,e4⟩
def ao.zZ:ao→Bool
 | .iZ _ _ _ _ _=>false
 | _=>true
def BX (ok:Nat→Bool):ah→Bool
 | []=>true
 | (i,b)::r=>(ok i && b.zZ && b.Rj ok) && BX ok r
theorem jD {ok:Nat→Bool}:∀{K:ah} {i:Nat},BX ok K=true→aa K i ≠ .none→ok i=true∧(aa K i).zZ=true∧(aa K i).Rj ok=true
 | [],i,_,h=>absurd rfl h
 | (j,b)::r,i,hk,h=>by
  simp only [BX,Bool.and_eq_true] at hk
  simp only [aa] at h ⊢
  cases e:Nat.beq j i with
  | true=>have:=Nat.eq_of_beq_eq_true e; subst this; exact ⟨hk.1.1.1,hk.1.1.2,hk.1.2⟩
  | false=>rw [e] at h; exact jD hk.2 h
theorem fF.nm {G G':Gh} {w:World} {i:Nat} {b:ao} {ok:Nat→Bool} (h:fF G w i b) (hp:b.zZ=true) (hn:b.Rj ok=true) (hM:G'.M=G.M) (hβ:G'.β=G.β) (hi:G'.H i=G.H i) (hH:∀j v e p x,ok j=true→aA G.H j v e p=some x→aA G'.H j v e p=some x):fF G' w i b:=by
 have dt:=vP (G:=G) (G':=G') (ok:=ok) (by rw [hM]; exact Mem.Le.refl _) (fun j b h=>by rw [hβ]; exact h) hH
 have GO:∀v e,aA G'.H i v e=aA G.H i v e:=fun v e=>by funext p; cases p <;> simp [aA,hi]
 cases b with
 | none=>exact ⟨by rw [hβ]; exact h.1,fun v e p=>by rw [hi]; exact h.2 v e p⟩
 | dead=>trivial
 | cells l =>
  obtain ⟨b,c,t,h1,h2,h3,h4,h5⟩:=h
  have:=(dt (SizeOf.sizeOf l+1)).2 l c.toList (by omega) hn ⟨by simp [h3],fun j d v hd hv=>h5 j d v hd (by simpa using hv)⟩
  exact ⟨b,c,t,by rw [hβ]; exact h1,h2,h3,h4,fun j d v hd hv=>this.2 j d v hd (by simpa using hv)⟩
 | tree v e d =>
  obtain ⟨h1,h2,h3,h4⟩:=h
  exact ⟨by rw [GO,hM]; exact h1,by rw [GO]; exact h2,fun v' hv e p=>by rw [hi]; exact h3 v' hv e p,fun e' he p=>by rw [hi]; exact h4 e' he p⟩
 | fz v d =>
  obtain ⟨x,h1,h2,h3⟩:=h
  exact ⟨x,by rw [hi]; exact h1,h2,by rw [hM]; exact h3⟩
 | ey rc st l =>
  obtain ⟨b,fn,tmps,D,h1,h2,h3⟩:=h
  exact ⟨b,fn,tmps,D,by rw [hβ]; exact h1,h2,(dt (SizeOf.sizeOf l+1)).2 l tmps.toList (by omega) hn h3⟩
 | held=>exact ⟨fun v hv e p=>by rw [hi]; exact h.1 v hv e p,fun e he p=>by rw [hi]; exact h.2 e he p⟩
 | iZ=>cases hp
theorem bG.nm {G G':Gh} {i:Nat} {b:ao} (hp:b.zZ=true) (hβ:G'.β=G.β) (hi:G'.H i=G.H i) (x:Nat):bG G' i b x ↔ bG G i b x:=by
 have GO:∀v e,aA G'.H i v e=aA G.H i v e:=fun v e=>by funext p; cases p <;> simp [aA,hi]
 cases b with
 | tree v e d=>simp only [bG,GO]
 | cells=>simp only [bG,hβ]
 | ey=>simp only [bG,hβ]
 | iZ=>cases hp
 | _=>exact Iff.rfl
theorem pf {P:Program} {f:Nat} {rest:List AV} {ex e:Nat} {rs:List AV} {c c' D:DV} {K3:ah} {p:List PS}
  (h:bl P f (.own 0 0 0 []::rest) 1 [(0,.tree 0 0 c)] ex rs ((0,.tree 0 e c')::K3)) (hp:get D p=some c) (bB:p ≠ []) (hc:c.af=true)
  (J1:AV.w9 (fun i=>!Nat.beq i 0) rest=true) (oN:AV.w9 (fun i=>!Nat.beq i 0) rs=true) (L3:BX (fun i=>!Nat.beq i 0) K3=true) :
  bl P f (.own 0 0 0 p::rest) 1 [(0,.tree 0 0 D)] ex rs ((0,.tree 0 (e+1) (bL D p c'))::K3):=by
 refine ⟨h.1,fun w G vs qX cB hr=>?_⟩
 have wT:∀d,aa [(0,ao.tree 0 0 d)] 0=.tree 0 0 d:=fun _=>rfl
 have BY:∀d i,i ≠ 0→aa [(0,ao.tree 0 0 d)] i=.none:=fun d i hi=>by
  simp only [aa]; rw [beq_false hi]; rfl
 have jm:=cB.box 0
 rw [wT] at jm
 obtain ⟨ht,dr,Lt,sC⟩:=jm
 obtain ⟨x0,sA,rfl⟩:∃x0 sA,vs=x0::sA:=by
  cases vs with
  | nil=>have:=hr.1; simp at this
  | cons a l=>exact ⟨a,l,rfl⟩
 have ka:=hr.2 0 _ x0 rfl rfl
 have DE:bP G rest sA:=⟨by have:=hr.1; simpa using this,fun j d v hd hv=>hr.2 (j+1) d v hd hv⟩
 cases ka with | own _ _ _ _ _ hu Ig =>
 let fx:Nat→Nat→List PS→Option Value:=fun v e q=>if v=0∧e=0 then aA G.H 0 0 0 (p++q) else none
 let G1:Gh:={ G with H:=c7 G.H 0 fx }
 have Ed:G1.H 0=fx:=by show c7 G.H 0 fx 0=fx; exact eA _ _ _
 have C9:∀j,j ≠ 0→G1.H j=G.H j:=fun j hj=>by show c7 G.H 0 fx j=_; exact dH _ _ hj
 have wZ:aA G1.H 0 0 0=fun r=>aA G.H 0 0 0 (p++r):=by
  funext q
  cases q with
  | nil=>show G1.H 0 0 0 []=_; rw [Ed]; show (if 0=0∧0=0 then _ else _)=_; rw [if_pos ⟨rfl,rfl⟩]
  | cons s q=>show G1.H 0 0 0 (s::q)=_; rw [Ed]; show (if 0=0∧0=0 then _ else _)=_; rw [if_pos ⟨rfl,rfl⟩]
 have bU:∀j v e q x,(!Nat.beq j 0)=true→aA G.H j v e q=some x→aA G1.H j v e q=some x:=fun j v e q x hj hx=>by
  have C8:j ≠ 0:=by rintro rfl; simp at hj
  cases q with
  | nil=>show G1.H j v 0 []=_; rw [C9 j C8]; exact hx
  | cons s q=>show G1.H j v e (s::q)=_; rw [C9 j C8]; exact hx
 have J2:bP G1 (.own 0 0 0 []::rest) (x0::sA):=by
  have h2:=(vP (G:=G) (G':=G1) (Mem.Le.refl _) (fun _ _ h=>h) bU (SizeOf.sizeOf rest+1)).2 rest sA (by omega) J1 DE
  refine ⟨by have:=h2.1; simp [this],fun j d v hd hv=>?_⟩
  cases j with
  | zero =>
   simp at hd hv; subst hd; subst hv
   refine .own _ _ _ _ _ ?_ Ig
   show aA G1.H 0 0 0 []=_
   rw [wZ]; simpa using hu
  | succ j=>exact h2.2 j d v hd hv
 have J3:Fit G1 w (aa [(0,ao.tree 0 0 c)]):=by
  have Ee:∀i b,bG G1 i (aa [(0,ao.tree 0 0 c)] i) b→i=0∧aN (aA G.H 0 0 0) D b:=fun i b ho=>by
   by_cases hi:i=0
   ·subst hi
    rw [wT] at ho
    have ho:aN (aA G1.H 0 0 0) c b:=ho
    rw [wZ] at ho
    exact ⟨rfl,aN.sub hp ho⟩
   ·rw [BY c i hi] at ho; exact ho.elim
  refine ⟨cB.sub,fun i=>?_,fun i b ho=>?_,fun i j b h1 h2=>by rw [(Ee i b h1).1,(Ee j b h2).1]⟩
  ·by_cases hi:i=0
   ·subst hi
    rw [wT]
    refine ⟨by rw [wZ]; exact ht.sub hp hc,by rw [wZ]; exact dr.sub hp,fun v hv e q=>?_,fun e he q=>?_⟩
    ·rw [Ed]; show (if _ then _ else _)=_; rw [if_neg (by omega)]
    ·rw [Ed]; show (if _ then _ else _)=_; rw [if_neg (by omega)]
   ·rw [BY c i hi]
    have:=cB.box i
    rw [BY D i hi] at this
    exact ⟨this.1,fun v e q=>by rw [C9 i hi]; exact this.2 v e q⟩
  ·obtain ⟨rfl,C2⟩:=Ee i b ho
   exact cB.own 0 b (by rw [wT]; exact C2)
 refine Calls.mono (h.2 w G1 (x0::sA) qX J3 J2) ?_
 rintro ee w' ⟨v,oU,K',G',rfl,⟨rfl,rfl⟩,hC⟩
 have xh:∀b i,aa ((0,b)::K3) i=if i=0 then b else aa K3 i:=fun b i=>by
  simp only [aa]
  by_cases hi:i=0
  ·subst hi; rfl
  ·rw [beq_false hi,if_neg hi]; rfl
 have cM:=hC.fit.box 0
 rw [xh,if_pos rfl] at cM
 obtain ⟨Mm,J4,UF,UG⟩:=cM
 have LA:aA G'.H 0 0 e []=some x0:=by
  show G'.H 0 0 0 []=some x0
  refine hC.q6 0 (by omega) [] x0 ?_
  have:aA G1.H 0 0 0 []=some x0:=by rw [wZ]; simpa using hu
  exact this
 have sV:∀b,bG G1 0 (aa [(0,ao.tree 0 0 c)] 0) b ↔ aN (fun r=>aA G.H 0 0 0 (p++r)) c b:=fun b=>by
  rw [wT]
  show aN (aA G1.H 0 0 0) c b ↔ _
  rw [wZ]
 have eY:∀b,(∃j,bG G1 j (aa [(0,ao.tree 0 0 c)] j) b)→aN (fun r=>aA G.H 0 0 0 (p++r)) c b:=by
  rintro b ⟨j,ho⟩
  by_cases hj:j=0
  ·subst hj; exact (sV b).1 ho
  ·rw [BY c j hj] at ho; exact ho.elim
 have RX:aS G'.M w (aA G.H 0 0 0) D:=ht.fO hC.le (fun _ _=>rfl) (fun _ _ _ _ _ h=>h)
 obtain ⟨t1,t2,t3⟩:=yc (w':=w') RX dr hp hc bB hu Mm J4 LA
  (fun b hb UH=>(hC.frame b (RX.lt hb) fun i ho=>UH (eY b ⟨i,ho⟩)).1)
  (fun b hb=>by
   rcases hC.mY 0 b (by rw [xh,if_pos rfl]; exact hb) with h5 | h5
   ·exact .inr h5
   ·exact .inl (eY b h5))
 let f2:Nat→Nat→List PS→Option Value:=fun v e' q=>if v=0∧e'=e+1 then (match q with | []=>none | q=>fL p (aA G'.H 0 0 e) (aA G.H 0 0 0) q) else if v=0∧e'=0 then aA G.H 0 0 0 q else none
 let G2:Gh:={ G' with H:=c7 G'.H 0 f2 }
 have vQ:G2.H 0=f2:=by show c7 G'.H 0 f2 0=f2; exact eA _ _ _
 have vR:∀j,j ≠ 0→G2.H j=G'.H j:=fun j hj=>by show c7 G'.H 0 f2 j=_; exact dH _ _ hj
 have mF:fL p (aA G'.H 0 0 e) (aA G.H 0 0 0) []=aA G.H 0 0 0 []:=dV (by
  rintro ⟨r,hr⟩
  exact bB (List.append_eq_nil_iff.1 hr).1)
 have PF:aA G2.H 0 0 (e+1)=fL p (aA G'.H 0 0 e) (aA G.H 0 0 0):=by
  funext q
  cases q with
  | nil =>
   rw [mF]
   show G2.H 0 0 0 []=_
   rw [vQ]
   show (if 0=0∧0=e+1 then _ else if 0=0∧0=0 then _ else _)=_
   rw [if_neg (by omega),if_pos ⟨rfl,rfl⟩]
  | cons s q =>
   show G2.H 0 0 (e+1) (s::q)=_
   rw [vQ]
   show (if 0=0∧e+1=e+1 then _ else _)=_
   rw [if_pos ⟨rfl,rfl⟩]
 have J5:∀j v e q x,(!Nat.beq j 0)=true→aA G'.H j v e q=some x→aA G2.H j v e q=some x:=fun j v e q x hj hx=>by
  have C8:j ≠ 0:=by rintro rfl; simp at hj
  cases q with
  | nil=>show G2.H j v 0 []=_; rw [vR j C8]; exact hx
  | cons s q=>show G2.H j v e (s::q)=_; rw [vR j C8]; exact hx
 have vS:∀i b,bG G2 i (aa ((0,ao.tree 0 (e+1) (bL D p c'))::K3) i) b→(i=0∧(aN (aA G.H 0 0 0) D b ∨ w.heap.size≤b)∧aN (fL p (aA G'.H 0 0 e) (aA G.H 0 0 0)) (bL D p c') b) ∨ (i ≠ 0∧bG G' i (aa ((0,ao.tree 0 e c')::K3) i) b):=fun i b ho=>by
  rw [xh] at ho
  by_cases hi:i=0
  ·subst hi
   rw [if_pos rfl] at ho
   have ho:aN (aA G2.H 0 0 (e+1)) (bL D p c') b:=ho
   rw [PF] at ho
   exact .inl ⟨rfl,t3 b ho,ho⟩
  ·rw [if_neg hi] at ho
   refine .inr ⟨hi,?_⟩
   rw [xh,if_neg hi]
   by_cases hn:aa K3 i=.none
   ·rw [hn] at ho; exact ho.elim
   ·exact (bG.nm (G:=G') (G':=G2) (jD L3 hn).2.1 rfl (vR i hi) b).1 ho
 have vT:∀b,aN (fL p (aA G'.H 0 0 e) (aA G.H 0 0 0)) (bL D p c') b→bG G' 0 (aa ((0,ao.tree 0 e c')::K3) 0) b ∨ (aN (aA G.H 0 0 0) D b∧¬ aN (fun r=>aA G.H 0 0 0 (p++r)) c b):=by
  rintro b ⟨q,m,x,e1,e2,e3,e4⟩
  by_cases gy:p <+: q
  ·obtain ⟨r,rfl⟩:=bF gy
   rw [fk] at e3
   rw [fT hp (ea Mm.1) (fun q x hx _=>ht.cells q x hx)] at e1
   exact .inl (by rw [xh,if_pos rfl]; exact ⟨r,m,x,e1,e2,e3,e4⟩)
  ·right
   rw [dV gy] at e3
   rw [fU (ea Mm.1) (fun q x hx _=>ht.cells q x hx) gy] at e1
   cases hx:get D q with
   | none=>rw [hx] at e1; cases e1
   | some y =>
    have V5:y.af=true:=by
     rw [hx] at e1
     simp only [Option.some.injEq] at e1
     by_cases hq:q <+: p
     ·rw [if_pos hq] at e1
      subst e1
      obtain ⟨r,rfl⟩:=bF hq
      cases r with
      | nil=>exact absurd (by simp) gy
      | cons s r=>simp only [List.drop_left] at e2; rw [dY] at e2; exact e2
     ·rw [if_neg hq] at e1; subst e1; exact e2
    refine ⟨⟨q,y,x,hx,V5,e3,e4⟩,?_⟩
    rintro ⟨r,m',x',g1,g2,g3,g4⟩
    have:=dr q (p++r) y m' x x' b hx V5 e3 e4 (by rw [get_append,hp]; exact g1) g2 g3 g4
    exact gy (by rw [this]; exact List.prefix_append p r)
 have apart:∀i b,i ≠ 0→bG G' i (aa ((0,ao.tree 0 e c')::K3) i) b→¬ aN (fL p (aA G'.H 0 0 e) (aA G.H 0 0 0)) (bL D p c') b:=by
  intro i b hi ho hT
  rcases vT b hT with h5 | ⟨h5,h6⟩
  ·exact hi (hC.fit.inj i 0 b ho h5)
  ·rcases hC.mY i b ho with h7 | h7
   ·have:=ht.lt h5; omega
   ·exact h6 (eY b h7)
 refine ⟨v,oU,_,G2,rfl,⟨rfl,rfl⟩,?_⟩
 refine { fit:=⟨hC.fit.sub,fun i=>?_,fun i b ho=>?_,fun i j b h1 h2=>?_⟩,no:=fun i hi=>?_,res:=?_,le:=hC.le,jR:=fun i hi=>(hC.jR i hi).trans rfl,q6:=fun i hi q x hx=>?_,frame:=fun b hb dk=>?_,mY:=fun i b ho=>?_,os:=hC.os,tape:=hC.tape,output:=hC.output,size:=hC.size }
 ·rw [xh]
  by_cases hi:i=0
  ·subst hi
   rw [if_pos rfl]
   refine ⟨by rw [PF]; exact t1,by rw [PF]; exact t2,fun v hv e' q=>?_,fun e' he q=>?_⟩
   ·rw [vQ]; show (if _ then _ else if _ then _ else _)=_; rw [if_neg (by omega),if_neg (by omega)]
   ·rw [vQ]; show (if _ then _ else if _ then _ else _)=_; rw [if_neg (by omega),if_neg (by omega)]
  ·rw [if_neg hi]
   have hb:=hC.fit.box i
   rw [xh,if_neg hi] at hb
   by_cases hn:aa K3 i=.none
   ·rw [hn] at hb ⊢; exact ⟨hb.1,fun v e q=>by rw [vR i hi]; exact hb.2 v e q⟩
   ·obtain ⟨_,k2,k3⟩:=jD L3 hn
    exact hb.nm k2 k3 rfl rfl (vR i hi) J5
 ·rcases vS i b ho with ⟨rfl,_,h5⟩ | ⟨hi,h5⟩
  ·rcases vT b h5 with h6 | ⟨h6,h7⟩
   ·exact hC.fit.own 0 b h6
   ·have:=(hC.frame b (ht.lt h6) fun i ho=>h7 (eY b ⟨i,ho⟩)).2
    show G'.M b=none
    rw [this]
    exact cB.own 0 b (by rw [wT]; exact h6)
  ·exact hC.fit.own i b h5
 ·rcases vS i b h1 with ⟨rfl,_,k1⟩ | ⟨hi,k1⟩
  ·rcases vS j b h2 with ⟨rfl,_,k2⟩ | ⟨hj,k2⟩
   ·rfl
   ·exact absurd k1 (apart j b hj k2)
  ·rcases vS j b h2 with ⟨rfl,_,k2⟩ | ⟨hj,k2⟩
   ·exact absurd k2 (apart i b hi k1)
   ·exact hC.fit.inj i j b k1 k2
 ·rw [xh,if_neg (by omega)]
  have:=hC.no i hi
  rwa [xh,if_neg (by omega)] at this
 ·have:=(vP (G:=G') (G':=G2) (Mem.Le.refl _) (fun _ _ h=>h) J5 (SizeOf.sizeOf (hU oU)+1)).1 (hU oU) v (by omega) (by
   match oU,oN with
   | [a],oN=>simpa [AV.w9,hU] using oN
   | [],oN=>simpa [hU,AV.nm] using oN
   | a::b::l,oN=>simpa [hU,AV.nm] using oN) hC.res
  exact this
 ·obtain rfl:i=0:=by omega
  rw [vQ]
  show (if _ then _ else if _ then _ else _)=_
  rw [if_neg (by omega),if_pos ⟨rfl,rfl⟩]
  cases q <;> exact hx
 ·have Jc:∀i,¬ bG G1 i (aa [(0,ao.tree 0 0 c)] i) b:=fun i ho=>by
   have:=eY b ⟨i,ho⟩
   exact dk 0 (by rw [wT]; exact aN.sub hp this)
  exact hC.frame b hb Jc
 ·rcases vS i b ho with ⟨rfl,h5 | h5,_⟩ | ⟨hi,h5⟩
  ·exact .inr ⟨0,by rw [wT]; exact h5⟩
  ·exact .inl h5
  ·rcases hC.mY i b h5 with h6 | h6
   ·exact .inl h6
   ·exact .inr ⟨0,by rw [wT]; exact aN.sub hp (eY b h6)⟩
theorem s6 {P:Program} {f:Nat} {rest:List AV} {ex:Nat} {rs:List AV} {c D:DV} {K3:ah} {p:List PS}
  (h:bl P f (.own 0 0 0 []::rest) 1 [(0,.tree 0 0 c)] ex rs ((0,.tree 0 0 c)::K3)) (hD:bL D p c=D) (hp:get D p=some c) (bB:p ≠ []) (hc:c.af=true)
  (J1:AV.w9 (fun i=>!Nat.beq i 0) rest=true) (oN:AV.w9 (fun i=>!Nat.beq i 0) rs=true) (L3:BX (fun i=>!Nat.beq i 0) K3=true) :
  bl P f (.own 0 0 0 p::rest) 1 [(0,.tree 0 0 D)] ex rs ((0,.tree 0 0 D)::K3):=by
 refine ⟨h.1,fun w G vs qX cB hr=>?_⟩
 have wT:∀d,aa [(0,ao.tree 0 0 d)] 0=.tree 0 0 d:=fun _=>rfl
 have BY:∀d i,i ≠ 0→aa [(0,ao.tree 0 0 d)] i=.none:=fun d i hi=>by
  simp only [aa]; rw [beq_false hi]; rfl
 have jm:=cB.box 0
 rw [wT] at jm
 obtain ⟨ht,dr,Lt,sC⟩:=jm
 obtain ⟨x0,sA,rfl⟩:∃x0 sA,vs=x0::sA:=by
  cases vs with
  | nil=>have:=hr.1; simp at this
  | cons a l=>exact ⟨a,l,rfl⟩
 have ka:=hr.2 0 _ x0 rfl rfl
 have DE:bP G rest sA:=⟨by have:=hr.1; simpa using this,fun j d v hd hv=>hr.2 (j+1) d v hd hv⟩
 cases ka with | own _ _ _ _ _ hu Ig =>
 let fx:Nat→Nat→List PS→Option Value:=fun v e q=>if v=0∧e=0 then aA G.H 0 0 0 (p++q) else none
 let G1:Gh:={ G with H:=c7 G.H 0 fx }
 have Ed:G1.H 0=fx:=by show c7 G.H 0 fx 0=fx; exact eA _ _ _
 have C9:∀j,j ≠ 0→G1.H j=G.H j:=fun j hj=>by show c7 G.H 0 fx j=_; exact dH _ _ hj
 have wZ:aA G1.H 0 0 0=fun r=>aA G.H 0 0 0 (p++r):=by
  funext q
  cases q with
  | nil=>show G1.H 0 0 0 []=_; rw [Ed]; show (if 0=0∧0=0 then _ else _)=_; rw [if_pos ⟨rfl,rfl⟩]
  | cons s q=>show G1.H 0 0 0 (s::q)=_; rw [Ed]; show (if 0=0∧0=0 then _ else _)=_; rw [if_pos ⟨rfl,rfl⟩]
 have bU:∀j v e q x,(!Nat.beq j 0)=true→aA G.H j v e q=some x→aA G1.H j v e q=some x:=fun j v e q x hj hx=>by
  have C8:j ≠ 0:=by rintro rfl; simp at hj
  cases q with
  | nil=>show G1.H j v 0 []=_; rw [C9 j C8]; exact hx
  | cons s q=>show G1.H j v e (s::q)=_; rw [C9 j C8]; exact hx
 have J2:bP G1 (.own 0 0 0 []::rest) (x0::sA):=by
  have h2:=(vP (G:=G) (G':=G1) (Mem.Le.refl _) (fun _ _ h=>h) bU (SizeOf.sizeOf rest+1)).2 rest sA (by omega) J1 DE
  refine ⟨by have:=h2.1; simp [this],fun j d v hd hv=>?_⟩
  cases j with
  | zero =>
   simp at hd hv; subst hd; subst hv
   refine .own _ _ _ _ _ ?_ Ig
   show aA G1.H 0 0 0 []=_
   rw [wZ]; simpa using hu
  | succ j=>exact h2.2 j d v hd hv
 have J3:Fit G1 w (aa [(0,ao.tree 0 0 c)]):=by
  have Ee:∀i b,bG G1 i (aa [(0,ao.tree 0 0 c)] i) b→i=0∧aN (aA G.H 0 0 0) D b:=fun i b ho=>by
   by_cases hi:i=0
   ·subst hi
    rw [wT] at ho
    have ho:aN (aA G1.H 0 0 0) c b:=ho
    rw [wZ] at ho
    exact ⟨rfl,aN.sub hp ho⟩
   ·rw [BY c i hi] at ho; exact ho.elim
  refine ⟨cB.sub,fun i=>?_,fun i b ho=>?_,fun i j b h1 h2=>by rw [(Ee i b h1).1,(Ee j b h2).1]⟩
  ·by_cases hi:i=0
   ·subst hi
    rw [wT]
    refine ⟨by rw [wZ]; exact ht.sub hp hc,by rw [wZ]; exact dr.sub hp,fun v hv e q=>?_,fun e he q=>?_⟩
    ·rw [Ed]; show (if _ then _ else _)=_; rw [if_neg (by omega)]
    ·rw [Ed]; show (if _ then _ else _)=_; rw [if_neg (by omega)]
   ·rw [BY c i hi]
    have:=cB.box i
    rw [BY D i hi] at this
    exact ⟨this.1,fun v e q=>by rw [C9 i hi]; exact this.2 v e q⟩
  ·obtain ⟨rfl,C2⟩:=Ee i b ho
   exact cB.own 0 b (by rw [wT]; exact C2)
 refine Calls.mono (h.2 w G1 (x0::sA) qX J3 J2) ?_
 rintro ee w' ⟨v,oU,K',G',rfl,⟨rfl,rfl⟩,hC⟩
 have xh:∀b i,aa ((0,b)::K3) i=if i=0 then b else aa K3 i:=fun b i=>by
  simp only [aa]
  by_cases hi:i=0
  ·subst hi; rfl
  ·rw [beq_false hi,if_neg hi]; rfl
 have cM:=hC.fit.box 0
 rw [xh,if_pos rfl] at cM
 obtain ⟨Mm,J4,UF,UG⟩:=cM
 have LA:aA G'.H 0 0 0 []=some x0:=by
  show G'.H 0 0 0 []=some x0
  refine hC.q6 0 (by omega) [] x0 ?_
  have:aA G1.H 0 0 0 []=some x0:=by rw [wZ]; simpa using hu
  exact this
 have sV:∀b,bG G1 0 (aa [(0,ao.tree 0 0 c)] 0) b ↔ aN (fun r=>aA G.H 0 0 0 (p++r)) c b:=fun b=>by
  rw [wT]
  show aN (aA G1.H 0 0 0) c b ↔ _
  rw [wZ]
 have eY:∀b,(∃j,bG G1 j (aa [(0,ao.tree 0 0 c)] j) b)→aN (fun r=>aA G.H 0 0 0 (p++r)) c b:=by
  rintro b ⟨j,ho⟩
  by_cases hj:j=0
  ·subst hj; exact (sV b).1 ho
  ·rw [BY c j hj] at ho; exact ho.elim
 have RX:aS G'.M w (aA G.H 0 0 0) D:=ht.fO hC.le (fun _ _=>rfl) (fun _ _ _ _ _ h=>h)
 obtain ⟨t1,t2,t3⟩:=yc (w':=w') RX dr hp hc bB hu Mm J4 LA
  (fun b hb UH=>(hC.frame b (RX.lt hb) fun i ho=>UH (eY b ⟨i,ho⟩)).1)
  (fun b hb=>by
   rcases hC.mY 0 b (by rw [xh,if_pos rfl]; exact hb) with h5 | h5
   ·exact .inr h5
   ·exact .inl (eY b h5))
 rw [hD] at t1 t2 t3
 have hL:∀q n v,get D q=some n→n.af=true→fL p (aA G'.H 0 0 0) (aA G.H 0 0 0) q=some v→aA G.H 0 0 0 q=some v:=fun q n v hq hn hv=>by
  by_cases gy:p <+: q
  ·obtain ⟨r,rfl⟩:=bF gy
   rw [fk] at hv
   rw [get_append,hp] at hq
   obtain ⟨v0,h1,_,_⟩:=(ht.sub hp hc).2 r n hq hn
   have h2:G1.H 0 0 0 r=some v0:=by
    have:aA G1.H 0 0 0 r=some v0:=by rw [wZ]; exact h1
    cases r <;> exact this
   have h3:=hC.q6 0 (by omega) r v0 h2
   have h4:aA G'.H 0 0 0 r=some v0:=by cases r <;> exact h3
   rw [h4] at hv; injection hv with hv; subst hv; exact h1
  ·rwa [dV gy] at hv
 have V6:∀q n v,get D q=some n→n.af=true→aA G.H 0 0 0 q=some v→fL p (aA G'.H 0 0 0) (aA G.H 0 0 0) q=some v:=fun q n v hq hn hv=>by
  obtain ⟨v',h1,_⟩:=t1.2 q n hq hn
  have:=hL q n v' hq hn h1
  rw [hv] at this; injection this with this; subst this; exact h1
 let f2:Nat→Nat→List PS→Option Value:=fun v e' q=>if v=0∧e'=0 then aA G.H 0 0 0 q else none
 let G2:Gh:={ G' with H:=c7 G'.H 0 f2 }
 have vQ:G2.H 0=f2:=by show c7 G'.H 0 f2 0=f2; exact eA _ _ _
 have vR:∀j,j ≠ 0→G2.H j=G'.H j:=fun j hj=>by show c7 G'.H 0 f2 j=_; exact dH _ _ hj
 have PF:aA G2.H 0 0 0=aA G.H 0 0 0:=by
  funext q
  cases q with
  | nil=>show G2.H 0 0 0 []=_; rw [vQ]; show (if 0=0∧0=0 then _ else _)=_; rw [if_pos ⟨rfl,rfl⟩]
  | cons s q=>show G2.H 0 0 0 (s::q)=_; rw [vQ]; show (if 0=0∧0=0 then _ else _)=_; rw [if_pos ⟨rfl,rfl⟩]
 have J5:∀j v e q x,(!Nat.beq j 0)=true→aA G'.H j v e q=some x→aA G2.H j v e q=some x:=fun j v e q x hj hx=>by
  have C8:j ≠ 0:=by rintro rfl; simp at hj
  cases q with
  | nil=>show G2.H j v 0 []=_; rw [vR j C8]; exact hx
  | cons s q=>show G2.H j v e (s::q)=_; rw [vR j C8]; exact hx
 have vS:∀i b,bG G2 i (aa ((0,ao.tree 0 0 D)::K3) i) b→(i=0∧aN (aA G.H 0 0 0) D b∧aN (fL p (aA G'.H 0 0 0) (aA G.H 0 0 0)) D b) ∨ (i ≠ 0∧bG G' i (aa ((0,ao.tree 0 0 c)::K3) i) b):=fun i b ho=>by
  rw [xh] at ho
  by_cases hi:i=0
  ·subst hi
   rw [if_pos rfl] at ho
   have ho:aN (aA G2.H 0 0 0) D b:=ho
   rw [PF] at ho
   refine .inl ⟨rfl,ho,?_⟩
   obtain ⟨q,m,x,e1,e2,e3,e4⟩:=ho
   exact ⟨q,m,x,e1,e2,V6 q m x e1 e2 e3,e4⟩
  ·rw [if_neg hi] at ho
   refine .inr ⟨hi,?_⟩
   rw [xh,if_neg hi]
   by_cases hn:aa K3 i=.none
   ·rw [hn] at ho; exact ho.elim
   ·exact (bG.nm (G:=G') (G':=G2) (jD L3 hn).2.1 rfl (vR i hi) b).1 ho
 have vT:∀b,aN (fL p (aA G'.H 0 0 0) (aA G.H 0 0 0)) D b→bG G' 0 (aa ((0,ao.tree 0 0 c)::K3) 0) b ∨ (aN (aA G.H 0 0 0) D b∧¬ aN (fun r=>aA G.H 0 0 0 (p++r)) c b):=by
  rintro b ⟨q,m,x,e1,e2,e3,e4⟩
  by_cases gy:p <+: q
  ·obtain ⟨r,rfl⟩:=bF gy
   rw [fk] at e3
   rw [get_append,hp] at e1
   exact .inl (by rw [xh,if_pos rfl]; exact ⟨r,m,x,e1,e2,e3,e4⟩)
  ·right
   rw [dV gy] at e3
   refine ⟨⟨q,m,x,e1,e2,e3,e4⟩,?_⟩
   rintro ⟨r,m',x',g1,g2,g3,g4⟩
   have:=dr q (p++r) m m' x x' b e1 e2 e3 e4 (by rw [get_append,hp]; exact g1) g2 g3 g4
   exact gy (by rw [this]; exact List.prefix_append p r)
 have apart:∀i b,i ≠ 0→bG G' i (aa ((0,ao.tree 0 0 c)::K3) i) b→¬ aN (fL p (aA G'.H 0 0 0) (aA G.H 0 0 0)) D b:=by
  intro i b hi ho hT
  rcases vT b hT with h5 | ⟨h5,h6⟩
  ·exact hi (hC.fit.inj i 0 b ho h5)
  ·rcases hC.mY i b ho with h7 | h7
   ·have:=ht.lt h5; omega
   ·exact h6 (eY b h7)
 refine ⟨v,oU,_,G2,rfl,⟨rfl,rfl⟩,?_⟩
 refine { fit:=⟨hC.fit.sub,fun i=>?_,fun i b ho=>?_,fun i j b h1 h2=>?_⟩,no:=fun i hi=>?_,res:=?_,le:=hC.le,jR:=fun i hi=>(hC.jR i hi).trans rfl,q6:=fun i hi q x hx=>?_,frame:=fun b hb dk=>?_,mY:=fun i b ho=>?_,os:=hC.os,tape:=hC.tape,output:=hC.output,size:=hC.size }
 ·rw [xh]
  by_cases hi:i=0
  ·subst hi
   rw [if_pos rfl]
   refine ⟨by rw [PF]; exact t1.fO (Mem.Le.refl _) (fun _ _=>rfl) hL,by rw [PF]; exact t2.fO V6,fun v hv e' q=>?_,fun e' he q=>?_⟩
   ·rw [vQ]; show (if _ then _ else _)=_; rw [if_neg (by omega)]
   ·rw [vQ]; show (if _ then _ else _)=_; rw [if_neg (by omega)]
  ·rw [if_neg hi]
   have hb:=hC.fit.box i
   rw [xh,if_neg hi] at hb
   by_cases hn:aa K3 i=.none
   ·rw [hn] at hb ⊢; exact ⟨hb.1,fun v e q=>by rw [vR i hi]; exact hb.2 v e q⟩
   ·obtain ⟨_,k2,k3⟩:=jD L3 hn
    exact hb.nm k2 k3 rfl rfl (vR i hi) J5
 ·rcases vS i b ho with ⟨rfl,_,h5⟩ | ⟨hi,h5⟩
  ·rcases vT b h5 with h6 | ⟨h6,h7⟩
   ·exact hC.fit.own 0 b h6
   ·have:=(hC.frame b (ht.lt h6) fun i ho=>h7 (eY b ⟨i,ho⟩)).2
    show G'.M b=none
    rw [this]
    exact cB.own 0 b (by rw [wT]; exact h6)
  ·exact hC.fit.own i b h5
 ·rcases vS i b h1 with ⟨rfl,_,k1⟩ | ⟨hi,k1⟩
  ·rcases vS j b h2 with ⟨rfl,_,k2⟩ | ⟨hj,k2⟩
   ·rfl
   ·exact absurd k1 (apart j b hj k2)
  ·rcases vS j b h2 with ⟨rfl,_,k2⟩ | ⟨hj,k2⟩
   ·exact absurd k2 (apart i b hi k1)
   ·exact hC.fit.inj i j b k1 k2
 ·rw [xh,if_neg (by omega)]
  have:=hC.no i hi
  rwa [xh,if_neg (by omega)] at this
 ·have:=(vP (G:=G') (G':=G2) (Mem.Le.refl _) (fun _ _ h=>h) J5 (SizeOf.sizeOf (hU oU)+1)).1 (hU oU) v (by omega) (by
   match oU,oN with
   | [a],oN=>simpa [AV.w9,hU] using oN
   | [],oN=>simpa [hU,AV.nm] using oN
   | a::b::l,oN=>simpa [hU,AV.nm] using oN) hC.res
  exact this
 ·obtain rfl:i=0:=by omega
  rw [vQ]
  show (if _ then _ else _)=_
  rw [if_pos ⟨rfl,rfl⟩]
  cases q <;> exact hx
 ·have Jc:∀i,¬ bG G1 i (aa [(0,ao.tree 0 0 c)] i) b:=fun i ho=>by
   have:=eY b ⟨i,ho⟩
   exact dk 0 (by rw [wT]; exact aN.sub hp this)
  exact hC.frame b hb Jc
 ·rcases vS i b ho with ⟨rfl,h5,_⟩ | ⟨hi,h5⟩
  ·exact .inr ⟨0,by rw [wT]; exact h5⟩
  ·rcases hC.mY i b h5 with h6 | h6
   ·exact .inl h6
   ·exact .inr ⟨0,by rw [wT]; exact aN.sub hp (eY b h6)⟩
end Go.TM
namespace Go.TM
open Go.RowKit
variable [ct]
section
variable {g:dx} {n:Nat} {ρ:Nat→AV} {κ κ':Nat→ao} {a:Act} {w w':World} {G:Gh}
theorem bY.PG (h:bY g n ρ κ a w G) {i nx ver ep:Nat} {d c:DV} {p:List PS} (hi:κ i=.tree ver ep d) (hx:κ nx=.none) (hp:get d p=some c) (hc:c.af=true) (bB:p ≠ []) (h1:κ' i=.tree ver ep (bL d p .any)) (h2:κ' nx=.tree 0 0 c) (h3:∀j,j ≠ i→j ≠ nx→κ' j=κ j) :
  ∃G',Gh.Le G G'∧G'.M=G.M∧G'.β=G.β∧(∀r,aA G'.H nx 0 0 r=aA G.H i ver ep (p++r))∧bY g n ρ κ' a w G':=by
 have zX:i ≠ nx:=fun e=>by rw [e,hx] at hi; cases hi
 have oe:=h.fit.box i
 have dI:=h.fit.box nx
 rw [hi] at oe
 rw [hx] at dI
 obtain ⟨ht,dr,Ef,eQ⟩:=oe
 obtain ⟨f1,f2,f3⟩:=ht.forget dr hp hc bB
 let fx:Nat→Nat→List PS→Option Value:=fun v e q=>if v=0∧e=0 then aA G.H i ver ep (p++q) else none
 let G':Gh:={ G with H:=c7 G.H nx fx }
 have Mp:G'.H nx=fx:=by show c7 G.H nx fx nx=fx; exact eA _ _ _
 have C9:∀j,j ≠ nx→G'.H j=G.H j:=fun j e2=>by show c7 G.H nx fx j=_; rw [dH _ _ e2]
 have yW:aA G'.H i ver ep=aA G.H i ver ep:=by
  funext q
  cases q <;> simp only [aA,C9 i zX]
 have Mq:aA G'.H nx 0 0=fun r=>aA G.H i ver ep (p++r):=by
  funext q
  cases q with
  | nil=>show G'.H nx 0 0 []=_; rw [Mp]; show (if 0=0∧0=0 then aA G.H i ver ep (p++[]) else none)=_; rw [if_pos ⟨rfl,rfl⟩]
  | cons s q=>show G'.H nx 0 0 (s::q)=_; rw [Mp]; show (if 0=0∧0=0 then aA G.H i ver ep (p++s::q) else none)=_; rw [if_pos ⟨rfl,rfl⟩]
 have hle:Gh.Le G G':=⟨Mem.Le.refl _,fun _ _ q=>q,fun j v e q x hq=>by
  by_cases e2:j=nx
  ·subst e2; rw [dI.2] at hq; cases hq
  ·rw [C9 j e2]; exact hq⟩
 have Eg:∀b,bG G' i (κ' i) b→aN (aA G.H i ver ep) d b∧¬ aN (fun r=>aA G.H i ver ep (p++r)) c b:=fun b hb=>by
  rw [h1] at hb; simp only [bG] at hb; rw [yW] at hb; exact f3 b hb
 have Eh:∀b,bG G' nx (κ' nx) b→aN (fun r=>aA G.H i ver ep (p++r)) c b:=fun b hb=>by
  rw [h2] at hb; simp only [bG] at hb; rw [Mq] at hb; exact hb
 refine ⟨G',hle,rfl,rfl,fun r=>congrFun Mq r,h.oK (C:=fun j=>j=i ∨ j=nx) ⟨hle,fun _ _=>rfl,fun j hj=>h3 j (fun e=>hj (.inl e)) (fun e=>hj (.inr e)),fun j hj=>⟨fun _ q=>q,fun v e q x hq=>?_⟩,fun _ _ _=>⟨rfl,rfl⟩,h.fit.sub,?_,?_,?_,Nat.le_refl _,rfl,rfl,rfl⟩ (fun _ _=>rfl)⟩
 ·rw [C9 j (fun e=>hj (.inr e))] at hq; exact hq
 ·rintro j (rfl | rfl)
  ·rw [h1]
   refine ⟨by rw [yW]; exact f1,by rw [yW]; exact f2,fun v hv e q=>?_,fun e he q=>?_⟩
   ·rw [C9 j zX]; exact Ef v hv e q
   ·rw [C9 j zX]; exact eQ e he q
  ·rw [h2]
   refine ⟨by rw [Mq]; exact ht.sub hp hc,by rw [Mq]; exact dr.sub hp,fun v hv e q=>?_,fun e he q=>?_⟩
   ·rw [Mp]; show (if v=0∧e=0 then _ else _)=_; rw [if_neg (by omega)]
   ·rw [Mp]; show (if 0=0∧e=0 then _ else _)=_; rw [if_neg (by omega)]
 ·rintro j b (rfl | rfl) hb
  ·have cM:=(Eg b hb).1
   have:bG G j (κ j) b:=by rw [hi]; exact cM
   exact ⟨.inr ⟨j,.inl rfl,this⟩,h.fit.own j b this⟩
  ·have cM:=(Eh b hb).sub hp
   have:bG G i (κ i) b:=by rw [hi]; exact cM
   exact ⟨.inr ⟨i,.inl rfl,this⟩,h.fit.own i b this⟩
 ·rintro j j' b (rfl | rfl) (rfl | rfl) hb cM
  ·rfl
  ·exact absurd (Eh b cM) (Eg b hb).2
  ·exact absurd (Eh b hb) (Eg b cM).2
  ·rfl
end
theorem qA {sz:Nat} {l:List DV} (j7:∀x,x∈l→x.bC) {p:List PS} {n:DV} (h:get (.ax sz l) p=some n) (ho:n.af=true):p=[]∧n=.ax sz l:=by
 cases p with
 | nil=>simp [get] at h; exact ⟨rfl,h.symm⟩
 | cons s p =>
  exfalso
  simp only [get] at h
  cases s with
  | key k j=>simp [step] at h
  | el i j =>
   simp only [step] at h
   cases hm:l[i]? with
   | none=>rw [hm] at h; simp at h
   | some x =>
    rw [hm] at h
    simp only at h
    cases hc:x.cells[j]? with
    | none=>rw [hc] at h; simp at h
    | some c =>
     rw [hc] at h
     simp only at h
     have yV:c.af=false:=j7 x (List.mem_of_getElem? hm) c (List.mem_of_getElem? hc)
     cases p with
     | nil=>simp [get] at h; subst h; rw [yV] at ho; cases ho
     | cons s' p =>
      simp only [get] at h
      cases c <;> simp [step] at h <;> cases yV
theorem rY {P:Program} {f:Nat} (uy:gZ P f) {rest:List AV} {m:Nat} {K3:ah} {sz:Nat} {l l':List DV} {D:DV} {p:List PS} (hp:get D p=some (.ax sz l)) (bB:p ≠ []) (hm:1≤m) (L3:∀i,m≤i→aa K3 i=.none)
  (j7:∀x,x∈l'→x.bC)
  (aZ:∀(w:World) (G:Gh) (v:Value) (xs:List Value),Fit G w (aa ((0,.tree 0 0 D)::K3))→aA G.H 0 0 0 p=some v→bW G.M w v (fun s=>aA G.H 0 0 0 (p++[s])) (.ax sz l)→bP G rest xs →
   Calls P f (v::xs).toArray w fun e w'=>∃v',e=.returned v'∧v'.oneCell'=true∧w.grownBy w' (fh v)∧og w' v' sz l' (fun _ _ d u=>d.af=false∧bj G.M d u)∧∀b,fh v'=some b→fh v=some b ∨ w.heap.size≤b) :
  bl P f (.own 0 0 0 p::rest) m ((0,.tree 0 0 D)::K3) 1 [.own m 1 0 []] ((m,.tree 1 0 (.ax sz l'))::(0,.tree 0 0 (bL D p .any))::K3):=by
 refine ⟨uy,fun w G vs qX cB hr=>?_⟩
 obtain ⟨x0,sA,rfl⟩:∃x0 sA,vs=x0::sA:=by
  cases vs with
  | nil=>have:=hr.1; simp at this
  | cons a l=>exact ⟨a,l,rfl⟩
 have ka:=hr.2 0 _ x0 rfl rfl
 have DE:bP G rest sA:=⟨by have:=hr.1; simpa using this,fun j d v hd hv=>hr.2 (j+1) d v hd hv⟩
 cases ka with | own _ _ _ _ _ hu Ig =>
 have wT:∀d,aa ((0,ao.tree 0 0 d)::K3) 0=.tree 0 0 d:=fun _=>rfl
 have BY:∀d i,i ≠ 0→aa ((0,ao.tree 0 0 d)::K3) i=aa K3 i:=fun d i hi=>by
  simp only [aa]; rw [beq_false hi]; rfl
 obtain ⟨u0,Tk,_,aX⟩:=cB.node (wT D) hp rfl
 rw [hu] at Tk; injection Tk with Tk; subst Tk
 let g:dx:=⟨fun b=>∃i,bG G i (aa ((0,.tree 0 0 D)::K3) i) b,w,G.M,m,G.β,fun i p=>G.H i 0 0 p⟩
 have PH:bY g 0 (fun _=>.any) (aa ((0,.tree 0 0 D)::K3)) { tmps:=#[],defers:=[] } w G :=
  {fit:=cB,env:=fun t=>.any _,size:=rfl,xB:=fun _ _ _=>rfl,os:=rfl,tape:=rfl,output:=rfl,grow:=Nat.le_refl _,mem:=.refl G.M,mD:=fun _ _ _=>rfl,fV:=fun i b ho=>.inr ⟨i,ho⟩,jR:=fun _ _=>rfl,q6:=fun _ _ _ _ hx=>hx,oa:=qX,q7:=⟨[],rfl,List.nodup_nil,by simp⟩ }
 have Xr:aa ((0,.tree 0 0 D)::K3) m=.none:=by rw [BY D m (by omega)]; exact L3 m (Nat.le_refl _)
 obtain ⟨G1,g1,g2,g3,g4,g7⟩:=PH.PG (κ':=aw (aa ((0,.tree 0 0 D)::K3)) [(m,.tree 0 0 (.ax sz l)),(0,.tree 0 0 (bL D p .any))]) (i:=0) (nx:=m) (wT D) Xr hp rfl bB
  (by simp only [aw]; rw [ae _ _ (by omega)]; simp) (by simp [aw]) (fun j h1 h2=>by simp only [aw]; rw [ae _ _ h2,ae _ _ h1])
 refine Calls.mono (aZ w G x0 sA cB hu aX DE) ?_
 rintro e w' ⟨v',rfl,pO,RY,ie,Oz⟩
 have Ih:aA G1.H m 0 0 []=some x0:=by rw [g4 [],List.append_nil]; exact hu
 have hκm:aw (aa ((0,.tree 0 0 D)::K3)) [(m,.tree 0 0 (.ax sz l)),(0,.tree 0 0 (bL D p .any))] m=.tree 0 0 (.ax sz l):=by simp [aw]
 have j9:=g7.fit.box m
 rw [hκm] at j9
 have J6:∀b,fh x0=some b→bG G1 m (aw (aa ((0,.tree 0 0 D)::K3)) [(m,.tree 0 0 (.ax sz l)),(0,.tree 0 0 (bL D p .any))] m) b:=fun b hb=>by
  rw [hκm]; exact ⟨[],_,x0,rfl,rfl,Ih,hb⟩
 obtain ⟨G',k1,k2,k3,k4,_,_,k7⟩:=g7.jT (κ':=aa ((m,.tree 1 0 (.ax sz l'))::(0,.tree 0 0 (bL D p .any))::K3)) (w':=w') (i:=m) (ver:=1) (ep:=0) (d:=.ax sz l') (fun _=>False) (fun q=>if q=[] then some v' else none) (fun h=>h)
  (.inr ⟨0,0,_,hκm,by omega,by omega⟩) (fun _ h=>h.elim) (by simp only [aa,Nat.beq_refl,cond_true]) (fun j hj _=>by
   show (bif Nat.beq m j then ao.tree 1 0 (.ax sz l') else aa ((0,.tree 0 0 (bL D p .any))::K3) j)=_
   rw [beq_false hj]
   simp only [cond_false,aw]
   rw [ae _ _ hj]
   by_cases h0:j=0
   ·subst h0; rw [aW]; rfl
   ·rw [ae _ _ h0,BY D j h0,BY _ j h0])
  (fun q y hy=>by
   cases q with
   | nil=>simp only [aA] at hy; rw [j9.2.2.1 1 (by omega)] at hy; cases hy
   | cons s q=>simp only [aA] at hy; rw [j9.2.2.1 1 (by omega)] at hy; cases hy)
  ⟨rfl,fun q y hy ho=>by
   obtain ⟨rfl,rfl⟩:=qA j7 hy ho
   refine ⟨v',by simp,pO,?_⟩
   rcases ie with ⟨rfl,rfl⟩ | ⟨gb,o,cap,c,t,rfl,a1,a2,a3,a4⟩
   ·exact .inl ⟨rfl,rfl⟩
   ·refine .inr ⟨gb,o,cap,c,t,rfl,a1,a2,a3,fun i x hx=>⟨(a4 i x hx).1,fun j d hd=>?_⟩⟩
    obtain ⟨b1,u,b2,b3,b4⟩:=(a4 i x hx).2 j d hd
    exact ⟨b1,u,b2,.inr ⟨b3,by rw [g2]; exact b4⟩⟩⟩
  (fun q q' y y' u v b e1 e2 _ _ f1 f2 _ _=>by rw [(qA j7 e1 e2).1,(qA j7 f1 f2).1])
  (fun b ⟨q,y,u,h1,h2,h3,h4⟩=>by
   obtain ⟨rfl,rfl⟩:=qA j7 h1 h2
   simp at h3; subst h3
   rcases Oz b h4 with h5 | h5
   ·exact .inr (.inl (J6 b h5))
   ·exact .inl h5)
  (fun b hb dk _=>RY.block b hb fun e=>dk (J6 b e.symm))
  (fun b hb=>by
   rcases hb with h5 | ⟨_,h5,_⟩
   ·exact g7.fit.own m b h5
   ·exact h5.elim)
  RY.size RY.os RY.tape RY.output
 refine ⟨_,_,_,G',rfl,⟨rfl,rfl⟩,?_⟩
 refine ⟨k7.fit,fun i hi=>?_,?_,k7.mem,k7.jR,k7.q6,fun b hb hO=>⟨k7.xB b hb (fun ⟨i,h⟩=>hO i h),k7.mD b hb (fun ⟨i,h⟩=>hO i h)⟩,k7.fV,k7.os,k7.tape,k7.output,k7.grow⟩
 ·show (bif Nat.beq m i then ao.tree 1 0 (.ax sz l') else aa ((0,.tree 0 0 (bL D p .any))::K3) i)=_
  rw [beq_false (by omega)]
  simp only [cond_false]
  rw [BY _ i (by omega)]
  exact L3 i (by omega)
 ·exact .own _ _ _ _ _ ((k4 []).trans (by simp)) pO
end Go.TM
namespace Go.TM
open Go.RowKit
variable [ct]
def V7:XC:=⟨false,0,fun _ _ _ _=>.no [],fun _ _ _=>.no []⟩
def J7 (T:List TI) (pol:Nat→Bool) (ops:List Oper) (n nx:Nat) (ρ0:Nat→AV) (κ0:Nat→ao) (rs:List Rec) (p:Nat × Nat):Option (List Nat × jl):=match ops[p.1]? with
 | none=>none
 | some o=>match o.guard with
  | some _=>none
  | none=>match (Ly T pol V7 nx (Be ρ0 rs p.1) (w7 κ0 rs ops.length p.1 p.2) o.op).bind fun r=>mw n o.dst r with
   | .ok e=>some (fj (Be ρ0 rs p.1) (w7 κ0 rs ops.length p.1 p.2) o,e.1)
   | .no _=>none
def J8 (T:List TI) (pol:Nat→Bool) (ops:List Oper) (n nx:Nat) (ρ0:Nat→AV) (κ0:Nat→ao) (rs:List Rec):List (Nat × Nat)→List (Option (List Nat × jl))
 | []=>[]
 | p::r=>J7 T pol ops n nx ρ0 κ0 rs p::J8 T pol ops n nx ρ0 κ0 rs r
def PI (rs:List Rec):List (Nat × Nat)→List (Option (List Nat × jl))
 | []=>[]
 | p::r=>(rs[p.1]?.map fun c=>(c.rows,c.bc))::PI rs r
theorem qB {P:Program} {T:List TI} {pol:Nat→Bool} {ops:List Oper} {n nx:Nat} {ρ0:Nat→AV} {κ0:Nat→ao} {rs:List Rec}:∀{sf:List (Nat × Nat)},(sf.all fun p=>(rs[p.1]?).isSome)=true→J8 T pol ops n nx ρ0 κ0 rs sf=PI rs sf→Bf P T ops n nx ρ0 κ0 rs sf
 | [],_,_=>trivial
 | (j,x)::sf,hp,h=>by
  simp only [J8,PI,List.cons.injEq] at h
  obtain ⟨h1,h2⟩:=h
  simp only [List.all_cons,Bool.and_eq_true] at hp
  refine ⟨?_,qB hp.2 h2⟩
  have hj:(rs[j]?).isSome=true:=hp.1
  cases hr:rs[j]? with
  | none=>rw [hr] at hj; cases hj
  | some rc =>
   unfold J7 at h1
   rw [hr] at h1
   simp only [Option.map_some] at h1
   cases ho:ops[j]? with
   | none=>rw [ho] at h1; cases h1
   | some o =>
    rw [ho] at h1
    simp only at h1 ⊢
    cases hg:o.guard with
    | some q=>rw [hg] at h1; cases h1
    | none =>
     rw [hg] at h1
     simp only at h1
     split at h1
     ·rename_i e he
      injection h1 with h1
      injection h1 with h3 h4
      refine ⟨h3.symm,fun hT C hC hn=>?_⟩
      obtain ⟨r,e1,e2⟩:=ad he
      exact BS hT (c:=V7) (fun f args m K r hh=>by cases hh) (fun args m K r hh=>by cases hh) hC hn hg e1 e2 h4
     ·cases h1
end Go.TM
