import Derived.Test.YtpbdohkbiklflaaGreatDoorCM19
set_option linter.unusedVariables false
set_option linter.unusedSimpArgs false
set_option linter.unusedSectionVars false
namespace Go.TM
open Go.RowKit
variable [cu]
theorem wW {G G':Gh} {ok:Nat→Bool} (hM:Mem.Le G.M G'.M) (hβ:∀j b,G.β j=some b→G'.β j=some b) (hH:∀j v e p x,ok j=true→aB G.H j v e p=some x→aB G'.H j v e p=some x):∀N:Nat,
  (∀(u:AV) (x:Value),SizeOf.sizeOf u<N→AV.nm ok u=true→aH G u x→aH G' u x)∧(∀(us:List AV) (xs:List Value),SizeOf.sizeOf us<N→AV.yk ok us=true→bU G us xs→bU G' us xs):=by
 intro N
 induction N with
 | zero=>exact ⟨fun _ _ h=>by omega,fun _ _ h=>by omega⟩
 | succ N ih =>
  refine ⟨fun u x aU hn hv=>?_,fun us xs aU hn hr=>?_⟩
  ·cases u with
   | any=>exact .any _
   | dv d=>cases hv with | dv h=>exact .dv (h.mono hM)
   | ptr i off=>cases hv with | ptr _ _ b h=>exact .ptr _ off b (hβ _ _ h)
   | fN i=>cases hv with | fN _ b h=>exact .fN _ b (hβ _ _ h)
   | sle i n=>cases hv with | sle _ _ b h=>exact .sle _ n b (hβ _ _ h)
   | bX i v =>
    simp only [AV.nm] at hn
    cases hv with | bX _ _ a n h=>exact .bX _ _ a n (hH i v 0 [] _ hn h)
   | own i v e p =>
    simp only [AV.nm] at hn
    cases hv with | own _ _ _ _ _ h hc=>exact .own _ _ _ p x (hH _ _ _ _ _ hn h) hc
   | loc i v e p a b c =>
    simp only [AV.nm] at hn
    cases hv with
    | loc _ _ _ _ _ _ _ A q q' h=>exact .loc _ _ _ p a b c A q q' (hH _ _ _ _ _ hn h)
    | mU _ _ _ _ _ _ _ A h=>exact .mU _ _ _ p a b c A (hH _ _ _ _ _ hn h)
   | pre i v e p a b c =>
    simp only [AV.nm] at hn
    cases hv with
    | pre _ _ _ _ _ _ _ q q' h=>exact .pre _ _ _ p a b c q q' fun hz=>by obtain ⟨A,N,c',e1,e2⟩:=h hz; exact ⟨A,N,c',hH _ _ _ _ _ hn e1,e2⟩
   | fn f l=>simp only [AV.nm] at hn; cases hv with | fn _ _ vs hl hr=>have:=ih.2 l vs (by simp at aU; omega) hn ⟨hl,hr⟩; exact .fn f _ vs this.1 this.2
   | iA f l=>simp only [AV.nm] at hn; cases hv with | iA _ _ vs hl hr=>have:=ih.2 l vs (by simp at aU; omega) hn ⟨hl,hr⟩; exact .iA f _ vs this.1 this.2
   | agg l=>simp only [AV.nm] at hn; cases hv with | agg _ vs hl hr=>have:=ih.2 l vs (by simp at aU; omega) hn ⟨hl,hr⟩; exact .agg _ vs this.1 this.2
   | eV l=>simp only [AV.nm] at hn; cases hv with | eV _ vs hl hr=>have:=ih.2 l vs (by simp at aU; omega) hn ⟨hl,hr⟩; exact .eV _ vs this.1 this.2
   | opt g v=>simp only [AV.nm] at hn; cases hv with | opt _ _ _ h hu=>exact .opt g _ x (fun hg=>ih.1 v x (by simp at aU; omega) hn (h hg)) hu
  ·cases us with
   | nil=>exact ⟨hr.1,by simp⟩
   | cons u us =>
    simp only [AV.yk,Bool.and_eq_true] at hn
    cases xs with
    | nil=>simp [bU] at hr
    | cons x xs =>
     have h1:=ih.1 u x (by simp at aU; omega) hn.1 (hr.2 0 u x rfl rfl)
     have h2:=ih.2 us xs (by simp at aU; omega) hn.2 ⟨by have:=hr.1; simpa using this,fun j d v hd hv=>hr.2 (j+1) d v hd hv⟩
     refine ⟨by have:=h2.1; simp [this],fun j d v hd hv=>?_⟩
     cases j with
     | zero=>simp at hd hv; subst hd; subst hv; exact h1
     | succ j=>exact h2.2 j d v hd hv
open Classical in
noncomputable def gh (p:List PS) (nh h:List PS→Option Value):List PS→Option Value:=fun q=>if p <+: q then nh (q.drop p.length) else h q
theorem fG {p r:List PS} {nh h:List PS→Option Value}:gh p nh h (p++r)=nh r:=by
 unfold gh; rw [if_pos (List.prefix_append p r)]; simp
theorem ef {p q:List PS} {nh h:List PS→Option Value} (e:¬ p <+: q):gh p nh h q=h q:=by
 unfold gh; rw [if_neg e]
open Classical in
theorem zr {M:Mem} {w w':World} {h nh:List PS→Option Value} {D c c':DV} {p:List PS} {u:Value} (ht:aX M w h D) (hi:fk h D) (hp:get D p=some c) (hc:c.ah=true) (bJ:p ≠ []) (hu:h p=some u)
  (OJ:aX M w' nh c') (uB:fk nh c') (NW:nh []=some u)
  (fA:∀b,aQ h D b→¬ aQ (fun r=>h (p++r)) c b→w'.heap[b]?=w.heap[b]?)
  (dj:∀b,aQ nh c' b→aQ (fun r=>h (p++r)) c b ∨ w.heap.size≤b) :
  aX M w' (gh p nh h) (bP D p c')∧fk (gh p nh h) (bP D p c')∧∀b,aQ (gh p nh h) (bP D p c') b→aQ h D b ∨ w.heap.size≤b:=by
 have cZ:∀(q:List PS) (x:DV),get D q=some x→q ≠ []→x.aq=true:=fun q x hx _=>ht.cells q x hx
 have Ju:=ek OJ.1
 have me:∀q m,get (bP D p c') q=some m→m.ah=true →
   (∃r,q=p++r∧get c' r=some m) ∨ (¬ p <+: q∧∃x,get D q=some x∧x.ah=true∧m=if q <+: p then bP x (p.drop q.length) c' else x):=by
  intro q m hm Bj
  by_cases gQ:p <+: q
  ·obtain ⟨r,rfl⟩:=bO gQ
   rw [gx hp Ju cZ] at hm
   exact .inl ⟨r,rfl,hm⟩
  ·right
   rw [gy Ju cZ gQ] at hm
   refine ⟨gQ,?_⟩
   cases hx:get D q with
   | none=>rw [hx] at hm; cases hm
   | some x =>
    rw [hx] at hm
    simp only [Option.some.injEq] at hm
    refine ⟨x,rfl,?_,hm.symm⟩
    by_cases hq:q <+: p
    ·rw [if_pos hq] at hm
     subst hm
     obtain ⟨r,rfl⟩:=bO hq
     cases r with
     | nil=>exact absurd (by simp) gQ
     | cons s r=>simp only [List.drop_left] at Bj; rw [eh] at Bj; exact Bj
    ·rw [if_neg hq] at hm; subst hm; exact Bj
 have beside:∀q x v b,¬ p <+: q→get D q=some x→x.ah=true→h q=some v→fj v=some b→¬ aQ (fun r=>h (p++r)) c b:=by
  rintro q x v b gQ hx yv hv hb ⟨r,m,v',e1,e2,e3,e4⟩
  have:=hi q (p++r) x m v v' b hx yv hv hb (by rw [get_append,hp]; exact e1) e2 e3 e4
  exact gQ (by rw [this]; exact List.prefix_append p r)
 refine ⟨⟨?_,fun q m hm Bj=>?_⟩,?_,?_⟩
 ·cases p with
  | nil=>exact absurd rfl bJ
  | cons s p=>rw [eh]; exact ht.1
 ·rcases me q m hm Bj with ⟨r,rfl,hr⟩ | ⟨gQ,x,hx,yv,hmx⟩
  ·obtain ⟨v,h1,h2,h3⟩:=OJ.2 r m hr Bj
   refine ⟨v,fG.trans h1,h2,?_⟩
   have:(fun s=>gh p nh h (p++r++[s]))=fun s=>nh (r++[s]):=by funext s; rw [List.append_assoc,fG]
   rw [this]; exact h3
  ·obtain ⟨v,h1,h2,h3⟩:=ht.2 q x hx yv
   refine ⟨v,(ef gQ).trans h1,h2,?_⟩
   have eo:ca M w' v (fun s=>gh p nh h (q++[s])) x:=by
    refine h3.gm (Mem.Le.refl _) (fun b hb=>fA b ⟨_,x,v,hx,yv,h1,hb⟩ (beside q x v b gQ hx yv h1 hb)) (fun s' c2 dI mV y hy=>?_) h3.keys
    by_cases e:p <+: q++[s']
    ·have:p=q++[s']:=by
      obtain ⟨r,hr⟩:=e
      rcases List.eq_nil_or_concat r with rfl | ⟨r',z,rfl⟩
      ·simpa using hr
      ·rw [List.concat_eq_append,←List.append_assoc] at hr
       have:=(List.append_inj' hr (by simp)).1
       exact absurd ⟨r',this⟩ gQ
     rw [←this] at hy ⊢
     rw [hu] at hy
     have:=fG (p:=p) (r:=[]) (nh:=nh) (h:=h)
     rw [List.append_nil] at this
     rw [this,NW]; exact hy
    ·rw [ef e]; exact hy
   rw [hmx]
   by_cases hq:q <+: p
   ·rw [if_pos hq]
    obtain ⟨r,rfl⟩:=bO hq
    cases r with
    | nil=>exact absurd (by simp) gQ
    | cons s r =>
     simp only [List.drop_left]
     rw [get_append,hx] at hp
     simp only [get] at hp
     cases hs:step x s with
     | none=>rw [hs] at hp; cases hp
     | some c1 =>
      rw [hs] at hp
      have gP:c1.ah=true:=by
       cases r with
       | nil=>simp [get] at hp; subst hp; exact hc
       | cons s' r=>simp only [get] at hp; cases dI:step c1 s' with
        | none=>rw [dI] at hp; cases hp
        | some _=>exact ei dI
      have fC:(bP c1 r c').ah=true:=by
       cases r with
       | nil=>exact OJ.1
       | cons s' r=>rw [eh]; exact gP
      simp only [bP,hs]
      exact eo.Ia hs gP fC
   ·rw [if_neg hq]; exact eo
 ·intro q q' m m' v v' b e1 e2 e3 e4 f1 f2 f3 f4
  rcases me q m e1 e2 with ⟨r,rfl,hr⟩ | ⟨gQ,x,hx,yv,_⟩
  ·rcases me q' m' f1 f2 with ⟨r',rfl,Fi⟩ | ⟨OK,x',x7,OL,_⟩
   ·rw [fG] at e3 f3
    rw [uB r r' m m' v v' b hr e2 e3 e4 Fi f2 f3 f4]
   ·exfalso
    rw [fG] at e3
    rw [ef OK] at f3
    rcases dj b ⟨r,m,v,hr,e2,e3,e4⟩ with h5 | h5
    ·exact beside q' x' v' b OK x7 OL f3 f4 h5
    ·have:=ht.lt (b:=b) ⟨q',x',v',x7,OL,f3,f4⟩
     omega
  ·rcases me q' m' f1 f2 with ⟨r',rfl,Fi⟩ | ⟨OK,x',x7,OL,_⟩
   ·exfalso
    rw [fG] at f3
    rw [ef gQ] at e3
    rcases dj b ⟨r',m',v',Fi,f2,f3,f4⟩ with h5 | h5
    ·exact beside q x v b gQ hx yv e3 e4 h5
    ·have:=ht.lt (b:=b) ⟨q,x,v,hx,yv,e3,e4⟩
     omega
   ·rw [ef gQ] at e3
    rw [ef OK] at f3
    exact hi q q' x x' v v' b hx yv e3 e4 x7 OL f3 f4
 ·rintro b ⟨q,m,v,e1,e2,e3,e4⟩
  rcases me q m e1 e2 with ⟨r,rfl,hr⟩ | ⟨gQ,x,hx,yv,_⟩
  ·rw [fG] at e3
   rcases dj b ⟨r,m,v,hr,e2,e3,e4⟩ with h5 | h5
   ·exact .inl (aQ.sub hp h5)
   ·exact .inr h5
  ·rw [ef gQ] at e3
   exact .inl ⟨q,x,v,hx,yv,e3,e4⟩
def ar.Bm:ar→Bool
 | .jw _ _ _ _ _=>false
 | _=>true
def Dj (ok:Nat→Bool):aj→Bool
 | []=>true
 | (i,b)::r=>(ok i && b.Bm && b.T1 ok) && Dj ok r
theorem jZ {ok:Nat→Bool}:∀{K:aj} {i:Nat},Dj ok K=true→aa K i ≠ .none→ok i=true∧(aa K i).Bm=true∧(aa K i).T1 ok=true
 | [],i,_,h=>absurd rfl h
 | (j,b)::r,i,hk,h=>by
  simp only [Dj,Bool.and_eq_true] at hk
  simp only [aa] at h ⊢
  cases e:Nat.beq j i with
  | true=>have:=Nat.eq_of_beq_eq_true e; subst this; exact ⟨hk.1.1.1,hk.1.1.2,hk.1.2⟩
  | false=>rw [e] at h; exact jZ hk.2 h
theorem eY.nm {G G':Gh} {w:World} {i:Nat} {b:ar} {ok:Nat→Bool} (h:eY G w i b) (hp:b.Bm=true) (hn:b.T1 ok=true) (hM:G'.M=G.M) (hβ:G'.β=G.β) (hi:G'.H i=G.H i) (hH:∀j v e p x,ok j=true→aB G.H j v e p=some x→aB G'.H j v e p=some x):eY G' w i b:=by
 have dg:=wW (G:=G) (G':=G') (ok:=ok) (by rw [hM]; exact Mem.Le.refl _) (fun j b h=>by rw [hβ]; exact h) hH
 have I0:∀v e,aB G'.H i v e=aB G.H i v e:=fun v e=>by funext p; cases p <;> simp [aB,hi]
 cases b with
 | none=>exact ⟨by rw [hβ]; exact h.1,fun v e p=>by rw [hi]; exact h.2 v e p⟩
 | dead=>trivial
 | cells l =>
  obtain ⟨b,c,t,h1,h2,h3,h4,h5⟩:=h
  have:=(dg (SizeOf.sizeOf l+1)).2 l c.toList (by omega) hn ⟨by simp [h3],fun j d v hd hv=>h5 j d v hd (by simpa using hv)⟩
  exact ⟨b,c,t,by rw [hβ]; exact h1,h2,h3,h4,fun j d v hd hv=>this.2 j d v hd (by simpa using hv)⟩
 | tree v e d =>
  obtain ⟨h1,h2,h3,h4⟩:=h
  exact ⟨by rw [I0,hM]; exact h1,by rw [I0]; exact h2,fun v' hv e p=>by rw [hi]; exact h3 v' hv e p,fun e' he p=>by rw [hi]; exact h4 e' he p⟩
 | fz v d =>
  obtain ⟨x,h1,h2,h3⟩:=h
  exact ⟨x,by rw [hi]; exact h1,h2,by rw [hM]; exact h3⟩
 | eI rc st l =>
  obtain ⟨b,fn,tmps,D,h1,h2,h3⟩:=h
  exact ⟨b,fn,tmps,D,by rw [hβ]; exact h1,h2,(dg (SizeOf.sizeOf l+1)).2 l tmps.toList (by omega) hn h3⟩
 | held=>exact ⟨fun v hv e p=>by rw [hi]; exact h.1 v hv e p,fun e he p=>by rw [hi]; exact h.2 e he p⟩
 | jw=>cases hp
theorem bL.nm {G G':Gh} {i:Nat} {b:ar} (hp:b.Bm=true) (hβ:G'.β=G.β) (hi:G'.H i=G.H i) (x:Nat):bL G' i b x ↔ bL G i b x:=by
 have I0:∀v e,aB G'.H i v e=aB G.H i v e:=fun v e=>by funext p; cases p <;> simp [aB,hi]
 cases b with
 | tree v e d=>simp only [bL,I0]
 | cells=>simp only [bL,hβ]
 | eI=>simp only [bL,hβ]
 | jw=>cases hp
 | _=>exact Iff.rfl
theorem qk {P:Program} {f:Nat} {rest:List AV} {ex e:Nat} {rs:List AV} {c c' D:DV} {K3:aj} {p:List PS}
  (h:aO P f (.own 0 0 0 []::rest) 1 [(0,.tree 0 0 c)] ex rs ((0,.tree 0 e c')::K3)) (hp:get D p=some c) (bJ:p ≠ []) (hc:c.ah=true)
  (Mh:AV.yk (fun i=>!Nat.beq i 0) rest=true) (oz:AV.yk (fun i=>!Nat.beq i 0) rs=true) (On:Dj (fun i=>!Nat.beq i 0) K3=true) :
  aO P f (.own 0 0 0 p::rest) 1 [(0,.tree 0 0 D)] ex rs ((0,.tree 0 (e+1) (bP D p c'))::K3):=by
 refine ⟨h.1,fun w G vs oH ck hr=>?_⟩
 have uX:∀d,aa [(0,ar.tree 0 0 d)] 0=.tree 0 0 d:=fun _=>rfl
 have Dk:∀d i,i ≠ 0→aa [(0,ar.tree 0 0 d)] i=.none:=fun d i hi=>by
  simp only [aa]; rw [beq_false hi]; rfl
 have jy:=ck.box 0
 rw [uX] at jy
 obtain ⟨ht,dB,Kz,sd⟩:=jy
 obtain ⟨x0,tz,rfl⟩:∃x0 tz,vs=x0::tz:=by
  cases vs with
  | nil=>have:=hr.1; simp at this
  | cons a l=>exact ⟨a,l,rfl⟩
 have kF:=hr.2 0 _ x0 rfl rfl
 have Fi:bU G rest tz:=⟨by have:=hr.1; simpa using this,fun j d v hd hv=>hr.2 (j+1) d v hd hv⟩
 cases kF with | own _ _ _ _ _ hu Km =>
 let fx:Nat→Nat→List PS→Option Value:=fun v e q=>if v=0∧e=0 then aB G.H 0 0 0 (p++q) else none
 let G1:Gh:={ G with H:=df G.H 0 fx }
 have FU:G1.H 0=fx:=by show df G.H 0 fx 0=fx; exact eK _ _ _
 have EJ:∀j,j ≠ 0→G1.H j=G.H j:=fun j hj=>by show df G.H 0 fx j=_; exact dP _ _ hj
 have yd:aB G1.H 0 0 0=fun r=>aB G.H 0 0 0 (p++r):=by
  funext q
  cases q with
  | nil=>show G1.H 0 0 0 []=_; rw [FU]; show (if 0=0∧0=0 then _ else _)=_; rw [if_pos ⟨rfl,rfl⟩]
  | cons s q=>show G1.H 0 0 0 (s::q)=_; rw [FU]; show (if 0=0∧0=0 then _ else _)=_; rw [if_pos ⟨rfl,rfl⟩]
 have bK:∀j v e q x,(!Nat.beq j 0)=true→aB G.H j v e q=some x→aB G1.H j v e q=some x:=fun j v e q x hj hx=>by
  have EI:j ≠ 0:=by rintro rfl; simp at hj
  cases q with
  | nil=>show G1.H j v 0 []=_; rw [EJ j EI]; exact hx
  | cons s q=>show G1.H j v e (s::q)=_; rw [EJ j EI]; exact hx
 have Mi:bU G1 (.own 0 0 0 []::rest) (x0::tz):=by
  have h2:=(wW (G:=G) (G':=G1) (Mem.Le.refl _) (fun _ _ h=>h) bK (SizeOf.sizeOf rest+1)).2 rest tz (by omega) Mh Fi
  refine ⟨by have:=h2.1; simp [this],fun j d v hd hv=>?_⟩
  cases j with
  | zero =>
   simp at hd hv; subst hd; subst hv
   refine .own _ _ _ _ _ ?_ Km
   show aB G1.H 0 0 0 []=_
   rw [yd]; simpa using hu
  | succ j=>exact h2.2 j d v hd hv
 have Mj:Fit G1 w (aa [(0,ar.tree 0 0 c)]):=by
  have FV:∀i b,bL G1 i (aa [(0,ar.tree 0 0 c)] i) b→i=0∧aQ (aB G.H 0 0 0) D b:=fun i b ho=>by
   by_cases hi:i=0
   ·subst hi
    rw [uX] at ho
    have ho:aQ (aB G1.H 0 0 0) c b:=ho
    rw [yd] at ho
    exact ⟨rfl,aQ.sub hp ho⟩
   ·rw [Dk c i hi] at ho; exact ho.elim
  refine ⟨ck.sub,fun i=>?_,fun i b ho=>?_,fun i j b h1 h2=>by rw [(FV i b h1).1,(FV j b h2).1]⟩
  ·by_cases hi:i=0
   ·subst hi
    rw [uX]
    refine ⟨by rw [yd]; exact ht.sub hp hc,by rw [yd]; exact dB.sub hp,fun v hv e q=>?_,fun e he q=>?_⟩
    ·rw [FU]; show (if _ then _ else _)=_; rw [if_neg (by omega)]
    ·rw [FU]; show (if _ then _ else _)=_; rw [if_neg (by omega)]
   ·rw [Dk c i hi]
    have:=ck.box i
    rw [Dk D i hi] at this
    exact ⟨this.1,fun v e q=>by rw [EJ i hi]; exact this.2 v e q⟩
  ·obtain ⟨rfl,ED⟩:=FV i b ho
   exact ck.own 0 b (by rw [uX]; exact ED)
 refine Calls.mono (h.2 w G1 (x0::tz) oH Mj Mi) ?_
 rintro ee w' ⟨v,pR,K',G',rfl,⟨rfl,rfl⟩,hC⟩
 have wQ:∀b i,aa ((0,b)::K3) i=if i=0 then b else aa K3 i:=fun b i=>by
  simp only [aa]
  by_cases hi:i=0
  ·subst hi; rfl
  ·rw [beq_false hi,if_neg hi]; rfl
 have cL:=hC.fit.box 0
 rw [wQ,if_pos rfl] at cL
 obtain ⟨OJ,Mk,Xr,Xs⟩:=cL
 have NW:aB G'.H 0 0 e []=some x0:=by
  show G'.H 0 0 0 []=some x0
  refine hC.pH 0 (by omega) [] x0 ?_
  have:aB G1.H 0 0 0 []=some x0:=by rw [yd]; simpa using hu
  exact this
 have tR:∀b,bL G1 0 (aa [(0,ar.tree 0 0 c)] 0) b ↔ aQ (fun r=>aB G.H 0 0 0 (p++r)) c b:=fun b=>by
  rw [uX]
  show aQ (aB G1.H 0 0 0) c b ↔ _
  rw [yd]
 have fv:∀b,(∃j,bL G1 j (aa [(0,ar.tree 0 0 c)] j) b)→aQ (fun r=>aB G.H 0 0 0 (p++r)) c b:=by
  rintro b ⟨j,ho⟩
  by_cases hj:j=0
  ·subst hj; exact (tR b).1 ho
  ·rw [Dk c j hj] at ho; exact ho.elim
 have Uz:aX G'.M w (aB G.H 0 0 0) D:=ht.gm hC.le (fun _ _=>rfl) (fun _ _ _ _ _ h=>h)
 obtain ⟨t1,t2,t3⟩:=zr (w':=w') Uz dB hp hc bJ hu OJ Mk NW
  (fun b hb Xt=>(hC.frame b (Uz.lt hb) fun i ho=>Xt (fv b ⟨i,ho⟩)).1)
  (fun b hb=>by
   rcases hC.mY 0 b (by rw [wQ,if_pos rfl]; exact hb) with h5 | h5
   ·exact .inr h5
   ·exact .inl (fv b h5))
 let f2:Nat→Nat→List PS→Option Value:=fun v e' q=>if v=0∧e'=e+1 then (match q with | []=>none | q=>gh p (aB G'.H 0 0 e) (aB G.H 0 0 0) q) else if v=0∧e'=0 then aB G.H 0 0 0 q else none
 let G2:Gh:={ G' with H:=df G'.H 0 f2 }
 have wX:G2.H 0=f2:=by show df G'.H 0 f2 0=f2; exact eK _ _ _
 have wY:∀j,j ≠ 0→G2.H j=G'.H j:=fun j hj=>by show df G'.H 0 f2 j=_; exact dP _ _ hj
 have lM:gh p (aB G'.H 0 0 e) (aB G.H 0 0 0) []=aB G.H 0 0 0 []:=ef (by
  rintro ⟨r,hr⟩
  exact bJ (List.append_eq_nil_iff.1 hr).1)
 have Sa:aB G2.H 0 0 (e+1)=gh p (aB G'.H 0 0 e) (aB G.H 0 0 0):=by
  funext q
  cases q with
  | nil =>
   rw [lM]
   show G2.H 0 0 0 []=_
   rw [wX]
   show (if 0=0∧0=e+1 then _ else if 0=0∧0=0 then _ else _)=_
   rw [if_neg (by omega),if_pos ⟨rfl,rfl⟩]
  | cons s q =>
   show G2.H 0 0 (e+1) (s::q)=_
   rw [wX]
   show (if 0=0∧e+1=e+1 then _ else _)=_
   rw [if_pos ⟨rfl,rfl⟩]
 have Ml:∀j v e q x,(!Nat.beq j 0)=true→aB G'.H j v e q=some x→aB G2.H j v e q=some x:=fun j v e q x hj hx=>by
  have EI:j ≠ 0:=by rintro rfl; simp at hj
  cases q with
  | nil=>show G2.H j v 0 []=_; rw [wY j EI]; exact hx
  | cons s q=>show G2.H j v e (s::q)=_; rw [wY j EI]; exact hx
 have wZ:∀i b,bL G2 i (aa ((0,ar.tree 0 (e+1) (bP D p c'))::K3) i) b→(i=0∧(aQ (aB G.H 0 0 0) D b ∨ w.heap.size≤b)∧aQ (gh p (aB G'.H 0 0 e) (aB G.H 0 0 0)) (bP D p c') b) ∨ (i ≠ 0∧bL G' i (aa ((0,ar.tree 0 e c')::K3) i) b):=fun i b ho=>by
  rw [wQ] at ho
  by_cases hi:i=0
  ·subst hi
   rw [if_pos rfl] at ho
   have ho:aQ (aB G2.H 0 0 (e+1)) (bP D p c') b:=ho
   rw [Sa] at ho
   exact .inl ⟨rfl,t3 b ho,ho⟩
  ·rw [if_neg hi] at ho
   refine .inr ⟨hi,?_⟩
   rw [wQ,if_neg hi]
   by_cases hn:aa K3 i=.none
   ·rw [hn] at ho; exact ho.elim
   ·exact (bL.nm (G:=G') (G':=G2) (jZ On hn).2.1 rfl (wY i hi) b).1 ho
 have w3:∀b,aQ (gh p (aB G'.H 0 0 e) (aB G.H 0 0 0)) (bP D p c') b→bL G' 0 (aa ((0,ar.tree 0 e c')::K3) 0) b ∨ (aQ (aB G.H 0 0 0) D b∧¬ aQ (fun r=>aB G.H 0 0 0 (p++r)) c b):=by
  rintro b ⟨q,m,x,e1,e2,e3,e4⟩
  by_cases gQ:p <+: q
  ·obtain ⟨r,rfl⟩:=bO gQ
   rw [fG] at e3
   rw [gx hp (ek OJ.1) (fun q x hx _=>ht.cells q x hx)] at e1
   exact .inl (by rw [wQ,if_pos rfl]; exact ⟨r,m,x,e1,e2,e3,e4⟩)
  ·right
   rw [ef gQ] at e3
   rw [gy (ek OJ.1) (fun q x hx _=>ht.cells q x hx) gQ] at e1
   cases hx:get D q with
   | none=>rw [hx] at e1; cases e1
   | some y =>
    have YX:y.ah=true:=by
     rw [hx] at e1
     simp only [Option.some.injEq] at e1
     by_cases hq:q <+: p
     ·rw [if_pos hq] at e1
      subst e1
      obtain ⟨r,rfl⟩:=bO hq
      cases r with
      | nil=>exact absurd (by simp) gQ
      | cons s r=>simp only [List.drop_left] at e2; rw [eh] at e2; exact e2
     ·rw [if_neg hq] at e1; subst e1; exact e2
    refine ⟨⟨q,y,x,hx,YX,e3,e4⟩,?_⟩
    rintro ⟨r,m',x',g1,g2,g3,g4⟩
    have:=dB q (p++r) y m' x x' b hx YX e3 e4 (by rw [get_append,hp]; exact g1) g2 g3 g4
    exact gQ (by rw [this]; exact List.prefix_append p r)
 have apart:∀i b,i ≠ 0→bL G' i (aa ((0,ar.tree 0 e c')::K3) i) b→¬ aQ (gh p (aB G'.H 0 0 e) (aB G.H 0 0 0)) (bP D p c') b:=by
  intro i b hi ho hT
  rcases w3 b hT with h5 | ⟨h5,h6⟩
  ·exact hi (hC.fit.inj i 0 b ho h5)
  ·rcases hC.mY i b ho with h7 | h7
   ·have:=ht.lt h5; omega
   ·exact h6 (fv b h7)
 refine ⟨v,pR,_,G2,rfl,⟨rfl,rfl⟩,?_⟩
 refine { fit:=⟨hC.fit.sub,fun i=>?_,fun i b ho=>?_,fun i j b h1 h2=>?_⟩,no:=fun i hi=>?_,res:=?_,le:=hC.le,jg:=fun i hi=>(hC.jg i hi).trans rfl,pH:=fun i hi q x hx=>?_,frame:=fun b hb dj=>?_,mY:=fun i b ho=>?_,os:=hC.os,tape:=hC.tape,output:=hC.output,size:=hC.size }
 ·rw [wQ]
  by_cases hi:i=0
  ·subst hi
   rw [if_pos rfl]
   refine ⟨by rw [Sa]; exact t1,by rw [Sa]; exact t2,fun v hv e' q=>?_,fun e' he q=>?_⟩
   ·rw [wX]; show (if _ then _ else if _ then _ else _)=_; rw [if_neg (by omega),if_neg (by omega)]
   ·rw [wX]; show (if _ then _ else if _ then _ else _)=_; rw [if_neg (by omega),if_neg (by omega)]
  ·rw [if_neg hi]
   have hb:=hC.fit.box i
   rw [wQ,if_neg hi] at hb
   by_cases hn:aa K3 i=.none
   ·rw [hn] at hb ⊢; exact ⟨hb.1,fun v e q=>by rw [wY i hi]; exact hb.2 v e q⟩
   ·obtain ⟨_,k2,k3⟩:=jZ On hn
    exact hb.nm k2 k3 rfl rfl (wY i hi) Ml
 ·rcases wZ i b ho with ⟨rfl,_,h5⟩ | ⟨hi,h5⟩
  ·rcases w3 b h5 with h6 | ⟨h6,h7⟩
   ·exact hC.fit.own 0 b h6
   ·have:=(hC.frame b (ht.lt h6) fun i ho=>h7 (fv b ⟨i,ho⟩)).2
    show G'.M b=none
    rw [this]
    exact ck.own 0 b (by rw [uX]; exact h6)
  ·exact hC.fit.own i b h5
 ·rcases wZ i b h1 with ⟨rfl,_,k1⟩ | ⟨hi,k1⟩
  ·rcases wZ j b h2 with ⟨rfl,_,k2⟩ | ⟨hj,k2⟩
   ·rfl
   ·exact absurd k1 (apart j b hj k2)
  ·rcases wZ j b h2 with ⟨rfl,_,k2⟩ | ⟨hj,k2⟩
   ·exact absurd k2 (apart i b hi k1)
   ·exact hC.fit.inj i j b k1 k2
 ·rw [wQ,if_neg (by omega)]
  have:=hC.no i hi
  rwa [wQ,if_neg (by omega)] at this
 ·have:=(wW (G:=G') (G':=G2) (Mem.Le.refl _) (fun _ _ h=>h) Ml (SizeOf.sizeOf (hU pR)+1)).1 (hU pR) v (by omega) (by
   match pR,oz with
   | [a],oz=>simpa [AV.yk,hU] using oz
   | [],oz=>simpa [hU,AV.nm] using oz
   | a::b::l,oz=>simpa [hU,AV.nm] using oz) hC.res
  exact this
 ·obtain rfl:i=0:=by omega
  rw [wX]
  show (if _ then _ else if _ then _ else _)=_
  rw [if_neg (by omega),if_pos ⟨rfl,rfl⟩]
  cases q <;> exact hx
 ·have Lo:∀i,¬ bL G1 i (aa [(0,ar.tree 0 0 c)] i) b:=fun i ho=>by
   have:=fv b ⟨i,ho⟩
   exact dj 0 (by rw [uX]; exact aQ.sub hp this)
  exact hC.frame b hb Lo
 ·rcases wZ i b ho with ⟨rfl,h5 | h5,_⟩ | ⟨hi,h5⟩
  ·exact .inr ⟨0,by rw [uX]; exact h5⟩
  ·exact .inl h5
  ·rcases hC.mY i b h5 with h6 | h6
   ·exact .inl h6
   ·exact .inr ⟨0,by rw [uX]; exact aQ.sub hp (fv b h6)⟩
theorem gi {P:Program} {f:Nat} {rest:List AV} {ex:Nat} {rs:List AV} {c D:DV} {K3:aj} {p:List PS}
  (h:aO P f (.own 0 0 0 []::rest) 1 [(0,.tree 0 0 c)] ex rs ((0,.tree 0 0 c)::K3)) (hD:bP D p c=D) (hp:get D p=some c) (bJ:p ≠ []) (hc:c.ah=true)
  (Mh:AV.yk (fun i=>!Nat.beq i 0) rest=true) (oz:AV.yk (fun i=>!Nat.beq i 0) rs=true) (On:Dj (fun i=>!Nat.beq i 0) K3=true) :
  aO P f (.own 0 0 0 p::rest) 1 [(0,.tree 0 0 D)] ex rs ((0,.tree 0 0 D)::K3):=by
 refine ⟨h.1,fun w G vs oH ck hr=>?_⟩
 have uX:∀d,aa [(0,ar.tree 0 0 d)] 0=.tree 0 0 d:=fun _=>rfl
 have Dk:∀d i,i ≠ 0→aa [(0,ar.tree 0 0 d)] i=.none:=fun d i hi=>by
  simp only [aa]; rw [beq_false hi]; rfl
 have jy:=ck.box 0
 rw [uX] at jy
 obtain ⟨ht,dB,Kz,sd⟩:=jy
 obtain ⟨x0,tz,rfl⟩:∃x0 tz,vs=x0::tz:=by
  cases vs with
  | nil=>have:=hr.1; simp at this
  | cons a l=>exact ⟨a,l,rfl⟩
 have kF:=hr.2 0 _ x0 rfl rfl
 have Fi:bU G rest tz:=⟨by have:=hr.1; simpa using this,fun j d v hd hv=>hr.2 (j+1) d v hd hv⟩
 cases kF with | own _ _ _ _ _ hu Km =>
 let fx:Nat→Nat→List PS→Option Value:=fun v e q=>if v=0∧e=0 then aB G.H 0 0 0 (p++q) else none
 let G1:Gh:={ G with H:=df G.H 0 fx }
 have FU:G1.H 0=fx:=by show df G.H 0 fx 0=fx; exact eK _ _ _
 have EJ:∀j,j ≠ 0→G1.H j=G.H j:=fun j hj=>by show df G.H 0 fx j=_; exact dP _ _ hj
 have yd:aB G1.H 0 0 0=fun r=>aB G.H 0 0 0 (p++r):=by
  funext q
  cases q with
  | nil=>show G1.H 0 0 0 []=_; rw [FU]; show (if 0=0∧0=0 then _ else _)=_; rw [if_pos ⟨rfl,rfl⟩]
  | cons s q=>show G1.H 0 0 0 (s::q)=_; rw [FU]; show (if 0=0∧0=0 then _ else _)=_; rw [if_pos ⟨rfl,rfl⟩]
 have bK:∀j v e q x,(!Nat.beq j 0)=true→aB G.H j v e q=some x→aB G1.H j v e q=some x:=fun j v e q x hj hx=>by
  have EI:j ≠ 0:=by rintro rfl; simp at hj
  cases q with
  | nil=>show G1.H j v 0 []=_; rw [EJ j EI]; exact hx
  | cons s q=>show G1.H j v e (s::q)=_; rw [EJ j EI]; exact hx
 have Mi:bU G1 (.own 0 0 0 []::rest) (x0::tz):=by
  have h2:=(wW (G:=G) (G':=G1) (Mem.Le.refl _) (fun _ _ h=>h) bK (SizeOf.sizeOf rest+1)).2 rest tz (by omega) Mh Fi
  refine ⟨by have:=h2.1; simp [this],fun j d v hd hv=>?_⟩
  cases j with
  | zero =>
   simp at hd hv; subst hd; subst hv
   refine .own _ _ _ _ _ ?_ Km
   show aB G1.H 0 0 0 []=_
   rw [yd]; simpa using hu
  | succ j=>exact h2.2 j d v hd hv
 have Mj:Fit G1 w (aa [(0,ar.tree 0 0 c)]):=by
  have FV:∀i b,bL G1 i (aa [(0,ar.tree 0 0 c)] i) b→i=0∧aQ (aB G.H 0 0 0) D b:=fun i b ho=>by
   by_cases hi:i=0
   ·subst hi
    rw [uX] at ho
    have ho:aQ (aB G1.H 0 0 0) c b:=ho
    rw [yd] at ho
    exact ⟨rfl,aQ.sub hp ho⟩
   ·rw [Dk c i hi] at ho; exact ho.elim
  refine ⟨ck.sub,fun i=>?_,fun i b ho=>?_,fun i j b h1 h2=>by rw [(FV i b h1).1,(FV j b h2).1]⟩
  ·by_cases hi:i=0
   ·subst hi
    rw [uX]
    refine ⟨by rw [yd]; exact ht.sub hp hc,by rw [yd]; exact dB.sub hp,fun v hv e q=>?_,fun e he q=>?_⟩
    ·rw [FU]; show (if _ then _ else _)=_; rw [if_neg (by omega)]
    ·rw [FU]; show (if _ then _ else _)=_; rw [if_neg (by omega)]
   ·rw [Dk c i hi]
    have:=ck.box i
    rw [Dk D i hi] at this
    exact ⟨this.1,fun v e q=>by rw [EJ i hi]; exact this.2 v e q⟩
  ·obtain ⟨rfl,ED⟩:=FV i b ho
   exact ck.own 0 b (by rw [uX]; exact ED)
 refine Calls.mono (h.2 w G1 (x0::tz) oH Mj Mi) ?_
 rintro ee w' ⟨v,pR,K',G',rfl,⟨rfl,rfl⟩,hC⟩
 have wQ:∀b i,aa ((0,b)::K3) i=if i=0 then b else aa K3 i:=fun b i=>by
  simp only [aa]
  by_cases hi:i=0
  ·subst hi; rfl
  ·rw [beq_false hi,if_neg hi]; rfl
 have cL:=hC.fit.box 0
 rw [wQ,if_pos rfl] at cL
 obtain ⟨OJ,Mk,Xr,Xs⟩:=cL
 have NW:aB G'.H 0 0 0 []=some x0:=by
  show G'.H 0 0 0 []=some x0
  refine hC.pH 0 (by omega) [] x0 ?_
  have:aB G1.H 0 0 0 []=some x0:=by rw [yd]; simpa using hu
  exact this
 have tR:∀b,bL G1 0 (aa [(0,ar.tree 0 0 c)] 0) b ↔ aQ (fun r=>aB G.H 0 0 0 (p++r)) c b:=fun b=>by
  rw [uX]
  show aQ (aB G1.H 0 0 0) c b ↔ _
  rw [yd]
 have fv:∀b,(∃j,bL G1 j (aa [(0,ar.tree 0 0 c)] j) b)→aQ (fun r=>aB G.H 0 0 0 (p++r)) c b:=by
  rintro b ⟨j,ho⟩
  by_cases hj:j=0
  ·subst hj; exact (tR b).1 ho
  ·rw [Dk c j hj] at ho; exact ho.elim
 have Uz:aX G'.M w (aB G.H 0 0 0) D:=ht.gm hC.le (fun _ _=>rfl) (fun _ _ _ _ _ h=>h)
 obtain ⟨t1,t2,t3⟩:=zr (w':=w') Uz dB hp hc bJ hu OJ Mk NW
  (fun b hb Xt=>(hC.frame b (Uz.lt hb) fun i ho=>Xt (fv b ⟨i,ho⟩)).1)
  (fun b hb=>by
   rcases hC.mY 0 b (by rw [wQ,if_pos rfl]; exact hb) with h5 | h5
   ·exact .inr h5
   ·exact .inl (fv b h5))
 rw [hD] at t1 t2 t3
 have hL:∀q n v,get D q=some n→n.ah=true→gh p (aB G'.H 0 0 0) (aB G.H 0 0 0) q=some v→aB G.H 0 0 0 q=some v:=fun q n v hq hn hv=>by
  by_cases gQ:p <+: q
  ·obtain ⟨r,rfl⟩:=bO gQ
   rw [fG] at hv
   rw [get_append,hp] at hq
   obtain ⟨v0,h1,_,_⟩:=(ht.sub hp hc).2 r n hq hn
   have h2:G1.H 0 0 0 r=some v0:=by
    have:aB G1.H 0 0 0 r=some v0:=by rw [yd]; exact h1
    cases r <;> exact this
   have h3:=hC.pH 0 (by omega) r v0 h2
   have h4:aB G'.H 0 0 0 r=some v0:=by cases r <;> exact h3
   rw [h4] at hv; injection hv with hv; subst hv; exact h1
  ·rwa [ef gQ] at hv
 have YY:∀q n v,get D q=some n→n.ah=true→aB G.H 0 0 0 q=some v→gh p (aB G'.H 0 0 0) (aB G.H 0 0 0) q=some v:=fun q n v hq hn hv=>by
  obtain ⟨v',h1,_⟩:=t1.2 q n hq hn
  have:=hL q n v' hq hn h1
  rw [hv] at this; injection this with this; subst this; exact h1
 let f2:Nat→Nat→List PS→Option Value:=fun v e' q=>if v=0∧e'=0 then aB G.H 0 0 0 q else none
 let G2:Gh:={ G' with H:=df G'.H 0 f2 }
 have wX:G2.H 0=f2:=by show df G'.H 0 f2 0=f2; exact eK _ _ _
 have wY:∀j,j ≠ 0→G2.H j=G'.H j:=fun j hj=>by show df G'.H 0 f2 j=_; exact dP _ _ hj
 have Sa:aB G2.H 0 0 0=aB G.H 0 0 0:=by
  funext q
  cases q with
  | nil=>show G2.H 0 0 0 []=_; rw [wX]; show (if 0=0∧0=0 then _ else _)=_; rw [if_pos ⟨rfl,rfl⟩]
  | cons s q=>show G2.H 0 0 0 (s::q)=_; rw [wX]; show (if 0=0∧0=0 then _ else _)=_; rw [if_pos ⟨rfl,rfl⟩]
 have Ml:∀j v e q x,(!Nat.beq j 0)=true→aB G'.H j v e q=some x→aB G2.H j v e q=some x:=fun j v e q x hj hx=>by
  have EI:j ≠ 0:=by rintro rfl; simp at hj
  cases q with
  | nil=>show G2.H j v 0 []=_; rw [wY j EI]; exact hx
  | cons s q=>show G2.H j v e (s::q)=_; rw [wY j EI]; exact hx
 have wZ:∀i b,bL G2 i (aa ((0,ar.tree 0 0 D)::K3) i) b→(i=0∧aQ (aB G.H 0 0 0) D b∧aQ (gh p (aB G'.H 0 0 0) (aB G.H 0 0 0)) D b) ∨ (i ≠ 0∧bL G' i (aa ((0,ar.tree 0 0 c)::K3) i) b):=fun i b ho=>by
  rw [wQ] at ho
  by_cases hi:i=0
  ·subst hi
   rw [if_pos rfl] at ho
   have ho:aQ (aB G2.H 0 0 0) D b:=ho
   rw [Sa] at ho
   refine .inl ⟨rfl,ho,?_⟩
   obtain ⟨q,m,x,e1,e2,e3,e4⟩:=ho
   exact ⟨q,m,x,e1,e2,YY q m x e1 e2 e3,e4⟩
  ·rw [if_neg hi] at ho
   refine .inr ⟨hi,?_⟩
   rw [wQ,if_neg hi]
   by_cases hn:aa K3 i=.none
   ·rw [hn] at ho; exact ho.elim
   ·exact (bL.nm (G:=G') (G':=G2) (jZ On hn).2.1 rfl (wY i hi) b).1 ho
 have w3:∀b,aQ (gh p (aB G'.H 0 0 0) (aB G.H 0 0 0)) D b→bL G' 0 (aa ((0,ar.tree 0 0 c)::K3) 0) b ∨ (aQ (aB G.H 0 0 0) D b∧¬ aQ (fun r=>aB G.H 0 0 0 (p++r)) c b):=by
  rintro b ⟨q,m,x,e1,e2,e3,e4⟩
  by_cases gQ:p <+: q
  ·obtain ⟨r,rfl⟩:=bO gQ
   rw [fG] at e3
   rw [get_append,hp] at e1
   exact .inl (by rw [wQ,if_pos rfl]; exact ⟨r,m,x,e1,e2,e3,e4⟩)
  ·right
   rw [ef gQ] at e3
   refine ⟨⟨q,m,x,e1,e2,e3,e4⟩,?_⟩
   rintro ⟨r,m',x',g1,g2,g3,g4⟩
   have:=dB q (p++r) m m' x x' b e1 e2 e3 e4 (by rw [get_append,hp]; exact g1) g2 g3 g4
   exact gQ (by rw [this]; exact List.prefix_append p r)
 have apart:∀i b,i ≠ 0→bL G' i (aa ((0,ar.tree 0 0 c)::K3) i) b→¬ aQ (gh p (aB G'.H 0 0 0) (aB G.H 0 0 0)) D b:=by
  intro i b hi ho hT
  rcases w3 b hT with h5 | ⟨h5,h6⟩
  ·exact hi (hC.fit.inj i 0 b ho h5)
  ·rcases hC.mY i b ho with h7 | h7
   ·have:=ht.lt h5; omega
   ·exact h6 (fv b h7)
 refine ⟨v,pR,_,G2,rfl,⟨rfl,rfl⟩,?_⟩
 refine { fit:=⟨hC.fit.sub,fun i=>?_,fun i b ho=>?_,fun i j b h1 h2=>?_⟩,no:=fun i hi=>?_,res:=?_,le:=hC.le,jg:=fun i hi=>(hC.jg i hi).trans rfl,pH:=fun i hi q x hx=>?_,frame:=fun b hb dj=>?_,mY:=fun i b ho=>?_,os:=hC.os,tape:=hC.tape,output:=hC.output,size:=hC.size }
 ·rw [wQ]
  by_cases hi:i=0
  ·subst hi
   rw [if_pos rfl]
   refine ⟨by rw [Sa]; exact t1.gm (Mem.Le.refl _) (fun _ _=>rfl) hL,by rw [Sa]; exact t2.gm YY,fun v hv e' q=>?_,fun e' he q=>?_⟩
   ·rw [wX]; show (if _ then _ else _)=_; rw [if_neg (by omega)]
   ·rw [wX]; show (if _ then _ else _)=_; rw [if_neg (by omega)]
  ·rw [if_neg hi]
   have hb:=hC.fit.box i
   rw [wQ,if_neg hi] at hb
   by_cases hn:aa K3 i=.none
   ·rw [hn] at hb ⊢; exact ⟨hb.1,fun v e q=>by rw [wY i hi]; exact hb.2 v e q⟩
   ·obtain ⟨_,k2,k3⟩:=jZ On hn
    exact hb.nm k2 k3 rfl rfl (wY i hi) Ml
 ·rcases wZ i b ho with ⟨rfl,_,h5⟩ | ⟨hi,h5⟩
  ·rcases w3 b h5 with h6 | ⟨h6,h7⟩
   ·exact hC.fit.own 0 b h6
   ·have:=(hC.frame b (ht.lt h6) fun i ho=>h7 (fv b ⟨i,ho⟩)).2
    show G'.M b=none
    rw [this]
    exact ck.own 0 b (by rw [uX]; exact h6)
  ·exact hC.fit.own i b h5
 ·rcases wZ i b h1 with ⟨rfl,_,k1⟩ | ⟨hi,k1⟩
  ·rcases wZ j b h2 with ⟨rfl,_,k2⟩ | ⟨hj,k2⟩
   ·rfl
   ·exact absurd k1 (apart j b hj k2)
  ·rcases wZ j b h2 with ⟨rfl,_,k2⟩ | ⟨hj,k2⟩
   ·exact absurd k2 (apart i b hi k1)
   ·exact hC.fit.inj i j b k1 k2
 ·rw [wQ,if_neg (by omega)]
  have:=hC.no i hi
  rwa [wQ,if_neg (by omega)] at this
 ·have:=(wW (G:=G') (G':=G2) (Mem.Le.refl _) (fun _ _ h=>h) Ml (SizeOf.sizeOf (hU pR)+1)).1 (hU pR) v (by omega) (by
   match pR,oz with
   | [a],oz=>simpa [AV.yk,hU] using oz
   | [],oz=>simpa [hU,AV.nm] using oz
   | a::b::l,oz=>simpa [hU,AV.nm] using oz) hC.res
  exact this
 ·obtain rfl:i=0:=by omega
  rw [wX]
  show (if _ then _ else _)=_
  rw [if_pos ⟨rfl,rfl⟩]
  cases q <;> exact hx
 ·have Lo:∀i,¬ bL G1 i (aa [(0,ar.tree 0 0 c)] i) b:=fun i ho=>by
   have:=fv b ⟨i,ho⟩
   exact dj 0 (by rw [uX]; exact aQ.sub hp this)
  exact hC.frame b hb Lo
 ·rcases wZ i b ho with ⟨rfl,h5,_⟩ | ⟨hi,h5⟩
  ·exact .inr ⟨0,by rw [uX]; exact h5⟩
  ·rcases hC.mY i b h5 with h6 | h6
   ·exact .inl h6
   ·exact .inr ⟨0,by rw [uX]; exact aQ.sub hp (fv b h6)⟩
end Go.TM
namespace Go.TM
open Go.RowKit
variable [cu]
section
variable {g:dD} {n:Nat} {ρ:Nat→AV} {κ κ':Nat→ar} {a:Act} {w w':World} {G:Gh}
theorem cf.Sb (h:cf g n ρ κ a w G) {i nx ver ep:Nat} {d c:DV} {p:List PS} (hi:κ i=.tree ver ep d) (hx:κ nx=.none) (hp:get d p=some c) (hc:c.ah=true) (bJ:p ≠ []) (h1:κ' i=.tree ver ep (bP d p .any)) (h2:κ' nx=.tree 0 0 c) (h3:∀j,j ≠ i→j ≠ nx→κ' j=κ j) :
  ∃G',Gh.Le G G'∧G'.M=G.M∧G'.β=G.β∧(∀r,aB G'.H nx 0 0 r=aB G.H i ver ep (p++r))∧cf g n ρ κ' a w G':=by
 have Bk:i ≠ nx:=fun e=>by rw [e,hx] at hi; cases hi
 have nc:=h.fit.box i
 have dQ:=h.fit.box nx
 rw [hi] at nc
 rw [hx] at dQ
 obtain ⟨ht,dB,FW,fe⟩:=nc
 obtain ⟨f1,f2,f3⟩:=ht.forget dB hp hc bJ
 let fx:Nat→Nat→List PS→Option Value:=fun v e q=>if v=0∧e=0 then aB G.H i ver ep (p++q) else none
 let G':Gh:={ G with H:=df G.H nx fx }
 have OM:G'.H nx=fx:=by show df G.H nx fx nx=fx; exact eK _ _ _
 have EJ:∀j,j ≠ nx→G'.H j=G.H j:=fun j e2=>by show df G.H nx fx j=_; rw [dP _ _ e2]
 have Aj:aB G'.H i ver ep=aB G.H i ver ep:=by
  funext q
  cases q <;> simp only [aB,EJ i Bk]
 have ON:aB G'.H nx 0 0=fun r=>aB G.H i ver ep (p++r):=by
  funext q
  cases q with
  | nil=>show G'.H nx 0 0 []=_; rw [OM]; show (if 0=0∧0=0 then aB G.H i ver ep (p++[]) else none)=_; rw [if_pos ⟨rfl,rfl⟩]
  | cons s q=>show G'.H nx 0 0 (s::q)=_; rw [OM]; show (if 0=0∧0=0 then aB G.H i ver ep (p++s::q) else none)=_; rw [if_pos ⟨rfl,rfl⟩]
 have hle:Gh.Le G G':=⟨Mem.Le.refl _,fun _ _ q=>q,fun j v e q x hq=>by
  by_cases e2:j=nx
  ·subst e2; rw [dQ.2] at hq; cases hq
  ·rw [EJ j e2]; exact hq⟩
 have FX:∀b,bL G' i (κ' i) b→aQ (aB G.H i ver ep) d b∧¬ aQ (fun r=>aB G.H i ver ep (p++r)) c b:=fun b hb=>by
  rw [h1] at hb; simp only [bL] at hb; rw [Aj] at hb; exact f3 b hb
 have FY:∀b,bL G' nx (κ' nx) b→aQ (fun r=>aB G.H i ver ep (p++r)) c b:=fun b hb=>by
  rw [h2] at hb; simp only [bL] at hb; rw [ON] at hb; exact hb
 refine ⟨G',hle,rfl,rfl,fun r=>congrFun ON r,h.pI (C:=fun j=>j=i ∨ j=nx) ⟨hle,fun _ _=>rfl,fun j hj=>h3 j (fun e=>hj (.inl e)) (fun e=>hj (.inr e)),fun j hj=>⟨fun _ q=>q,fun v e q x hq=>?_⟩,fun _ _ _=>⟨rfl,rfl⟩,h.fit.sub,?_,?_,?_,Nat.le_refl _,rfl,rfl,rfl⟩ (fun _ _=>rfl)⟩
 ·rw [EJ j (fun e=>hj (.inr e))] at hq; exact hq
 ·rintro j (rfl | rfl)
  ·rw [h1]
   refine ⟨by rw [Aj]; exact f1,by rw [Aj]; exact f2,fun v hv e q=>?_,fun e he q=>?_⟩
   ·rw [EJ j Bk]; exact FW v hv e q
   ·rw [EJ j Bk]; exact fe e he q
  ·rw [h2]
   refine ⟨by rw [ON]; exact ht.sub hp hc,by rw [ON]; exact dB.sub hp,fun v hv e q=>?_,fun e he q=>?_⟩
   ·rw [OM]; show (if v=0∧e=0 then _ else _)=_; rw [if_neg (by omega)]
   ·rw [OM]; show (if 0=0∧e=0 then _ else _)=_; rw [if_neg (by omega)]
 ·rintro j b (rfl | rfl) hb
  ·have cL:=(FX b hb).1
   have:bL G j (κ j) b:=by rw [hi]; exact cL
   exact ⟨.inr ⟨j,.inl rfl,this⟩,h.fit.own j b this⟩
  ·have cL:=(FY b hb).sub hp
   have:bL G i (κ i) b:=by rw [hi]; exact cL
   exact ⟨.inr ⟨i,.inl rfl,this⟩,h.fit.own i b this⟩
 ·rintro j j' b (rfl | rfl) (rfl | rfl) hb cL
  ·rfl
  ·exact absurd (FY b cL) (FX b hb).2
  ·exact absurd (FY b hb) (FX b cL).2
  ·rfl
end
theorem rI {sz:Nat} {l:List DV} (fM:∀x,x∈l→x.bl) {p:List PS} {n:DV} (h:get (.aw sz l) p=some n) (ho:n.ah=true):p=[]∧n=.aw sz l:=by
 cases p with
 | nil=>simp [get] at h; exact ⟨rfl,h.symm⟩
 | cons s p =>
  exfalso
  simp only [get] at h
  cases s with
  | key k j=>simp [step] at h
  | el i j =>
   simp only [step] at h
   cases hm:l[i]? with
   | none=>rw [hm] at h; simp at h
   | some x =>
    rw [hm] at h
    simp only at h
    cases hc:x.cells[j]? with
    | none=>rw [hc] at h; simp at h
    | some c =>
     rw [hc] at h
     simp only at h
     have x4:c.ah=false:=fM x (List.mem_of_getElem? hm) c (List.mem_of_getElem? hc)
     cases p with
     | nil=>simp [get] at h; subst h; rw [x4] at ho; cases ho
     | cons s' p =>
      simp only [get] at h
      cases c <;> simp [step] at h <;> cases x4
theorem sY {P:Program} {f:Nat} (sj:gA P f) {rest:List AV} {m:Nat} {K3:aj} {sz:Nat} {l l':List DV} {D:DV} {p:List PS} (hp:get D p=some (.aw sz l)) (bJ:p ≠ []) (hm:1≤m) (On:∀i,m≤i→aa K3 i=.none)
  (fM:∀x,x∈l'→x.bl)
  (bj:∀(w:World) (G:Gh) (v:Value) (xs:List Value),Fit G w (aa ((0,.tree 0 0 D)::K3))→aB G.H 0 0 0 p=some v→ca G.M w v (fun s=>aB G.H 0 0 0 (p++[s])) (.aw sz l)→bU G rest xs →
   Calls P f (v::xs).toArray w fun e w'=>∃v',e=.returned v'∧v'.oneCell'=true∧w.grownBy w' (fj v)∧o9 w' v' sz l' (fun _ _ d u=>d.ah=false∧bo G.M d u)∧∀b,fj v'=some b→fj v=some b ∨ w.heap.size≤b) :
  aO P f (.own 0 0 0 p::rest) m ((0,.tree 0 0 D)::K3) 1 [.own m 1 0 []] ((m,.tree 1 0 (.aw sz l'))::(0,.tree 0 0 (bP D p .any))::K3):=by
 refine ⟨sj,fun w G vs oH ck hr=>?_⟩
 obtain ⟨x0,tz,rfl⟩:∃x0 tz,vs=x0::tz:=by
  cases vs with
  | nil=>have:=hr.1; simp at this
  | cons a l=>exact ⟨a,l,rfl⟩
 have kF:=hr.2 0 _ x0 rfl rfl
 have Fi:bU G rest tz:=⟨by have:=hr.1; simpa using this,fun j d v hd hv=>hr.2 (j+1) d v hd hv⟩
 cases kF with | own _ _ _ _ _ hu Km =>
 have uX:∀d,aa ((0,ar.tree 0 0 d)::K3) 0=.tree 0 0 d:=fun _=>rfl
 have Dk:∀d i,i ≠ 0→aa ((0,ar.tree 0 0 d)::K3) i=aa K3 i:=fun d i hi=>by
  simp only [aa]; rw [beq_false hi]; rfl
 obtain ⟨u0,V5,_,bf⟩:=ck.node (uX D) hp rfl
 rw [hu] at V5; injection V5 with V5; subst V5
 let g:dD:=⟨fun b=>∃i,bL G i (aa ((0,.tree 0 0 D)::K3) i) b,w,G.M,m,G.β,fun i p=>G.H i 0 0 p⟩
 have L7:cf g 0 (fun _=>.any) (aa ((0,.tree 0 0 D)::K3)) { tmps:=#[],defers:=[] } w G :=
  {fit:=ck,env:=fun t=>.any _,size:=rfl,x3:=fun _ _ _=>rfl,os:=rfl,tape:=rfl,output:=rfl,grow:=Nat.le_refl _,mem:=.refl G.M,lL:=fun _ _ _=>rfl,fE:=fun i b ho=>.inr ⟨i,ho⟩,jg:=fun _ _=>rfl,pH:=fun _ _ _ _ hx=>hx,nk:=oH,r8:=⟨[],rfl,List.nodup_nil,by simp⟩ }
 have hmn:aa ((0,.tree 0 0 D)::K3) m=.none:=by rw [Dk D m (by omega)]; exact On m (Nat.le_refl _)
 obtain ⟨G1,g1,g2,g3,g4,g7⟩:=L7.Sb (κ':=az (aa ((0,.tree 0 0 D)::K3)) [(m,.tree 0 0 (.aw sz l)),(0,.tree 0 0 (bP D p .any))]) (i:=0) (nx:=m) (uX D) hmn hp rfl bJ
  (by simp only [az]; rw [ae _ _ (by omega)]; simp) (by simp [az]) (fun j h1 h2=>by simp only [az]; rw [ae _ _ h2,ae _ _ h1])
 refine Calls.mono (bj w G x0 tz ck hu bf Fi) ?_
 rintro e w' ⟨v',rfl,qM,UA,iK,Q1⟩
 have Kn:aB G1.H m 0 0 []=some x0:=by rw [g4 [],List.append_nil]; exact hu
 have hκm:az (aa ((0,.tree 0 0 D)::K3)) [(m,.tree 0 0 (.aw sz l)),(0,.tree 0 0 (bP D p .any))] m=.tree 0 0 (.aw sz l):=by simp [az]
 have ki:=g7.fit.box m
 rw [hκm] at ki
 have Mm:∀b,fj x0=some b→bL G1 m (az (aa ((0,.tree 0 0 D)::K3)) [(m,.tree 0 0 (.aw sz l)),(0,.tree 0 0 (bP D p .any))] m) b:=fun b hb=>by
  rw [hκm]; exact ⟨[],_,x0,rfl,rfl,Kn,hb⟩
 obtain ⟨G',k1,k2,k3,k4,_,_,k7⟩:=g7.kl (κ':=aa ((m,.tree 1 0 (.aw sz l'))::(0,.tree 0 0 (bP D p .any))::K3)) (w':=w') (i:=m) (ver:=1) (ep:=0) (d:=.aw sz l') (fun _=>False) (fun q=>if q=[] then some v' else none) (fun h=>h)
  (.inr ⟨0,0,_,hκm,by omega,by omega⟩) (fun _ h=>h.elim) (by simp only [aa,Nat.beq_refl,cond_true]) (fun j hj _=>by
   show (bif Nat.beq m j then ar.tree 1 0 (.aw sz l') else aa ((0,.tree 0 0 (bP D p .any))::K3) j)=_
   rw [beq_false hj]
   simp only [cond_false,az]
   rw [ae _ _ hj]
   by_cases h0:j=0
   ·subst h0; rw [aZ]; rfl
   ·rw [ae _ _ h0,Dk D j h0,Dk _ j h0])
  (fun q y hy=>by
   cases q with
   | nil=>simp only [aB] at hy; rw [ki.2.2.1 1 (by omega)] at hy; cases hy
   | cons s q=>simp only [aB] at hy; rw [ki.2.2.1 1 (by omega)] at hy; cases hy)
  ⟨rfl,fun q y hy ho=>by
   obtain ⟨rfl,rfl⟩:=rI fM hy ho
   refine ⟨v',by simp,qM,?_⟩
   rcases iK with ⟨rfl,rfl⟩ | ⟨gb,o,cap,c,t,rfl,a1,a2,a3,a4⟩
   ·exact .inl ⟨rfl,rfl⟩
   ·refine .inr ⟨gb,o,cap,c,t,rfl,a1,a2,a3,fun i x hx=>⟨(a4 i x hx).1,fun j d hd=>?_⟩⟩
    obtain ⟨b1,u,b2,b3,b4⟩:=(a4 i x hx).2 j d hd
    exact ⟨b1,u,b2,.inr ⟨b3,by rw [g2]; exact b4⟩⟩⟩
  (fun q q' y y' u v b e1 e2 _ _ f1 f2 _ _=>by rw [(rI fM e1 e2).1,(rI fM f1 f2).1])
  (fun b ⟨q,y,u,h1,h2,h3,h4⟩=>by
   obtain ⟨rfl,rfl⟩:=rI fM h1 h2
   simp at h3; subst h3
   rcases Q1 b h4 with h5 | h5
   ·exact .inr (.inl (Mm b h5))
   ·exact .inl h5)
  (fun b hb dj _=>UA.block b hb fun e=>dj (Mm b e.symm))
  (fun b hb=>by
   rcases hb with h5 | ⟨_,h5,_⟩
   ·exact g7.fit.own m b h5
   ·exact h5.elim)
  UA.size UA.os UA.tape UA.output
 refine ⟨_,_,_,G',rfl,⟨rfl,rfl⟩,?_⟩
 refine ⟨k7.fit,fun i hi=>?_,?_,k7.mem,k7.jg,k7.pH,fun b hb hO=>⟨k7.x3 b hb (fun ⟨i,h⟩=>hO i h),k7.lL b hb (fun ⟨i,h⟩=>hO i h)⟩,k7.fE,k7.os,k7.tape,k7.output,k7.grow⟩
 ·show (bif Nat.beq m i then ar.tree 1 0 (.aw sz l') else aa ((0,.tree 0 0 (bP D p .any))::K3) i)=_
  rw [beq_false (by omega)]
  simp only [cond_false]
  rw [Dk _ i (by omega)]
  exact On i (by omega)
 ·exact .own _ _ _ _ _ ((k4 []).trans (by simp)) qM
end Go.TM
namespace Go.TM
open Go.RowKit
variable [cu]
def YZ:XC:=⟨false,0,fun _ _ _ _=>.no [],fun _ _ _=>.no []⟩
def Mn (T:List TI) (pol:Nat→Bool) (ops:List Oper) (n nx:Nat) (ρ0:Nat→AV) (κ0:Nat→ar) (rs:List Rec) (p:Nat × Nat):Option (List Nat × jH):=match ops[p.1]? with
 | none=>none
 | some o=>match o.guard with
  | some _=>none
  | none=>match (NS T pol YZ nx (CB ρ0 rs p.1) (yi κ0 rs ops.length p.1 p.2) o.op).bind fun r=>mZ n o.dst r with
   | .ok e=>some (fF (CB ρ0 rs p.1) (yi κ0 rs ops.length p.1 p.2) o,e.1)
   | .no _=>none
def Mo (T:List TI) (pol:Nat→Bool) (ops:List Oper) (n nx:Nat) (ρ0:Nat→AV) (κ0:Nat→ar) (rs:List Rec):List (Nat × Nat)→List (Option (List Nat × jH))
 | []=>[]
 | p::r=>Mn T pol ops n nx ρ0 κ0 rs p::Mo T pol ops n nx ρ0 κ0 rs r
def Sc (rs:List Rec):List (Nat × Nat)→List (Option (List Nat × jH))
 | []=>[]
 | p::r=>(rs[p.1]?.map fun c=>(c.rows,c.bk))::Sc rs r
theorem rJ {P:Program} {T:List TI} {pol:Nat→Bool} {ops:List Oper} {n nx:Nat} {ρ0:Nat→AV} {κ0:Nat→ar} {rs:List Rec}:∀{sf:List (Nat × Nat)},(sf.all fun p=>(rs[p.1]?).isSome)=true→Mo T pol ops n nx ρ0 κ0 rs sf=Sc rs sf→CC P T ops n nx ρ0 κ0 rs sf
 | [],_,_=>trivial
 | (j,x)::sf,hp,h=>by
  simp only [Mo,Sc,List.cons.injEq] at h
  obtain ⟨h1,h2⟩:=h
  simp only [List.all_cons,Bool.and_eq_true] at hp
  refine ⟨?_,rJ hp.2 h2⟩
  have hj:(rs[j]?).isSome=true:=hp.1
  cases hr:rs[j]? with
  | none=>rw [hr] at hj; cases hj
  | some rc =>
   unfold Mn at h1
   rw [hr] at h1
   simp only [Option.map_some] at h1
   cases ho:ops[j]? with
   | none=>rw [ho] at h1; cases h1
   | some o =>
    rw [ho] at h1
    simp only at h1 ⊢
    cases hg:o.guard with
    | some q=>rw [hg] at h1; cases h1
    | none =>
     rw [hg] at h1
     simp only at h1
     split at h1
     ·rename_i e he
      injection h1 with h1
      injection h1 with h3 h4
      refine ⟨h3.symm,fun hT C hC hn=>?_⟩
      obtain ⟨r,e1,e2⟩:=ad he
      exact Dd hT (c:=YZ) (fun f args m K r hh=>by cases hh) (fun args m K r hh=>by cases hh) hC hn hg e1 e2 h4
     ·cases h1
end Go.TM
