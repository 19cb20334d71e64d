import Derived.Test.YtpbdohkbiklflaaGreatDoorSM19
set_option linter.unusedVariables false
set_option linter.unusedSimpArgs false
set_option linter.unusedSectionVars false
namespace Go.TM
open Go.RowKit
variable [cj]
theorem uM {G G':Gh} {ok:Nat→Bool} (hM:Mem.Le G.M G'.M) (hβ:∀j b,G.β j=some b→G'.β j=some b) (hH:∀j v e p x,ok j=true→az G.H j v e p=some x→az G'.H j v e p=some x):∀N:Nat,
  (∀(u:AV) (x:Value),SizeOf.sizeOf u<N→AV.nm ok u=true→aC G u x→aC G' u x)∧(∀(us:List AV) (xs:List Value),SizeOf.sizeOf us<N→AV.we ok us=true→bJ G us xs→bJ G' us xs):=by
 intro N
 induction N with
 | zero=>exact ⟨fun _ _ h=>by omega,fun _ _ h=>by omega⟩
 | succ N ih =>
  refine ⟨fun u x aN hn hv=>?_,fun us xs aN hn hr=>?_⟩
  ·cases u with
   | any=>exact .any _
   | dv d=>cases hv with | dv h=>exact .dv (h.mono hM)
   | ptr i off=>cases hv with | ptr _ _ b h=>exact .ptr _ off b (hβ _ _ h)
   | fc i=>cases hv with | fc _ b h=>exact .fc _ b (hβ _ _ h)
   | sle i n=>cases hv with | sle _ _ b h=>exact .sle _ n b (hβ _ _ h)
   | bM i v =>
    simp only [AV.nm] at hn
    cases hv with | bM _ _ a n h=>exact .bM _ _ a n (hH i v 0 [] _ hn h)
   | own i v e p =>
    simp only [AV.nm] at hn
    cases hv with | own _ _ _ _ _ h hc=>exact .own _ _ _ p x (hH _ _ _ _ _ hn h) hc
   | loc i v e p a b c =>
    simp only [AV.nm] at hn
    cases hv with
    | loc _ _ _ _ _ _ _ A q q' h=>exact .loc _ _ _ p a b c A q q' (hH _ _ _ _ _ hn h)
    | lP _ _ _ _ _ _ _ A h=>exact .lP _ _ _ p a b c A (hH _ _ _ _ _ hn h)
   | pre i v e p a b c =>
    simp only [AV.nm] at hn
    cases hv with
    | pre _ _ _ _ _ _ _ q q' h=>exact .pre _ _ _ p a b c q q' fun hz=>by obtain ⟨A,N,c',e1,e2⟩:=h hz; exact ⟨A,N,c',hH _ _ _ _ _ hn e1,e2⟩
   | fn f l=>simp only [AV.nm] at hn; cases hv with | fn _ _ vs hl hr=>have:=ih.2 l vs (by simp at aN; omega) hn ⟨hl,hr⟩; exact .fn f _ vs this.1 this.2
   | gJ f l=>simp only [AV.nm] at hn; cases hv with | gJ _ _ vs hl hr=>have:=ih.2 l vs (by simp at aN; omega) hn ⟨hl,hr⟩; exact .gJ f _ vs this.1 this.2
   | agg l=>simp only [AV.nm] at hn; cases hv with | agg _ vs hl hr=>have:=ih.2 l vs (by simp at aN; omega) hn ⟨hl,hr⟩; exact .agg _ vs this.1 this.2
   | eJ l=>simp only [AV.nm] at hn; cases hv with | eJ _ vs hl hr=>have:=ih.2 l vs (by simp at aN; omega) hn ⟨hl,hr⟩; exact .eJ _ vs this.1 this.2
   | opt g v=>simp only [AV.nm] at hn; cases hv with | opt _ _ _ h hu=>exact .opt g _ x (fun hg=>ih.1 v x (by simp at aN; omega) hn (h hg)) hu
  ·cases us with
   | nil=>exact ⟨hr.1,by simp⟩
   | cons u us =>
    simp only [AV.we,Bool.and_eq_true] at hn
    cases xs with
    | nil=>simp [bJ] at hr
    | cons x xs =>
     have h1:=ih.1 u x (by simp at aN; omega) hn.1 (hr.2 0 u x rfl rfl)
     have h2:=ih.2 us xs (by simp at aN; omega) hn.2 ⟨by have:=hr.1; simpa using this,fun j d v hd hv=>hr.2 (j+1) d v hd hv⟩
     refine ⟨by have:=h2.1; simp [this],fun j d v hd hv=>?_⟩
     cases j with
     | zero=>simp at hd hv; subst hd; subst hv; exact h1
     | succ j=>exact h2.2 j d v hd hv
open Classical in
noncomputable def fC (p:List PS) (nh h:List PS→Option Value):List PS→Option Value:=fun q=>if p <+: q then nh (q.drop p.length) else h q
theorem eZ {p r:List PS} {nh h:List PS→Option Value}:fC p nh h (p++r)=nh r:=by
 unfold fC; rw [if_pos (List.prefix_append p r)]; simp
theorem dO {p q:List PS} {nh h:List PS→Option Value} (e:¬ p <+: q):fC p nh h q=h q:=by
 unfold fC; rw [if_neg e]
open Classical in
theorem xj {M:Mem} {w w':World} {h nh:List PS→Option Value} {D c c':DV} {p:List PS} {u:Value} (ht:aO M w h D) (hi:eX h D) (hp:get D p=some c) (hc:c.ae=true) (bA:p ≠ []) (hu:h p=some u)
  (KO:aO M w' nh c') (vL:eX nh c') (KP:nh []=some u)
  (jv:∀b,aJ h D b→¬ aJ (fun r=>h (p++r)) c b→w'.heap[b]?=w.heap[b]?)
  (dj:∀b,aJ nh c' b→aJ (fun r=>h (p++r)) c b ∨ w.heap.size≤b) :
  aO M w' (fC p nh h) (bH D p c')∧eX (fC p nh h) (bH D p c')∧∀b,aJ (fC p nh h) (bH D p c') b→aJ h D b ∨ w.heap.size≤b:=by
 have cJ:∀(q:List PS) (x:DV),get D q=some x→q ≠ []→x.aj=true:=fun q x hx _=>ht.cells q x hx
 have FP:=dS KO.1
 have la:∀q m,get (bH D p c') q=some m→m.ae=true →
   (∃r,q=p++r∧get c' r=some m) ∨ (¬ p <+: q∧∃x,get D q=some x∧x.ae=true∧m=if q <+: p then bH x (p.drop q.length) c' else x):=by
  intro q m hm yU
  by_cases gm:p <+: q
  ·obtain ⟨r,rfl⟩:=bB gm
   rw [fN hp FP cJ] at hm
   exact .inl ⟨r,rfl,hm⟩
  ·right
   rw [fO FP cJ gm] at hm
   refine ⟨gm,?_⟩
   cases hx:get D q with
   | none=>rw [hx] at hm; cases hm
   | some x =>
    rw [hx] at hm
    simp only [Option.some.injEq] at hm
    refine ⟨x,rfl,?_,hm.symm⟩
    by_cases hq:q <+: p
    ·rw [if_pos hq] at hm
     subst hm
     obtain ⟨r,rfl⟩:=bB hq
     cases r with
     | nil=>exact absurd (by simp) gm
     | cons s r=>simp only [List.drop_left] at yU; rw [dQ] at yU; exact yU
    ·rw [if_neg hq] at hm; subst hm; exact yU
 have beside:∀q x v b,¬ p <+: q→get D q=some x→x.ae=true→h q=some v→eW v=some b→¬ aJ (fun r=>h (p++r)) c b:=by
  rintro q x v b gm hx wq hv hb ⟨r,m,v',e1,e2,e3,e4⟩
  have:=hi q (p++r) x m v v' b hx wq hv hb (by rw [get_append,hp]; exact e1) e2 e3 e4
  exact gm (by rw [this]; exact List.prefix_append p r)
 refine ⟨⟨?_,fun q m hm yU=>?_⟩,?_,?_⟩
 ·cases p with
  | nil=>exact absurd rfl bA
  | cons s p=>rw [dQ]; exact ht.1
 ·rcases la q m hm yU with ⟨r,rfl,hr⟩ | ⟨gm,x,hx,wq,Vq⟩
  ·obtain ⟨v,h1,h2,h3⟩:=KO.2 r m hr yU
   refine ⟨v,eZ.trans h1,h2,?_⟩
   have:(fun s=>fC p nh h (p++r++[s]))=fun s=>nh (r++[s]):=by funext s; rw [List.append_assoc,eZ]
   rw [this]; exact h3
  ·obtain ⟨v,h1,h2,h3⟩:=ht.2 q x hx wq
   refine ⟨v,(dO gm).trans h1,h2,?_⟩
   have dU:bQ M w' v (fun s=>fC p nh h (q++[s])) x:=by
    refine h3.fG (Mem.Le.refl _) (fun b hb=>jv b ⟨_,x,v,hx,wq,h1,hb⟩ (beside q x v b gm hx wq h1 hb)) (fun s' c2 dp lQ y hy=>?_) h3.keys
    by_cases e:p <+: q++[s']
    ·have:p=q++[s']:=by
      obtain ⟨r,hr⟩:=e
      rcases List.eq_nil_or_concat r with rfl | ⟨r',z,rfl⟩
      ·simpa using hr
      ·rw [List.concat_eq_append,←List.append_assoc] at hr
       have:=(List.append_inj' hr (by simp)).1
       exact absurd ⟨r',this⟩ gm
     rw [←this] at hy ⊢
     rw [hu] at hy
     have:=eZ (p:=p) (r:=[]) (nh:=nh) (h:=h)
     rw [List.append_nil] at this
     rw [this,KP]; exact hy
    ·rw [dO e]; exact hy
   rw [Vq]
   by_cases hq:q <+: p
   ·rw [if_pos hq]
    obtain ⟨r,rfl⟩:=bB hq
    cases r with
    | nil=>exact absurd (by simp) gm
    | cons s r =>
     simp only [List.drop_left]
     rw [get_append,hx] at hp
     simp only [get] at hp
     cases hs:step x s with
     | none=>rw [hs] at hp; cases hp
     | some c1 =>
      rw [hs] at hp
      have jy:c1.ae=true:=by
       cases r with
       | nil=>simp [get] at hp; subst hp; exact hc
       | cons s' r=>simp only [get] at hp; cases dp:step c1 s' with
        | none=>rw [dp] at hp; cases hp
        | some _=>exact dR dp
      have oX:(bH c1 r c').ae=true:=by
       cases r with
       | nil=>exact KO.1
       | cons s' r=>rw [dQ]; exact jy
      simp only [bH,hs]
      exact dU.EH hs jy oX
   ·rw [if_neg hq]; exact dU
 ·intro q q' m m' v v' b e1 e2 e3 e4 f1 f2 f3 f4
  rcases la q m e1 e2 with ⟨r,rfl,hr⟩ | ⟨gm,x,hx,wq,_⟩
  ·rcases la q' m' f1 f2 with ⟨r',rfl,Cr⟩ | ⟨KQ,x',vO,KR,_⟩
   ·rw [eZ] at e3 f3
    rw [vL r r' m m' v v' b hr e2 e3 e4 Cr f2 f3 f4]
   ·exfalso
    rw [eZ] at e3
    rw [dO KQ] at f3
    rcases dj b ⟨r,m,v,hr,e2,e3,e4⟩ with h5 | h5
    ·exact beside q' x' v' b KQ vO KR f3 f4 h5
    ·have:=ht.lt (b:=b) ⟨q',x',v',vO,KR,f3,f4⟩
     omega
  ·rcases la q' m' f1 f2 with ⟨r',rfl,Cr⟩ | ⟨KQ,x',vO,KR,_⟩
   ·exfalso
    rw [eZ] at f3
    rw [dO gm] at e3
    rcases dj b ⟨r',m',v',Cr,f2,f3,f4⟩ with h5 | h5
    ·exact beside q x v b gm hx wq e3 e4 h5
    ·have:=ht.lt (b:=b) ⟨q,x,v,hx,wq,e3,e4⟩
     omega
   ·rw [dO gm] at e3
    rw [dO KQ] at f3
    exact hi q q' x x' v v' b hx wq e3 e4 vO KR f3 f4
 ·rintro b ⟨q,m,v,e1,e2,e3,e4⟩
  rcases la q m e1 e2 with ⟨r,rfl,hr⟩ | ⟨gm,x,hx,wq,_⟩
  ·rw [eZ] at e3
   rcases dj b ⟨r,m,v,hr,e2,e3,e4⟩ with h5 | h5
   ·exact .inl (aJ.sub hp h5)
   ·exact .inr h5
  ·rw [dO gm] at e3
   exact .inl ⟨q,x,v,hx,wq,e3,e4⟩
def ak.yX:ak→Bool
 | .iF _ _ _ _ _=>false
 | _=>true
def AR (ok:Nat→Bool):af→Bool
 | []=>true
 | (i,b)::r=>(ok i && b.yX && b.PC ok) && AR ok r
theorem jg {ok:Nat→Bool}:∀{K:af} {i:Nat},AR ok K=true→aa K i ≠ .none→ok i=true∧(aa K i).yX=true∧(aa K i).PC ok=true
 | [],i,_,h=>absurd rfl h
 | (j,b)::r,i,hk,h=>by
  simp only [AR,Bool.and_eq_true] at hk
  simp only [aa] at h ⊢
  cases e:Nat.beq j i with
  | true=>have:=Nat.eq_of_beq_eq_true e; subst this; exact ⟨hk.1.1.1,hk.1.1.2,hk.1.2⟩
  | false=>rw [e] at h; exact jg hk.2 h
theorem fP.nm {G G':Gh} {w:World} {i:Nat} {b:ak} {ok:Nat→Bool} (h:fP G w i b) (hp:b.yX=true) (hn:b.PC ok=true) (hM:G'.M=G.M) (hβ:G'.β=G.β) (hi:G'.H i=G.H i) (hH:∀j v e p x,ok j=true→az G.H j v e p=some x→az G'.H j v e p=some x):fP G' w i b:=by
 have dr:=uM (G:=G) (G':=G') (ok:=ok) (by rw [hM]; exact Mem.Le.refl _) (fun j b h=>by rw [hβ]; exact h) hH
 have Fi:∀v e,az G'.H i v e=az G.H i v e:=fun v e=>by funext p; cases p <;> simp [az,hi]
 cases b with
 | none=>exact ⟨by rw [hβ]; exact h.1,fun v e p=>by rw [hi]; exact h.2 v e p⟩
 | dead=>trivial
 | cells l =>
  obtain ⟨b,c,t,h1,h2,h3,h4,h5⟩:=h
  have:=(dr (SizeOf.sizeOf l+1)).2 l c.toList (by omega) hn ⟨by simp [h3],fun j d v hd hv=>h5 j d v hd (by simpa using hv)⟩
  exact ⟨b,c,t,by rw [hβ]; exact h1,h2,h3,h4,fun j d v hd hv=>this.2 j d v hd (by simpa using hv)⟩
 | tree v e d =>
  obtain ⟨h1,h2,h3,h4⟩:=h
  exact ⟨by rw [Fi,hM]; exact h1,by rw [Fi]; exact h2,fun v' hv e p=>by rw [hi]; exact h3 v' hv e p,fun e' he p=>by rw [hi]; exact h4 e' he p⟩
 | fz v d =>
  obtain ⟨x,h1,h2,h3⟩:=h
  exact ⟨x,by rw [hi]; exact h1,h2,by rw [hM]; exact h3⟩
 | eg rc st l =>
  obtain ⟨b,fn,tmps,D,h1,h2,h3⟩:=h
  exact ⟨b,fn,tmps,D,by rw [hβ]; exact h1,h2,(dr (SizeOf.sizeOf l+1)).2 l tmps.toList (by omega) hn h3⟩
 | held=>exact ⟨fun v hv e p=>by rw [hi]; exact h.1 v hv e p,fun e he p=>by rw [hi]; exact h.2 e he p⟩
 | iF=>cases hp
theorem bE.nm {G G':Gh} {i:Nat} {b:ak} (hp:b.yX=true) (hβ:G'.β=G.β) (hi:G'.H i=G.H i) (x:Nat):bE G' i b x ↔ bE G i b x:=by
 have Fi:∀v e,az G'.H i v e=az G.H i v e:=fun v e=>by funext p; cases p <;> simp [az,hi]
 cases b with
 | tree v e d=>simp only [bE,Fi]
 | cells=>simp only [bE,hβ]
 | eg=>simp only [bE,hβ]
 | iF=>cases hp
 | _=>exact Iff.rfl
theorem oJ {P:Program} {f:Nat} {rest:List AV} {ex e:Nat} {rs:List AV} {c c' D:DV} {K3:af} {p:List PS}
  (h:bg P f (.own 0 0 0 []::rest) 1 [(0,.tree 0 0 c)] ex rs ((0,.tree 0 e c')::K3)) (hp:get D p=some c) (bA:p ≠ []) (hc:c.ae=true)
  (IF:AV.we (fun i=>!Nat.beq i 0) rest=true) (n9:AV.we (fun i=>!Nat.beq i 0) rs=true) (Kt:AR (fun i=>!Nat.beq i 0) K3=true) :
  bg P f (.own 0 0 0 p::rest) 1 [(0,.tree 0 0 D)] ex rs ((0,.tree 0 (e+1) (bH D p c'))::K3):=by
 refine ⟨h.1,fun w G vs rU cC hr=>?_⟩
 have vQ:∀d,aa [(0,ak.tree 0 0 d)] 0=.tree 0 0 d:=fun _=>rfl
 have AS:∀d i,i ≠ 0→aa [(0,ak.tree 0 0 d)] i=.none:=fun d i hi=>by
  simp only [aa]; rw [beq_false hi]; rfl
 have iQ:=cC.box 0
 rw [vQ] at iQ
 obtain ⟨ht,dk,JX,n6⟩:=iQ
 obtain ⟨x0,rD,rfl⟩:∃x0 rD,vs=x0::rD:=by
  cases vs with
  | nil=>have:=hr.1; simp at this
  | cons a l=>exact ⟨a,l,rfl⟩
 have jO:=hr.2 0 _ x0 rfl rfl
 have Cr:bJ G rest rD:=⟨by have:=hr.1; simpa using this,fun j d v hd hv=>hr.2 (j+1) d v hd hv⟩
 cases jO with | own _ _ _ _ _ hu GH =>
 let fx:Nat→Nat→List PS→Option Value:=fun v e q=>if v=0∧e=0 then az G.H 0 0 0 (p++q) else none
 let G1:Gh:={ G with H:=cX G.H 0 fx }
 have GI:G1.H 0=fx:=by show cX G.H 0 fx 0=fx; exact ei _ _ _
 have BW:∀j,j ≠ 0→G1.H j=G.H j:=fun j hj=>by show cX G.H 0 fx j=_; exact dy _ _ hj
 have vW:az G1.H 0 0 0=fun r=>az G.H 0 0 0 (p++r):=by
  funext q
  cases q with
  | nil=>show G1.H 0 0 0 []=_; rw [GI]; show (if 0=0∧0=0 then _ else _)=_; rw [if_pos ⟨rfl,rfl⟩]
  | cons s q=>show G1.H 0 0 0 (s::q)=_; rw [GI]; show (if 0=0∧0=0 then _ else _)=_; rw [if_pos ⟨rfl,rfl⟩]
 have bK:∀j v e q x,(!Nat.beq j 0)=true→az G.H j v e q=some x→az G1.H j v e q=some x:=fun j v e q x hj hx=>by
  have BV:j ≠ 0:=by rintro rfl; simp at hj
  cases q with
  | nil=>show G1.H j v 0 []=_; rw [BW j BV]; exact hx
  | cons s q=>show G1.H j v e (s::q)=_; rw [BW j BV]; exact hx
 have IG:bJ G1 (.own 0 0 0 []::rest) (x0::rD):=by
  have h2:=(uM (G:=G) (G':=G1) (Mem.Le.refl _) (fun _ _ h=>h) bK (SizeOf.sizeOf rest+1)).2 rest rD (by omega) IF Cr
  refine ⟨by have:=h2.1; simp [this],fun j d v hd hv=>?_⟩
  cases j with
  | zero =>
   simp at hd hv; subst hd; subst hv
   refine .own _ _ _ _ _ ?_ GH
   show az G1.H 0 0 0 []=_
   rw [vW]; simpa using hu
  | succ j=>exact h2.2 j d v hd hv
 have IH:Fit G1 w (aa [(0,ak.tree 0 0 c)]):=by
  have CY:∀i b,bE G1 i (aa [(0,ak.tree 0 0 c)] i) b→i=0∧aJ (az G.H 0 0 0) D b:=fun i b ho=>by
   by_cases hi:i=0
   ·subst hi
    rw [vQ] at ho
    have ho:aJ (az G1.H 0 0 0) c b:=ho
    rw [vW] at ho
    exact ⟨rfl,aJ.sub hp ho⟩
   ·rw [AS c i hi] at ho; exact ho.elim
  refine ⟨cC.sub,fun i=>?_,fun i b ho=>?_,fun i j b h1 h2=>by rw [(CY i b h1).1,(CY j b h2).1]⟩
  ·by_cases hi:i=0
   ·subst hi
    rw [vQ]
    refine ⟨by rw [vW]; exact ht.sub hp hc,by rw [vW]; exact dk.sub hp,fun v hv e q=>?_,fun e he q=>?_⟩
    ·rw [GI]; show (if _ then _ else _)=_; rw [if_neg (by omega)]
    ·rw [GI]; show (if _ then _ else _)=_; rw [if_neg (by omega)]
   ·rw [AS c i hi]
    have:=cC.box i
    rw [AS D i hi] at this
    exact ⟨this.1,fun v e q=>by rw [BW i hi]; exact this.2 v e q⟩
  ·obtain ⟨rfl,BQ⟩:=CY i b ho
   exact cC.own 0 b (by rw [vQ]; exact BQ)
 refine Calls.mono (h.2 w G1 (x0::rD) rU IH IG) ?_
 rintro ee w' ⟨v,oi,K',G',rfl,⟨rfl,rfl⟩,hC⟩
 have wu:∀b i,aa ((0,b)::K3) i=if i=0 then b else aa K3 i:=fun b i=>by
  simp only [aa]
  by_cases hi:i=0
  ·subst hi; rfl
  ·rw [beq_false hi,if_neg hi]; rfl
 have cE:=hC.fit.box 0
 rw [wu,if_pos rfl] at cE
 obtain ⟨KO,II,SP,SQ⟩:=cE
 have KP:az G'.H 0 0 e []=some x0:=by
  show G'.H 0 0 0 []=some x0
  refine hC.rE 0 (by omega) [] x0 ?_
  have:az G1.H 0 0 0 []=some x0:=by rw [vW]; simpa using hu
  exact this
 have rX:∀b,bE G1 0 (aa [(0,ak.tree 0 0 c)] 0) b ↔ aJ (fun r=>az G.H 0 0 0 (p++r)) c b:=fun b=>by
  rw [vQ]
  show aJ (az G1.H 0 0 0) c b ↔ _
  rw [vW]
 have eO:∀b,(∃j,bE G1 j (aa [(0,ak.tree 0 0 c)] j) b)→aJ (fun r=>az G.H 0 0 0 (p++r)) c b:=by
  rintro b ⟨j,ho⟩
  by_cases hj:j=0
  ·subst hj; exact (rX b).1 ho
  ·rw [AS c j hj] at ho; exact ho.elim
 have Qe:aO G'.M w (az G.H 0 0 0) D:=ht.fG hC.le (fun _ _=>rfl) (fun _ _ _ _ _ h=>h)
 obtain ⟨t1,t2,t3⟩:=xj (w':=w') Qe dk hp hc bA hu KO II KP
  (fun b hb SR=>(hC.frame b (Qe.lt hb) fun i ho=>SR (eO b ⟨i,ho⟩)).1)
  (fun b hb=>by
   rcases hC.ow 0 b (by rw [wu,if_pos rfl]; exact hb) with h5 | h5
   ·exact .inr h5
   ·exact .inl (eO b h5))
 let f2:Nat→Nat→List PS→Option Value:=fun v e' q=>if v=0∧e'=e+1 then (match q with | []=>none | q=>fC p (az G'.H 0 0 e) (az G.H 0 0 0) q) else if v=0∧e'=0 then az G.H 0 0 0 q else none
 let G2:Gh:={ G' with H:=cX G'.H 0 f2 }
 have uN:G2.H 0=f2:=by show cX G'.H 0 f2 0=f2; exact ei _ _ _
 have uO:∀j,j ≠ 0→G2.H j=G'.H j:=fun j hj=>by show cX G'.H 0 f2 j=_; exact dy _ _ hj
 have kE:fC p (az G'.H 0 0 e) (az G.H 0 0 0) []=az G.H 0 0 0 []:=dO (by
  rintro ⟨r,hr⟩
  exact bA (List.append_eq_nil_iff.1 hr).1)
 have NX:az G2.H 0 0 (e+1)=fC p (az G'.H 0 0 e) (az G.H 0 0 0):=by
  funext q
  cases q with
  | nil =>
   rw [kE]
   show G2.H 0 0 0 []=_
   rw [uN]
   show (if 0=0∧0=e+1 then _ else if 0=0∧0=0 then _ else _)=_
   rw [if_neg (by omega),if_pos ⟨rfl,rfl⟩]
  | cons s q =>
   show G2.H 0 0 (e+1) (s::q)=_
   rw [uN]
   show (if 0=0∧e+1=e+1 then _ else _)=_
   rw [if_pos ⟨rfl,rfl⟩]
 have IJ:∀j v e q x,(!Nat.beq j 0)=true→az G'.H j v e q=some x→az G2.H j v e q=some x:=fun j v e q x hj hx=>by
  have BV:j ≠ 0:=by rintro rfl; simp at hj
  cases q with
  | nil=>show G2.H j v 0 []=_; rw [uO j BV]; exact hx
  | cons s q=>show G2.H j v e (s::q)=_; rw [uO j BV]; exact hx
 have uP:∀i b,bE G2 i (aa ((0,ak.tree 0 (e+1) (bH D p c'))::K3) i) b→(i=0∧(aJ (az G.H 0 0 0) D b ∨ w.heap.size≤b)∧aJ (fC p (az G'.H 0 0 e) (az G.H 0 0 0)) (bH D p c') b) ∨ (i ≠ 0∧bE G' i (aa ((0,ak.tree 0 e c')::K3) i) b):=fun i b ho=>by
  rw [wu] at ho
  by_cases hi:i=0
  ·subst hi
   rw [if_pos rfl] at ho
   have ho:aJ (az G2.H 0 0 (e+1)) (bH D p c') b:=ho
   rw [NX] at ho
   exact .inl ⟨rfl,t3 b ho,ho⟩
  ·rw [if_neg hi] at ho
   refine .inr ⟨hi,?_⟩
   rw [wu,if_neg hi]
   by_cases hn:aa K3 i=.none
   ·rw [hn] at ho; exact ho.elim
   ·exact (bE.nm (G:=G') (G':=G2) (jg Kt hn).2.1 rfl (uO i hi) b).1 ho
 have uQ:∀b,aJ (fC p (az G'.H 0 0 e) (az G.H 0 0 0)) (bH D p c') b→bE G' 0 (aa ((0,ak.tree 0 e c')::K3) 0) b ∨ (aJ (az G.H 0 0 0) D b∧¬ aJ (fun r=>az G.H 0 0 0 (p++r)) c b):=by
  rintro b ⟨q,m,x,e1,e2,e3,e4⟩
  by_cases gm:p <+: q
  ·obtain ⟨r,rfl⟩:=bB gm
   rw [eZ] at e3
   rw [fN hp (dS KO.1) (fun q x hx _=>ht.cells q x hx)] at e1
   exact .inl (by rw [wu,if_pos rfl]; exact ⟨r,m,x,e1,e2,e3,e4⟩)
  ·right
   rw [dO gm] at e3
   rw [fO (dS KO.1) (fun q x hx _=>ht.cells q x hx) gm] at e1
   cases hx:get D q with
   | none=>rw [hx] at e1; cases e1
   | some y =>
    have Ub:y.ae=true:=by
     rw [hx] at e1
     simp only [Option.some.injEq] at e1
     by_cases hq:q <+: p
     ·rw [if_pos hq] at e1
      subst e1
      obtain ⟨r,rfl⟩:=bB hq
      cases r with
      | nil=>exact absurd (by simp) gm
      | cons s r=>simp only [List.drop_left] at e2; rw [dQ] at e2; exact e2
     ·rw [if_neg hq] at e1; subst e1; exact e2
    refine ⟨⟨q,y,x,hx,Ub,e3,e4⟩,?_⟩
    rintro ⟨r,m',x',g1,g2,g3,g4⟩
    have:=dk q (p++r) y m' x x' b hx Ub e3 e4 (by rw [get_append,hp]; exact g1) g2 g3 g4
    exact gm (by rw [this]; exact List.prefix_append p r)
 have apart:∀i b,i ≠ 0→bE G' i (aa ((0,ak.tree 0 e c')::K3) i) b→¬ aJ (fC p (az G'.H 0 0 e) (az G.H 0 0 0)) (bH D p c') b:=by
  intro i b hi ho hT
  rcases uQ b hT with h5 | ⟨h5,h6⟩
  ·exact hi (hC.fit.inj i 0 b ho h5)
  ·rcases hC.ow i b ho with h7 | h7
   ·have:=ht.lt h5; omega
   ·exact h6 (eO b h7)
 refine ⟨v,oi,_,G2,rfl,⟨rfl,rfl⟩,?_⟩
 refine { fit:=⟨hC.fit.sub,fun i=>?_,fun i b ho=>?_,fun i j b h1 h2=>?_⟩,no:=fun i hi=>?_,res:=?_,le:=hC.le,ju:=fun i hi=>(hC.ju i hi).trans rfl,rE:=fun i hi q x hx=>?_,frame:=fun b hb dj=>?_,ow:=fun i b ho=>?_,os:=hC.os,tape:=hC.tape,output:=hC.output,size:=hC.size }
 ·rw [wu]
  by_cases hi:i=0
  ·subst hi
   rw [if_pos rfl]
   refine ⟨by rw [NX]; exact t1,by rw [NX]; exact t2,fun v hv e' q=>?_,fun e' he q=>?_⟩
   ·rw [uN]; show (if _ then _ else if _ then _ else _)=_; rw [if_neg (by omega),if_neg (by omega)]
   ·rw [uN]; show (if _ then _ else if _ then _ else _)=_; rw [if_neg (by omega),if_neg (by omega)]
  ·rw [if_neg hi]
   have hb:=hC.fit.box i
   rw [wu,if_neg hi] at hb
   by_cases hn:aa K3 i=.none
   ·rw [hn] at hb ⊢; exact ⟨hb.1,fun v e q=>by rw [uO i hi]; exact hb.2 v e q⟩
   ·obtain ⟨_,k2,k3⟩:=jg Kt hn
    exact hb.nm k2 k3 rfl rfl (uO i hi) IJ
 ·rcases uP i b ho with ⟨rfl,_,h5⟩ | ⟨hi,h5⟩
  ·rcases uQ b h5 with h6 | ⟨h6,h7⟩
   ·exact hC.fit.own 0 b h6
   ·have:=(hC.frame b (ht.lt h6) fun i ho=>h7 (eO b ⟨i,ho⟩)).2
    show G'.M b=none
    rw [this]
    exact cC.own 0 b (by rw [vQ]; exact h6)
  ·exact hC.fit.own i b h5
 ·rcases uP i b h1 with ⟨rfl,_,k1⟩ | ⟨hi,k1⟩
  ·rcases uP j b h2 with ⟨rfl,_,k2⟩ | ⟨hj,k2⟩
   ·rfl
   ·exact absurd k1 (apart j b hj k2)
  ·rcases uP j b h2 with ⟨rfl,_,k2⟩ | ⟨hj,k2⟩
   ·exact absurd k2 (apart i b hi k1)
   ·exact hC.fit.inj i j b k1 k2
 ·rw [wu,if_neg (by omega)]
  have:=hC.no i hi
  rwa [wu,if_neg (by omega)] at this
 ·have:=(uM (G:=G') (G':=G2) (Mem.Le.refl _) (fun _ _ h=>h) IJ (SizeOf.sizeOf (ic oi)+1)).1 (ic oi) v (by omega) (by
   match oi,n9 with
   | [a],n9=>simpa [AV.we,ic] using n9
   | [],n9=>simpa [ic,AV.nm] using n9
   | a::b::l,n9=>simpa [ic,AV.nm] using n9) hC.res
  exact this
 ·obtain rfl:i=0:=by omega
  rw [uN]
  show (if _ then _ else if _ then _ else _)=_
  rw [if_neg (by omega),if_pos ⟨rfl,rfl⟩]
  cases q <;> exact hx
 ·have HH:∀i,¬ bE G1 i (aa [(0,ak.tree 0 0 c)] i) b:=fun i ho=>by
   have:=eO b ⟨i,ho⟩
   exact dj 0 (by rw [vQ]; exact aJ.sub hp this)
  exact hC.frame b hb HH
 ·rcases uP i b ho with ⟨rfl,h5 | h5,_⟩ | ⟨hi,h5⟩
  ·exact .inr ⟨0,by rw [vQ]; exact h5⟩
  ·exact .inl h5
  ·rcases hC.ow i b h5 with h6 | h6
   ·exact .inl h6
   ·exact .inr ⟨0,by rw [vQ]; exact aJ.sub hp (eO b h6)⟩
theorem r8 {P:Program} {f:Nat} {rest:List AV} {ex:Nat} {rs:List AV} {c D:DV} {K3:af} {p:List PS}
  (h:bg P f (.own 0 0 0 []::rest) 1 [(0,.tree 0 0 c)] ex rs ((0,.tree 0 0 c)::K3)) (hD:bH D p c=D) (hp:get D p=some c) (bA:p ≠ []) (hc:c.ae=true)
  (IF:AV.we (fun i=>!Nat.beq i 0) rest=true) (n9:AV.we (fun i=>!Nat.beq i 0) rs=true) (Kt:AR (fun i=>!Nat.beq i 0) K3=true) :
  bg P f (.own 0 0 0 p::rest) 1 [(0,.tree 0 0 D)] ex rs ((0,.tree 0 0 D)::K3):=by
 refine ⟨h.1,fun w G vs rU cC hr=>?_⟩
 have vQ:∀d,aa [(0,ak.tree 0 0 d)] 0=.tree 0 0 d:=fun _=>rfl
 have AS:∀d i,i ≠ 0→aa [(0,ak.tree 0 0 d)] i=.none:=fun d i hi=>by
  simp only [aa]; rw [beq_false hi]; rfl
 have iQ:=cC.box 0
 rw [vQ] at iQ
 obtain ⟨ht,dk,JX,n6⟩:=iQ
 obtain ⟨x0,rD,rfl⟩:∃x0 rD,vs=x0::rD:=by
  cases vs with
  | nil=>have:=hr.1; simp at this
  | cons a l=>exact ⟨a,l,rfl⟩
 have jO:=hr.2 0 _ x0 rfl rfl
 have Cr:bJ G rest rD:=⟨by have:=hr.1; simpa using this,fun j d v hd hv=>hr.2 (j+1) d v hd hv⟩
 cases jO with | own _ _ _ _ _ hu GH =>
 let fx:Nat→Nat→List PS→Option Value:=fun v e q=>if v=0∧e=0 then az G.H 0 0 0 (p++q) else none
 let G1:Gh:={ G with H:=cX G.H 0 fx }
 have GI:G1.H 0=fx:=by show cX G.H 0 fx 0=fx; exact ei _ _ _
 have BW:∀j,j ≠ 0→G1.H j=G.H j:=fun j hj=>by show cX G.H 0 fx j=_; exact dy _ _ hj
 have vW:az G1.H 0 0 0=fun r=>az G.H 0 0 0 (p++r):=by
  funext q
  cases q with
  | nil=>show G1.H 0 0 0 []=_; rw [GI]; show (if 0=0∧0=0 then _ else _)=_; rw [if_pos ⟨rfl,rfl⟩]
  | cons s q=>show G1.H 0 0 0 (s::q)=_; rw [GI]; show (if 0=0∧0=0 then _ else _)=_; rw [if_pos ⟨rfl,rfl⟩]
 have bK:∀j v e q x,(!Nat.beq j 0)=true→az G.H j v e q=some x→az G1.H j v e q=some x:=fun j v e q x hj hx=>by
  have BV:j ≠ 0:=by rintro rfl; simp at hj
  cases q with
  | nil=>show G1.H j v 0 []=_; rw [BW j BV]; exact hx
  | cons s q=>show G1.H j v e (s::q)=_; rw [BW j BV]; exact hx
 have IG:bJ G1 (.own 0 0 0 []::rest) (x0::rD):=by
  have h2:=(uM (G:=G) (G':=G1) (Mem.Le.refl _) (fun _ _ h=>h) bK (SizeOf.sizeOf rest+1)).2 rest rD (by omega) IF Cr
  refine ⟨by have:=h2.1; simp [this],fun j d v hd hv=>?_⟩
  cases j with
  | zero =>
   simp at hd hv; subst hd; subst hv
   refine .own _ _ _ _ _ ?_ GH
   show az G1.H 0 0 0 []=_
   rw [vW]; simpa using hu
  | succ j=>exact h2.2 j d v hd hv
 have IH:Fit G1 w (aa [(0,ak.tree 0 0 c)]):=by
  have CY:∀i b,bE G1 i (aa [(0,ak.tree 0 0 c)] i) b→i=0∧aJ (az G.H 0 0 0) D b:=fun i b ho=>by
   by_cases hi:i=0
   ·subst hi
    rw [vQ] at ho
    have ho:aJ (az G1.H 0 0 0) c b:=ho
    rw [vW] at ho
    exact ⟨rfl,aJ.sub hp ho⟩
   ·rw [AS c i hi] at ho; exact ho.elim
  refine ⟨cC.sub,fun i=>?_,fun i b ho=>?_,fun i j b h1 h2=>by rw [(CY i b h1).1,(CY j b h2).1]⟩
  ·by_cases hi:i=0
   ·subst hi
    rw [vQ]
    refine ⟨by rw [vW]; exact ht.sub hp hc,by rw [vW]; exact dk.sub hp,fun v hv e q=>?_,fun e he q=>?_⟩
    ·rw [GI]; show (if _ then _ else _)=_; rw [if_neg (by omega)]
    ·rw [GI]; show (if _ then _ else _)=_; rw [if_neg (by omega)]
   ·rw [AS c i hi]
    have:=cC.box i
    rw [AS D i hi] at this
    exact ⟨this.1,fun v e q=>by rw [BW i hi]; exact this.2 v e q⟩
  ·obtain ⟨rfl,BQ⟩:=CY i b ho
   exact cC.own 0 b (by rw [vQ]; exact BQ)
 refine Calls.mono (h.2 w G1 (x0::rD) rU IH IG) ?_
 rintro ee w' ⟨v,oi,K',G',rfl,⟨rfl,rfl⟩,hC⟩
 have wu:∀b i,aa ((0,b)::K3) i=if i=0 then b else aa K3 i:=fun b i=>by
  simp only [aa]
  by_cases hi:i=0
  ·subst hi; rfl
  ·rw [beq_false hi,if_neg hi]; rfl
 have cE:=hC.fit.box 0
 rw [wu,if_pos rfl] at cE
 obtain ⟨KO,II,SP,SQ⟩:=cE
 have KP:az G'.H 0 0 0 []=some x0:=by
  show G'.H 0 0 0 []=some x0
  refine hC.rE 0 (by omega) [] x0 ?_
  have:az G1.H 0 0 0 []=some x0:=by rw [vW]; simpa using hu
  exact this
 have rX:∀b,bE G1 0 (aa [(0,ak.tree 0 0 c)] 0) b ↔ aJ (fun r=>az G.H 0 0 0 (p++r)) c b:=fun b=>by
  rw [vQ]
  show aJ (az G1.H 0 0 0) c b ↔ _
  rw [vW]
 have eO:∀b,(∃j,bE G1 j (aa [(0,ak.tree 0 0 c)] j) b)→aJ (fun r=>az G.H 0 0 0 (p++r)) c b:=by
  rintro b ⟨j,ho⟩
  by_cases hj:j=0
  ·subst hj; exact (rX b).1 ho
  ·rw [AS c j hj] at ho; exact ho.elim
 have Qe:aO G'.M w (az G.H 0 0 0) D:=ht.fG hC.le (fun _ _=>rfl) (fun _ _ _ _ _ h=>h)
 obtain ⟨t1,t2,t3⟩:=xj (w':=w') Qe dk hp hc bA hu KO II KP
  (fun b hb SR=>(hC.frame b (Qe.lt hb) fun i ho=>SR (eO b ⟨i,ho⟩)).1)
  (fun b hb=>by
   rcases hC.ow 0 b (by rw [wu,if_pos rfl]; exact hb) with h5 | h5
   ·exact .inr h5
   ·exact .inl (eO b h5))
 rw [hD] at t1 t2 t3
 have hL:∀q n v,get D q=some n→n.ae=true→fC p (az G'.H 0 0 0) (az G.H 0 0 0) q=some v→az G.H 0 0 0 q=some v:=fun q n v hq hn hv=>by
  by_cases gm:p <+: q
  ·obtain ⟨r,rfl⟩:=bB gm
   rw [eZ] at hv
   rw [get_append,hp] at hq
   obtain ⟨v0,h1,_,_⟩:=(ht.sub hp hc).2 r n hq hn
   have h2:G1.H 0 0 0 r=some v0:=by
    have:az G1.H 0 0 0 r=some v0:=by rw [vW]; exact h1
    cases r <;> exact this
   have h3:=hC.rE 0 (by omega) r v0 h2
   have h4:az G'.H 0 0 0 r=some v0:=by cases r <;> exact h3
   rw [h4] at hv; injection hv with hv; subst hv; exact h1
  ·rwa [dO gm] at hv
 have Uc:∀q n v,get D q=some n→n.ae=true→az G.H 0 0 0 q=some v→fC p (az G'.H 0 0 0) (az G.H 0 0 0) q=some v:=fun q n v hq hn hv=>by
  obtain ⟨v',h1,_⟩:=t1.2 q n hq hn
  have:=hL q n v' hq hn h1
  rw [hv] at this; injection this with this; subst this; exact h1
 let f2:Nat→Nat→List PS→Option Value:=fun v e' q=>if v=0∧e'=0 then az G.H 0 0 0 q else none
 let G2:Gh:={ G' with H:=cX G'.H 0 f2 }
 have uN:G2.H 0=f2:=by show cX G'.H 0 f2 0=f2; exact ei _ _ _
 have uO:∀j,j ≠ 0→G2.H j=G'.H j:=fun j hj=>by show cX G'.H 0 f2 j=_; exact dy _ _ hj
 have NX:az G2.H 0 0 0=az G.H 0 0 0:=by
  funext q
  cases q with
  | nil=>show G2.H 0 0 0 []=_; rw [uN]; show (if 0=0∧0=0 then _ else _)=_; rw [if_pos ⟨rfl,rfl⟩]
  | cons s q=>show G2.H 0 0 0 (s::q)=_; rw [uN]; show (if 0=0∧0=0 then _ else _)=_; rw [if_pos ⟨rfl,rfl⟩]
 have IJ:∀j v e q x,(!Nat.beq j 0)=true→az G'.H j v e q=some x→az G2.H j v e q=some x:=fun j v e q x hj hx=>by
  have BV:j ≠ 0:=by rintro rfl; simp at hj
  cases q with
  | nil=>show G2.H j v 0 []=_; rw [uO j BV]; exact hx
  | cons s q=>show G2.H j v e (s::q)=_; rw [uO j BV]; exact hx
 have uP:∀i b,bE G2 i (aa ((0,ak.tree 0 0 D)::K3) i) b→(i=0∧aJ (az G.H 0 0 0) D b∧aJ (fC p (az G'.H 0 0 0) (az G.H 0 0 0)) D b) ∨ (i ≠ 0∧bE G' i (aa ((0,ak.tree 0 0 c)::K3) i) b):=fun i b ho=>by
  rw [wu] at ho
  by_cases hi:i=0
  ·subst hi
   rw [if_pos rfl] at ho
   have ho:aJ (az G2.H 0 0 0) D b:=ho
   rw [NX] at ho
   refine .inl ⟨rfl,ho,?_⟩
   obtain ⟨q,m,x,e1,e2,e3,e4⟩:=ho
   exact ⟨q,m,x,e1,e2,Uc q m x e1 e2 e3,e4⟩
  ·rw [if_neg hi] at ho
   refine .inr ⟨hi,?_⟩
   rw [wu,if_neg hi]
   by_cases hn:aa K3 i=.none
   ·rw [hn] at ho; exact ho.elim
   ·exact (bE.nm (G:=G') (G':=G2) (jg Kt hn).2.1 rfl (uO i hi) b).1 ho
 have uQ:∀b,aJ (fC p (az G'.H 0 0 0) (az G.H 0 0 0)) D b→bE G' 0 (aa ((0,ak.tree 0 0 c)::K3) 0) b ∨ (aJ (az G.H 0 0 0) D b∧¬ aJ (fun r=>az G.H 0 0 0 (p++r)) c b):=by
  rintro b ⟨q,m,x,e1,e2,e3,e4⟩
  by_cases gm:p <+: q
  ·obtain ⟨r,rfl⟩:=bB gm
   rw [eZ] at e3
   rw [get_append,hp] at e1
   exact .inl (by rw [wu,if_pos rfl]; exact ⟨r,m,x,e1,e2,e3,e4⟩)
  ·right
   rw [dO gm] at e3
   refine ⟨⟨q,m,x,e1,e2,e3,e4⟩,?_⟩
   rintro ⟨r,m',x',g1,g2,g3,g4⟩
   have:=dk q (p++r) m m' x x' b e1 e2 e3 e4 (by rw [get_append,hp]; exact g1) g2 g3 g4
   exact gm (by rw [this]; exact List.prefix_append p r)
 have apart:∀i b,i ≠ 0→bE G' i (aa ((0,ak.tree 0 0 c)::K3) i) b→¬ aJ (fC p (az G'.H 0 0 0) (az G.H 0 0 0)) D b:=by
  intro i b hi ho hT
  rcases uQ b hT with h5 | ⟨h5,h6⟩
  ·exact hi (hC.fit.inj i 0 b ho h5)
  ·rcases hC.ow i b ho with h7 | h7
   ·have:=ht.lt h5; omega
   ·exact h6 (eO b h7)
 refine ⟨v,oi,_,G2,rfl,⟨rfl,rfl⟩,?_⟩
 refine { fit:=⟨hC.fit.sub,fun i=>?_,fun i b ho=>?_,fun i j b h1 h2=>?_⟩,no:=fun i hi=>?_,res:=?_,le:=hC.le,ju:=fun i hi=>(hC.ju i hi).trans rfl,rE:=fun i hi q x hx=>?_,frame:=fun b hb dj=>?_,ow:=fun i b ho=>?_,os:=hC.os,tape:=hC.tape,output:=hC.output,size:=hC.size }
 ·rw [wu]
  by_cases hi:i=0
  ·subst hi
   rw [if_pos rfl]
   refine ⟨by rw [NX]; exact t1.fG (Mem.Le.refl _) (fun _ _=>rfl) hL,by rw [NX]; exact t2.fG Uc,fun v hv e' q=>?_,fun e' he q=>?_⟩
   ·rw [uN]; show (if _ then _ else _)=_; rw [if_neg (by omega)]
   ·rw [uN]; show (if _ then _ else _)=_; rw [if_neg (by omega)]
  ·rw [if_neg hi]
   have hb:=hC.fit.box i
   rw [wu,if_neg hi] at hb
   by_cases hn:aa K3 i=.none
   ·rw [hn] at hb ⊢; exact ⟨hb.1,fun v e q=>by rw [uO i hi]; exact hb.2 v e q⟩
   ·obtain ⟨_,k2,k3⟩:=jg Kt hn
    exact hb.nm k2 k3 rfl rfl (uO i hi) IJ
 ·rcases uP i b ho with ⟨rfl,_,h5⟩ | ⟨hi,h5⟩
  ·rcases uQ b h5 with h6 | ⟨h6,h7⟩
   ·exact hC.fit.own 0 b h6
   ·have:=(hC.frame b (ht.lt h6) fun i ho=>h7 (eO b ⟨i,ho⟩)).2
    show G'.M b=none
    rw [this]
    exact cC.own 0 b (by rw [vQ]; exact h6)
  ·exact hC.fit.own i b h5
 ·rcases uP i b h1 with ⟨rfl,_,k1⟩ | ⟨hi,k1⟩
  ·rcases uP j b h2 with ⟨rfl,_,k2⟩ | ⟨hj,k2⟩
   ·rfl
   ·exact absurd k1 (apart j b hj k2)
  ·rcases uP j b h2 with ⟨rfl,_,k2⟩ | ⟨hj,k2⟩
   ·exact absurd k2 (apart i b hi k1)
   ·exact hC.fit.inj i j b k1 k2
 ·rw [wu,if_neg (by omega)]
  have:=hC.no i hi
  rwa [wu,if_neg (by omega)] at this
 ·have:=(uM (G:=G') (G':=G2) (Mem.Le.refl _) (fun _ _ h=>h) IJ (SizeOf.sizeOf (ic oi)+1)).1 (ic oi) v (by omega) (by
   match oi,n9 with
   | [a],n9=>simpa [AV.we,ic] using n9
   | [],n9=>simpa [ic,AV.nm] using n9
   | a::b::l,n9=>simpa [ic,AV.nm] using n9) hC.res
  exact this
 ·obtain rfl:i=0:=by omega
  rw [uN]
  show (if _ then _ else _)=_
  rw [if_pos ⟨rfl,rfl⟩]
  cases q <;> exact hx
 ·have HH:∀i,¬ bE G1 i (aa [(0,ak.tree 0 0 c)] i) b:=fun i ho=>by
   have:=eO b ⟨i,ho⟩
   exact dj 0 (by rw [vQ]; exact aJ.sub hp this)
  exact hC.frame b hb HH
 ·rcases uP i b ho with ⟨rfl,h5,_⟩ | ⟨hi,h5⟩
  ·exact .inr ⟨0,by rw [vQ]; exact h5⟩
  ·rcases hC.ow i b h5 with h6 | h6
   ·exact .inl h6
   ·exact .inr ⟨0,by rw [vQ]; exact aJ.sub hp (eO b h6)⟩
end Go.TM
namespace Go.TM
open Go.RowKit
variable [cj]
section
variable {g:df} {n:Nat} {ρ:Nat→AV} {κ κ':Nat→ak} {a:Act} {w w':World} {G:Gh}
theorem bT.NY (h:bT g n ρ κ a w G) {i nx ver ep:Nat} {d c:DV} {p:List PS} (hi:κ i=.tree ver ep d) (hx:κ nx=.none) (hp:get d p=some c) (hc:c.ae=true) (bA:p ≠ []) (h1:κ' i=.tree ver ep (bH d p .any)) (h2:κ' nx=.tree 0 0 c) (h3:∀j,j ≠ i→j ≠ nx→κ' j=κ j) :
  ∃G',Gh.Le G G'∧G'.M=G.M∧G'.β=G.β∧(∀r,az G'.H nx 0 0 r=az G.H i ver ep (p++r))∧bT g n ρ κ' a w G':=by
 have yV:i ≠ nx:=fun e=>by rw [e,hx] at hi; cases hi
 have nE:=h.fit.box i
 have dz:=h.fit.box nx
 rw [hi] at nE
 rw [hx] at dz
 obtain ⟨ht,dk,CZ,eH⟩:=nE
 obtain ⟨f1,f2,f3⟩:=ht.forget dk hp hc bA
 let fx:Nat→Nat→List PS→Option Value:=fun v e q=>if v=0∧e=0 then az G.H i ver ep (p++q) else none
 let G':Gh:={ G with H:=cX G.H nx fx }
 have KT:G'.H nx=fx:=by show cX G.H nx fx nx=fx; exact ei _ _ _
 have BW:∀j,j ≠ nx→G'.H j=G.H j:=fun j e2=>by show cX G.H nx fx j=_; rw [dy _ _ e2]
 have xV:az G'.H i ver ep=az G.H i ver ep:=by
  funext q
  cases q <;> simp only [az,BW i yV]
 have KU:az G'.H nx 0 0=fun r=>az G.H i ver ep (p++r):=by
  funext q
  cases q with
  | nil=>show G'.H nx 0 0 []=_; rw [KT]; show (if 0=0∧0=0 then az G.H i ver ep (p++[]) else none)=_; rw [if_pos ⟨rfl,rfl⟩]
  | cons s q=>show G'.H nx 0 0 (s::q)=_; rw [KT]; show (if 0=0∧0=0 then az G.H i ver ep (p++s::q) else none)=_; rw [if_pos ⟨rfl,rfl⟩]
 have hle:Gh.Le G G':=⟨Mem.Le.refl _,fun _ _ q=>q,fun j v e q x hq=>by
  by_cases e2:j=nx
  ·subst e2; rw [dz.2] at hq; cases hq
  ·rw [BW j e2]; exact hq⟩
 have C0:∀b,bE G' i (κ' i) b→aJ (az G.H i ver ep) d b∧¬ aJ (fun r=>az G.H i ver ep (p++r)) c b:=fun b hb=>by
  rw [h1] at hb; simp only [bE] at hb; rw [xV] at hb; exact f3 b hb
 have C1:∀b,bE G' nx (κ' nx) b→aJ (fun r=>az G.H i ver ep (p++r)) c b:=fun b hb=>by
  rw [h2] at hb; simp only [bE] at hb; rw [KU] at hb; exact hb
 refine ⟨G',hle,rfl,rfl,fun r=>congrFun KU r,h.n3 (C:=fun j=>j=i ∨ j=nx) ⟨hle,fun _ _=>rfl,fun j hj=>h3 j (fun e=>hj (.inl e)) (fun e=>hj (.inr e)),fun j hj=>⟨fun _ q=>q,fun v e q x hq=>?_⟩,fun _ _ _=>⟨rfl,rfl⟩,h.fit.sub,?_,?_,?_,Nat.le_refl _,rfl,rfl,rfl⟩ (fun _ _=>rfl)⟩
 ·rw [BW j (fun e=>hj (.inr e))] at hq; exact hq
 ·rintro j (rfl | rfl)
  ·rw [h1]
   refine ⟨by rw [xV]; exact f1,by rw [xV]; exact f2,fun v hv e q=>?_,fun e he q=>?_⟩
   ·rw [BW j yV]; exact CZ v hv e q
   ·rw [BW j yV]; exact eH e he q
  ·rw [h2]
   refine ⟨by rw [KU]; exact ht.sub hp hc,by rw [KU]; exact dk.sub hp,fun v hv e q=>?_,fun e he q=>?_⟩
   ·rw [KT]; show (if v=0∧e=0 then _ else _)=_; rw [if_neg (by omega)]
   ·rw [KT]; show (if 0=0∧e=0 then _ else _)=_; rw [if_neg (by omega)]
 ·rintro j b (rfl | rfl) hb
  ·have cE:=(C0 b hb).1
   have:bE G j (κ j) b:=by rw [hi]; exact cE
   exact ⟨.inr ⟨j,.inl rfl,this⟩,h.fit.own j b this⟩
  ·have cE:=(C1 b hb).sub hp
   have:bE G i (κ i) b:=by rw [hi]; exact cE
   exact ⟨.inr ⟨i,.inl rfl,this⟩,h.fit.own i b this⟩
 ·rintro j j' b (rfl | rfl) (rfl | rfl) hb cE
  ·rfl
  ·exact absurd (C1 b cE) (C0 b hb).2
  ·exact absurd (C1 b hb) (C0 b cE).2
  ·rfl
end
theorem pV {sz:Nat} {l:List DV} (jL:∀x,x∈l→x.bt) {p:List PS} {n:DV} (h:get (.ar sz l) p=some n) (ho:n.ae=true):p=[]∧n=.ar sz l:=by
 cases p with
 | nil=>simp [get] at h; exact ⟨rfl,h.symm⟩
 | cons s p =>
  exfalso
  simp only [get] at h
  cases s with
  | key k j=>simp [step] at h
  | el i j =>
   simp only [step] at h
   cases hm:l[i]? with
   | none=>rw [hm] at h; simp at h
   | some x =>
    rw [hm] at h
    simp only at h
    cases hc:x.cells[j]? with
    | none=>rw [hc] at h; simp at h
    | some c =>
     rw [hc] at h
     simp only at h
     have xU:c.ae=false:=jL x (List.mem_of_getElem? hm) c (List.mem_of_getElem? hc)
     cases p with
     | nil=>simp [get] at h; subst h; rw [xU] at ho; cases ho
     | cons s' p =>
      simp only [get] at h
      cases c <;> simp [step] at h <;> cases xU
theorem qZ {P:Program} {f:Nat} (tn:gM P f) {rest:List AV} {m:Nat} {K3:af} {sz:Nat} {l l':List DV} {D:DV} {p:List PS} (hp:get D p=some (.ar sz l)) (bA:p ≠ []) (hm:1≤m) (Kt:∀i,m≤i→aa K3 i=.none)
  (jL:∀x,x∈l'→x.bt)
  (aV:∀(w:World) (G:Gh) (v:Value) (xs:List Value),Fit G w (aa ((0,.tree 0 0 D)::K3))→az G.H 0 0 0 p=some v→bQ G.M w v (fun s=>az G.H 0 0 0 (p++[s])) (.ar sz l)→bJ G rest xs →
   Calls P f (v::xs).toArray w fun e w'=>∃v',e=.returned v'∧v'.oneCell'=true∧w.grownBy w' (eW v)∧nF w' v' sz l' (fun _ _ d u=>d.ae=false∧bc G.M d u)∧∀b,eW v'=some b→eW v=some b ∨ w.heap.size≤b) :
  bg P f (.own 0 0 0 p::rest) m ((0,.tree 0 0 D)::K3) 1 [.own m 1 0 []] ((m,.tree 1 0 (.ar sz l'))::(0,.tree 0 0 (bH D p .any))::K3):=by
 refine ⟨tn,fun w G vs rU cC hr=>?_⟩
 obtain ⟨x0,rD,rfl⟩:∃x0 rD,vs=x0::rD:=by
  cases vs with
  | nil=>have:=hr.1; simp at this
  | cons a l=>exact ⟨a,l,rfl⟩
 have jO:=hr.2 0 _ x0 rfl rfl
 have Cr:bJ G rest rD:=⟨by have:=hr.1; simpa using this,fun j d v hd hv=>hr.2 (j+1) d v hd hv⟩
 cases jO with | own _ _ _ _ _ hu GH =>
 have vQ:∀d,aa ((0,ak.tree 0 0 d)::K3) 0=.tree 0 0 d:=fun _=>rfl
 have AS:∀d i,i ≠ 0→aa ((0,ak.tree 0 0 d)::K3) i=aa K3 i:=fun d i hi=>by
  simp only [aa]; rw [beq_false hi]; rfl
 obtain ⟨u0,Rp,_,aS⟩:=cC.node (vQ D) hp rfl
 rw [hu] at Rp; injection Rp with Rp; subst Rp
 let g:df:=⟨fun b=>∃i,bE G i (aa ((0,.tree 0 0 D)::K3) i) b,w,G.M,m,G.β,fun i p=>G.H i 0 0 p⟩
 have NZ:bT g 0 (fun _=>.any) (aa ((0,.tree 0 0 D)::K3)) { tmps:=#[],defers:=[] } w G :=
  {fit:=cC,env:=fun t=>.any _,size:=rfl,wI:=fun _ _ _=>rfl,os:=rfl,tape:=rfl,output:=rfl,grow:=Nat.le_refl _,mem:=.refl G.M,lZ:=fun _ _ _=>rfl,fQ:=fun i b ho=>.inr ⟨i,ho⟩,ju:=fun _ _=>rfl,rE:=fun _ _ _ _ hx=>hx,nA:=rU,qn:=⟨[],rfl,List.nodup_nil,by simp⟩ }
 have Vr:aa ((0,.tree 0 0 D)::K3) m=.none:=by rw [AS D m (by omega)]; exact Kt m (Nat.le_refl _)
 obtain ⟨G1,g1,g2,g3,g4,g7⟩:=NZ.NY (κ':=aq (aa ((0,.tree 0 0 D)::K3)) [(m,.tree 0 0 (.ar sz l)),(0,.tree 0 0 (bH D p .any))]) (i:=0) (nx:=m) (vQ D) Vr hp rfl bA
  (by simp only [aq]; rw [ad _ _ (by omega)]; simp) (by simp [aq]) (fun j h1 h2=>by simp only [aq]; rw [ad _ _ h2,ad _ _ h1])
 refine Calls.mono (aV w G x0 rD cC hu aS Cr) ?_
 rintro e w' ⟨v',rfl,o9,Qf,gU,MP⟩
 have GJ:az G1.H m 0 0 []=some x0:=by rw [g4 [],List.append_nil]; exact hu
 have hκm:aq (aa ((0,.tree 0 0 D)::K3)) [(m,.tree 0 0 (.ar sz l)),(0,.tree 0 0 (bH D p .any))] m=.tree 0 0 (.ar sz l):=by simp [aq]
 have jN:=g7.fit.box m
 rw [hκm] at jN
 have IK:∀b,eW x0=some b→bE G1 m (aq (aa ((0,.tree 0 0 D)::K3)) [(m,.tree 0 0 (.ar sz l)),(0,.tree 0 0 (bH D p .any))] m) b:=fun b hb=>by
  rw [hκm]; exact ⟨[],_,x0,rfl,rfl,GJ,hb⟩
 obtain ⟨G',k1,k2,k3,k4,_,_,k7⟩:=g7.jz (κ':=aa ((m,.tree 1 0 (.ar sz l'))::(0,.tree 0 0 (bH D p .any))::K3)) (w':=w') (i:=m) (ver:=1) (ep:=0) (d:=.ar sz l') (fun _=>False) (fun q=>if q=[] then some v' else none) (fun h=>h)
  (.inr ⟨0,0,_,hκm,by omega,by omega⟩) (fun _ h=>h.elim) (by simp only [aa,Nat.beq_refl,cond_true]) (fun j hj _=>by
   show (bif Nat.beq m j then ak.tree 1 0 (.ar sz l') else aa ((0,.tree 0 0 (bH D p .any))::K3) j)=_
   rw [beq_false hj]
   simp only [cond_false,aq]
   rw [ad _ _ hj]
   by_cases h0:j=0
   ·subst h0; rw [aR]; rfl
   ·rw [ad _ _ h0,AS D j h0,AS _ j h0])
  (fun q y hy=>by
   cases q with
   | nil=>simp only [az] at hy; rw [jN.2.2.1 1 (by omega)] at hy; cases hy
   | cons s q=>simp only [az] at hy; rw [jN.2.2.1 1 (by omega)] at hy; cases hy)
  ⟨rfl,fun q y hy ho=>by
   obtain ⟨rfl,rfl⟩:=pV jL hy ho
   refine ⟨v',by simp,o9,?_⟩
   rcases gU with ⟨rfl,rfl⟩ | ⟨gb,o,cap,c,t,rfl,a1,a2,a3,a4⟩
   ·exact .inl ⟨rfl,rfl⟩
   ·refine .inr ⟨gb,o,cap,c,t,rfl,a1,a2,a3,fun i x hx=>⟨(a4 i x hx).1,fun j d hd=>?_⟩⟩
    obtain ⟨b1,u,b2,b3,b4⟩:=(a4 i x hx).2 j d hd
    exact ⟨b1,u,b2,.inr ⟨b3,by rw [g2]; exact b4⟩⟩⟩
  (fun q q' y y' u v b e1 e2 _ _ f1 f2 _ _=>by rw [(pV jL e1 e2).1,(pV jL f1 f2).1])
  (fun b ⟨q,y,u,h1,h2,h3,h4⟩=>by
   obtain ⟨rfl,rfl⟩:=pV jL h1 h2
   simp at h3; subst h3
   rcases MP b h4 with h5 | h5
   ·exact .inr (.inl (IK b h5))
   ·exact .inl h5)
  (fun b hb dj _=>Qf.block b hb fun e=>dj (IK b e.symm))
  (fun b hb=>by
   rcases hb with h5 | ⟨_,h5,_⟩
   ·exact g7.fit.own m b h5
   ·exact h5.elim)
  Qf.size Qf.os Qf.tape Qf.output
 refine ⟨_,_,_,G',rfl,⟨rfl,rfl⟩,?_⟩
 refine ⟨k7.fit,fun i hi=>?_,?_,k7.mem,k7.ju,k7.rE,fun b hb hO=>⟨k7.wI b hb (fun ⟨i,h⟩=>hO i h),k7.lZ b hb (fun ⟨i,h⟩=>hO i h)⟩,k7.fQ,k7.os,k7.tape,k7.output,k7.grow⟩
 ·show (bif Nat.beq m i then ak.tree 1 0 (.ar sz l') else aa ((0,.tree 0 0 (bH D p .any))::K3) i)=_
  rw [beq_false (by omega)]
  simp only [cond_false]
  rw [AS _ i (by omega)]
  exact Kt i (by omega)
 ·exact .own _ _ _ _ _ ((k4 []).trans (by simp)) o9
end Go.TM
namespace Go.TM
open Go.RowKit
variable [cj]
def Ud:XC:=⟨false,0,fun _ _ _ _=>.no [],fun _ _ _=>.no []⟩
def IL (T:List TI) (pol:Nat→Bool) (ops:List Oper) (n nx:Nat) (ρ0:Nat→AV) (κ0:Nat→ak) (rs:List Rec) (p:Nat × Nat):Option (List Nat × iP):=match ops[p.1]? with
 | none=>none
 | some o=>match o.guard with
  | some _=>none
  | none=>match (J2 T pol Ud nx (z7 ρ0 rs p.1) (v7 κ0 rs ops.length p.1 p.2) o.op).bind fun r=>lU n o.dst r with
   | .ok e=>some (eY (z7 ρ0 rs p.1) (v7 κ0 rs ops.length p.1 p.2) o,e.1)
   | .no _=>none
def IN (T:List TI) (pol:Nat→Bool) (ops:List Oper) (n nx:Nat) (ρ0:Nat→AV) (κ0:Nat→ak) (rs:List Rec):List (Nat × Nat)→List (Option (List Nat × iP))
 | []=>[]
 | p::r=>IL T pol ops n nx ρ0 κ0 rs p::IN T pol ops n nx ρ0 κ0 rs r
def N0 (rs:List Rec):List (Nat × Nat)→List (Option (List Nat × iP))
 | []=>[]
 | p::r=>(rs[p.1]?.map fun c=>(c.rows,c.aX))::N0 rs r
theorem pW {P:Program} {T:List TI} {pol:Nat→Bool} {ops:List Oper} {n nx:Nat} {ρ0:Nat→AV} {κ0:Nat→ak} {rs:List Rec}:∀{sf:List (Nat × Nat)},(sf.all fun p=>(rs[p.1]?).isSome)=true→IN T pol ops n nx ρ0 κ0 rs sf=N0 rs sf→z8 P T ops n nx ρ0 κ0 rs sf
 | [],_,_=>trivial
 | (j,x)::sf,hp,h=>by
  simp only [IN,N0,List.cons.injEq] at h
  obtain ⟨h1,h2⟩:=h
  simp only [List.all_cons,Bool.and_eq_true] at hp
  refine ⟨?_,pW hp.2 h2⟩
  have hj:(rs[j]?).isSome=true:=hp.1
  cases hr:rs[j]? with
  | none=>rw [hr] at hj; cases hj
  | some rc =>
   unfold IL at h1
   rw [hr] at h1
   simp only [Option.map_some] at h1
   cases ho:ops[j]? with
   | none=>rw [ho] at h1; cases h1
   | some o =>
    rw [ho] at h1
    simp only at h1 ⊢
    cases hg:o.guard with
    | some q=>rw [hg] at h1; cases h1
    | none =>
     rw [hg] at h1
     simp only at h1
     split at h1
     ·rename_i e he
      injection h1 with h1
      injection h1 with h3 h4
      refine ⟨h3.symm,fun hT C hC hn=>?_⟩
      obtain ⟨r,e1,e2⟩:=ab he
      exact AM hT (c:=Ud) (fun f args m K r hh=>by cases hh) (fun args m K r hh=>by cases hh) hC hn hg e1 e2 h4
     ·cases h1
end Go.TM
