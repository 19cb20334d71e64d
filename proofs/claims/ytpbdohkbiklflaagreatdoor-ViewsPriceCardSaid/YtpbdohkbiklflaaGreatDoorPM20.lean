import Derived.Test.YtpbdohkbiklflaaGreatDoorPM19
set_option linter.unusedVariables false
set_option linter.unusedSimpArgs false
set_option linter.unusedSectionVars false
namespace Go.TM
open Go.RowKit
variable [ct]
theorem vX {G G':Gh} {ok:Nat→Bool} (hM:Mem.Le G.M G'.M) (hβ:∀j b,G.β j=some b→G'.β j=some b) (hH:∀j v e p x,ok j=true→az G.H j v e p=some x→az G'.H j v e p=some x):∀N:Nat,
  (∀(u:AV) (x:Value),SizeOf.sizeOf u<N→AV.nm ok u=true→aE G u x→aE G' u x)∧(∀(us:List AV) (xs:List Value),SizeOf.sizeOf us<N→AV.xp ok us=true→bR G us xs→bR G' us xs):=by
 intro N
 induction N with
 | zero=>exact ⟨fun _ _ h=>by omega,fun _ _ h=>by omega⟩
 | succ N ih =>
  refine ⟨fun u x aT hn hv=>?_,fun us xs aT hn hr=>?_⟩
  ·cases u with
   | any=>exact .any _
   | dv d=>cases hv with | dv h=>exact .dv (h.mono hM)
   | ptr i off=>cases hv with | ptr _ _ b h=>exact .ptr _ off b (hβ _ _ h)
   | fy i=>cases hv with | fy _ b h=>exact .fy _ b (hβ _ _ h)
   | sle i n=>cases hv with | sle _ _ b h=>exact .sle _ n b (hβ _ _ h)
   | bT i v =>
    simp only [AV.nm] at hn
    cases hv with | bT _ _ a n h=>exact .bT _ _ a n (hH i v 0 [] _ hn h)
   | own i v e p =>
    simp only [AV.nm] at hn
    cases hv with | own _ _ _ _ _ h hc=>exact .own _ _ _ p x (hH _ _ _ _ _ hn h) hc
   | loc i v e p a b c =>
    simp only [AV.nm] at hn
    cases hv with
    | loc _ _ _ _ _ _ _ A q q' h=>exact .loc _ _ _ p a b c A q q' (hH _ _ _ _ _ hn h)
    | my _ _ _ _ _ _ _ A h=>exact .my _ _ _ p a b c A (hH _ _ _ _ _ hn h)
   | pre i v e p a b c =>
    simp only [AV.nm] at hn
    cases hv with
    | pre _ _ _ _ _ _ _ q q' h=>exact .pre _ _ _ p a b c q q' fun hz=>by obtain ⟨A,N,c',e1,e2⟩:=h hz; exact ⟨A,N,c',hH _ _ _ _ _ hn e1,e2⟩
   | fn f l=>simp only [AV.nm] at hn; cases hv with | fn _ _ vs hl hr=>have:=ih.2 l vs (by simp at aT; omega) hn ⟨hl,hr⟩; exact .fn f _ vs this.1 this.2
   | hJ f l=>simp only [AV.nm] at hn; cases hv with | hJ _ _ vs hl hr=>have:=ih.2 l vs (by simp at aT; omega) hn ⟨hl,hr⟩; exact .hJ f _ vs this.1 this.2
   | agg l=>simp only [AV.nm] at hn; cases hv with | agg _ vs hl hr=>have:=ih.2 l vs (by simp at aT; omega) hn ⟨hl,hr⟩; exact .agg _ vs this.1 this.2
   | eP l=>simp only [AV.nm] at hn; cases hv with | eP _ vs hl hr=>have:=ih.2 l vs (by simp at aT; omega) hn ⟨hl,hr⟩; exact .eP _ vs this.1 this.2
   | opt g v=>simp only [AV.nm] at hn; cases hv with | opt _ _ _ h hu=>exact .opt g _ x (fun hg=>ih.1 v x (by simp at aT; omega) hn (h hg)) hu
  ·cases us with
   | nil=>exact ⟨hr.1,by simp⟩
   | cons u us =>
    simp only [AV.xp,Bool.and_eq_true] at hn
    cases xs with
    | nil=>simp [bR] at hr
    | cons x xs =>
     have h1:=ih.1 u x (by simp at aT; omega) hn.1 (hr.2 0 u x rfl rfl)
     have h2:=ih.2 us xs (by simp at aT; omega) hn.2 ⟨by have:=hr.1; simpa using this,fun j d v hd hv=>hr.2 (j+1) d v hd hv⟩
     refine ⟨by have:=h2.1; simp [this],fun j d v hd hv=>?_⟩
     cases j with
     | zero=>simp at hd hv; subst hd; subst hv; exact h1
     | succ j=>exact h2.2 j d v hd hv
open Classical in
noncomputable def fP (p:List PS) (nh h:List PS→Option Value):List PS→Option Value:=fun q=>if p <+: q then nh (q.drop p.length) else h q
theorem fp {p r:List PS} {nh h:List PS→Option Value}:fP p nh h (p++r)=nh r:=by
 unfold fP; rw [if_pos (List.prefix_append p r)]; simp
theorem dX {p q:List PS} {nh h:List PS→Option Value} (e:¬ p <+: q):fP p nh h q=h q:=by
 unfold fP; rw [if_neg e]
open Classical in
theorem yt {M:Mem} {w w':World} {h nh:List PS→Option Value} {D c c':DV} {p:List PS} {u:Value} (ht:aS M w h D) (hi:fh h D) (hp:get D p=some c) (hc:c.af=true) (bD:p ≠ []) (hu:h p=some u)
  (MQ:aS M w' nh c') (w3:fh nh c') (L5:nh []=some u)
  (gI:∀b,aO h D b→¬ aO (fun r=>h (p++r)) c b→w'.heap[b]?=w.heap[b]?)
  (dm:∀b,aO nh c' b→aO (fun r=>h (p++r)) c b ∨ w.heap.size≤b) :
  aS M w' (fP p nh h) (bO D p c')∧fh (fP p nh h) (bO D p c')∧∀b,aO (fP p nh h) (bO D p c') b→aO h D b ∨ w.heap.size≤b:=by
 have cV:∀(q:List PS) (x:DV),get D q=some x→q ≠ []→x.ak=true:=fun q x hx _=>ht.cells q x hx
 have HN:=ec MQ.1
 have lN:∀q m,get (bO D p c') q=some m→m.af=true →
   (∃r,q=p++r∧get c' r=some m) ∨ (¬ p <+: q∧∃x,get D q=some x∧x.af=true∧m=if q <+: p then bO x (p.drop q.length) c' else x):=by
  intro q m hm Ak
  by_cases gB:p <+: q
  ·obtain ⟨r,rfl⟩:=bH gB
   rw [fY hp HN cV] at hm
   exact .inl ⟨r,rfl,hm⟩
  ·right
   rw [fZ HN cV gB] at hm
   refine ⟨gB,?_⟩
   cases hx:get D q with
   | none=>rw [hx] at hm; cases hm
   | some x =>
    rw [hx] at hm
    simp only [Option.some.injEq] at hm
    refine ⟨x,rfl,?_,hm.symm⟩
    by_cases hq:q <+: p
    ·rw [if_pos hq] at hm
     subst hm
     obtain ⟨r,rfl⟩:=bH hq
     cases r with
     | nil=>exact absurd (by simp) gB
     | cons s r=>simp only [List.drop_left] at Ak; rw [ea] at Ak; exact Ak
    ·rw [if_neg hq] at hm; subst hm; exact Ak
 have beside:∀q x v b,¬ p <+: q→get D q=some x→x.af=true→h q=some v→fm v=some b→¬ aO (fun r=>h (p++r)) c b:=by
  rintro q x v b gB hx xz hv hb ⟨r,m,v',e1,e2,e3,e4⟩
  have:=hi q (p++r) x m v v' b hx xz hv hb (by rw [get_append,hp]; exact e1) e2 e3 e4
  exact gB (by rw [this]; exact List.prefix_append p r)
 refine ⟨⟨?_,fun q m hm Ak=>?_⟩,?_,?_⟩
 ·cases p with
  | nil=>exact absurd rfl bD
  | cons s p=>rw [ea]; exact ht.1
 ·rcases lN q m hm Ak with ⟨r,rfl,hr⟩ | ⟨gB,x,hx,xz,X7⟩
  ·obtain ⟨v,h1,h2,h3⟩:=MQ.2 r m hr Ak
   refine ⟨v,fp.trans h1,h2,?_⟩
   have:(fun s=>fP p nh h (p++r++[s]))=fun s=>nh (r++[s]):=by funext s; rw [List.append_assoc,fp]
   rw [this]; exact h3
  ·obtain ⟨v,h1,h2,h3⟩:=ht.2 q x hx xz
   refine ⟨v,(dX gB).trans h1,h2,?_⟩
   have ed:bW M w' v (fun s=>fP p nh h (q++[s])) x:=by
    refine h3.fR (Mem.Le.refl _) (fun b hb=>gI b ⟨_,x,v,hx,xz,h1,hb⟩ (beside q x v b gB hx xz h1 hb)) (fun s' c2 dD mz y hy=>?_) h3.keys
    by_cases e:p <+: q++[s']
    ·have:p=q++[s']:=by
      obtain ⟨r,hr⟩:=e
      rcases List.eq_nil_or_concat r with rfl | ⟨r',z,rfl⟩
      ·simpa using hr
      ·rw [List.concat_eq_append,←List.append_assoc] at hr
       have:=(List.append_inj' hr (by simp)).1
       exact absurd ⟨r',this⟩ gB
     rw [←this] at hy ⊢
     rw [hu] at hy
     have:=fp (p:=p) (r:=[]) (nh:=nh) (h:=h)
     rw [List.append_nil] at this
     rw [this,L5]; exact hy
    ·rw [dX e]; exact hy
   rw [X7]
   by_cases hq:q <+: p
   ·rw [if_pos hq]
    obtain ⟨r,rfl⟩:=bH hq
    cases r with
    | nil=>exact absurd (by simp) gB
    | cons s r =>
     simp only [List.drop_left]
     rw [get_append,hx] at hp
     simp only [get] at hp
     cases hs:step x s with
     | none=>rw [hs] at hp; cases hp
     | some c1 =>
      rw [hs] at hp
      have gz:c1.af=true:=by
       cases r with
       | nil=>simp [get] at hp; subst hp; exact hc
       | cons s' r=>simp only [get] at hp; cases dD:step c1 s' with
        | none=>rw [dD] at hp; cases hp
        | some _=>exact eb dD
      have fE:(bO c1 r c').af=true:=by
       cases r with
       | nil=>exact MQ.1
       | cons s' r=>rw [ea]; exact gz
      simp only [bO,hs]
      exact ed.Gy hs gz fE
   ·rw [if_neg hq]; exact ed
 ·intro q q' m m' v v' b e1 e2 e3 e4 f1 f2 f3 f4
  rcases lN q m e1 e2 with ⟨r,rfl,hr⟩ | ⟨gB,x,hx,xz,_⟩
  ·rcases lN q' m' f1 f2 with ⟨r',rfl,D3⟩ | ⟨MR,x',w7,MS,_⟩
   ·rw [fp] at e3 f3
    rw [w3 r r' m m' v v' b hr e2 e3 e4 D3 f2 f3 f4]
   ·exfalso
    rw [fp] at e3
    rw [dX MR] at f3
    rcases dm b ⟨r,m,v,hr,e2,e3,e4⟩ with h5 | h5
    ·exact beside q' x' v' b MR w7 MS f3 f4 h5
    ·have:=ht.lt (b:=b) ⟨q',x',v',w7,MS,f3,f4⟩
     omega
  ·rcases lN q' m' f1 f2 with ⟨r',rfl,D3⟩ | ⟨MR,x',w7,MS,_⟩
   ·exfalso
    rw [fp] at f3
    rw [dX gB] at e3
    rcases dm b ⟨r',m',v',D3,f2,f3,f4⟩ with h5 | h5
    ·exact beside q x v b gB hx xz e3 e4 h5
    ·have:=ht.lt (b:=b) ⟨q,x,v,hx,xz,e3,e4⟩
     omega
   ·rw [dX gB] at e3
    rw [dX MR] at f3
    exact hi q q' x x' v v' b hx xz e3 e4 w7 MS f3 f4
 ·rintro b ⟨q,m,v,e1,e2,e3,e4⟩
  rcases lN q m e1 e2 with ⟨r,rfl,hr⟩ | ⟨gB,x,hx,xz,_⟩
  ·rw [fp] at e3
   rcases dm b ⟨r,m,v,hr,e2,e3,e4⟩ with h5 | h5
   ·exact .inl (aO.sub hp h5)
   ·exact .inr h5
  ·rw [dX gB] at e3
   exact .inl ⟨q,x,v,hx,xz,e3,e4⟩
def ao.An:ao→Bool
 | .jd _ _ _ _ _=>false
 | _=>true
def Cg (ok:Nat→Bool):ah→Bool
 | []=>true
 | (i,b)::r=>(ok i && b.An && b.RT ok) && Cg ok r
theorem jH {ok:Nat→Bool}:∀{K:ah} {i:Nat},Cg ok K=true→aa K i ≠ .none→ok i=true∧(aa K i).An=true∧(aa K i).RT ok=true
 | [],i,_,h=>absurd rfl h
 | (j,b)::r,i,hk,h=>by
  simp only [Cg,Bool.and_eq_true] at hk
  simp only [aa] at h ⊢
  cases e:Nat.beq j i with
  | true=>have:=Nat.eq_of_beq_eq_true e; subst this; exact ⟨hk.1.1.1,hk.1.1.2,hk.1.2⟩
  | false=>rw [e] at h; exact jH hk.2 h
theorem fJ.nm {G G':Gh} {w:World} {i:Nat} {b:ao} {ok:Nat→Bool} (h:fJ G w i b) (hp:b.An=true) (hn:b.RT ok=true) (hM:G'.M=G.M) (hβ:G'.β=G.β) (hi:G'.H i=G.H i) (hH:∀j v e p x,ok j=true→az G.H j v e p=some x→az G'.H j v e p=some x):fJ G' w i b:=by
 have du:=vX (G:=G) (G':=G') (ok:=ok) (by rw [hM]; exact Mem.Le.refl _) (fun j b h=>by rw [hβ]; exact h) hH
 have Hh:∀v e,az G'.H i v e=az G.H i v e:=fun v e=>by funext p; cases p <;> simp [az,hi]
 cases b with
 | none=>exact ⟨by rw [hβ]; exact h.1,fun v e p=>by rw [hi]; exact h.2 v e p⟩
 | dead=>trivial
 | cells l =>
  obtain ⟨b,c,t,h1,h2,h3,h4,h5⟩:=h
  have:=(du (SizeOf.sizeOf l+1)).2 l c.toList (by omega) hn ⟨by simp [h3],fun j d v hd hv=>h5 j d v hd (by simpa using hv)⟩
  exact ⟨b,c,t,by rw [hβ]; exact h1,h2,h3,h4,fun j d v hd hv=>this.2 j d v hd (by simpa using hv)⟩
 | tree v e d =>
  obtain ⟨h1,h2,h3,h4⟩:=h
  exact ⟨by rw [Hh,hM]; exact h1,by rw [Hh]; exact h2,fun v' hv e p=>by rw [hi]; exact h3 v' hv e p,fun e' he p=>by rw [hi]; exact h4 e' he p⟩
 | fz v d =>
  obtain ⟨x,h1,h2,h3⟩:=h
  exact ⟨x,by rw [hi]; exact h1,h2,by rw [hM]; exact h3⟩
 | eA rc st l =>
  obtain ⟨b,fn,tmps,D,h1,h2,h3⟩:=h
  exact ⟨b,fn,tmps,D,by rw [hβ]; exact h1,h2,(du (SizeOf.sizeOf l+1)).2 l tmps.toList (by omega) hn h3⟩
 | held=>exact ⟨fun v hv e p=>by rw [hi]; exact h.1 v hv e p,fun e he p=>by rw [hi]; exact h.2 e he p⟩
 | jd=>cases hp
theorem bI.nm {G G':Gh} {i:Nat} {b:ao} (hp:b.An=true) (hβ:G'.β=G.β) (hi:G'.H i=G.H i) (x:Nat):bI G' i b x ↔ bI G i b x:=by
 have Hh:∀v e,az G'.H i v e=az G.H i v e:=fun v e=>by funext p; cases p <;> simp [az,hi]
 cases b with
 | tree v e d=>simp only [bI,Hh]
 | cells=>simp only [bI,hβ]
 | eA=>simp only [bI,hβ]
 | jd=>cases hp
 | _=>exact Iff.rfl
theorem pt {P:Program} {f:Nat} {rest:List AV} {ex e:Nat} {rs:List AV} {c c' D:DV} {K3:ah} {p:List PS}
  (h:bj P f (.own 0 0 0 []::rest) 1 [(0,.tree 0 0 c)] ex rs ((0,.tree 0 e c')::K3)) (hp:get D p=some c) (bD:p ≠ []) (hc:c.af=true)
  (Kt:AV.xp (fun i=>!Nat.beq i 0) rest=true) (oV:AV.xp (fun i=>!Nat.beq i 0) rs=true) (Mx:Cg (fun i=>!Nat.beq i 0) K3=true) :
  bj P f (.own 0 0 0 p::rest) 1 [(0,.tree 0 0 D)] ex rs ((0,.tree 0 (e+1) (bO D p c'))::K3):=by
 refine ⟨h.1,fun w G vs pP cC hr=>?_⟩
 have w9:∀d,aa [(0,ao.tree 0 0 d)] 0=.tree 0 0 d:=fun _=>rfl
 have Ch:∀d i,i ≠ 0→aa [(0,ao.tree 0 0 d)] i=.none:=fun d i hi=>by
  simp only [aa]; rw [beq_false hi]; rfl
 have jq:=cC.box 0
 rw [w9] at jq
 obtain ⟨ht,dt,LZ,sH⟩:=jq
 obtain ⟨x0,sF,rfl⟩:∃x0 sF,vs=x0::sF:=by
  cases vs with
  | nil=>have:=hr.1; simp at this
  | cons a l=>exact ⟨a,l,rfl⟩
 have kl:=hr.2 0 _ x0 rfl rfl
 have D3:bR G rest sF:=⟨by have:=hr.1; simpa using this,fun j d v hd hv=>hr.2 (j+1) d v hd hv⟩
 cases kl with | own _ _ _ _ _ hu IG =>
 let fx:Nat→Nat→List PS→Option Value:=fun v e q=>if v=0∧e=0 then az G.H 0 0 0 (p++q) else none
 let G1:Gh:={ G with H:=c9 G.H 0 fx }
 have EC:G1.H 0=fx:=by show c9 G.H 0 fx 0=fx; exact eD _ _ _
 have Dy:∀j,j ≠ 0→G1.H j=G.H j:=fun j hj=>by show c9 G.H 0 fx j=_; exact dI _ _ hj
 have xf:az G1.H 0 0 0=fun r=>az G.H 0 0 0 (p++r):=by
  funext q
  cases q with
  | nil=>show G1.H 0 0 0 []=_; rw [EC]; show (if 0=0∧0=0 then _ else _)=_; rw [if_pos ⟨rfl,rfl⟩]
  | cons s q=>show G1.H 0 0 0 (s::q)=_; rw [EC]; show (if 0=0∧0=0 then _ else _)=_; rw [if_pos ⟨rfl,rfl⟩]
 have bY:∀j v e q x,(!Nat.beq j 0)=true→az G.H j v e q=some x→az G1.H j v e q=some x:=fun j v e q x hj hx=>by
  have Dx:j ≠ 0:=by rintro rfl; simp at hj
  cases q with
  | nil=>show G1.H j v 0 []=_; rw [Dy j Dx]; exact hx
  | cons s q=>show G1.H j v e (s::q)=_; rw [Dy j Dx]; exact hx
 have Ku:bR G1 (.own 0 0 0 []::rest) (x0::sF):=by
  have h2:=(vX (G:=G) (G':=G1) (Mem.Le.refl _) (fun _ _ h=>h) bY (SizeOf.sizeOf rest+1)).2 rest sF (by omega) Kt D3
  refine ⟨by have:=h2.1; simp [this],fun j d v hd hv=>?_⟩
  cases j with
  | zero =>
   simp at hd hv; subst hd; subst hv
   refine .own _ _ _ _ _ ?_ IG
   show az G1.H 0 0 0 []=_
   rw [xf]; simpa using hu
  | succ j=>exact h2.2 j d v hd hv
 have Kv:Fit G1 w (aa [(0,ao.tree 0 0 c)]):=by
  have ED:∀i b,bI G1 i (aa [(0,ao.tree 0 0 c)] i) b→i=0∧aO (az G.H 0 0 0) D b:=fun i b ho=>by
   by_cases hi:i=0
   ·subst hi
    rw [w9] at ho
    have ho:aO (az G1.H 0 0 0) c b:=ho
    rw [xf] at ho
    exact ⟨rfl,aO.sub hp ho⟩
   ·rw [Ch c i hi] at ho; exact ho.elim
  refine ⟨cC.sub,fun i=>?_,fun i b ho=>?_,fun i j b h1 h2=>by rw [(ED i b h1).1,(ED j b h2).1]⟩
  ·by_cases hi:i=0
   ·subst hi
    rw [w9]
    refine ⟨by rw [xf]; exact ht.sub hp hc,by rw [xf]; exact dt.sub hp,fun v hv e q=>?_,fun e he q=>?_⟩
    ·rw [EC]; show (if _ then _ else _)=_; rw [if_neg (by omega)]
    ·rw [EC]; show (if _ then _ else _)=_; rw [if_neg (by omega)]
   ·rw [Ch c i hi]
    have:=cC.box i
    rw [Ch D i hi] at this
    exact ⟨this.1,fun v e q=>by rw [Dy i hi]; exact this.2 v e q⟩
  ·obtain ⟨rfl,Dr⟩:=ED i b ho
   exact cC.own 0 b (by rw [w9]; exact Dr)
 refine Calls.mono (h.2 w G1 (x0::sF) pP Kv Ku) ?_
 rintro ee w' ⟨v,o4,K',G',rfl,⟨rfl,rfl⟩,hC⟩
 have xA:∀b i,aa ((0,b)::K3) i=if i=0 then b else aa K3 i:=fun b i=>by
  simp only [aa]
  by_cases hi:i=0
  ·subst hi; rfl
  ·rw [beq_false hi,if_neg hi]; rfl
 have cO:=hC.fit.box 0
 rw [xA,if_pos rfl] at cO
 obtain ⟨MQ,Kw,Vl,Vm⟩:=cO
 have L5:az G'.H 0 0 e []=some x0:=by
  show G'.H 0 0 0 []=some x0
  refine hC.rj 0 (by omega) [] x0 ?_
  have:az G1.H 0 0 0 []=some x0:=by rw [xf]; simpa using hu
  exact this
 have sZ:∀b,bI G1 0 (aa [(0,ao.tree 0 0 c)] 0) b ↔ aO (fun r=>az G.H 0 0 0 (p++r)) c b:=fun b=>by
  rw [w9]
  show aO (az G1.H 0 0 0) c b ↔ _
  rw [xf]
 have fa:∀b,(∃j,bI G1 j (aa [(0,ao.tree 0 0 c)] j) b)→aO (fun r=>az G.H 0 0 0 (p++r)) c b:=by
  rintro b ⟨j,ho⟩
  by_cases hj:j=0
  ·subst hj; exact (sZ b).1 ho
  ·rw [Ch c j hj] at ho; exact ho.elim
 have Sw:aS G'.M w (az G.H 0 0 0) D:=ht.fR hC.le (fun _ _=>rfl) (fun _ _ _ _ _ h=>h)
 obtain ⟨t1,t2,t3⟩:=yt (w':=w') Sw dt hp hc bD hu MQ Kw L5
  (fun b hb Vn=>(hC.frame b (Sw.lt hb) fun i ho=>Vn (fa b ⟨i,ho⟩)).1)
  (fun b hb=>by
   rcases hC.nc 0 b (by rw [xA,if_pos rfl]; exact hb) with h5 | h5
   ·exact .inr h5
   ·exact .inl (fa b h5))
 let f2:Nat→Nat→List PS→Option Value:=fun v e' q=>if v=0∧e'=e+1 then (match q with | []=>none | q=>fP p (az G'.H 0 0 e) (az G.H 0 0 0) q) else if v=0∧e'=0 then az G.H 0 0 0 q else none
 let G2:Gh:={ G' with H:=c9 G'.H 0 f2 }
 have vY:G2.H 0=f2:=by show c9 G'.H 0 f2 0=f2; exact eD _ _ _
 have vZ:∀j,j ≠ 0→G2.H j=G'.H j:=fun j hj=>by show c9 G'.H 0 f2 j=_; exact dI _ _ hj
 have lq:fP p (az G'.H 0 0 e) (az G.H 0 0 0) []=az G.H 0 0 0 []:=dX (by
  rintro ⟨r,hr⟩
  exact bD (List.append_eq_nil_iff.1 hr).1)
 have Qa:az G2.H 0 0 (e+1)=fP p (az G'.H 0 0 e) (az G.H 0 0 0):=by
  funext q
  cases q with
  | nil =>
   rw [lq]
   show G2.H 0 0 0 []=_
   rw [vY]
   show (if 0=0∧0=e+1 then _ else if 0=0∧0=0 then _ else _)=_
   rw [if_neg (by omega),if_pos ⟨rfl,rfl⟩]
  | cons s q =>
   show G2.H 0 0 (e+1) (s::q)=_
   rw [vY]
   show (if 0=0∧e+1=e+1 then _ else _)=_
   rw [if_pos ⟨rfl,rfl⟩]
 have Kx:∀j v e q x,(!Nat.beq j 0)=true→az G'.H j v e q=some x→az G2.H j v e q=some x:=fun j v e q x hj hx=>by
  have Dx:j ≠ 0:=by rintro rfl; simp at hj
  cases q with
  | nil=>show G2.H j v 0 []=_; rw [vZ j Dx]; exact hx
  | cons s q=>show G2.H j v e (s::q)=_; rw [vZ j Dx]; exact hx
 have v5:∀i b,bI G2 i (aa ((0,ao.tree 0 (e+1) (bO D p c'))::K3) i) b→(i=0∧(aO (az G.H 0 0 0) D b ∨ w.heap.size≤b)∧aO (fP p (az G'.H 0 0 e) (az G.H 0 0 0)) (bO D p c') b) ∨ (i ≠ 0∧bI G' i (aa ((0,ao.tree 0 e c')::K3) i) b):=fun i b ho=>by
  rw [xA] at ho
  by_cases hi:i=0
  ·subst hi
   rw [if_pos rfl] at ho
   have ho:aO (az G2.H 0 0 (e+1)) (bO D p c') b:=ho
   rw [Qa] at ho
   exact .inl ⟨rfl,t3 b ho,ho⟩
  ·rw [if_neg hi] at ho
   refine .inr ⟨hi,?_⟩
   rw [xA,if_neg hi]
   by_cases hn:aa K3 i=.none
   ·rw [hn] at ho; exact ho.elim
   ·exact (bI.nm (G:=G') (G':=G2) (jH Mx hn).2.1 rfl (vZ i hi) b).1 ho
 have v7:∀b,aO (fP p (az G'.H 0 0 e) (az G.H 0 0 0)) (bO D p c') b→bI G' 0 (aa ((0,ao.tree 0 e c')::K3) 0) b ∨ (aO (az G.H 0 0 0) D b∧¬ aO (fun r=>az G.H 0 0 0 (p++r)) c b):=by
  rintro b ⟨q,m,x,e1,e2,e3,e4⟩
  by_cases gB:p <+: q
  ·obtain ⟨r,rfl⟩:=bH gB
   rw [fp] at e3
   rw [fY hp (ec MQ.1) (fun q x hx _=>ht.cells q x hx)] at e1
   exact .inl (by rw [xA,if_pos rfl]; exact ⟨r,m,x,e1,e2,e3,e4⟩)
  ·right
   rw [dX gB] at e3
   rw [fZ (ec MQ.1) (fun q x hx _=>ht.cells q x hx) gB] at e1
   cases hx:get D q with
   | none=>rw [hx] at e1; cases e1
   | some y =>
    have WN:y.af=true:=by
     rw [hx] at e1
     simp only [Option.some.injEq] at e1
     by_cases hq:q <+: p
     ·rw [if_pos hq] at e1
      subst e1
      obtain ⟨r,rfl⟩:=bH hq
      cases r with
      | nil=>exact absurd (by simp) gB
      | cons s r=>simp only [List.drop_left] at e2; rw [ea] at e2; exact e2
     ·rw [if_neg hq] at e1; subst e1; exact e2
    refine ⟨⟨q,y,x,hx,WN,e3,e4⟩,?_⟩
    rintro ⟨r,m',x',g1,g2,g3,g4⟩
    have:=dt q (p++r) y m' x x' b hx WN e3 e4 (by rw [get_append,hp]; exact g1) g2 g3 g4
    exact gB (by rw [this]; exact List.prefix_append p r)
 have apart:∀i b,i ≠ 0→bI G' i (aa ((0,ao.tree 0 e c')::K3) i) b→¬ aO (fP p (az G'.H 0 0 e) (az G.H 0 0 0)) (bO D p c') b:=by
  intro i b hi ho hT
  rcases v7 b hT with h5 | ⟨h5,h6⟩
  ·exact hi (hC.fit.inj i 0 b ho h5)
  ·rcases hC.nc i b ho with h7 | h7
   ·have:=ht.lt h5; omega
   ·exact h6 (fa b h7)
 refine ⟨v,o4,_,G2,rfl,⟨rfl,rfl⟩,?_⟩
 refine { fit:=⟨hC.fit.sub,fun i=>?_,fun i b ho=>?_,fun i j b h1 h2=>?_⟩,no:=fun i hi=>?_,res:=?_,le:=hC.le,jW:=fun i hi=>(hC.jW i hi).trans rfl,rj:=fun i hi q x hx=>?_,frame:=fun b hb dm=>?_,nc:=fun i b ho=>?_,os:=hC.os,tape:=hC.tape,output:=hC.output,size:=hC.size }
 ·rw [xA]
  by_cases hi:i=0
  ·subst hi
   rw [if_pos rfl]
   refine ⟨by rw [Qa]; exact t1,by rw [Qa]; exact t2,fun v hv e' q=>?_,fun e' he q=>?_⟩
   ·rw [vY]; show (if _ then _ else if _ then _ else _)=_; rw [if_neg (by omega),if_neg (by omega)]
   ·rw [vY]; show (if _ then _ else if _ then _ else _)=_; rw [if_neg (by omega),if_neg (by omega)]
  ·rw [if_neg hi]
   have hb:=hC.fit.box i
   rw [xA,if_neg hi] at hb
   by_cases hn:aa K3 i=.none
   ·rw [hn] at hb ⊢; exact ⟨hb.1,fun v e q=>by rw [vZ i hi]; exact hb.2 v e q⟩
   ·obtain ⟨_,k2,k3⟩:=jH Mx hn
    exact hb.nm k2 k3 rfl rfl (vZ i hi) Kx
 ·rcases v5 i b ho with ⟨rfl,_,h5⟩ | ⟨hi,h5⟩
  ·rcases v7 b h5 with h6 | ⟨h6,h7⟩
   ·exact hC.fit.own 0 b h6
   ·have:=(hC.frame b (ht.lt h6) fun i ho=>h7 (fa b ⟨i,ho⟩)).2
    show G'.M b=none
    rw [this]
    exact cC.own 0 b (by rw [w9]; exact h6)
  ·exact hC.fit.own i b h5
 ·rcases v5 i b h1 with ⟨rfl,_,k1⟩ | ⟨hi,k1⟩
  ·rcases v5 j b h2 with ⟨rfl,_,k2⟩ | ⟨hj,k2⟩
   ·rfl
   ·exact absurd k1 (apart j b hj k2)
  ·rcases v5 j b h2 with ⟨rfl,_,k2⟩ | ⟨hj,k2⟩
   ·exact absurd k2 (apart i b hi k1)
   ·exact hC.fit.inj i j b k1 k2
 ·rw [xA,if_neg (by omega)]
  have:=hC.no i hi
  rwa [xA,if_neg (by omega)] at this
 ·have:=(vX (G:=G') (G':=G2) (Mem.Le.refl _) (fun _ _ h=>h) Kx (SizeOf.sizeOf (ic o4)+1)).1 (ic o4) v (by omega) (by
   match o4,oV with
   | [a],oV=>simpa [AV.xp,ic] using oV
   | [],oV=>simpa [ic,AV.nm] using oV
   | a::b::l,oV=>simpa [ic,AV.nm] using oV) hC.res
  exact this
 ·obtain rfl:i=0:=by omega
  rw [vY]
  show (if _ then _ else if _ then _ else _)=_
  rw [if_neg (by omega),if_pos ⟨rfl,rfl⟩]
  cases q <;> exact hx
 ·have JE:∀i,¬ bI G1 i (aa [(0,ao.tree 0 0 c)] i) b:=fun i ho=>by
   have:=fa b ⟨i,ho⟩
   exact dm 0 (by rw [w9]; exact aO.sub hp this)
  exact hC.frame b hb JE
 ·rcases v5 i b ho with ⟨rfl,h5 | h5,_⟩ | ⟨hi,h5⟩
  ·exact .inr ⟨0,by rw [w9]; exact h5⟩
  ·exact .inl h5
  ·rcases hC.nc i b h5 with h6 | h6
   ·exact .inl h6
   ·exact .inr ⟨0,by rw [w9]; exact aO.sub hp (fa b h6)⟩
theorem ta {P:Program} {f:Nat} {rest:List AV} {ex:Nat} {rs:List AV} {c D:DV} {K3:ah} {p:List PS}
  (h:bj P f (.own 0 0 0 []::rest) 1 [(0,.tree 0 0 c)] ex rs ((0,.tree 0 0 c)::K3)) (hD:bO D p c=D) (hp:get D p=some c) (bD:p ≠ []) (hc:c.af=true)
  (Kt:AV.xp (fun i=>!Nat.beq i 0) rest=true) (oV:AV.xp (fun i=>!Nat.beq i 0) rs=true) (Mx:Cg (fun i=>!Nat.beq i 0) K3=true) :
  bj P f (.own 0 0 0 p::rest) 1 [(0,.tree 0 0 D)] ex rs ((0,.tree 0 0 D)::K3):=by
 refine ⟨h.1,fun w G vs pP cC hr=>?_⟩
 have w9:∀d,aa [(0,ao.tree 0 0 d)] 0=.tree 0 0 d:=fun _=>rfl
 have Ch:∀d i,i ≠ 0→aa [(0,ao.tree 0 0 d)] i=.none:=fun d i hi=>by
  simp only [aa]; rw [beq_false hi]; rfl
 have jq:=cC.box 0
 rw [w9] at jq
 obtain ⟨ht,dt,LZ,sH⟩:=jq
 obtain ⟨x0,sF,rfl⟩:∃x0 sF,vs=x0::sF:=by
  cases vs with
  | nil=>have:=hr.1; simp at this
  | cons a l=>exact ⟨a,l,rfl⟩
 have kl:=hr.2 0 _ x0 rfl rfl
 have D3:bR G rest sF:=⟨by have:=hr.1; simpa using this,fun j d v hd hv=>hr.2 (j+1) d v hd hv⟩
 cases kl with | own _ _ _ _ _ hu IG =>
 let fx:Nat→Nat→List PS→Option Value:=fun v e q=>if v=0∧e=0 then az G.H 0 0 0 (p++q) else none
 let G1:Gh:={ G with H:=c9 G.H 0 fx }
 have EC:G1.H 0=fx:=by show c9 G.H 0 fx 0=fx; exact eD _ _ _
 have Dy:∀j,j ≠ 0→G1.H j=G.H j:=fun j hj=>by show c9 G.H 0 fx j=_; exact dI _ _ hj
 have xf:az G1.H 0 0 0=fun r=>az G.H 0 0 0 (p++r):=by
  funext q
  cases q with
  | nil=>show G1.H 0 0 0 []=_; rw [EC]; show (if 0=0∧0=0 then _ else _)=_; rw [if_pos ⟨rfl,rfl⟩]
  | cons s q=>show G1.H 0 0 0 (s::q)=_; rw [EC]; show (if 0=0∧0=0 then _ else _)=_; rw [if_pos ⟨rfl,rfl⟩]
 have bY:∀j v e q x,(!Nat.beq j 0)=true→az G.H j v e q=some x→az G1.H j v e q=some x:=fun j v e q x hj hx=>by
  have Dx:j ≠ 0:=by rintro rfl; simp at hj
  cases q with
  | nil=>show G1.H j v 0 []=_; rw [Dy j Dx]; exact hx
  | cons s q=>show G1.H j v e (s::q)=_; rw [Dy j Dx]; exact hx
 have Ku:bR G1 (.own 0 0 0 []::rest) (x0::sF):=by
  have h2:=(vX (G:=G) (G':=G1) (Mem.Le.refl _) (fun _ _ h=>h) bY (SizeOf.sizeOf rest+1)).2 rest sF (by omega) Kt D3
  refine ⟨by have:=h2.1; simp [this],fun j d v hd hv=>?_⟩
  cases j with
  | zero =>
   simp at hd hv; subst hd; subst hv
   refine .own _ _ _ _ _ ?_ IG
   show az G1.H 0 0 0 []=_
   rw [xf]; simpa using hu
  | succ j=>exact h2.2 j d v hd hv
 have Kv:Fit G1 w (aa [(0,ao.tree 0 0 c)]):=by
  have ED:∀i b,bI G1 i (aa [(0,ao.tree 0 0 c)] i) b→i=0∧aO (az G.H 0 0 0) D b:=fun i b ho=>by
   by_cases hi:i=0
   ·subst hi
    rw [w9] at ho
    have ho:aO (az G1.H 0 0 0) c b:=ho
    rw [xf] at ho
    exact ⟨rfl,aO.sub hp ho⟩
   ·rw [Ch c i hi] at ho; exact ho.elim
  refine ⟨cC.sub,fun i=>?_,fun i b ho=>?_,fun i j b h1 h2=>by rw [(ED i b h1).1,(ED j b h2).1]⟩
  ·by_cases hi:i=0
   ·subst hi
    rw [w9]
    refine ⟨by rw [xf]; exact ht.sub hp hc,by rw [xf]; exact dt.sub hp,fun v hv e q=>?_,fun e he q=>?_⟩
    ·rw [EC]; show (if _ then _ else _)=_; rw [if_neg (by omega)]
    ·rw [EC]; show (if _ then _ else _)=_; rw [if_neg (by omega)]
   ·rw [Ch c i hi]
    have:=cC.box i
    rw [Ch D i hi] at this
    exact ⟨this.1,fun v e q=>by rw [Dy i hi]; exact this.2 v e q⟩
  ·obtain ⟨rfl,Dr⟩:=ED i b ho
   exact cC.own 0 b (by rw [w9]; exact Dr)
 refine Calls.mono (h.2 w G1 (x0::sF) pP Kv Ku) ?_
 rintro ee w' ⟨v,o4,K',G',rfl,⟨rfl,rfl⟩,hC⟩
 have xA:∀b i,aa ((0,b)::K3) i=if i=0 then b else aa K3 i:=fun b i=>by
  simp only [aa]
  by_cases hi:i=0
  ·subst hi; rfl
  ·rw [beq_false hi,if_neg hi]; rfl
 have cO:=hC.fit.box 0
 rw [xA,if_pos rfl] at cO
 obtain ⟨MQ,Kw,Vl,Vm⟩:=cO
 have L5:az G'.H 0 0 0 []=some x0:=by
  show G'.H 0 0 0 []=some x0
  refine hC.rj 0 (by omega) [] x0 ?_
  have:az G1.H 0 0 0 []=some x0:=by rw [xf]; simpa using hu
  exact this
 have sZ:∀b,bI G1 0 (aa [(0,ao.tree 0 0 c)] 0) b ↔ aO (fun r=>az G.H 0 0 0 (p++r)) c b:=fun b=>by
  rw [w9]
  show aO (az G1.H 0 0 0) c b ↔ _
  rw [xf]
 have fa:∀b,(∃j,bI G1 j (aa [(0,ao.tree 0 0 c)] j) b)→aO (fun r=>az G.H 0 0 0 (p++r)) c b:=by
  rintro b ⟨j,ho⟩
  by_cases hj:j=0
  ·subst hj; exact (sZ b).1 ho
  ·rw [Ch c j hj] at ho; exact ho.elim
 have Sw:aS G'.M w (az G.H 0 0 0) D:=ht.fR hC.le (fun _ _=>rfl) (fun _ _ _ _ _ h=>h)
 obtain ⟨t1,t2,t3⟩:=yt (w':=w') Sw dt hp hc bD hu MQ Kw L5
  (fun b hb Vn=>(hC.frame b (Sw.lt hb) fun i ho=>Vn (fa b ⟨i,ho⟩)).1)
  (fun b hb=>by
   rcases hC.nc 0 b (by rw [xA,if_pos rfl]; exact hb) with h5 | h5
   ·exact .inr h5
   ·exact .inl (fa b h5))
 rw [hD] at t1 t2 t3
 have hL:∀q n v,get D q=some n→n.af=true→fP p (az G'.H 0 0 0) (az G.H 0 0 0) q=some v→az G.H 0 0 0 q=some v:=fun q n v hq hn hv=>by
  by_cases gB:p <+: q
  ·obtain ⟨r,rfl⟩:=bH gB
   rw [fp] at hv
   rw [get_append,hp] at hq
   obtain ⟨v0,h1,_,_⟩:=(ht.sub hp hc).2 r n hq hn
   have h2:G1.H 0 0 0 r=some v0:=by
    have:az G1.H 0 0 0 r=some v0:=by rw [xf]; exact h1
    cases r <;> exact this
   have h3:=hC.rj 0 (by omega) r v0 h2
   have h4:az G'.H 0 0 0 r=some v0:=by cases r <;> exact h3
   rw [h4] at hv; injection hv with hv; subst hv; exact h1
  ·rwa [dX gB] at hv
 have WO:∀q n v,get D q=some n→n.af=true→az G.H 0 0 0 q=some v→fP p (az G'.H 0 0 0) (az G.H 0 0 0) q=some v:=fun q n v hq hn hv=>by
  obtain ⟨v',h1,_⟩:=t1.2 q n hq hn
  have:=hL q n v' hq hn h1
  rw [hv] at this; injection this with this; subst this; exact h1
 let f2:Nat→Nat→List PS→Option Value:=fun v e' q=>if v=0∧e'=0 then az G.H 0 0 0 q else none
 let G2:Gh:={ G' with H:=c9 G'.H 0 f2 }
 have vY:G2.H 0=f2:=by show c9 G'.H 0 f2 0=f2; exact eD _ _ _
 have vZ:∀j,j ≠ 0→G2.H j=G'.H j:=fun j hj=>by show c9 G'.H 0 f2 j=_; exact dI _ _ hj
 have Qa:az G2.H 0 0 0=az G.H 0 0 0:=by
  funext q
  cases q with
  | nil=>show G2.H 0 0 0 []=_; rw [vY]; show (if 0=0∧0=0 then _ else _)=_; rw [if_pos ⟨rfl,rfl⟩]
  | cons s q=>show G2.H 0 0 0 (s::q)=_; rw [vY]; show (if 0=0∧0=0 then _ else _)=_; rw [if_pos ⟨rfl,rfl⟩]
 have Kx:∀j v e q x,(!Nat.beq j 0)=true→az G'.H j v e q=some x→az G2.H j v e q=some x:=fun j v e q x hj hx=>by
  have Dx:j ≠ 0:=by rintro rfl; simp at hj
  cases q with
  | nil=>show G2.H j v 0 []=_; rw [vZ j Dx]; exact hx
  | cons s q=>show G2.H j v e (s::q)=_; rw [vZ j Dx]; exact hx
 have v5:∀i b,bI G2 i (aa ((0,ao.tree 0 0 D)::K3) i) b→(i=0∧aO (az G.H 0 0 0) D b∧aO (fP p (az G'.H 0 0 0) (az G.H 0 0 0)) D b) ∨ (i ≠ 0∧bI G' i (aa ((0,ao.tree 0 0 c)::K3) i) b):=fun i b ho=>by
  rw [xA] at ho
  by_cases hi:i=0
  ·subst hi
   rw [if_pos rfl] at ho
   have ho:aO (az G2.H 0 0 0) D b:=ho
   rw [Qa] at ho
   refine .inl ⟨rfl,ho,?_⟩
   obtain ⟨q,m,x,e1,e2,e3,e4⟩:=ho
   exact ⟨q,m,x,e1,e2,WO q m x e1 e2 e3,e4⟩
  ·rw [if_neg hi] at ho
   refine .inr ⟨hi,?_⟩
   rw [xA,if_neg hi]
   by_cases hn:aa K3 i=.none
   ·rw [hn] at ho; exact ho.elim
   ·exact (bI.nm (G:=G') (G':=G2) (jH Mx hn).2.1 rfl (vZ i hi) b).1 ho
 have v7:∀b,aO (fP p (az G'.H 0 0 0) (az G.H 0 0 0)) D b→bI G' 0 (aa ((0,ao.tree 0 0 c)::K3) 0) b ∨ (aO (az G.H 0 0 0) D b∧¬ aO (fun r=>az G.H 0 0 0 (p++r)) c b):=by
  rintro b ⟨q,m,x,e1,e2,e3,e4⟩
  by_cases gB:p <+: q
  ·obtain ⟨r,rfl⟩:=bH gB
   rw [fp] at e3
   rw [get_append,hp] at e1
   exact .inl (by rw [xA,if_pos rfl]; exact ⟨r,m,x,e1,e2,e3,e4⟩)
  ·right
   rw [dX gB] at e3
   refine ⟨⟨q,m,x,e1,e2,e3,e4⟩,?_⟩
   rintro ⟨r,m',x',g1,g2,g3,g4⟩
   have:=dt q (p++r) m m' x x' b e1 e2 e3 e4 (by rw [get_append,hp]; exact g1) g2 g3 g4
   exact gB (by rw [this]; exact List.prefix_append p r)
 have apart:∀i b,i ≠ 0→bI G' i (aa ((0,ao.tree 0 0 c)::K3) i) b→¬ aO (fP p (az G'.H 0 0 0) (az G.H 0 0 0)) D b:=by
  intro i b hi ho hT
  rcases v7 b hT with h5 | ⟨h5,h6⟩
  ·exact hi (hC.fit.inj i 0 b ho h5)
  ·rcases hC.nc i b ho with h7 | h7
   ·have:=ht.lt h5; omega
   ·exact h6 (fa b h7)
 refine ⟨v,o4,_,G2,rfl,⟨rfl,rfl⟩,?_⟩
 refine { fit:=⟨hC.fit.sub,fun i=>?_,fun i b ho=>?_,fun i j b h1 h2=>?_⟩,no:=fun i hi=>?_,res:=?_,le:=hC.le,jW:=fun i hi=>(hC.jW i hi).trans rfl,rj:=fun i hi q x hx=>?_,frame:=fun b hb dm=>?_,nc:=fun i b ho=>?_,os:=hC.os,tape:=hC.tape,output:=hC.output,size:=hC.size }
 ·rw [xA]
  by_cases hi:i=0
  ·subst hi
   rw [if_pos rfl]
   refine ⟨by rw [Qa]; exact t1.fR (Mem.Le.refl _) (fun _ _=>rfl) hL,by rw [Qa]; exact t2.fR WO,fun v hv e' q=>?_,fun e' he q=>?_⟩
   ·rw [vY]; show (if _ then _ else _)=_; rw [if_neg (by omega)]
   ·rw [vY]; show (if _ then _ else _)=_; rw [if_neg (by omega)]
  ·rw [if_neg hi]
   have hb:=hC.fit.box i
   rw [xA,if_neg hi] at hb
   by_cases hn:aa K3 i=.none
   ·rw [hn] at hb ⊢; exact ⟨hb.1,fun v e q=>by rw [vZ i hi]; exact hb.2 v e q⟩
   ·obtain ⟨_,k2,k3⟩:=jH Mx hn
    exact hb.nm k2 k3 rfl rfl (vZ i hi) Kx
 ·rcases v5 i b ho with ⟨rfl,_,h5⟩ | ⟨hi,h5⟩
  ·rcases v7 b h5 with h6 | ⟨h6,h7⟩
   ·exact hC.fit.own 0 b h6
   ·have:=(hC.frame b (ht.lt h6) fun i ho=>h7 (fa b ⟨i,ho⟩)).2
    show G'.M b=none
    rw [this]
    exact cC.own 0 b (by rw [w9]; exact h6)
  ·exact hC.fit.own i b h5
 ·rcases v5 i b h1 with ⟨rfl,_,k1⟩ | ⟨hi,k1⟩
  ·rcases v5 j b h2 with ⟨rfl,_,k2⟩ | ⟨hj,k2⟩
   ·rfl
   ·exact absurd k1 (apart j b hj k2)
  ·rcases v5 j b h2 with ⟨rfl,_,k2⟩ | ⟨hj,k2⟩
   ·exact absurd k2 (apart i b hi k1)
   ·exact hC.fit.inj i j b k1 k2
 ·rw [xA,if_neg (by omega)]
  have:=hC.no i hi
  rwa [xA,if_neg (by omega)] at this
 ·have:=(vX (G:=G') (G':=G2) (Mem.Le.refl _) (fun _ _ h=>h) Kx (SizeOf.sizeOf (ic o4)+1)).1 (ic o4) v (by omega) (by
   match o4,oV with
   | [a],oV=>simpa [AV.xp,ic] using oV
   | [],oV=>simpa [ic,AV.nm] using oV
   | a::b::l,oV=>simpa [ic,AV.nm] using oV) hC.res
  exact this
 ·obtain rfl:i=0:=by omega
  rw [vY]
  show (if _ then _ else _)=_
  rw [if_pos ⟨rfl,rfl⟩]
  cases q <;> exact hx
 ·have JE:∀i,¬ bI G1 i (aa [(0,ao.tree 0 0 c)] i) b:=fun i ho=>by
   have:=fa b ⟨i,ho⟩
   exact dm 0 (by rw [w9]; exact aO.sub hp this)
  exact hC.frame b hb JE
 ·rcases v5 i b ho with ⟨rfl,h5,_⟩ | ⟨hi,h5⟩
  ·exact .inr ⟨0,by rw [w9]; exact h5⟩
  ·rcases hC.nc i b h5 with h6 | h6
   ·exact .inl h6
   ·exact .inr ⟨0,by rw [w9]; exact aO.sub hp (fa b h6)⟩
end Go.TM
namespace Go.TM
open Go.RowKit
variable [ct]
section
variable {g:dy} {n:Nat} {ρ:Nat→AV} {κ κ':Nat→ao} {a:Act} {w w':World} {G:Gh}
theorem bZ.Qb (h:bZ g n ρ κ a w G) {i nx ver ep:Nat} {d c:DV} {p:List PS} (hi:κ i=.tree ver ep d) (hx:κ nx=.none) (hp:get d p=some c) (hc:c.af=true) (bD:p ≠ []) (h1:κ' i=.tree ver ep (bO d p .any)) (h2:κ' nx=.tree 0 0 c) (h3:∀j,j ≠ i→j ≠ nx→κ' j=κ j) :
  ∃G',Gh.Le G G'∧G'.M=G.M∧G'.β=G.β∧(∀r,az G'.H nx 0 0 r=az G.H i ver ep (p++r))∧bZ g n ρ κ' a w G':=by
 have Al:i ≠ nx:=fun e=>by rw [e,hx] at hi; cases hi
 have om:=h.fit.box i
 have dJ:=h.fit.box nx
 rw [hi] at om
 rw [hx] at dJ
 obtain ⟨ht,dt,EE,eW⟩:=om
 obtain ⟨f1,f2,f3⟩:=ht.forget dt hp hc bD
 let fx:Nat→Nat→List PS→Option Value:=fun v e q=>if v=0∧e=0 then az G.H i ver ep (p++q) else none
 let G':Gh:={ G with H:=c9 G.H nx fx }
 have MT:G'.H nx=fx:=by show c9 G.H nx fx nx=fx; exact eD _ _ _
 have Dy:∀j,j ≠ nx→G'.H j=G.H j:=fun j e2=>by show c9 G.H nx fx j=_; rw [dI _ _ e2]
 have zg:az G'.H i ver ep=az G.H i ver ep:=by
  funext q
  cases q <;> simp only [az,Dy i Al]
 have MU:az G'.H nx 0 0=fun r=>az G.H i ver ep (p++r):=by
  funext q
  cases q with
  | nil=>show G'.H nx 0 0 []=_; rw [MT]; show (if 0=0∧0=0 then az G.H i ver ep (p++[]) else none)=_; rw [if_pos ⟨rfl,rfl⟩]
  | cons s q=>show G'.H nx 0 0 (s::q)=_; rw [MT]; show (if 0=0∧0=0 then az G.H i ver ep (p++s::q) else none)=_; rw [if_pos ⟨rfl,rfl⟩]
 have hle:Gh.Le G G':=⟨Mem.Le.refl _,fun _ _ q=>q,fun j v e q x hq=>by
  by_cases e2:j=nx
  ·subst e2; rw [dJ.2] at hq; cases hq
  ·rw [Dy j e2]; exact hq⟩
 have EF:∀b,bI G' i (κ' i) b→aO (az G.H i ver ep) d b∧¬ aO (fun r=>az G.H i ver ep (p++r)) c b:=fun b hb=>by
  rw [h1] at hb; simp only [bI] at hb; rw [zg] at hb; exact f3 b hb
 have EG:∀b,bI G' nx (κ' nx) b→aO (fun r=>az G.H i ver ep (p++r)) c b:=fun b hb=>by
  rw [h2] at hb; simp only [bI] at hb; rw [MU] at hb; exact hb
 refine ⟨G',hle,rfl,rfl,fun r=>congrFun MU r,h.oS (C:=fun j=>j=i ∨ j=nx) ⟨hle,fun _ _=>rfl,fun j hj=>h3 j (fun e=>hj (.inl e)) (fun e=>hj (.inr e)),fun j hj=>⟨fun _ q=>q,fun v e q x hq=>?_⟩,fun _ _ _=>⟨rfl,rfl⟩,h.fit.sub,?_,?_,?_,Nat.le_refl _,rfl,rfl,rfl⟩ (fun _ _=>rfl)⟩
 ·rw [Dy j (fun e=>hj (.inr e))] at hq; exact hq
 ·rintro j (rfl | rfl)
  ·rw [h1]
   refine ⟨by rw [zg]; exact f1,by rw [zg]; exact f2,fun v hv e q=>?_,fun e he q=>?_⟩
   ·rw [Dy j Al]; exact EE v hv e q
   ·rw [Dy j Al]; exact eW e he q
  ·rw [h2]
   refine ⟨by rw [MU]; exact ht.sub hp hc,by rw [MU]; exact dt.sub hp,fun v hv e q=>?_,fun e he q=>?_⟩
   ·rw [MT]; show (if v=0∧e=0 then _ else _)=_; rw [if_neg (by omega)]
   ·rw [MT]; show (if 0=0∧e=0 then _ else _)=_; rw [if_neg (by omega)]
 ·rintro j b (rfl | rfl) hb
  ·have cO:=(EF b hb).1
   have:bI G j (κ j) b:=by rw [hi]; exact cO
   exact ⟨.inr ⟨j,.inl rfl,this⟩,h.fit.own j b this⟩
  ·have cO:=(EG b hb).sub hp
   have:bI G i (κ i) b:=by rw [hi]; exact cO
   exact ⟨.inr ⟨i,.inl rfl,this⟩,h.fit.own i b this⟩
 ·rintro j j' b (rfl | rfl) (rfl | rfl) hb cO
  ·rfl
  ·exact absurd (EG b cO) (EF b hb).2
  ·exact absurd (EG b hb) (EF b cO).2
  ·rfl
end
theorem qJ {sz:Nat} {l:List DV} (jY:∀x,x∈l→x.bF) {p:List PS} {n:DV} (h:get (.ay sz l) p=some n) (ho:n.af=true):p=[]∧n=.ay sz l:=by
 cases p with
 | nil=>simp [get] at h; exact ⟨rfl,h.symm⟩
 | cons s p =>
  exfalso
  simp only [get] at h
  cases s with
  | key k j=>simp [step] at h
  | el i j =>
   simp only [step] at h
   cases hm:l[i]? with
   | none=>rw [hm] at h; simp at h
   | some x =>
    rw [hm] at h
    simp only at h
    cases hc:x.cells[j]? with
    | none=>rw [hc] at h; simp at h
    | some c =>
     rw [hc] at h
     simp only at h
     have zf:c.af=false:=jY x (List.mem_of_getElem? hm) c (List.mem_of_getElem? hc)
     cases p with
     | nil=>simp [get] at h; subst h; rw [zf] at ho; cases ho
     | cons s' p =>
      simp only [get] at h
      cases c <;> simp [step] at h <;> cases zf
theorem sd {P:Program} {f:Nat} (uG:hZ P f) {rest:List AV} {m:Nat} {K3:ah} {sz:Nat} {l l':List DV} {D:DV} {p:List PS} (hp:get D p=some (.ay sz l)) (bD:p ≠ []) (hm:1≤m) (Mx:∀i,m≤i→aa K3 i=.none)
  (jY:∀x,x∈l'→x.bF)
  (bc:∀(w:World) (G:Gh) (v:Value) (xs:List Value),Fit G w (aa ((0,.tree 0 0 D)::K3))→az G.H 0 0 0 p=some v→bW G.M w v (fun s=>az G.H 0 0 0 (p++[s])) (.ay sz l)→bR G rest xs →
   Calls P f (v::xs).toArray w fun e w'=>∃v',e=.returned v'∧v'.oneCell'=true∧w.grownBy w' (fm v)∧oo w' v' sz l' (fun _ _ d u=>d.af=false∧bk G.M d u)∧∀b,fm v'=some b→fm v=some b ∨ w.heap.size≤b) :
  bj P f (.own 0 0 0 p::rest) m ((0,.tree 0 0 D)::K3) 1 [.own m 1 0 []] ((m,.tree 1 0 (.ay sz l'))::(0,.tree 0 0 (bO D p .any))::K3):=by
 refine ⟨uG,fun w G vs pP cC hr=>?_⟩
 obtain ⟨x0,sF,rfl⟩:∃x0 sF,vs=x0::sF:=by
  cases vs with
  | nil=>have:=hr.1; simp at this
  | cons a l=>exact ⟨a,l,rfl⟩
 have kl:=hr.2 0 _ x0 rfl rfl
 have D3:bR G rest sF:=⟨by have:=hr.1; simpa using this,fun j d v hd hv=>hr.2 (j+1) d v hd hv⟩
 cases kl with | own _ _ _ _ _ hu IG =>
 have w9:∀d,aa ((0,ao.tree 0 0 d)::K3) 0=.tree 0 0 d:=fun _=>rfl
 have Ch:∀d i,i ≠ 0→aa ((0,ao.tree 0 0 d)::K3) i=aa K3 i:=fun d i hi=>by
  simp only [aa]; rw [beq_false hi]; rfl
 obtain ⟨u0,TY,_,aX⟩:=cC.node (w9 D) hp rfl
 rw [hu] at TY; injection TY with TY; subst TY
 let g:dy:=⟨fun b=>∃i,bI G i (aa ((0,.tree 0 0 D)::K3) i) b,w,G.M,m,G.β,fun i p=>G.H i 0 0 p⟩
 have Qc:bZ g 0 (fun _=>.any) (aa ((0,.tree 0 0 D)::K3)) { tmps:=#[],defers:=[] } w G :=
  {fit:=cC,env:=fun t=>.any _,size:=rfl,xP:=fun _ _ _=>rfl,os:=rfl,tape:=rfl,output:=rfl,grow:=Nat.le_refl _,mem:=.refl G.M,mK:=fun _ _ _=>rfl,ga:=fun i b ho=>.inr ⟨i,ho⟩,jW:=fun _ _=>rfl,rj:=fun _ _ _ _ hx=>hx,oh:=pP,rn:=⟨[],rfl,List.nodup_nil,by simp⟩ }
 have X8:aa ((0,.tree 0 0 D)::K3) m=.none:=by rw [Ch D m (by omega)]; exact Mx m (Nat.le_refl _)
 obtain ⟨G1,g1,g2,g3,g4,g7⟩:=Qc.Qb (κ':=aw (aa ((0,.tree 0 0 D)::K3)) [(m,.tree 0 0 (.ay sz l)),(0,.tree 0 0 (bO D p .any))]) (i:=0) (nx:=m) (w9 D) X8 hp rfl bD
  (by simp only [aw]; rw [ae _ _ (by omega)]; simp) (by simp [aw]) (fun j h1 h2=>by simp only [aw]; rw [ae _ _ h2,ae _ _ h1])
 refine Calls.mono (bc w G x0 sF cC hu aX D3) ?_
 rintro e w' ⟨v',rfl,pX,Sx,il,O1⟩
 have IH:az G1.H m 0 0 []=some x0:=by rw [g4 [],List.append_nil]; exact hu
 have hκm:aw (aa ((0,.tree 0 0 D)::K3)) [(m,.tree 0 0 (.ay sz l)),(0,.tree 0 0 (bO D p .any))] m=.tree 0 0 (.ay sz l):=by simp [aw]
 have kj:=g7.fit.box m
 rw [hκm] at kj
 have Kz:∀b,fm x0=some b→bI G1 m (aw (aa ((0,.tree 0 0 D)::K3)) [(m,.tree 0 0 (.ay sz l)),(0,.tree 0 0 (bO D p .any))] m) b:=fun b hb=>by
  rw [hκm]; exact ⟨[],_,x0,rfl,rfl,IH,hb⟩
 obtain ⟨G',k1,k2,k3,k4,_,_,k7⟩:=g7.jZ (κ':=aa ((m,.tree 1 0 (.ay sz l'))::(0,.tree 0 0 (bO D p .any))::K3)) (w':=w') (i:=m) (ver:=1) (ep:=0) (d:=.ay sz l') (fun _=>False) (fun q=>if q=[] then some v' else none) (fun h=>h)
  (.inr ⟨0,0,_,hκm,by omega,by omega⟩) (fun _ h=>h.elim) (by simp only [aa,Nat.beq_refl,cond_true]) (fun j hj _=>by
   show (bif Nat.beq m j then ao.tree 1 0 (.ay sz l') else aa ((0,.tree 0 0 (bO D p .any))::K3) j)=_
   rw [beq_false hj]
   simp only [cond_false,aw]
   rw [ae _ _ hj]
   by_cases h0:j=0
   ·subst h0; rw [aW]; rfl
   ·rw [ae _ _ h0,Ch D j h0,Ch _ j h0])
  (fun q y hy=>by
   cases q with
   | nil=>simp only [az] at hy; rw [kj.2.2.1 1 (by omega)] at hy; cases hy
   | cons s q=>simp only [az] at hy; rw [kj.2.2.1 1 (by omega)] at hy; cases hy)
  ⟨rfl,fun q y hy ho=>by
   obtain ⟨rfl,rfl⟩:=qJ jY hy ho
   refine ⟨v',by simp,pX,?_⟩
   rcases il with ⟨rfl,rfl⟩ | ⟨gb,o,cap,c,t,rfl,a1,a2,a3,a4⟩
   ·exact .inl ⟨rfl,rfl⟩
   ·refine .inr ⟨gb,o,cap,c,t,rfl,a1,a2,a3,fun i x hx=>⟨(a4 i x hx).1,fun j d hd=>?_⟩⟩
    obtain ⟨b1,u,b2,b3,b4⟩:=(a4 i x hx).2 j d hd
    exact ⟨b1,u,b2,.inr ⟨b3,by rw [g2]; exact b4⟩⟩⟩
  (fun q q' y y' u v b e1 e2 _ _ f1 f2 _ _=>by rw [(qJ jY e1 e2).1,(qJ jY f1 f2).1])
  (fun b ⟨q,y,u,h1,h2,h3,h4⟩=>by
   obtain ⟨rfl,rfl⟩:=qJ jY h1 h2
   simp at h3; subst h3
   rcases O1 b h4 with h5 | h5
   ·exact .inr (.inl (Kz b h5))
   ·exact .inl h5)
  (fun b hb dm _=>Sx.block b hb fun e=>dm (Kz b e.symm))
  (fun b hb=>by
   rcases hb with h5 | ⟨_,h5,_⟩
   ·exact g7.fit.own m b h5
   ·exact h5.elim)
  Sx.size Sx.os Sx.tape Sx.output
 refine ⟨_,_,_,G',rfl,⟨rfl,rfl⟩,?_⟩
 refine ⟨k7.fit,fun i hi=>?_,?_,k7.mem,k7.jW,k7.rj,fun b hb hO=>⟨k7.xP b hb (fun ⟨i,h⟩=>hO i h),k7.mK b hb (fun ⟨i,h⟩=>hO i h)⟩,k7.ga,k7.os,k7.tape,k7.output,k7.grow⟩
 ·show (bif Nat.beq m i then ao.tree 1 0 (.ay sz l') else aa ((0,.tree 0 0 (bO D p .any))::K3) i)=_
  rw [beq_false (by omega)]
  simp only [cond_false]
  rw [Ch _ i (by omega)]
  exact Mx i (by omega)
 ·exact .own _ _ _ _ _ ((k4 []).trans (by simp)) pX
end Go.TM
namespace Go.TM
open Go.RowKit
variable [ct]
def WQ:XC:=⟨false,0,fun _ _ _ _=>.no [],fun _ _ _=>.no []⟩
def KA (T:List TI) (pol:Nat→Bool) (ops:List Oper) (n nx:Nat) (ρ0:Nat→AV) (κ0:Nat→ao) (rs:List Rec) (p:Nat × Nat):Option (List Nat × jo):=match ops[p.1]? with
 | none=>none
 | some o=>match o.guard with
  | some _=>none
  | none=>match (L4 T pol WQ nx (Bx ρ0 rs p.1) (xl κ0 rs ops.length p.1 p.2) o.op).bind fun r=>mD n o.dst r with
   | .ok e=>some (fo (Bx ρ0 rs p.1) (xl κ0 rs ops.length p.1 p.2) o,e.1)
   | .no _=>none
def KB (T:List TI) (pol:Nat→Bool) (ops:List Oper) (n nx:Nat) (ρ0:Nat→AV) (κ0:Nat→ao) (rs:List Rec):List (Nat × Nat)→List (Option (List Nat × jo))
 | []=>[]
 | p::r=>KA T pol ops n nx ρ0 κ0 rs p::KB T pol ops n nx ρ0 κ0 rs r
def Qd (rs:List Rec):List (Nat × Nat)→List (Option (List Nat × jo))
 | []=>[]
 | p::r=>(rs[p.1]?.map fun c=>(c.rows,c.bf))::Qd rs r
theorem qK {P:Program} {T:List TI} {pol:Nat→Bool} {ops:List Oper} {n nx:Nat} {ρ0:Nat→AV} {κ0:Nat→ao} {rs:List Rec}:∀{sf:List (Nat × Nat)},(sf.all fun p=>(rs[p.1]?).isSome)=true→KB T pol ops n nx ρ0 κ0 rs sf=Qd rs sf→By P T ops n nx ρ0 κ0 rs sf
 | [],_,_=>trivial
 | (j,x)::sf,hp,h=>by
  simp only [KB,Qd,List.cons.injEq] at h
  obtain ⟨h1,h2⟩:=h
  simp only [List.all_cons,Bool.and_eq_true] at hp
  refine ⟨?_,qK hp.2 h2⟩
  have hj:(rs[j]?).isSome=true:=hp.1
  cases hr:rs[j]? with
  | none=>rw [hr] at hj; cases hj
  | some rc =>
   unfold KA at h1
   rw [hr] at h1
   simp only [Option.map_some] at h1
   cases ho:ops[j]? with
   | none=>rw [ho] at h1; cases h1
   | some o =>
    rw [ho] at h1
    simp only at h1 ⊢
    cases hg:o.guard with
    | some q=>rw [hg] at h1; cases h1
    | none =>
     rw [hg] at h1
     simp only at h1
     split at h1
     ·rename_i e he
      injection h1 with h1
      injection h1 with h3 h4
      refine ⟨h3.symm,fun hT C hC hn=>?_⟩
      obtain ⟨r,e1,e2⟩:=ad he
      exact Cb hT (c:=WQ) (fun f args m K r hh=>by cases hh) (fun args m K r hh=>by cases hh) hC hn hg e1 e2 h4
     ·cases h1
end Go.TM
