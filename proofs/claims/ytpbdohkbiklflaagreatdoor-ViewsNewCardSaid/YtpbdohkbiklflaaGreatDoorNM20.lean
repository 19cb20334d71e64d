import Derived.Test.YtpbdohkbiklflaaGreatDoorNM19
set_option linter.unusedVariables false
set_option linter.unusedSimpArgs false
set_option linter.unusedSectionVars false
namespace Go.TM
open Go.RowKit
variable [Glob]
theorem nm_rel {G G':Gh} {ok:Nat→Bool} (hM:Mem.Le G.M G'.M) (hβ:∀j b,G.β j=some b→G'.β j=some b) (hH:∀j v e p x,ok j=true→hdr G.H j v e p=some x→hdr G'.H j v e p=some x):∀N:Nat,
  (∀(u:AV) (x:Value),SizeOf.sizeOf u<N→AV.nm ok u=true→VRel G u x→VRel G' u x)∧(∀(us:List AV) (xs:List Value),SizeOf.sizeOf us<N→AV.nms ok us=true→CRel G us xs→CRel G' us xs):=by
 intro N
 induction N with
 | zero=>exact ⟨fun _ _ h=>by omega,fun _ _ h=>by omega⟩
 | succ N ih =>
  refine ⟨fun u x hsz hn hv=>?_,fun us xs hsz hn hr=>?_⟩
  ·cases u with
   | any=>exact .any _
   | dv d=>cases hv with | dv h=>exact .dv (h.mono hM)
   | ptr i off=>cases hv with | ptr _ _ b h=>exact .ptr _ off b (hβ _ _ h)
   | yld i=>cases hv with | yld _ b h=>exact .yld _ b (hβ _ _ h)
   | sle i n=>cases hv with | sle _ _ b h=>exact .sle _ n b (hβ _ _ h)
   | ownf i v =>
    simp only [AV.nm] at hn
    cases hv with | ownf _ _ a n h=>exact .ownf _ _ a n (hH i v 0 [] _ hn h)
   | own i v e p =>
    simp only [AV.nm] at hn
    cases hv with | own _ _ _ _ _ h hc=>exact .own _ _ _ p x (hH _ _ _ _ _ hn h) hc
   | loc i v e p a b c =>
    simp only [AV.nm] at hn
    cases hv with
    | loc _ _ _ _ _ _ _ A q q' h=>exact .loc _ _ _ p a b c A q q' (hH _ _ _ _ _ hn h)
    | locp _ _ _ _ _ _ _ A h=>exact .locp _ _ _ p a b c A (hH _ _ _ _ _ hn h)
   | pre i v e p a b c =>
    simp only [AV.nm] at hn
    cases hv with
    | pre _ _ _ _ _ _ _ q q' h=>exact .pre _ _ _ p a b c q q' fun hz=>by obtain ⟨A,N,c',e1,e2⟩:=h hz; exact ⟨A,N,c',hH _ _ _ _ _ hn e1,e2⟩
   | fn f l=>simp only [AV.nm] at hn; cases hv with | fn _ _ vs hl hr=>have:=ih.2 l vs (by simp at hsz; omega) hn ⟨hl,hr⟩; exact .fn f _ vs this.1 this.2
   | bfn f l=>simp only [AV.nm] at hn; cases hv with | bfn _ _ vs hl hr=>have:=ih.2 l vs (by simp at hsz; omega) hn ⟨hl,hr⟩; exact .bfn f _ vs this.1 this.2
   | agg l=>simp only [AV.nm] at hn; cases hv with | agg _ vs hl hr=>have:=ih.2 l vs (by simp at hsz; omega) hn ⟨hl,hr⟩; exact .agg _ vs this.1 this.2
   | tup l=>simp only [AV.nm] at hn; cases hv with | tup _ vs hl hr=>have:=ih.2 l vs (by simp at hsz; omega) hn ⟨hl,hr⟩; exact .tup _ vs this.1 this.2
   | opt g v=>simp only [AV.nm] at hn; cases hv with | opt _ _ _ h hu=>exact .opt g _ x (fun hg=>ih.1 v x (by simp at hsz; omega) hn (h hg)) hu
  ·cases us with
   | nil=>exact ⟨hr.1,by simp⟩
   | cons u us =>
    simp only [AV.nms,Bool.and_eq_true] at hn
    cases xs with
    | nil=>simp [CRel] at hr
    | cons x xs =>
     have h1:=ih.1 u x (by simp at hsz; omega) hn.1 (hr.2 0 u x rfl rfl)
     have h2:=ih.2 us xs (by simp at hsz; omega) hn.2 ⟨by have:=hr.1; simpa using this,fun j d v hd hv=>hr.2 (j+1) d v hd hv⟩
     refine ⟨by have:=h2.1; simp [this],fun j d v hd hv=>?_⟩
     cases j with
     | zero=>simp at hd hv; subst hd; subst hv; exact h1
     | succ j=>exact h2.2 j d v hd hv
open Classical in
noncomputable def lentH (p:List PS) (nh h:List PS→Option Value):List PS→Option Value:=fun q=>if p <+: q then nh (q.drop p.length) else h q
theorem lentH_in {p r:List PS} {nh h:List PS→Option Value}:lentH p nh h (p++r)=nh r:=by
 unfold lentH; rw [if_pos (List.prefix_append p r)]; simp
theorem lentH_out {p q:List PS} {nh h:List PS→Option Value} (e:¬ p <+: q):lentH p nh h q=h q:=by
 unfold lentH; rw [if_neg e]
open Classical in
theorem lend_tree {M:Mem} {w w':World} {h nh:List PS→Option Value} {D c c':DV} {p:List PS} {u:Value} (ht:TreeAt M w h D) (hi:TInj h D) (hp:get D p=some c) (hc:c.owning=true) (hne:p ≠ []) (hu:h p=some u)
  (ht':TreeAt M w' nh c') (hi':TInj nh c') (hn0:nh []=some u)
  (hfr:∀b,TOwn h D b→¬ TOwn (fun r=>h (p++r)) c b→w'.heap[b]?=w.heap[b]?)
  (hno:∀b,TOwn nh c' b→TOwn (fun r=>h (p++r)) c b ∨ w.heap.size≤b) :
  TreeAt M w' (lentH p nh h) (setP D p c')∧TInj (lentH p nh h) (setP D p c')∧∀b,TOwn (lentH p nh h) (setP D p c') b→TOwn h D b ∨ w.heap.size≤b:=by
 have hcells:∀(q:List PS) (x:DV),get D q=some x→q ≠ []→x.isCell=true:=fun q x hx _=>ht.cells q x hx
 have hcn':=owning_cell ht'.1
 have cases':∀q m,get (setP D p c') q=some m→m.owning=true →
   (∃r,q=p++r∧get c' r=some m) ∨ (¬ p <+: q∧∃x,get D q=some x∧x.owning=true∧m=if q <+: p then setP x (p.drop q.length) c' else x):=by
  intro q m hm hmo
  by_cases hpq:p <+: q
  ·obtain ⟨r,rfl⟩:=prefix_split hpq
   rw [get_setP_ext hp hcn' hcells] at hm
   exact .inl ⟨r,rfl,hm⟩
  ·right
   rw [get_setP_off hcn' hcells hpq] at hm
   refine ⟨hpq,?_⟩
   cases hx:get D q with
   | none=>rw [hx] at hm; cases hm
   | some x =>
    rw [hx] at hm
    simp only [Option.some.injEq] at hm
    refine ⟨x,rfl,?_,hm.symm⟩
    by_cases hq:q <+: p
    ·rw [if_pos hq] at hm
     subst hm
     obtain ⟨r,rfl⟩:=prefix_split hq
     cases r with
     | nil=>exact absurd (by simp) hpq
     | cons s r=>simp only [List.drop_left] at hmo; rw [setP_owning] at hmo; exact hmo
    ·rw [if_neg hq] at hm; subst hm; exact hmo
 have beside:∀q x v b,¬ p <+: q→get D q=some x→x.owning=true→h q=some v→blk v=some b→¬ TOwn (fun r=>h (p++r)) c b:=by
  rintro q x v b hpq hx hxo hv hb ⟨r,m,v',e1,e2,e3,e4⟩
  have:=hi q (p++r) x m v v' b hx hxo hv hb (by rw [get_append,hp]; exact e1) e2 e3 e4
  exact hpq (by rw [this]; exact List.prefix_append p r)
 refine ⟨⟨?_,fun q m hm hmo=>?_⟩,?_,?_⟩
 ·cases p with
  | nil=>exact absurd rfl hne
  | cons s p=>rw [setP_owning]; exact ht.1
 ·rcases cases' q m hm hmo with ⟨r,rfl,hr⟩ | ⟨hpq,x,hx,hxo,hmx⟩
  ·obtain ⟨v,h1,h2,h3⟩:=ht'.2 r m hr hmo
   refine ⟨v,lentH_in.trans h1,h2,?_⟩
   have:(fun s=>lentH p nh h (p++r++[s]))=fun s=>nh (r++[s]):=by funext s; rw [List.append_assoc,lentH_in]
   rw [this]; exact h3
  ·obtain ⟨v,h1,h2,h3⟩:=ht.2 q x hx hxo
   refine ⟨v,(lentH_out hpq).trans h1,h2,?_⟩
   have hkeep:NodeAt M w' v (fun s=>lentH p nh h (q++[s])) x:=by
    refine h3.keep (Mem.Le.refl _) (fun b hb=>hfr b ⟨_,x,v,hx,hxo,h1,hb⟩ (beside q x v b hpq hx hxo h1 hb)) (fun s' c2 hs' hc' y hy=>?_) h3.keys
    by_cases e:p <+: q++[s']
    ·have:p=q++[s']:=by
      obtain ⟨r,hr⟩:=e
      rcases List.eq_nil_or_concat r with rfl | ⟨r',z,rfl⟩
      ·simpa using hr
      ·rw [List.concat_eq_append,←List.append_assoc] at hr
       have:=(List.append_inj' hr (by simp)).1
       exact absurd ⟨r',this⟩ hpq
     rw [←this] at hy ⊢
     rw [hu] at hy
     have:=lentH_in (p:=p) (r:=[]) (nh:=nh) (h:=h)
     rw [List.append_nil] at this
     rw [this,hn0]; exact hy
    ·rw [lentH_out e]; exact hy
   rw [hmx]
   by_cases hq:q <+: p
   ·rw [if_pos hq]
    obtain ⟨r,rfl⟩:=prefix_split hq
    cases r with
    | nil=>exact absurd (by simp) hpq
    | cons s r =>
     simp only [List.drop_left]
     rw [get_append,hx] at hp
     simp only [get] at hp
     cases hs:step x s with
     | none=>rw [hs] at hp; cases hp
     | some c1 =>
      rw [hs] at hp
      have hc1:c1.owning=true:=by
       cases r with
       | nil=>simp [get] at hp; subst hp; exact hc
       | cons s' r=>simp only [get] at hp; cases hs':step c1 s' with
        | none=>rw [hs'] at hp; cases hp
        | some _=>exact step_owning hs'
      have hc2:(setP c1 r c').owning=true:=by
       cases r with
       | nil=>exact ht'.1
       | cons s' r=>rw [setP_owning]; exact hc1
      simp only [setP,hs]
      exact hkeep.put_kid hs hc1 hc2
   ·rw [if_neg hq]; exact hkeep
 ·intro q q' m m' v v' b e1 e2 e3 e4 f1 f2 f3 f4
  rcases cases' q m e1 e2 with ⟨r,rfl,hr⟩ | ⟨hpq,x,hx,hxo,_⟩
  ·rcases cases' q' m' f1 f2 with ⟨r',rfl,hr'⟩ | ⟨hpq',x',hx',hxo',_⟩
   ·rw [lentH_in] at e3 f3
    rw [hi' r r' m m' v v' b hr e2 e3 e4 hr' f2 f3 f4]
   ·exfalso
    rw [lentH_in] at e3
    rw [lentH_out hpq'] at f3
    rcases hno b ⟨r,m,v,hr,e2,e3,e4⟩ with h5 | h5
    ·exact beside q' x' v' b hpq' hx' hxo' f3 f4 h5
    ·have:=ht.lt (b:=b) ⟨q',x',v',hx',hxo',f3,f4⟩
     omega
  ·rcases cases' q' m' f1 f2 with ⟨r',rfl,hr'⟩ | ⟨hpq',x',hx',hxo',_⟩
   ·exfalso
    rw [lentH_in] at f3
    rw [lentH_out hpq] at e3
    rcases hno b ⟨r',m',v',hr',f2,f3,f4⟩ with h5 | h5
    ·exact beside q x v b hpq hx hxo e3 e4 h5
    ·have:=ht.lt (b:=b) ⟨q,x,v,hx,hxo,e3,e4⟩
     omega
   ·rw [lentH_out hpq] at e3
    rw [lentH_out hpq'] at f3
    exact hi q q' x x' v v' b hx hxo e3 e4 hx' hxo' f3 f4
 ·rintro b ⟨q,m,v,e1,e2,e3,e4⟩
  rcases cases' q m e1 e2 with ⟨r,rfl,hr⟩ | ⟨hpq,x,hx,hxo,_⟩
  ·rw [lentH_in] at e3
   rcases hno b ⟨r,m,v,hr,e2,e3,e4⟩ with h5 | h5
   ·exact .inl (TOwn.sub hp h5)
   ·exact .inr h5
  ·rw [lentH_out hpq] at e3
   exact .inl ⟨q,x,v,hx,hxo,e3,e4⟩
def Box.plainB:Box→Bool
 | .itr _ _ _ _ _=>false
 | _=>true
def noItr (ok:Nat→Bool):Boxes→Bool
 | []=>true
 | (i,b)::r=>(ok i && b.plainB && b.nmc ok) && noItr ok r
theorem noItr_look {ok:Nat→Bool}:∀{K:Boxes} {i:Nat},noItr ok K=true→lookB K i ≠ .none→ok i=true∧(lookB K i).plainB=true∧(lookB K i).nmc ok=true
 | [],i,_,h=>absurd rfl h
 | (j,b)::r,i,hk,h=>by
  simp only [noItr,Bool.and_eq_true] at hk
  simp only [lookB] at h ⊢
  cases e:Nat.beq j i with
  | true=>have:=Nat.eq_of_beq_eq_true e; subst this; exact ⟨hk.1.1.1,hk.1.1.2,hk.1.2⟩
  | false=>rw [e] at h; exact noItr_look hk.2 h
theorem BoxAt.nm {G G':Gh} {w:World} {i:Nat} {b:Box} {ok:Nat→Bool} (h:BoxAt G w i b) (hp:b.plainB=true) (hn:b.nmc ok=true) (hM:G'.M=G.M) (hβ:G'.β=G.β) (hi:G'.H i=G.H i) (hH:∀j v e p x,ok j=true→hdr G.H j v e p=some x→hdr G'.H j v e p=some x):BoxAt G' w i b:=by
 have hrel:=nm_rel (G:=G) (G':=G') (ok:=ok) (by rw [hM]; exact Mem.Le.refl _) (fun j b h=>by rw [hβ]; exact h) hH
 have hhd:∀v e,hdr G'.H i v e=hdr G.H i v e:=fun v e=>by funext p; cases p <;> simp [hdr,hi]
 cases b with
 | none=>exact ⟨by rw [hβ]; exact h.1,fun v e p=>by rw [hi]; exact h.2 v e p⟩
 | dead=>trivial
 | cells l =>
  obtain ⟨b,c,t,h1,h2,h3,h4,h5⟩:=h
  have:=(hrel (SizeOf.sizeOf l+1)).2 l c.toList (by omega) hn ⟨by simp [h3],fun j d v hd hv=>h5 j d v hd (by simpa using hv)⟩
  exact ⟨b,c,t,by rw [hβ]; exact h1,h2,h3,h4,fun j d v hd hv=>this.2 j d v hd (by simpa using hv)⟩
 | tree v e d =>
  obtain ⟨h1,h2,h3,h4⟩:=h
  exact ⟨by rw [hhd,hM]; exact h1,by rw [hhd]; exact h2,fun v' hv e p=>by rw [hi]; exact h3 v' hv e p,fun e' he p=>by rw [hi]; exact h4 e' he p⟩
 | fz v d =>
  obtain ⟨x,h1,h2,h3⟩:=h
  exact ⟨x,by rw [hi]; exact h1,h2,by rw [hM]; exact h3⟩
 | rcd rc st l =>
  obtain ⟨b,fn,tmps,D,h1,h2,h3⟩:=h
  exact ⟨b,fn,tmps,D,by rw [hβ]; exact h1,h2,(hrel (SizeOf.sizeOf l+1)).2 l tmps.toList (by omega) hn h3⟩
 | held=>exact ⟨fun v hv e p=>by rw [hi]; exact h.1 v hv e p,fun e he p=>by rw [hi]; exact h.2 e he p⟩
 | itr=>cases hp
theorem Own.nm {G G':Gh} {i:Nat} {b:Box} (hp:b.plainB=true) (hβ:G'.β=G.β) (hi:G'.H i=G.H i) (x:Nat):Own G' i b x ↔ Own G i b x:=by
 have hhd:∀v e,hdr G'.H i v e=hdr G.H i v e:=fun v e=>by funext p; cases p <;> simp [hdr,hi]
 cases b with
 | tree v e d=>simp only [Own,hhd]
 | cells=>simp only [Own,hβ]
 | rcd=>simp only [Own,hβ]
 | itr=>cases hp
 | _=>exact Iff.rfl
theorem cspec_lend {P:Program} {f:Nat} {rest:List AV} {ex e:Nat} {rs:List AV} {c c' D:DV} {K3:Boxes} {p:List PS}
  (h:CSpec P f (.own 0 0 0 []::rest) 1 [(0,.tree 0 0 c)] ex rs ((0,.tree 0 e c')::K3)) (hp:get D p=some c) (hne:p ≠ []) (hc:c.owning=true)
  (hrest:AV.nms (fun i=>!Nat.beq i 0) rest=true) (hrs:AV.nms (fun i=>!Nat.beq i 0) rs=true) (hK3:noItr (fun i=>!Nat.beq i 0) K3=true) :
  CSpec P f (.own 0 0 0 p::rest) 1 [(0,.tree 0 0 D)] ex rs ((0,.tree 0 (e+1) (setP D p c'))::K3):=by
 refine ⟨h.1,fun w G vs hgl hfit hr=>?_⟩
 have hl0:∀d,lookB [(0,Box.tree 0 0 d)] 0=.tree 0 0 d:=fun _=>rfl
 have hln:∀d i,i ≠ 0→lookB [(0,Box.tree 0 0 d)] i=.none:=fun d i hi=>by
  simp only [lookB]; rw [beq_false hi]; rfl
 have hb0:=hfit.box 0
 rw [hl0] at hb0
 obtain ⟨ht,hinj,hf1,hf2⟩:=hb0
 obtain ⟨x0,vs',rfl⟩:∃x0 vs',vs=x0::vs':=by
  cases vs with
  | nil=>have:=hr.1; simp at this
  | cons a l=>exact ⟨a,l,rfl⟩
 have hx0:=hr.2 0 _ x0 rfl rfl
 have hr':CRel G rest vs':=⟨by have:=hr.1; simpa using this,fun j d v hd hv=>hr.2 (j+1) d v hd hv⟩
 cases hx0 with | own _ _ _ _ _ hu huc =>
 let fx:Nat→Nat→List PS→Option Value:=fun v e q=>if v=0∧e=0 then hdr G.H 0 0 0 (p++q) else none
 let G1:Gh:={ G with H:=updH G.H 0 fx }
 have hH0:G1.H 0=fx:=by show updH G.H 0 fx 0=fx; exact updH_same _ _ _
 have hHo:∀j,j ≠ 0→G1.H j=G.H j:=fun j hj=>by show updH G.H 0 fx j=_; exact updH_other _ _ hj
 have hh0:hdr G1.H 0 0 0=fun r=>hdr G.H 0 0 0 (p++r):=by
  funext q
  cases q with
  | nil=>show G1.H 0 0 0 []=_; rw [hH0]; show (if 0=0∧0=0 then _ else _)=_; rw [if_pos ⟨rfl,rfl⟩]
  | cons s q=>show G1.H 0 0 0 (s::q)=_; rw [hH0]; show (if 0=0∧0=0 then _ else _)=_; rw [if_pos ⟨rfl,rfl⟩]
 have hok:∀j v e q x,(!Nat.beq j 0)=true→hdr G.H j v e q=some x→hdr G1.H j v e q=some x:=fun j v e q x hj hx=>by
  have hj0:j ≠ 0:=by rintro rfl; simp at hj
  cases q with
  | nil=>show G1.H j v 0 []=_; rw [hHo j hj0]; exact hx
  | cons s q=>show G1.H j v e (s::q)=_; rw [hHo j hj0]; exact hx
 have hrel1:CRel G1 (.own 0 0 0 []::rest) (x0::vs'):=by
  have h2:=(nm_rel (G:=G) (G':=G1) (Mem.Le.refl _) (fun _ _ h=>h) hok (SizeOf.sizeOf rest+1)).2 rest vs' (by omega) hrest hr'
  refine ⟨by have:=h2.1; simp [this],fun j d v hd hv=>?_⟩
  cases j with
  | zero =>
   simp at hd hv; subst hd; subst hv
   refine .own _ _ _ _ _ ?_ huc
   show hdr G1.H 0 0 0 []=_
   rw [hh0]; simpa using hu
  | succ j=>exact h2.2 j d v hd hv
 have hfit1:Fit G1 w (lookB [(0,Box.tree 0 0 c)]):=by
  have own1:∀i b,Own G1 i (lookB [(0,Box.tree 0 0 c)] i) b→i=0∧TOwn (hdr G.H 0 0 0) D b:=fun i b ho=>by
   by_cases hi:i=0
   ·subst hi
    rw [hl0] at ho
    have ho:TOwn (hdr G1.H 0 0 0) c b:=ho
    rw [hh0] at ho
    exact ⟨rfl,TOwn.sub hp ho⟩
   ·rw [hln c i hi] at ho; exact ho.elim
  refine ⟨hfit.sub,fun i=>?_,fun i b ho=>?_,fun i j b h1 h2=>by rw [(own1 i b h1).1,(own1 j b h2).1]⟩
  ·by_cases hi:i=0
   ·subst hi
    rw [hl0]
    refine ⟨by rw [hh0]; exact ht.sub hp hc,by rw [hh0]; exact hinj.sub hp,fun v hv e q=>?_,fun e he q=>?_⟩
    ·rw [hH0]; show (if _ then _ else _)=_; rw [if_neg (by omega)]
    ·rw [hH0]; show (if _ then _ else _)=_; rw [if_neg (by omega)]
   ·rw [hln c i hi]
    have:=hfit.box i
    rw [hln D i hi] at this
    exact ⟨this.1,fun v e q=>by rw [hHo i hi]; exact this.2 v e q⟩
  ·obtain ⟨rfl,ho2⟩:=own1 i b ho
   exact hfit.own 0 b (by rw [hl0]; exact ho2)
 refine Calls.mono (h.2 w G1 (x0::vs') hgl hfit1 hrel1) ?_
 rintro ee w' ⟨v,rs',K',G',rfl,⟨rfl,rfl⟩,hC⟩
 have hlk:∀b i,lookB ((0,b)::K3) i=if i=0 then b else lookB K3 i:=fun b i=>by
  simp only [lookB]
  by_cases hi:i=0
  ·subst hi; rfl
  ·rw [beq_false hi,if_neg hi]; rfl
 have hb':=hC.fit.box 0
 rw [hlk,if_pos rfl] at hb'
 obtain ⟨ht',hinj',hf1',hf2'⟩:=hb'
 have hn0:hdr G'.H 0 0 e []=some x0:=by
  show G'.H 0 0 0 []=some x0
  refine hC.hed 0 (by omega) [] x0 ?_
  have:hdr G1.H 0 0 0 []=some x0:=by rw [hh0]; simpa using hu
  exact this
 have hown0:∀b,Own G1 0 (lookB [(0,Box.tree 0 0 c)] 0) b ↔ TOwn (fun r=>hdr G.H 0 0 0 (p++r)) c b:=fun b=>by
  rw [hl0]
  show TOwn (hdr G1.H 0 0 0) c b ↔ _
  rw [hh0]
 have hownall:∀b,(∃j,Own G1 j (lookB [(0,Box.tree 0 0 c)] j) b)→TOwn (fun r=>hdr G.H 0 0 0 (p++r)) c b:=by
  rintro b ⟨j,ho⟩
  by_cases hj:j=0
  ·subst hj; exact (hown0 b).1 ho
  ·rw [hln c j hj] at ho; exact ho.elim
 have htM:TreeAt G'.M w (hdr G.H 0 0 0) D:=ht.keep hC.le (fun _ _=>rfl) (fun _ _ _ _ _ h=>h)
 obtain ⟨t1,t2,t3⟩:=lend_tree (w':=w') htM hinj hp hc hne hu ht' hinj' hn0
  (fun b hb hnb=>(hC.frame b (htM.lt hb) fun i ho=>hnb (hownall b ⟨i,ho⟩)).1)
  (fun b hb=>by
   rcases hC.nown 0 b (by rw [hlk,if_pos rfl]; exact hb) with h5 | h5
   ·exact .inr h5
   ·exact .inl (hownall b h5))
 let f2:Nat→Nat→List PS→Option Value:=fun v e' q=>if v=0∧e'=e+1 then (match q with | []=>none | q=>lentH p (hdr G'.H 0 0 e) (hdr G.H 0 0 0) q) else if v=0∧e'=0 then hdr G.H 0 0 0 q else none
 let G2:Gh:={ G' with H:=updH G'.H 0 f2 }
 have hH20:G2.H 0=f2:=by show updH G'.H 0 f2 0=f2; exact updH_same _ _ _
 have hH2o:∀j,j ≠ 0→G2.H j=G'.H j:=fun j hj=>by show updH G'.H 0 f2 j=_; exact updH_other _ _ hj
 have hnil:lentH p (hdr G'.H 0 0 e) (hdr G.H 0 0 0) []=hdr G.H 0 0 0 []:=lentH_out (by
  rintro ⟨r,hr⟩
  exact hne (List.append_eq_nil_iff.1 hr).1)
 have hh2:hdr G2.H 0 0 (e+1)=lentH p (hdr G'.H 0 0 e) (hdr G.H 0 0 0):=by
  funext q
  cases q with
  | nil =>
   rw [hnil]
   show G2.H 0 0 0 []=_
   rw [hH20]
   show (if 0=0∧0=e+1 then _ else if 0=0∧0=0 then _ else _)=_
   rw [if_neg (by omega),if_pos ⟨rfl,rfl⟩]
  | cons s q =>
   show G2.H 0 0 (e+1) (s::q)=_
   rw [hH20]
   show (if 0=0∧e+1=e+1 then _ else _)=_
   rw [if_pos ⟨rfl,rfl⟩]
 have hok2:∀j v e q x,(!Nat.beq j 0)=true→hdr G'.H j v e q=some x→hdr G2.H j v e q=some x:=fun j v e q x hj hx=>by
  have hj0:j ≠ 0:=by rintro rfl; simp at hj
  cases q with
  | nil=>show G2.H j v 0 []=_; rw [hH2o j hj0]; exact hx
  | cons s q=>show G2.H j v e (s::q)=_; rw [hH2o j hj0]; exact hx
 have own2:∀i b,Own G2 i (lookB ((0,Box.tree 0 (e+1) (setP D p c'))::K3) i) b→(i=0∧(TOwn (hdr G.H 0 0 0) D b ∨ w.heap.size≤b)∧TOwn (lentH p (hdr G'.H 0 0 e) (hdr G.H 0 0 0)) (setP D p c') b) ∨ (i ≠ 0∧Own G' i (lookB ((0,Box.tree 0 e c')::K3) i) b):=fun i b ho=>by
  rw [hlk] at ho
  by_cases hi:i=0
  ·subst hi
   rw [if_pos rfl] at ho
   have ho:TOwn (hdr G2.H 0 0 (e+1)) (setP D p c') b:=ho
   rw [hh2] at ho
   exact .inl ⟨rfl,t3 b ho,ho⟩
  ·rw [if_neg hi] at ho
   refine .inr ⟨hi,?_⟩
   rw [hlk,if_neg hi]
   by_cases hn:lookB K3 i=.none
   ·rw [hn] at ho; exact ho.elim
   ·exact (Own.nm (G:=G') (G':=G2) (noItr_look hK3 hn).2.1 rfl (hH2o i hi) b).1 ho
 have split2:∀b,TOwn (lentH p (hdr G'.H 0 0 e) (hdr G.H 0 0 0)) (setP D p c') b→Own G' 0 (lookB ((0,Box.tree 0 e c')::K3) 0) b ∨ (TOwn (hdr G.H 0 0 0) D b∧¬ TOwn (fun r=>hdr G.H 0 0 0 (p++r)) c b):=by
  rintro b ⟨q,m,x,e1,e2,e3,e4⟩
  by_cases hpq:p <+: q
  ·obtain ⟨r,rfl⟩:=prefix_split hpq
   rw [lentH_in] at e3
   rw [get_setP_ext hp (owning_cell ht'.1) (fun q x hx _=>ht.cells q x hx)] at e1
   exact .inl (by rw [hlk,if_pos rfl]; exact ⟨r,m,x,e1,e2,e3,e4⟩)
  ·right
   rw [lentH_out hpq] at e3
   rw [get_setP_off (owning_cell ht'.1) (fun q x hx _=>ht.cells q x hx) hpq] at e1
   cases hx:get D q with
   | none=>rw [hx] at e1; cases e1
   | some y =>
    have hyo:y.owning=true:=by
     rw [hx] at e1
     simp only [Option.some.injEq] at e1
     by_cases hq:q <+: p
     ·rw [if_pos hq] at e1
      subst e1
      obtain ⟨r,rfl⟩:=prefix_split hq
      cases r with
      | nil=>exact absurd (by simp) hpq
      | cons s r=>simp only [List.drop_left] at e2; rw [setP_owning] at e2; exact e2
     ·rw [if_neg hq] at e1; subst e1; exact e2
    refine ⟨⟨q,y,x,hx,hyo,e3,e4⟩,?_⟩
    rintro ⟨r,m',x',g1,g2,g3,g4⟩
    have:=hinj q (p++r) y m' x x' b hx hyo e3 e4 (by rw [get_append,hp]; exact g1) g2 g3 g4
    exact hpq (by rw [this]; exact List.prefix_append p r)
 have apart:∀i b,i ≠ 0→Own G' i (lookB ((0,Box.tree 0 e c')::K3) i) b→¬ TOwn (lentH p (hdr G'.H 0 0 e) (hdr G.H 0 0 0)) (setP D p c') b:=by
  intro i b hi ho hT
  rcases split2 b hT with h5 | ⟨h5,h6⟩
  ·exact hi (hC.fit.inj i 0 b ho h5)
  ·rcases hC.nown i b ho with h7 | h7
   ·have:=ht.lt h5; omega
   ·exact h6 (hownall b h7)
 refine ⟨v,rs',_,G2,rfl,⟨rfl,rfl⟩,?_⟩
 refine { fit:=⟨hC.fit.sub,fun i=>?_,fun i b ho=>?_,fun i j b h1 h2=>?_⟩,no:=fun i hi=>?_,res:=?_,le:=hC.le,bet:=fun i hi=>(hC.bet i hi).trans rfl,hed:=fun i hi q x hx=>?_,frame:=fun b hb hno=>?_,nown:=fun i b ho=>?_,os:=hC.os,tape:=hC.tape,output:=hC.output,size:=hC.size }
 ·rw [hlk]
  by_cases hi:i=0
  ·subst hi
   rw [if_pos rfl]
   refine ⟨by rw [hh2]; exact t1,by rw [hh2]; exact t2,fun v hv e' q=>?_,fun e' he q=>?_⟩
   ·rw [hH20]; show (if _ then _ else if _ then _ else _)=_; rw [if_neg (by omega),if_neg (by omega)]
   ·rw [hH20]; show (if _ then _ else if _ then _ else _)=_; rw [if_neg (by omega),if_neg (by omega)]
  ·rw [if_neg hi]
   have hb:=hC.fit.box i
   rw [hlk,if_neg hi] at hb
   by_cases hn:lookB K3 i=.none
   ·rw [hn] at hb ⊢; exact ⟨hb.1,fun v e q=>by rw [hH2o i hi]; exact hb.2 v e q⟩
   ·obtain ⟨_,k2,k3⟩:=noItr_look hK3 hn
    exact hb.nm k2 k3 rfl rfl (hH2o i hi) hok2
 ·rcases own2 i b ho with ⟨rfl,_,h5⟩ | ⟨hi,h5⟩
  ·rcases split2 b h5 with h6 | ⟨h6,h7⟩
   ·exact hC.fit.own 0 b h6
   ·have:=(hC.frame b (ht.lt h6) fun i ho=>h7 (hownall b ⟨i,ho⟩)).2
    show G'.M b=none
    rw [this]
    exact hfit.own 0 b (by rw [hl0]; exact h6)
  ·exact hC.fit.own i b h5
 ·rcases own2 i b h1 with ⟨rfl,_,k1⟩ | ⟨hi,k1⟩
  ·rcases own2 j b h2 with ⟨rfl,_,k2⟩ | ⟨hj,k2⟩
   ·rfl
   ·exact absurd k1 (apart j b hj k2)
  ·rcases own2 j b h2 with ⟨rfl,_,k2⟩ | ⟨hj,k2⟩
   ·exact absurd k2 (apart i b hi k1)
   ·exact hC.fit.inj i j b k1 k2
 ·rw [hlk,if_neg (by omega)]
  have:=hC.no i hi
  rwa [hlk,if_neg (by omega)] at this
 ·have:=(nm_rel (G:=G') (G':=G2) (Mem.Le.refl _) (fun _ _ h=>h) hok2 (SizeOf.sizeOf (resC rs')+1)).1 (resC rs') v (by omega) (by
   match rs',hrs with
   | [a],hrs=>simpa [AV.nms,resC] using hrs
   | [],hrs=>simpa [resC,AV.nm] using hrs
   | a::b::l,hrs=>simpa [resC,AV.nm] using hrs) hC.res
  exact this
 ·obtain rfl:i=0:=by omega
  rw [hH20]
  show (if _ then _ else if _ then _ else _)=_
  rw [if_neg (by omega),if_pos ⟨rfl,rfl⟩]
  cases q <;> exact hx
 ·have hno':∀i,¬ Own G1 i (lookB [(0,Box.tree 0 0 c)] i) b:=fun i ho=>by
   have:=hownall b ⟨i,ho⟩
   exact hno 0 (by rw [hl0]; exact TOwn.sub hp this)
  exact hC.frame b hb hno'
 ·rcases own2 i b ho with ⟨rfl,h5 | h5,_⟩ | ⟨hi,h5⟩
  ·exact .inr ⟨0,by rw [hl0]; exact h5⟩
  ·exact .inl h5
  ·rcases hC.nown i b h5 with h6 | h6
   ·exact .inl h6
   ·exact .inr ⟨0,by rw [hl0]; exact TOwn.sub hp (hownall b h6)⟩
theorem cspec_lendR {P:Program} {f:Nat} {rest:List AV} {ex:Nat} {rs:List AV} {c D:DV} {K3:Boxes} {p:List PS}
  (h:CSpec P f (.own 0 0 0 []::rest) 1 [(0,.tree 0 0 c)] ex rs ((0,.tree 0 0 c)::K3)) (hD:setP D p c=D) (hp:get D p=some c) (hne:p ≠ []) (hc:c.owning=true)
  (hrest:AV.nms (fun i=>!Nat.beq i 0) rest=true) (hrs:AV.nms (fun i=>!Nat.beq i 0) rs=true) (hK3:noItr (fun i=>!Nat.beq i 0) K3=true) :
  CSpec P f (.own 0 0 0 p::rest) 1 [(0,.tree 0 0 D)] ex rs ((0,.tree 0 0 D)::K3):=by
 refine ⟨h.1,fun w G vs hgl hfit hr=>?_⟩
 have hl0:∀d,lookB [(0,Box.tree 0 0 d)] 0=.tree 0 0 d:=fun _=>rfl
 have hln:∀d i,i ≠ 0→lookB [(0,Box.tree 0 0 d)] i=.none:=fun d i hi=>by
  simp only [lookB]; rw [beq_false hi]; rfl
 have hb0:=hfit.box 0
 rw [hl0] at hb0
 obtain ⟨ht,hinj,hf1,hf2⟩:=hb0
 obtain ⟨x0,vs',rfl⟩:∃x0 vs',vs=x0::vs':=by
  cases vs with
  | nil=>have:=hr.1; simp at this
  | cons a l=>exact ⟨a,l,rfl⟩
 have hx0:=hr.2 0 _ x0 rfl rfl
 have hr':CRel G rest vs':=⟨by have:=hr.1; simpa using this,fun j d v hd hv=>hr.2 (j+1) d v hd hv⟩
 cases hx0 with | own _ _ _ _ _ hu huc =>
 let fx:Nat→Nat→List PS→Option Value:=fun v e q=>if v=0∧e=0 then hdr G.H 0 0 0 (p++q) else none
 let G1:Gh:={ G with H:=updH G.H 0 fx }
 have hH0:G1.H 0=fx:=by show updH G.H 0 fx 0=fx; exact updH_same _ _ _
 have hHo:∀j,j ≠ 0→G1.H j=G.H j:=fun j hj=>by show updH G.H 0 fx j=_; exact updH_other _ _ hj
 have hh0:hdr G1.H 0 0 0=fun r=>hdr G.H 0 0 0 (p++r):=by
  funext q
  cases q with
  | nil=>show G1.H 0 0 0 []=_; rw [hH0]; show (if 0=0∧0=0 then _ else _)=_; rw [if_pos ⟨rfl,rfl⟩]
  | cons s q=>show G1.H 0 0 0 (s::q)=_; rw [hH0]; show (if 0=0∧0=0 then _ else _)=_; rw [if_pos ⟨rfl,rfl⟩]
 have hok:∀j v e q x,(!Nat.beq j 0)=true→hdr G.H j v e q=some x→hdr G1.H j v e q=some x:=fun j v e q x hj hx=>by
  have hj0:j ≠ 0:=by rintro rfl; simp at hj
  cases q with
  | nil=>show G1.H j v 0 []=_; rw [hHo j hj0]; exact hx
  | cons s q=>show G1.H j v e (s::q)=_; rw [hHo j hj0]; exact hx
 have hrel1:CRel G1 (.own 0 0 0 []::rest) (x0::vs'):=by
  have h2:=(nm_rel (G:=G) (G':=G1) (Mem.Le.refl _) (fun _ _ h=>h) hok (SizeOf.sizeOf rest+1)).2 rest vs' (by omega) hrest hr'
  refine ⟨by have:=h2.1; simp [this],fun j d v hd hv=>?_⟩
  cases j with
  | zero =>
   simp at hd hv; subst hd; subst hv
   refine .own _ _ _ _ _ ?_ huc
   show hdr G1.H 0 0 0 []=_
   rw [hh0]; simpa using hu
  | succ j=>exact h2.2 j d v hd hv
 have hfit1:Fit G1 w (lookB [(0,Box.tree 0 0 c)]):=by
  have own1:∀i b,Own G1 i (lookB [(0,Box.tree 0 0 c)] i) b→i=0∧TOwn (hdr G.H 0 0 0) D b:=fun i b ho=>by
   by_cases hi:i=0
   ·subst hi
    rw [hl0] at ho
    have ho:TOwn (hdr G1.H 0 0 0) c b:=ho
    rw [hh0] at ho
    exact ⟨rfl,TOwn.sub hp ho⟩
   ·rw [hln c i hi] at ho; exact ho.elim
  refine ⟨hfit.sub,fun i=>?_,fun i b ho=>?_,fun i j b h1 h2=>by rw [(own1 i b h1).1,(own1 j b h2).1]⟩
  ·by_cases hi:i=0
   ·subst hi
    rw [hl0]
    refine ⟨by rw [hh0]; exact ht.sub hp hc,by rw [hh0]; exact hinj.sub hp,fun v hv e q=>?_,fun e he q=>?_⟩
    ·rw [hH0]; show (if _ then _ else _)=_; rw [if_neg (by omega)]
    ·rw [hH0]; show (if _ then _ else _)=_; rw [if_neg (by omega)]
   ·rw [hln c i hi]
    have:=hfit.box i
    rw [hln D i hi] at this
    exact ⟨this.1,fun v e q=>by rw [hHo i hi]; exact this.2 v e q⟩
  ·obtain ⟨rfl,ho2⟩:=own1 i b ho
   exact hfit.own 0 b (by rw [hl0]; exact ho2)
 refine Calls.mono (h.2 w G1 (x0::vs') hgl hfit1 hrel1) ?_
 rintro ee w' ⟨v,rs',K',G',rfl,⟨rfl,rfl⟩,hC⟩
 have hlk:∀b i,lookB ((0,b)::K3) i=if i=0 then b else lookB K3 i:=fun b i=>by
  simp only [lookB]
  by_cases hi:i=0
  ·subst hi; rfl
  ·rw [beq_false hi,if_neg hi]; rfl
 have hb':=hC.fit.box 0
 rw [hlk,if_pos rfl] at hb'
 obtain ⟨ht',hinj',hf1',hf2'⟩:=hb'
 have hn0:hdr G'.H 0 0 0 []=some x0:=by
  show G'.H 0 0 0 []=some x0
  refine hC.hed 0 (by omega) [] x0 ?_
  have:hdr G1.H 0 0 0 []=some x0:=by rw [hh0]; simpa using hu
  exact this
 have hown0:∀b,Own G1 0 (lookB [(0,Box.tree 0 0 c)] 0) b ↔ TOwn (fun r=>hdr G.H 0 0 0 (p++r)) c b:=fun b=>by
  rw [hl0]
  show TOwn (hdr G1.H 0 0 0) c b ↔ _
  rw [hh0]
 have hownall:∀b,(∃j,Own G1 j (lookB [(0,Box.tree 0 0 c)] j) b)→TOwn (fun r=>hdr G.H 0 0 0 (p++r)) c b:=by
  rintro b ⟨j,ho⟩
  by_cases hj:j=0
  ·subst hj; exact (hown0 b).1 ho
  ·rw [hln c j hj] at ho; exact ho.elim
 have htM:TreeAt G'.M w (hdr G.H 0 0 0) D:=ht.keep hC.le (fun _ _=>rfl) (fun _ _ _ _ _ h=>h)
 obtain ⟨t1,t2,t3⟩:=lend_tree (w':=w') htM hinj hp hc hne hu ht' hinj' hn0
  (fun b hb hnb=>(hC.frame b (htM.lt hb) fun i ho=>hnb (hownall b ⟨i,ho⟩)).1)
  (fun b hb=>by
   rcases hC.nown 0 b (by rw [hlk,if_pos rfl]; exact hb) with h5 | h5
   ·exact .inr h5
   ·exact .inl (hownall b h5))
 rw [hD] at t1 t2 t3
 have hL:∀q n v,get D q=some n→n.owning=true→lentH p (hdr G'.H 0 0 0) (hdr G.H 0 0 0) q=some v→hdr G.H 0 0 0 q=some v:=fun q n v hq hn hv=>by
  by_cases hpq:p <+: q
  ·obtain ⟨r,rfl⟩:=prefix_split hpq
   rw [lentH_in] at hv
   rw [get_append,hp] at hq
   obtain ⟨v0,h1,_,_⟩:=(ht.sub hp hc).2 r n hq hn
   have h2:G1.H 0 0 0 r=some v0:=by
    have:hdr G1.H 0 0 0 r=some v0:=by rw [hh0]; exact h1
    cases r <;> exact this
   have h3:=hC.hed 0 (by omega) r v0 h2
   have h4:hdr G'.H 0 0 0 r=some v0:=by cases r <;> exact h3
   rw [h4] at hv; injection hv with hv; subst hv; exact h1
  ·rwa [lentH_out hpq] at hv
 have hLr:∀q n v,get D q=some n→n.owning=true→hdr G.H 0 0 0 q=some v→lentH p (hdr G'.H 0 0 0) (hdr G.H 0 0 0) q=some v:=fun q n v hq hn hv=>by
  obtain ⟨v',h1,_⟩:=t1.2 q n hq hn
  have:=hL q n v' hq hn h1
  rw [hv] at this; injection this with this; subst this; exact h1
 let f2:Nat→Nat→List PS→Option Value:=fun v e' q=>if v=0∧e'=0 then hdr G.H 0 0 0 q else none
 let G2:Gh:={ G' with H:=updH G'.H 0 f2 }
 have hH20:G2.H 0=f2:=by show updH G'.H 0 f2 0=f2; exact updH_same _ _ _
 have hH2o:∀j,j ≠ 0→G2.H j=G'.H j:=fun j hj=>by show updH G'.H 0 f2 j=_; exact updH_other _ _ hj
 have hh2:hdr G2.H 0 0 0=hdr G.H 0 0 0:=by
  funext q
  cases q with
  | nil=>show G2.H 0 0 0 []=_; rw [hH20]; show (if 0=0∧0=0 then _ else _)=_; rw [if_pos ⟨rfl,rfl⟩]
  | cons s q=>show G2.H 0 0 0 (s::q)=_; rw [hH20]; show (if 0=0∧0=0 then _ else _)=_; rw [if_pos ⟨rfl,rfl⟩]
 have hok2:∀j v e q x,(!Nat.beq j 0)=true→hdr G'.H j v e q=some x→hdr G2.H j v e q=some x:=fun j v e q x hj hx=>by
  have hj0:j ≠ 0:=by rintro rfl; simp at hj
  cases q with
  | nil=>show G2.H j v 0 []=_; rw [hH2o j hj0]; exact hx
  | cons s q=>show G2.H j v e (s::q)=_; rw [hH2o j hj0]; exact hx
 have own2:∀i b,Own G2 i (lookB ((0,Box.tree 0 0 D)::K3) i) b→(i=0∧TOwn (hdr G.H 0 0 0) D b∧TOwn (lentH p (hdr G'.H 0 0 0) (hdr G.H 0 0 0)) D b) ∨ (i ≠ 0∧Own G' i (lookB ((0,Box.tree 0 0 c)::K3) i) b):=fun i b ho=>by
  rw [hlk] at ho
  by_cases hi:i=0
  ·subst hi
   rw [if_pos rfl] at ho
   have ho:TOwn (hdr G2.H 0 0 0) D b:=ho
   rw [hh2] at ho
   refine .inl ⟨rfl,ho,?_⟩
   obtain ⟨q,m,x,e1,e2,e3,e4⟩:=ho
   exact ⟨q,m,x,e1,e2,hLr q m x e1 e2 e3,e4⟩
  ·rw [if_neg hi] at ho
   refine .inr ⟨hi,?_⟩
   rw [hlk,if_neg hi]
   by_cases hn:lookB K3 i=.none
   ·rw [hn] at ho; exact ho.elim
   ·exact (Own.nm (G:=G') (G':=G2) (noItr_look hK3 hn).2.1 rfl (hH2o i hi) b).1 ho
 have split2:∀b,TOwn (lentH p (hdr G'.H 0 0 0) (hdr G.H 0 0 0)) D b→Own G' 0 (lookB ((0,Box.tree 0 0 c)::K3) 0) b ∨ (TOwn (hdr G.H 0 0 0) D b∧¬ TOwn (fun r=>hdr G.H 0 0 0 (p++r)) c b):=by
  rintro b ⟨q,m,x,e1,e2,e3,e4⟩
  by_cases hpq:p <+: q
  ·obtain ⟨r,rfl⟩:=prefix_split hpq
   rw [lentH_in] at e3
   rw [get_append,hp] at e1
   exact .inl (by rw [hlk,if_pos rfl]; exact ⟨r,m,x,e1,e2,e3,e4⟩)
  ·right
   rw [lentH_out hpq] at e3
   refine ⟨⟨q,m,x,e1,e2,e3,e4⟩,?_⟩
   rintro ⟨r,m',x',g1,g2,g3,g4⟩
   have:=hinj q (p++r) m m' x x' b e1 e2 e3 e4 (by rw [get_append,hp]; exact g1) g2 g3 g4
   exact hpq (by rw [this]; exact List.prefix_append p r)
 have apart:∀i b,i ≠ 0→Own G' i (lookB ((0,Box.tree 0 0 c)::K3) i) b→¬ TOwn (lentH p (hdr G'.H 0 0 0) (hdr G.H 0 0 0)) D b:=by
  intro i b hi ho hT
  rcases split2 b hT with h5 | ⟨h5,h6⟩
  ·exact hi (hC.fit.inj i 0 b ho h5)
  ·rcases hC.nown i b ho with h7 | h7
   ·have:=ht.lt h5; omega
   ·exact h6 (hownall b h7)
 refine ⟨v,rs',_,G2,rfl,⟨rfl,rfl⟩,?_⟩
 refine { fit:=⟨hC.fit.sub,fun i=>?_,fun i b ho=>?_,fun i j b h1 h2=>?_⟩,no:=fun i hi=>?_,res:=?_,le:=hC.le,bet:=fun i hi=>(hC.bet i hi).trans rfl,hed:=fun i hi q x hx=>?_,frame:=fun b hb hno=>?_,nown:=fun i b ho=>?_,os:=hC.os,tape:=hC.tape,output:=hC.output,size:=hC.size }
 ·rw [hlk]
  by_cases hi:i=0
  ·subst hi
   rw [if_pos rfl]
   refine ⟨by rw [hh2]; exact t1.keep (Mem.Le.refl _) (fun _ _=>rfl) hL,by rw [hh2]; exact t2.keep hLr,fun v hv e' q=>?_,fun e' he q=>?_⟩
   ·rw [hH20]; show (if _ then _ else _)=_; rw [if_neg (by omega)]
   ·rw [hH20]; show (if _ then _ else _)=_; rw [if_neg (by omega)]
  ·rw [if_neg hi]
   have hb:=hC.fit.box i
   rw [hlk,if_neg hi] at hb
   by_cases hn:lookB K3 i=.none
   ·rw [hn] at hb ⊢; exact ⟨hb.1,fun v e q=>by rw [hH2o i hi]; exact hb.2 v e q⟩
   ·obtain ⟨_,k2,k3⟩:=noItr_look hK3 hn
    exact hb.nm k2 k3 rfl rfl (hH2o i hi) hok2
 ·rcases own2 i b ho with ⟨rfl,_,h5⟩ | ⟨hi,h5⟩
  ·rcases split2 b h5 with h6 | ⟨h6,h7⟩
   ·exact hC.fit.own 0 b h6
   ·have:=(hC.frame b (ht.lt h6) fun i ho=>h7 (hownall b ⟨i,ho⟩)).2
    show G'.M b=none
    rw [this]
    exact hfit.own 0 b (by rw [hl0]; exact h6)
  ·exact hC.fit.own i b h5
 ·rcases own2 i b h1 with ⟨rfl,_,k1⟩ | ⟨hi,k1⟩
  ·rcases own2 j b h2 with ⟨rfl,_,k2⟩ | ⟨hj,k2⟩
   ·rfl
   ·exact absurd k1 (apart j b hj k2)
  ·rcases own2 j b h2 with ⟨rfl,_,k2⟩ | ⟨hj,k2⟩
   ·exact absurd k2 (apart i b hi k1)
   ·exact hC.fit.inj i j b k1 k2
 ·rw [hlk,if_neg (by omega)]
  have:=hC.no i hi
  rwa [hlk,if_neg (by omega)] at this
 ·have:=(nm_rel (G:=G') (G':=G2) (Mem.Le.refl _) (fun _ _ h=>h) hok2 (SizeOf.sizeOf (resC rs')+1)).1 (resC rs') v (by omega) (by
   match rs',hrs with
   | [a],hrs=>simpa [AV.nms,resC] using hrs
   | [],hrs=>simpa [resC,AV.nm] using hrs
   | a::b::l,hrs=>simpa [resC,AV.nm] using hrs) hC.res
  exact this
 ·obtain rfl:i=0:=by omega
  rw [hH20]
  show (if _ then _ else _)=_
  rw [if_pos ⟨rfl,rfl⟩]
  cases q <;> exact hx
 ·have hno':∀i,¬ Own G1 i (lookB [(0,Box.tree 0 0 c)] i) b:=fun i ho=>by
   have:=hownall b ⟨i,ho⟩
   exact hno 0 (by rw [hl0]; exact TOwn.sub hp this)
  exact hC.frame b hb hno'
 ·rcases own2 i b ho with ⟨rfl,h5,_⟩ | ⟨hi,h5⟩
  ·exact .inr ⟨0,by rw [hl0]; exact h5⟩
  ·rcases hC.nown i b h5 with h6 | h6
   ·exact .inl h6
   ·exact .inr ⟨0,by rw [hl0]; exact TOwn.sub hp (hownall b h6)⟩
end Go.TM
namespace Go.TM
open Go.RowKit
variable [Glob]
section
variable {g:Org} {n:Nat} {ρ:Nat→AV} {κ κ':Nat→Box} {a:Act} {w w':World} {G:Gh}
theorem StM.split0 (h:StM g n ρ κ a w G) {i nx ver ep:Nat} {d c:DV} {p:List PS} (hi:κ i=.tree ver ep d) (hx:κ nx=.none) (hp:get d p=some c) (hc:c.owning=true) (hne:p ≠ []) (h1:κ' i=.tree ver ep (setP d p .any)) (h2:κ' nx=.tree 0 0 c) (h3:∀j,j ≠ i→j ≠ nx→κ' j=κ j) :
  ∃G',Gh.Le G G'∧G'.M=G.M∧G'.β=G.β∧(∀r,hdr G'.H nx 0 0 r=hdr G.H i ver ep (p++r))∧StM g n ρ κ' a w G':=by
 have hne':i ≠ nx:=fun e=>by rw [e,hx] at hi; cases hi
 have hbi:=h.fit.box i
 have hbx:=h.fit.box nx
 rw [hi] at hbi
 rw [hx] at hbx
 obtain ⟨ht,hinj,hv1,hv2⟩:=hbi
 obtain ⟨f1,f2,f3⟩:=ht.forget hinj hp hc hne
 let fx:Nat→Nat→List PS→Option Value:=fun v e q=>if v=0∧e=0 then hdr G.H i ver ep (p++q) else none
 let G':Gh:={ G with H:=updH G.H nx fx }
 have hHx:G'.H nx=fx:=by show updH G.H nx fx nx=fx; exact updH_same _ _ _
 have hHo:∀j,j ≠ nx→G'.H j=G.H j:=fun j e2=>by show updH G.H nx fx j=_; rw [updH_other _ _ e2]
 have hhi:hdr G'.H i ver ep=hdr G.H i ver ep:=by
  funext q
  cases q <;> simp only [hdr,hHo i hne']
 have hhx:hdr G'.H nx 0 0=fun r=>hdr G.H i ver ep (p++r):=by
  funext q
  cases q with
  | nil=>show G'.H nx 0 0 []=_; rw [hHx]; show (if 0=0∧0=0 then hdr G.H i ver ep (p++[]) else none)=_; rw [if_pos ⟨rfl,rfl⟩]
  | cons s q=>show G'.H nx 0 0 (s::q)=_; rw [hHx]; show (if 0=0∧0=0 then hdr G.H i ver ep (p++s::q) else none)=_; rw [if_pos ⟨rfl,rfl⟩]
 have hle:Gh.Le G G':=⟨Mem.Le.refl _,fun _ _ q=>q,fun j v e q x hq=>by
  by_cases e2:j=nx
  ·subst e2; rw [hbx.2] at hq; cases hq
  ·rw [hHo j e2]; exact hq⟩
 have ho_i:∀b,Own G' i (κ' i) b→TOwn (hdr G.H i ver ep) d b∧¬ TOwn (fun r=>hdr G.H i ver ep (p++r)) c b:=fun b hb=>by
  rw [h1] at hb; simp only [Own] at hb; rw [hhi] at hb; exact f3 b hb
 have ho_x:∀b,Own G' nx (κ' nx) b→TOwn (fun r=>hdr G.H i ver ep (p++r)) c b:=fun b hb=>by
  rw [h2] at hb; simp only [Own] at hb; rw [hhx] at hb; exact hb
 refine ⟨G',hle,rfl,rfl,fun r=>congrFun hhx r,h.turn (C:=fun j=>j=i ∨ j=nx) ⟨hle,fun _ _=>rfl,fun j hj=>h3 j (fun e=>hj (.inl e)) (fun e=>hj (.inr e)),fun j hj=>⟨fun _ q=>q,fun v e q x hq=>?_⟩,fun _ _ _=>⟨rfl,rfl⟩,h.fit.sub,?_,?_,?_,Nat.le_refl _,rfl,rfl,rfl⟩ (fun _ _=>rfl)⟩
 ·rw [hHo j (fun e=>hj (.inr e))] at hq; exact hq
 ·rintro j (rfl | rfl)
  ·rw [h1]
   refine ⟨by rw [hhi]; exact f1,by rw [hhi]; exact f2,fun v hv e q=>?_,fun e he q=>?_⟩
   ·rw [hHo j hne']; exact hv1 v hv e q
   ·rw [hHo j hne']; exact hv2 e he q
  ·rw [h2]
   refine ⟨by rw [hhx]; exact ht.sub hp hc,by rw [hhx]; exact hinj.sub hp,fun v hv e q=>?_,fun e he q=>?_⟩
   ·rw [hHx]; show (if v=0∧e=0 then _ else _)=_; rw [if_neg (by omega)]
   ·rw [hHx]; show (if 0=0∧e=0 then _ else _)=_; rw [if_neg (by omega)]
 ·rintro j b (rfl | rfl) hb
  ·have hb':=(ho_i b hb).1
   have:Own G j (κ j) b:=by rw [hi]; exact hb'
   exact ⟨.inr ⟨j,.inl rfl,this⟩,h.fit.own j b this⟩
  ·have hb':=(ho_x b hb).sub hp
   have:Own G i (κ i) b:=by rw [hi]; exact hb'
   exact ⟨.inr ⟨i,.inl rfl,this⟩,h.fit.own i b this⟩
 ·rintro j j' b (rfl | rfl) (rfl | rfl) hb hb'
  ·rfl
  ·exact absurd (ho_x b hb') (ho_i b hb).2
  ·exact absurd (ho_x b hb) (ho_i b hb').2
  ·rfl
end
theorem osl_only {sz:Nat} {l:List DV} (hcl:∀x,x∈l→x.closedCells) {p:List PS} {n:DV} (h:get (.osl sz l) p=some n) (ho:n.owning=true):p=[]∧n=.osl sz l:=by
 cases p with
 | nil=>simp [get] at h; exact ⟨rfl,h.symm⟩
 | cons s p =>
  exfalso
  simp only [get] at h
  cases s with
  | key k j=>simp [step] at h
  | el i j =>
   simp only [step] at h
   cases hm:l[i]? with
   | none=>rw [hm] at h; simp at h
   | some x =>
    rw [hm] at h
    simp only at h
    cases hc:x.cells[j]? with
    | none=>rw [hc] at h; simp at h
    | some c =>
     rw [hc] at h
     simp only at h
     have hco:c.owning=false:=hcl x (List.mem_of_getElem? hm) c (List.mem_of_getElem? hc)
     cases p with
     | nil=>simp [get] at h; subst h; rw [hco] at ho; cases ho
     | cons s' p =>
      simp only [get] at h
      cases c <;> simp [step] at h <;> cases hco
theorem cspec_row {P:Program} {f:Nat} (hcal:Callable P f) {rest:List AV} {m:Nat} {K3:Boxes} {sz:Nat} {l l':List DV} {D:DV} {p:List PS} (hp:get D p=some (.osl sz l)) (hne:p ≠ []) (hm:1≤m) (hK3:∀i,m≤i→lookB K3 i=.none)
  (hcl:∀x,x∈l'→x.closedCells)
  (hrun:∀(w:World) (G:Gh) (v:Value) (xs:List Value),Fit G w (lookB ((0,.tree 0 0 D)::K3))→hdr G.H 0 0 0 p=some v→NodeAt G.M w v (fun s=>hdr G.H 0 0 0 (p++[s])) (.osl sz l)→CRel G rest xs →
   Calls P f (v::xs).toArray w fun e w'=>∃v',e=.returned v'∧v'.oneCell'=true∧w.grownBy w' (blk v)∧RowG w' v' sz l' (fun _ _ d u=>d.owning=false∧DRel G.M d u)∧∀b,blk v'=some b→blk v=some b ∨ w.heap.size≤b) :
  CSpec P f (.own 0 0 0 p::rest) m ((0,.tree 0 0 D)::K3) 1 [.own m 1 0 []] ((m,.tree 1 0 (.osl sz l'))::(0,.tree 0 0 (setP D p .any))::K3):=by
 refine ⟨hcal,fun w G vs hgl hfit hr=>?_⟩
 obtain ⟨x0,vs',rfl⟩:∃x0 vs',vs=x0::vs':=by
  cases vs with
  | nil=>have:=hr.1; simp at this
  | cons a l=>exact ⟨a,l,rfl⟩
 have hx0:=hr.2 0 _ x0 rfl rfl
 have hr':CRel G rest vs':=⟨by have:=hr.1; simpa using this,fun j d v hd hv=>hr.2 (j+1) d v hd hv⟩
 cases hx0 with | own _ _ _ _ _ hu huc =>
 have hl0:∀d,lookB ((0,Box.tree 0 0 d)::K3) 0=.tree 0 0 d:=fun _=>rfl
 have hln:∀d i,i ≠ 0→lookB ((0,Box.tree 0 0 d)::K3) i=lookB K3 i:=fun d i hi=>by
  simp only [lookB]; rw [beq_false hi]; rfl
 obtain ⟨u0,hu0,_,hnode⟩:=hfit.node (hl0 D) hp rfl
 rw [hu] at hu0; injection hu0 with hu0; subst hu0
 let g:Org:=⟨fun b=>∃i,Own G i (lookB ((0,.tree 0 0 D)::K3) i) b,w,G.M,m,G.β,fun i p=>G.H i 0 0 p⟩
 have hst0:StM g 0 (fun _=>.any) (lookB ((0,.tree 0 0 D)::K3)) { tmps:=#[],defers:=[] } w G :=
  {fit:=hfit,env:=fun t=>.any _,size:=rfl,bel:=fun _ _ _=>rfl,os:=rfl,tape:=rfl,output:=rfl,grow:=Nat.le_refl _,mem:=.refl G.M,mlow:=fun _ _ _=>rfl,ownhi:=fun i b ho=>.inr ⟨i,ho⟩,bet:=fun _ _=>rfl,hed:=fun _ _ _ _ hx=>hx,glob:=hgl,dfr:=⟨[],rfl,List.nodup_nil,by simp⟩ }
 have hmn:lookB ((0,.tree 0 0 D)::K3) m=.none:=by rw [hln D m (by omega)]; exact hK3 m (Nat.le_refl _)
 obtain ⟨G1,g1,g2,g3,g4,g7⟩:=hst0.split0 (κ':=updl (lookB ((0,.tree 0 0 D)::K3)) [(m,.tree 0 0 (.osl sz l)),(0,.tree 0 0 (setP D p .any))]) (i:=0) (nx:=m) (hl0 D) hmn hp rfl hne
  (by simp only [updl]; rw [upd_other _ _ (by omega)]; simp) (by simp [updl]) (fun j h1 h2=>by simp only [updl]; rw [upd_other _ _ h2,upd_other _ _ h1])
 refine Calls.mono (hrun w G x0 vs' hfit hu hnode hr') ?_
 rintro e w' ⟨v',rfl,hvc,hgr,hrow,hbl⟩
 have hx1:hdr G1.H m 0 0 []=some x0:=by rw [g4 [],List.append_nil]; exact hu
 have hκm:updl (lookB ((0,.tree 0 0 D)::K3)) [(m,.tree 0 0 (.osl sz l)),(0,.tree 0 0 (setP D p .any))] m=.tree 0 0 (.osl sz l):=by simp [updl]
 have hb1:=g7.fit.box m
 rw [hκm] at hb1
 have howned:∀b,blk x0=some b→Own G1 m (updl (lookB ((0,.tree 0 0 D)::K3)) [(m,.tree 0 0 (.osl sz l)),(0,.tree 0 0 (setP D p .any))] m) b:=fun b hb=>by
  rw [hκm]; exact ⟨[],_,x0,rfl,rfl,hx1,hb⟩
 obtain ⟨G',k1,k2,k3,k4,_,_,k7⟩:=g7.setTree (κ':=lookB ((m,.tree 1 0 (.osl sz l'))::(0,.tree 0 0 (setP D p .any))::K3)) (w':=w') (i:=m) (ver:=1) (ep:=0) (d:=.osl sz l') (fun _=>False) (fun q=>if q=[] then some v' else none) (fun h=>h)
  (.inr ⟨0,0,_,hκm,by omega,by omega⟩) (fun _ h=>h.elim) (by simp only [lookB,Nat.beq_refl,cond_true]) (fun j hj _=>by
   show (bif Nat.beq m j then Box.tree 1 0 (.osl sz l') else lookB ((0,.tree 0 0 (setP D p .any))::K3) j)=_
   rw [beq_false hj]
   simp only [cond_false,updl]
   rw [upd_other _ _ hj]
   by_cases h0:j=0
   ·subst h0; rw [upd_same]; rfl
   ·rw [upd_other _ _ h0,hln D j h0,hln _ j h0])
  (fun q y hy=>by
   cases q with
   | nil=>simp only [hdr] at hy; rw [hb1.2.2.1 1 (by omega)] at hy; cases hy
   | cons s q=>simp only [hdr] at hy; rw [hb1.2.2.1 1 (by omega)] at hy; cases hy)
  ⟨rfl,fun q y hy ho=>by
   obtain ⟨rfl,rfl⟩:=osl_only hcl hy ho
   refine ⟨v',by simp,hvc,?_⟩
   rcases hrow with ⟨rfl,rfl⟩ | ⟨gb,o,cap,c,t,rfl,a1,a2,a3,a4⟩
   ·exact .inl ⟨rfl,rfl⟩
   ·refine .inr ⟨gb,o,cap,c,t,rfl,a1,a2,a3,fun i x hx=>⟨(a4 i x hx).1,fun j d hd=>?_⟩⟩
    obtain ⟨b1,u,b2,b3,b4⟩:=(a4 i x hx).2 j d hd
    exact ⟨b1,u,b2,.inr ⟨b3,by rw [g2]; exact b4⟩⟩⟩
  (fun q q' y y' u v b e1 e2 _ _ f1 f2 _ _=>by rw [(osl_only hcl e1 e2).1,(osl_only hcl f1 f2).1])
  (fun b ⟨q,y,u,h1,h2,h3,h4⟩=>by
   obtain ⟨rfl,rfl⟩:=osl_only hcl h1 h2
   simp at h3; subst h3
   rcases hbl b h4 with h5 | h5
   ·exact .inr (.inl (howned b h5))
   ·exact .inl h5)
  (fun b hb hno _=>hgr.block b hb fun e=>hno (howned b e.symm))
  (fun b hb=>by
   rcases hb with h5 | ⟨_,h5,_⟩
   ·exact g7.fit.own m b h5
   ·exact h5.elim)
  hgr.size hgr.os hgr.tape hgr.output
 refine ⟨_,_,_,G',rfl,⟨rfl,rfl⟩,?_⟩
 refine ⟨k7.fit,fun i hi=>?_,?_,k7.mem,k7.bet,k7.hed,fun b hb hO=>⟨k7.bel b hb (fun ⟨i,h⟩=>hO i h),k7.mlow b hb (fun ⟨i,h⟩=>hO i h)⟩,k7.ownhi,k7.os,k7.tape,k7.output,k7.grow⟩
 ·show (bif Nat.beq m i then Box.tree 1 0 (.osl sz l') else lookB ((0,.tree 0 0 (setP D p .any))::K3) i)=_
  rw [beq_false (by omega)]
  simp only [cond_false]
  rw [hln _ i (by omega)]
  exact hK3 i (by omega)
 ·exact .own _ _ _ _ _ ((k4 []).trans (by simp)) hvc
end Go.TM
namespace Go.TM
open Go.RowKit
variable [Glob]
def xc0:XC:=⟨false,0,fun _ _ _ _=>.no [],fun _ _ _=>.no []⟩
def softR1 (T:List TI) (pol:Nat→Bool) (ops:List Oper) (n nx:Nat) (ρ0:Nat→AV) (κ0:Nat→Box) (rs:List Rec) (p:Nat × Nat):Option (List Nat × Eff):=match ops[p.1]? with
 | none=>none
 | some o=>match o.guard with
  | some _=>none
  | none=>match (xop T pol xc0 nx (accD ρ0 rs p.1) (accS κ0 rs ops.length p.1 p.2) o.op).bind fun r=>xret n o.dst r with
   | .ok e=>some (ridk (accD ρ0 rs p.1) (accS κ0 rs ops.length p.1 p.2) o,e.1)
   | .no _=>none
def softL (T:List TI) (pol:Nat→Bool) (ops:List Oper) (n nx:Nat) (ρ0:Nat→AV) (κ0:Nat→Box) (rs:List Rec):List (Nat × Nat)→List (Option (List Nat × Eff))
 | []=>[]
 | p::r=>softR1 T pol ops n nx ρ0 κ0 rs p::softL T pol ops n nx ρ0 κ0 rs r
def recL (rs:List Rec):List (Nat × Nat)→List (Option (List Nat × Eff))
 | []=>[]
 | p::r=>(rs[p.1]?.map fun c=>(c.rows,c.eff))::recL rs r
theorem softQ_x {P:Program} {T:List TI} {pol:Nat→Bool} {ops:List Oper} {n nx:Nat} {ρ0:Nat→AV} {κ0:Nat→Box} {rs:List Rec}:∀{sf:List (Nat × Nat)},(sf.all fun p=>(rs[p.1]?).isSome)=true→softL T pol ops n nx ρ0 κ0 rs sf=recL rs sf→softQ P T ops n nx ρ0 κ0 rs sf
 | [],_,_=>trivial
 | (j,x)::sf,hp,h=>by
  simp only [softL,recL,List.cons.injEq] at h
  obtain ⟨h1,h2⟩:=h
  simp only [List.all_cons,Bool.and_eq_true] at hp
  refine ⟨?_,softQ_x hp.2 h2⟩
  have hj:(rs[j]?).isSome=true:=hp.1
  cases hr:rs[j]? with
  | none=>rw [hr] at hj; cases hj
  | some rc =>
   unfold softR1 at h1
   rw [hr] at h1
   simp only [Option.map_some] at h1
   cases ho:ops[j]? with
   | none=>rw [ho] at h1; cases h1
   | some o =>
    rw [ho] at h1
    simp only at h1 ⊢
    cases hg:o.guard with
    | some q=>rw [hg] at h1; cases h1
    | none =>
     rw [hg] at h1
     simp only at h1
     split at h1
     ·rename_i e he
      injection h1 with h1
      injection h1 with h3 h4
      refine ⟨h3.symm,fun hT C hC hn=>?_⟩
      obtain ⟨r,e1,e2⟩:=bind_ok he
      exact xop_good hT (c:=xc0) (fun f args m K r hh=>by cases hh) (fun args m K r hh=>by cases hh) hC hn hg e1 e2 h4
     ·cases h1
end Go.TM
