import Derived.Test.YtfcfbfkjdenpdaaK4B4
set_option linter.unusedVariables false
set_option linter.unusedSimpArgs false
set_option linter.unusedSectionVars false
namespace Go.Proofs.Ytfcfbfkjdenpdaa
open Go.TM
theorem by65:(nth tab (nth tab 65).elem).bytes=40:=rfl
theorem by66:(nth tab (nth tab 66).elem).bytes=24:=rfl
theorem by33:(nth tab (nth tab 33).elem).bytes=88:=rfl
structure Sz (d:Dea):Prop where
 sm:Small d
 gv:∀x,x∈d.states→x.gives.length≤100000
def lgK (d:Dea) (k:Nat):Boxes:=[(0,.cells (dvs (dcells d))),(1,.cells (dvs (nth tab 35).zero)),(2,.cells [.dv (.str d.name),.dv (.sl 1 (d.parties.map .str)),.own 3 0 0 []]),(3,.tree 0 0 (.osl 6 ((d.states.take k).map eSta)))]
set_option maxHeartbeats 4000000 in
theorem lgiven_spec (d:Dea) (hd:Sz d):PSpec Try.prog 11 [eDea d] [eDea d]:=by
 have hsm:=hd.sm.states
 refine pspec_of tab_ok mixed (calls_snd _) (range_snd _) Try.func11 rfl (by kernel_rfl) rfl ?_
 refine ⟨Nat,fun k=>⟨4,[(1,.ptr 0 0),(2,.ptr 1 0),(3,.ptr 2 0),(4,.dv (I k))],lgK d k⟩,fun k=>k≤d.states.length,fun k=>d.states.length - k,0,fun _=>rfl,?_,by omega,?_⟩
 ·exact ⟨⟨rfl,rfl,rfl,rf,tv⟩,⟨subWs_dvs _ _ _ (dcells d),subWs_dvs _ _ _ (nth tab 35).zero,⟨rf,rf,⟨rfl,rfl,rfl,rfl,6,rfl⟩,tv⟩,⟨rfl,rfl,6,rfl⟩,tv⟩,rfl,rfl⟩
 ·intro k hk
  refine ⟨fun h=>?_,fun h=>?_⟩
  ·have hlt:k<d.states.length:=by simpa using h
   clear h
   generalize hx':d.states[k]=x at *
   have hx:d.states[k]?=some x:=by rw [List.getElem?_eq_getElem hlt,hx']
   have hol:=hd.sm.opts x (List.mem_of_getElem? hx)
   have hgl:=hd.gv x (List.mem_of_getElem? hx)
   refine ⟨eSta x,fun _=>⟨by omega,by simp [hx]⟩,?_⟩
   refine ⟨Nat,fun j=>⟨7,[(1,.ptr 0 0),(2,.ptr 1 0),(3,.ptr 2 0),(4,.dv (I k)),(5,.ptr 4 0),(6,.ptr 5 0),(7,.dv (I j))],lgK d k++[(4,.cells (dvs (eSta x).cells)),(5,.cells [.dv (.str x.name),.dv (B x.final),.own 6 0 0 [],.dv (I x.wait),.dv (I x.late),.dv .nils]),(6,.tree 0 0 (.osl 3 ((x.opts.take j).map eOpt)))]⟩,fun j=>j≤x.opts.length,fun j=>x.opts.length - j,0,fun _=>rfl,?_,by omega,?_⟩
   ·exact ⟨⟨rfl,rfl,rfl,rf,rfl,rfl,rf,tv⟩,⟨subWs_dvs _ _ _ (dcells d),subWs_dvs _ _ _ (nth tab 35).zero,⟨rf,rf,rfl,tv⟩,⟨rfl,rfl⟩,subWs_dvs _ _ _ (eSta x).cells,⟨rf,rf,⟨rfl,rfl,rfl,rfl,3,rfl⟩,rf,rf,rf,tv⟩,⟨rfl,rfl,3,rfl⟩,tv⟩,rfl,rfl⟩
   ·intro j hj
    refine ⟨fun h=>?_,fun h=>?_⟩
    ·have hjl:j<x.opts.length:=by simpa using h
     clear h
     generalize ho':x.opts[j]=o at *
     have ho:x.opts[j]?=some o:=by rw [List.getElem?_eq_getElem hjl,ho']
     have htl:(x.opts.take j).length=j:=by simp; omega
     refine ⟨eOpt o,fun _=>⟨by omega,by simp [ho]⟩,eOpt o,fun _=>⟨by omega,by simp [ho]⟩,eOpt o,fun _=>⟨by omega,by simp [ho]⟩,?_⟩
     refine .inl ⟨[eOpt o],rfl,⟨rf,rf,rf,tv⟩,fun y hy=>(by rcases List.mem_singleton.1 hy with rfl; rfl),.inr ⟨[eOpt o],ELes.refl _,(by rw [by65]; simp; omega),(by simp; omega),?_⟩⟩
     refine ⟨by kernel_rfl,fun _=>⟨by omega,by omega⟩,j+1,⟨⟨rfl,rfl,rfl,rf,rfl,rfl,le_int (by omega),tv⟩,⟨subWs_dvs _ _ _ (dcells d),subWs_dvs _ _ _ (nth tab 35).zero,⟨rf,rf,rfl,tv⟩,⟨rfl,rfl⟩,subWs_dvs _ _ _ (eSta x).cells,⟨rf,rf,rfl,rf,rf,rf,tv⟩,⟨rfl,?_⟩,tv⟩,rfl,rfl⟩,by dsimp only; omega,by dsimp only; omega⟩
     rw [List.take_add_one,ho]; simp
    ·have hje:j=x.opts.length:=by
      have:¬ j<x.opts.length:=by simpa using h
      omega
     subst hje
     rw [List.take_length]
     refine ⟨Nat,fun j=>⟨8,[(1,.ptr 0 0),(2,.ptr 1 0),(3,.ptr 2 0),(4,.dv (I k)),(5,.ptr 4 0),(6,.ptr 5 0),(8,.dv (I j))],lgK d k++[(4,.cells (dvs (eSta x).cells)),(5,.cells [.dv (.str x.name),.dv (B x.final),.own 6 0 0 [],.dv (I x.wait),.dv (I x.late),.own 7 0 0 []]),(6,.tree 0 0 (.osl 3 (x.opts.map eOpt))),(7,.tree 0 0 (.osl 3 ((x.gives.take j).map eGiv)))]⟩,fun j=>j≤x.gives.length,fun j=>x.gives.length - j,0,fun _=>rfl,?_,by omega,?_⟩
     ·exact ⟨⟨rfl,rfl,rfl,rf,rfl,rfl,rf,tv⟩,⟨subWs_dvs _ _ _ (dcells d),subWs_dvs _ _ _ (nth tab 35).zero,⟨rf,rf,rfl,tv⟩,⟨rfl,rfl⟩,subWs_dvs _ _ _ (eSta x).cells,⟨rf,rf,rfl,rf,rf,⟨rfl,rfl,rfl,rfl,3,rfl⟩,tv⟩,⟨rfl,rfl⟩,⟨rfl,rfl,3,rfl⟩,tv⟩,rfl,rfl⟩
     ·intro j hj
      refine ⟨fun h=>?_,fun h=>?_⟩
      ·have hjl:j<x.gives.length:=by simpa using h
       clear h
       generalize ho':x.gives[j]=o at *
       have ho:x.gives[j]?=some o:=by rw [List.getElem?_eq_getElem hjl,ho']
       have htl:(x.gives.take j).length=j:=by simp; omega
       refine ⟨eGiv o,fun _=>⟨by omega,by simp [ho]⟩,eGiv o,fun _=>⟨by omega,by simp [ho]⟩,?_⟩
       refine .inl ⟨[eGiv o],rfl,⟨rf,rf,rf,tv⟩,fun y hy=>(by rcases List.mem_singleton.1 hy with rfl; rfl),.inr ⟨[eGiv o],ELes.refl _,(by rw [by66]; simp; omega),(by simp; omega),?_⟩⟩
       refine ⟨by kernel_rfl,fun _=>⟨by omega,by omega⟩,j+1,⟨⟨rfl,rfl,rfl,rf,rfl,rfl,le_int (by omega),tv⟩,⟨subWs_dvs _ _ _ (dcells d),subWs_dvs _ _ _ (nth tab 35).zero,⟨rf,rf,rfl,tv⟩,⟨rfl,rfl⟩,subWs_dvs _ _ _ (eSta x).cells,⟨rf,rf,rfl,rf,rf,rfl,tv⟩,⟨rfl,rfl⟩,⟨rfl,?_⟩,tv⟩,rfl,rfl⟩,by dsimp only; omega,by dsimp only; omega⟩
       rw [List.take_add_one,ho]; simp
      ·have hje:j=x.gives.length:=by
        have:¬ j<x.gives.length:=by simpa using h
        omega
       subst hje
       rw [List.take_length]
       have hkl:(d.states.take k).length=k:=by simp; omega
       refine .inl ⟨[eSta x],rfl,⟨rf,rf,DV.Le.of_eq ?_,rf,rf,DV.Le.of_eq ?_,tv⟩,fun y hy=>(by rcases List.mem_singleton.1 hy with rfl; rfl),.inr ⟨[eSta x],ELes.refl _,(by rw [by33]; simp; omega),(by simp; omega),fun _=>⟨by omega,by omega⟩,k+1,⟨⟨rfl,rfl,rfl,le_int (by omega),tv⟩,⟨subWs_dvs _ _ _ (dcells d),subWs_dvs _ _ _ (nth tab 35).zero,⟨rf,rf,rfl,tv⟩,⟨rfl,?_⟩,tv⟩,rfl,rfl⟩,by dsimp only; omega,by dsimp only; omega⟩⟩
       ·show DV.sl 3 (fzL (x.opts.map eOpt))=_
        rw [fzL_map fun _=>rfl]
       ·show DV.sl 3 (fzL (x.gives.map eGiv))=_
        rw [fzL_map fun _=>rfl]
       ·rw [List.take_add_one,hx]; simp
  ·have hke:k=d.states.length:=by
    have:¬ k<d.states.length:=by simpa using h
    omega
   subst hke
   refine ⟨DV.agg_le ⟨rf,rf,DV.Le.of_eq ?_,tv⟩ (by intro d hd; simp only [List.mem_cons,List.not_mem_nil,or_false] at hd; rcases hd with rfl | rfl | rfl <;> rfl),tv⟩
   show DV.sl 6 (fzL ((d.states.take d.states.length).map eSta))=_
   rw [List.take_length,fzL_map fun _=>rfl]
end Go.Proofs.Ytfcfbfkjdenpdaa
namespace Go.Proofs.Ytfcfbfkjdenpdaa
open Go.TM
theorem names_ok:∀(g:Nat) (fn:Func),Try.prog.funcs[g]?=some fn→(fn.name == "runtime.NumGoroutine")=false:=by
 have h:(Try.prog.funcs.all fun fn=>!(fn.name == "runtime.NumGoroutine"))=true:=by kernel_rfl
 intro g fn hg
 rw [Array.all_eq_true'] at h
 have:=h fn (Array.mem_of_getElem? hg)
 simpa using this
def getS (r:XR (List AV × Boxes × Nat)) (i:Nat):List DV:=match r with
 | .ok ([.agg l],_,_)=>(match l[i]? with
  | some (.dv (.sl _ r))=>r
  | _=>[])
 | _=>[]
theorem cat_run:xfun Try.prog tab (fun _=>true) 1000 30 [] 0 []=.ok ([.agg [.dv (.sl 7 (getS (xfun Try.prog tab (fun _=>true) 1000 30 [] 0 []) 0)),.dv (.sl 9 (getS (xfun Try.prog tab (fun _=>true) 1000 30 [] 0 []) 1)),.dv (.sl 2 (getS (xfun Try.prog tab (fun _=>true) 1000 30 [] 0 []) 2)),.dv (.sl 2 (getS (xfun Try.prog tab (fun _=>true) 1000 30 [] 0 []) 3))]],[],0):=by kernel_rfl
theorem cat_len:(getS (xfun Try.prog tab (fun _=>true) 1000 30 [] 0 []) 0).length=5:=by kernel_rfl
theorem cat_of {a b c d:List DV} (h:xfun Try.prog tab (fun _=>true) 1000 30 [] 0 []=.ok ([.agg [.dv (.sl 7 a),.dv (.sl 9 b),.dv (.sl 2 c),.dv (.sl 2 d)]],[],0)) (hl:a.length=5):∃c:Cat,c.items.length=5∧CSpec Try.prog 30 [] 0 [] 0 [.agg [.dv (.sl 7 c.items),.dv (.sl 9 c.rules),.dv (.sl 2 c.tabs),.dv (.sl 2 c.taxes)]] [] :=
 ⟨⟨a,b,c,d⟩,hl,xfun_spec tab_ok mixed names_ok h⟩
theorem cat_spec:∃c:Cat,c.items.length=5∧CSpec Try.prog 30 [] 0 [] 0 [.agg [.dv (.sl 7 c.items),.dv (.sl 9 c.rules),.dv (.sl 2 c.tabs),.dv (.sl 2 c.taxes)]] []:=cat_of cat_run cat_len
theorem small_spoilt {d:Dea} (h:Sz d) (ho:∀x,x∈d.states→x.opts.length≤999) (a b n:Int):Sz (spoilt d a b n):=by
 unfold spoilt
 split
 ·rename_i s hs
  have hsm:=List.mem_of_getElem? hs
  refine ⟨⟨by simpa using h.sm.states,fun x hx=>?_⟩,fun x hx=>?_⟩
  ·rcases List.mem_or_eq_of_mem_set hx with hx | rfl
   ·exact h.sm.opts x hx
   ·have:=ho s hsm
    unfold spoilSta
    repeat' split
    all_goals (first | (dsimp only; omega) | (simp; omega) | simp)
  ·rcases List.mem_or_eq_of_mem_set hx with hx | rfl
   ·exact h.gv x hx
   ·have:=h.gv s hsm
    unfold spoilSta
    repeat' split
    all_goals (first | (dsimp only; omega) | (simp; omega) | simp)
 ·exact h
theorem sz_mk (l:List Int):Sz (mkDeal l 5)∧∀x,x∈(mkDeal l 5).states→x.opts.length≤999:=by
 have hp:=pick_bd l 1 4 (by omega)
 have hn:=pick_bd l 2 5 (by omega)
 have hpl:((mkPart l).length:Int)≤4:=by
  simp only [mkPart,pnames,List.length_take,List.length_cons,List.length_nil]
  omega
 obtain ⟨-,-,h3,h4⟩:=mkStas_ok l 5 (mkPart l).length (mkN l) hpl 3 (mkN l).toNat
 have hg:∀i,∀x,x∈(mkStas l 5 (mkPart l).length (mkN l) 3 i).1→x.gives.length≤8:=by
  intro i
  induction i with
  | zero=>intro x hx; simp [mkStas] at hx
  | succ i ih =>
   intro x hx
   simp only [mkStas] at hx
   rcases List.mem_append.1 hx with hx | hx
   ·exact ih x hx
   ·rcases List.mem_singleton.1 hx with rfl
    unfold mkSta
    have hgv:=gvLoop_ok l 5
    cases hf:(pick l (mkStas l 5 (mkPart l).length (mkN l) 3 i).2 3 == 0) with
    | true =>
     simp only [cond_true]
     have:=(hgv (opsOf l 5 (mkPart l).length (mkN l) true ((mkStas l 5 (mkPart l).length (mkN l) 3 i).2+1)).pos ((mkPart l).length:Int).toNat).2.2
     omega
    | false =>
     simp only [cond_false]
     cases (pick l (opsOf l 5 (mkPart l).length (mkN l) false ((mkStas l 5 (mkPart l).length (mkN l) 3 i).2+1)).pos 2 == 0) <;> simp
 refine ⟨⟨⟨?_,fun x hx=>?_⟩,fun x hx=>?_⟩,fun x hx=>?_⟩
 ·show (mkStas l 5 (mkPart l).length (mkN l) 3 (mkN l).toNat).1.length≤1000
  rw [h3]; unfold mkN; omega
 ·have:=h4 x hx; omega
 ·have:=hg _ x hx; omega
 ·have:=h4 x hx; omega
theorem gvAt_len (l:List Int) (d:Dea) (hd:tch d.states=false) (hp:d.parties.length≤1000):∀i x,x∈gvAt l d i→x.gives.length≤i * 3000
 | 0,x,hx=>by
  obtain ⟨j,hj⟩:=List.getElem?_of_mem hx
  rw [tch_false hd hj]; simp
 | i+1,x,hx=>by
  have ih:=gvAt_len l d hd hp i
  have hstep:∀y,y∈gvAt l d i→y.gives.length≤(i+1) * 3000:=fun y hy=>by
   have:=ih y hy
   rw [Nat.succ_mul]; exact Nat.le_trans this (Nat.le_add_right _ _)
  simp only [gvAt] at hx
  split at hx
  ·unfold gvRound at hx
   split at hx
   ·split at hx
    ·have h1:=gvAdd_len ih x hx
     have h2:=gvP_len l (by assumption) (gvTurn l d (by assumption)) (folM 3 d (by assumption)) d.parties.length
     rw [Nat.succ_mul]
     refine Nat.le_trans h1 (Nat.add_le_add_left ?_ _)
     refine Nat.le_trans (gvP_len _ _ _ _ _) ?_
     omega
    ·exact hstep x hx
   ·exact hstep x hx
  ·exact hstep x hx
theorem sz_deal (l:List Int):Sz (dealD l)∧∀x,x∈(dealD l).states→x.opts.length≤999:=by
 have hk:=dl0_ok l
 have heq:Eqv (dl0 l).states (dealD l).states:=gvAt_eqv l (dl0 l) _
 have hn:=pick_bd l 1 6 (by omega)
 have h7:(dl0 l).states.length≤7:=by
  show (dlStas _ _ _ _).length≤7
  rw [dlStas_len]; unfold dlN; omega
 have ho:∀x,x∈(dealD l).states→x.opts.length≤999:=fun y hy=>by
  obtain ⟨x,hx,hs⟩:=mem_eqv heq hy
  rw [(strip_fields hs).2.1]
  obtain ⟨i,rfl⟩:=dlStas_mem hx
  have:=dlSta_olen l (dlPart l).length (dlN l) i
  omega
 refine ⟨⟨⟨by rw [heq.len]; omega,fun x hx=>by have:=ho x hx; omega⟩,fun x hx=>?_⟩,ho⟩
 have h1:=gvAt_len l (dl0 l) hk.gv hk.p2 _ x hx
 have h2:=(disc_ok (dl0 l)).le
 have h3:(disc (dl0 l)).order.length * 3000≤7 * 3000:=Nat.mul_le_mul_right _ (by omega)
 omega
def dealsOf (l:List Int) (a b n:Int):List Dea:=[dealD l,spoilt (dealD l) a b n,spoilt (dealD l) a b (around n 9 - 1),mkDeal l 5]
theorem dealsOf_sz (l:List Int) (a b n:Int):∀d,d∈dealsOf l a b n→Sz d:=by
 intro d hd
 simp only [dealsOf,List.mem_cons,List.not_mem_nil,or_false] at hd
 rcases hd with rfl | rfl | rfl | rfl
 ·exact (sz_deal l).1
 ·exact small_spoilt (sz_deal l).1 (sz_deal l).2 _ _ _
 ·exact small_spoilt (sz_deal l).1 (sz_deal l).2 _ _ _
 ·exact (sz_mk l).1
set_option maxHeartbeats 4000000 in
theorem deals_spec (l:List Int) (hl:∀x,x∈l→InI x) (a b n:Int) (ha:InI a) (hb:InI b) (hn:InI n):PSpec Try.prog 8 [Ints l,I a,I b,I n] [.sl 3 ((dealsOf l a b n).map eDea)]:=by
 obtain ⟨c,hc,hcs⟩:=cat_spec
 have har:=around_bd n 9 (by omega)
 refine pspec_of tab_ok mixed (calls_snd _) (range_snd _) Try.func8 rfl (by kernel_rfl) rfl ?_
 refine .inl ⟨_,fun _=>(Deal_spec l hl).ok,?_⟩
 refine .inl ⟨_,fun _=>(spoilt_spec (dealD l) (sz_deal l).1.sm a b n ha hb).ok,?_⟩
 refine .inl ⟨_,fun _=>(around_spec n 9 hn (by omega)).ok,fun _=>⟨by omega,by omega⟩,?_⟩
 refine .inl ⟨_,fun _=>(spoilt_spec (dealD l) (sz_deal l).1.sm a b (around n 9 - 1) ha hb).ok,?_⟩
 refine .inr ⟨[],[],[],0,_,_,hcs,rfl,rfl,tv,tv,?_⟩
 have hmk:=make_spec l c 7 9 2 2 hl (by omega) (by omega)
 rw [hc] at hmk
 refine .inl ⟨_,fun _=>hmk.ok,?_⟩
 refine .inl ⟨(dealsOf l a b n).map eDea,rfl,⟨rf,rf,rf,rf,rf,rf,rf,rf,rf,rf,rf,rf,tv⟩,?_,by kernel_rfl,rf,tv⟩
 intro y hy
 obtain ⟨d,-,rfl⟩:=List.mem_map.1 hy
 rfl
end Go.Proofs.Ytfcfbfkjdenpdaa
