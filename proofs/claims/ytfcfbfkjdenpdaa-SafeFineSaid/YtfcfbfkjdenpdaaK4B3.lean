import Derived.Test.YtfcfbfkjdenpdaaK4B2
set_option linter.unusedVariables false
set_option linter.unusedSimpArgs false
set_option linter.unusedSectionVars false
namespace Go.Proofs.Ytfcfbfkjdenpdaa
open Go.TM
theorem gv3_len (l:List Int) (s p:Int) (row:List Int):∀k,(gv3 l s p row k).length≤k
 | 0=>Nat.le_refl _
 | k+1=>by
  have:=gv3_len l s p row k
  simp only [gv3,List.length_append]
  split
  ·split <;> simp <;> omega
  ·simp; omega
theorem gvP_len (l:List Int) (s turn:Int) (m:Rows):∀p,(gvP l s turn m p).length≤3 * p
 | 0=>Nat.le_refl _
 | p+1=>by
  have:=gvP_len l s turn m p
  simp only [gvP,List.length_append]
  split
  ·have:=gv3_len l s p (by assumption) 3
   omega
  ·simp; omega
theorem gvAdd_len {ss:List Sta} {s:Nat} {g:List Giv} {b:Nat} (h:∀x,x∈ss→x.gives.length≤b):∀x,x∈gvAdd ss s g→x.gives.length≤b+g.length:=by
 intro x hx
 unfold gvAdd at hx
 split at hx
 ·rename_i y hy
  rcases List.mem_or_eq_of_mem_set hx with hx | rfl
  ·have:=h x hx; omega
  ·have:=h y (List.mem_of_getElem? hy); simp; omega
 ·have:=h x hx; omega
def fb:Bool→Nat
 | false=>0
 | true=>1
def tF (f:Bool) (ss:List Sta):Box:=.tree 0 (fb f) (.osl 6 (ss.map oSta))
def dF (d:Dea) (f:Bool):List AV:=[.dv (.str d.name),.dv (.sl 1 (d.parties.map .str)),.own 0 0 (fb f) []]
structure GnI where
 i:Nat
 ss:List Sta
 f:Bool
def gvK (d:Dea) (f:Bool) (ss:List Sta):Boxes:=[(0,tF f ss),(1,.cells (dF d f)),(2,.cells (dvs (nth tab 39).zero)),(3,.cells (dvs [Ints (disc d).order,.sl 1 ((disc d).ways.map Ints)]))]
def gvE (l:List Int) (i:Nat):Env:=[(1,.dv (Ints l)),(2,.ptr 1 0),(4,.ptr 2 0),(5,.ptr 3 0),(6,.dv (I i))]
def gvE2 (l:List Int) (i:Nat) (s turn:Int) (m:Rows) (p:Nat):Env:=[(1,.dv (Ints l)),(2,.ptr 1 0),(4,.ptr 2 0),(5,.ptr 3 0),(6,.dv (I i)),(7,.dv (I s)),(8,.dv (eRows m)),(9,.dv (I turn)),(10,.dv (I p))]
def gvE3 (l:List Int) (i:Nat) (s turn:Int) (m:Rows) (p:Nat) (row:List Int) (k:Nat):Env:=[(1,.dv (Ints l)),(2,.ptr 1 0),(4,.ptr 2 0),(5,.ptr 3 0),(6,.dv (I i)),(7,.dv (I s)),(8,.dv (eRows m)),(9,.dv (I turn)),(10,.dv (I p)),(11,.dv (Ints row)),(12,.dv (I k))]
structure GvOk (d:Dea):Prop where
 sm:Small d
 p1:1≤d.parties.length
 p2:d.parties.length≤1000
 ok:OptOk d.parties.length 3 d
 gv:tch d.states=false
set_option maxHeartbeats 4000000 in
theorem given_spec (l:List Int) (hl:∀x,x∈l→InI x) (d:Dea) (hd:GvOk d):CSpec Try.prog 51 [dA d 0,.dv (Ints l)] 1 [(0,tS d.states)] 0 [.agg (dF d (tch (givD l d).states))] [(0,tF (tch (givD l d).states) (givD l d).states)]:=by
 refine cspec_of tab_ok mixed (calls_snd _) (range_snd _) Try.func51 rfl rfl (by kernel_rfl) ?_
 refine .inr ⟨[0],[dA d 0],[(0,tS d.states)],0,_,_,discover_specO d hd.sm,rfl,rfl,⟨⟨rf,rf,rfl,tv⟩,tv⟩,⟨⟨rfl,rfl⟩,tv⟩,?_⟩
 refine ⟨GnI,fun z=>⟨4,gvE l z.i,gvK d z.f z.ss⟩,fun z=>z.i≤(disc d).order.length∧z.ss=gvAt l d z.i∧z.f=tch z.ss∧∀x,x∈z.ss→x.gives.length≤z.i * 3000,fun z=>(disc d).order.length - z.i,⟨0,d.states,false⟩,(fun z=>by cases z with | mk i ss f=>cases f <;> rfl),?_,⟨by dsimp only; omega,rfl,hd.gv.symm,fun x hx=>?_⟩,?_⟩
 ·exact ⟨⟨rf,rfl,rfl,rfl,rf,tv⟩,⟨⟨rfl,rfl⟩,⟨rf,rf,rfl,tv⟩,subWs_dvs _ _ _ _,subWs_dvs _ _ _ [Ints (disc d).order,.sl 1 ((disc d).ways.map Ints)],tv⟩,rfl,rfl⟩
 ·obtain ⟨j,hj⟩:=List.getElem?_of_mem hx
  rw [tch_false hd.gv hj]; simp
 ·rintro ⟨i,ss,f⟩ ⟨hi,hss,hf,hgl⟩
  dsimp only at hi hss hf hgl
  have hb:=disc_ok d
  have hble:=hb.le
  have hsm:=hd.sm.states
  have heq:Eqv d.states ss:=hss ▸ gvAt_eqv l d i
  have hp1:=hd.p1
  have hp2:=hd.p2
  let g:Bool:=f
  cases f
  all_goals
   refine ⟨fun h=>?_,fun h=>?_⟩
   ·have hlt:i<(disc d).order.length:=by simpa using h
    clear h
    generalize hs':(disc d).order[i]=s at *
    have hsi:(disc d).order[i]?=some s:=by rw [List.getElem?_eq_getElem hlt,hs']
    have hrg:=hb.rng s (List.mem_of_getElem? hsi)
    have hlw:i<(disc d).ways.length:=by rw [hb.len]; exact hlt
    generalize hw':(disc d).ways[i]=way at *
    have hwi:(disc d).ways[i]?=some way:=by rw [List.getElem?_eq_getElem hlw,hw']
    have hwl:=hb.way way (List.mem_of_getElem? hwi)
    have hsl:s.toNat<d.states.length:=by omega
    obtain ⟨x,hx⟩:∃x,d.states[s.toNat]?=some x:=⟨_,List.getElem?_eq_getElem hsl⟩
    obtain ⟨y,hy,hxy⟩:=heq.some hx
    obtain ⟨hyf,-,-,-,-⟩:=strip_fields hxy
    have hsl2:s.toNat<ss.length:=by rw [heq.len]; exact hsl
    have hpath:=leads_disc d i s way hsi hwi
    refine ⟨I s,fun _=>⟨by dsimp only; omega,by simp [hsi]⟩,?_⟩
    refine ⟨fun _=>⟨by omega,by simp; omega⟩,oSta y,fun _=>by simp [hy],?_⟩
    refine ⟨fun h=>?_,fun h=>?_⟩
    ·have hnf:y.final=false:=by simpa using h
     clear h
     refine ⟨fun _=>⟨by dsimp only; omega,by dsimp only; omega⟩,⟨i+1,ss,g⟩,⟨⟨rf,rfl,rfl,rfl,le_int (by simp),tv⟩,⟨⟨rfl,rfl⟩,⟨rf,rf,rfl,tv⟩,subWs_dvs _ _ _ _,subWs_dvs _ _ _ [Ints (disc d).order,.sl 1 ((disc d).ways.map Ints)],tv⟩,rfl,rfl⟩,⟨by dsimp only; omega,?_,hf,?_⟩,by dsimp only; omega⟩
     ·simp [gvAt,hsi,hwi,gvRound,hx,←hyf,hnf,hss]
     ·intro x hx
      have:=hgl x hx
      rw [Nat.succ_mul]; exact Nat.le_trans this (Nat.le_add_right _ _)
    ·have hnf:y.final=true:=by simpa using h
     clear h
     have hfs:=Follow_specO 3 (by omega) ⟨d.name,d.parties,ss⟩ hp2 (optOk_eqv (ss:=d.states) heq hd.ok) way s (path_eqv (ss:=d.states) heq hpath) (by omega)
     have hfm:folM 3 ⟨d.name,d.parties,ss⟩ way=folM 3 d way:=folM_eqv heq 3 way
     rw [hfm] at hfs
     have hrc:=folM_rect hd.ok way
     generalize hfm':folM 3 d way=m at *
     have hpk:=pick_bd l (30+s) 4 (by omega)
     refine ⟨Ints way,fun _=>⟨by dsimp only; omega,by simp [hwi]⟩,.inr ⟨[0],[.dv (I 3),dA ⟨d.name,d.parties,ss⟩ 0,.dv (Ints way)],[(0,tS ss)],0,_,_,hfs,rfl,rfl,⟨rf,⟨rf,rf,rfl,tv⟩,rf,tv⟩,⟨⟨rfl,rfl⟩,tv⟩,by kernel_rfl,?_⟩⟩
     have hpl:(d.parties.length:Int) ≠ 0:=by omega
     have htl:m.length=d.parties.length:=hrc.len
     have htb:0≤gvTurn l d s∧gvTurn l d s<1000:=by
      unfold gvTurn
      rw [Int.tmod_eq_emod_of_nonneg hpk.1]
      have h1:=Int.emod_nonneg (pick l (30+s) 4) hpl
      have h2:=Int.emod_lt_of_pos (pick l (30+s) 4) (b:=(d.parties.length:Int)) (by omega)
      omega
     refine ⟨fun _=>⟨by omega,by omega⟩,.inl ⟨_,fun _=>(pick_spec l (30+s) 4 hl (by omega)).ok,fun _=>by simpa using hpl,by kernel_rfl,?_⟩⟩
     refine ⟨GnI,fun z=>⟨4,gvE2 l i s (gvTurn l d s) m z.i,gvK d z.f z.ss⟩,fun z=>z.i≤m.length∧z.ss=gvAdd ss s.toNat (gvP l s (gvTurn l d s) m z.i)∧z.f=tch z.ss,fun z=>m.length - z.i,⟨0,ss,g⟩,(fun z=>by cases z with | mk i ss f=>cases f <;> rfl),?_,⟨by dsimp only; omega,(gvAdd_nil _ _).symm,hf⟩,?_⟩
     ·exact ⟨⟨rf,rfl,rfl,rfl,rf,rf,rf,le_int (by simp [gvTurn]),rf,tv⟩,⟨⟨rfl,rfl⟩,⟨rf,rf,rfl,tv⟩,subWs_dvs _ _ _ _,subWs_dvs _ _ _ [Ints (disc d).order,.sl 1 ((disc d).ways.map Ints)],tv⟩,rfl,rfl⟩
     ·rintro ⟨p,s2,f2⟩ ⟨hp,hs2,hf2⟩
      dsimp only at hp hs2 hf2
      generalize htn:gvTurn l d s=turn at *
      let g2:Bool:=f2
      cases f2
      all_goals
       refine ⟨fun h=>?_,fun h=>?_⟩
       ·have hplt:p<m.length:=by simpa using h
        clear h
        have hmod:0≤((p:Int)+turn).tmod m.length∧((p:Int)+turn).tmod m.length<m.length:=⟨Int.tmod_nonneg _ (by omega),Int.tmod_lt_of_pos _ (by omega)⟩
        generalize hq:(((p:Int)+turn).tmod m.length).toNat=q at *
        have hql:q<m.length:=by omega
        generalize hrow':m[q]=row at *
        have hrow:m[q]?=some row:=by rw [List.getElem?_eq_getElem hql,hrow']
        have hrl:row.length=3:=hrc.row row (List.mem_of_getElem? hrow)
        refine ⟨fun _=>⟨by dsimp only; omega,by dsimp only; omega⟩,fun _=>by rw [List.length_map]; omega,Ints row,fun _=>⟨by simpa using hmod.1,by simp [hq,hrow]⟩,?_⟩
        refine ⟨GnI,fun z=>⟨4,gvE3 l i s turn m p row z.i,gvK d z.f z.ss⟩,fun z=>z.i≤3∧z.ss=gvAdd ss s.toNat (gvP l s turn m p++gv3 l s p row z.i)∧z.f=tch z.ss,fun z=>3 - z.i,⟨0,s2,g2⟩,(fun z=>by cases z with | mk i ss f=>cases f <;> rfl),?_,⟨by dsimp only; omega,by simp [gv3,hs2],hf2⟩,?_⟩
        ·exact ⟨⟨rf,rfl,rfl,rfl,rf,rf,rf,rf,rf,rf,rf,tv⟩,⟨⟨rfl,rfl⟩,⟨rf,rf,rfl,tv⟩,subWs_dvs _ _ _ _,subWs_dvs _ _ _ [Ints (disc d).order,.sl 1 ((disc d).ways.map Ints)],tv⟩,rfl,rfl⟩
        ·rintro ⟨k,s3,f3⟩ ⟨hk,hs3,hf3⟩
         dsimp only at hk hs3 hf3
         let g3:Bool:=f3
         cases f3
         all_goals
          refine ⟨fun h=>?_,fun h=>?_⟩
          ·have hklt:k<3:=by
            have:(k:Int)<3:=by simpa using h
            omega
           clear h
           generalize hel':row[k]=el at *
           have hel:row[k]?=some el:=by rw [List.getElem?_eq_getElem (by omega),hel']
           have hpb:=pick_bd l (31+s) 19 (by omega)
           refine ⟨I el,fun _=>⟨by dsimp only; omega,by simp [hel]⟩,id,fun _=>⟨by omega,by omega⟩,?_⟩
           refine ⟨id,id,.inl ⟨_,fun _=>(pick_spec l (31+s) 19 hl (by omega)).ok,?_⟩⟩
           have heq3:Eqv ss s3:=by rw [hs3]; exact gvAdd_eqv _ _ _
           obtain ⟨z,hz,-⟩:=heq3.some hy
           have hsl3:s.toNat<s3.length:=by rw [heq3.len]; exact hsl2
           refine ⟨id,fun _ h=>bw_t h,fun h=>?_,fun h=>?_⟩
           ·have hc:0<el∧0<pick l (31+s) 19:=by
             obtain ⟨h1,h2⟩:=bif_t h
             exact ⟨by simpa using h1,by simpa using h2⟩
            clear h
            have hs4:gvAdd s3 s.toNat [⟨p,k,el⟩]=gvAdd ss s.toNat (gvP l s turn m p++gv3 l s p row (k+1)):=by
             rw [hs3,gvAdd_add]
             simp [gv3,hel,hc,List.append_assoc]
            have ht4:tch (gvAdd s3 s.toNat [⟨p,k,el⟩])=true:=gvAdd_tch hz (by simp)
            refine ⟨fun _=>⟨by omega,by dsimp only; simp; omega⟩,oSta z,fun _=>by simp [hz],?_⟩
            have hzl:z.gives.length≤3010000:=by
             have h1:=gvAdd_len (s:=s.toNat) (g:=gvP l s turn m p++gv3 l s p row k) hgl z (hs3 ▸ List.mem_of_getElem? hz)
             have h2:=gvP_len l s turn m p
             have h3:=gv3_len l s p row k
             rw [List.length_append] at h1
             omega
            obtain ⟨nm,fi,op,wt,lt,gv⟩:=z
            rcases gv with _ | ⟨g0,gs⟩
            ·refine ⟨I el,fun _=>⟨by dsimp only; omega,by simp [hel]⟩,.inl ⟨[eGiv ⟨p,k,el⟩],rfl,⟨rf,rf,rf,tv⟩,fun y hy=>(by rcases List.mem_singleton.1 hy with rfl; rfl),?_⟩⟩
             refine .inr ⟨[eGiv ⟨p,k,el⟩],ELes.refl _,(by rw [by92]; simp),(by simp),fun _=>⟨by omega,by dsimp only; simp; omega⟩,[gC [⟨p,k,el⟩]],⟨rfl,tv⟩,?_⟩
             refine ⟨oSta ⟨nm,fi,op,wt,lt,[]⟩,by simp [hz],?_⟩
             refine ⟨by kernel_rfl,fun _=>⟨by dsimp only; omega,by dsimp only; omega⟩,⟨k+1,gvAdd s3 s.toNat [⟨p,k,el⟩],true⟩,⟨⟨rf,rfl,rfl,rfl,rf,rf,rf,rf,rf,rf,le_int (by simp),tv⟩,⟨⟨rfl,?_⟩,⟨rf,rf,rfl,tv⟩,subWs_dvs _ _ _ _,subWs_dvs _ _ _ [Ints (disc d).order,.sl 1 ((disc d).ways.map Ints)],tv⟩,rfl,rfl⟩,⟨by dsimp only; omega,hs4,ht4.symm⟩,by dsimp only; omega⟩
             unfold gvAdd
             rw [hz]
             dsimp only
             rw [List.map_set]
             rfl
            ·refine ⟨I el,fun _=>⟨by dsimp only; omega,by simp [hel]⟩,.inl ⟨[eGiv ⟨p,k,el⟩],rfl,⟨rf,rf,rf,tv⟩,fun y hy=>(by rcases List.mem_singleton.1 hy with rfl; rfl),?_⟩⟩
             refine .inr ⟨oSta ⟨nm,fi,op,wt,lt,g0::gs⟩,fun _=>by simp [hz],?_⟩
             simp only [List.length_cons] at hzl
             refine ⟨[eGiv ⟨p,k,el⟩],ELes.refl _,(by rw [by92]; simp; omega),(by simp; omega),oSta ⟨nm,fi,op,wt,lt,g0::gs⟩,by simp [hz],?_⟩
             refine ⟨fun _=>⟨by omega,by simp; omega⟩,[gC ((g0::gs)++[⟨p,k,el⟩])],⟨by simp [gC,DV.owning],tv⟩,.agg [.str nm,B fi,.sl 3 (op.map eOpt),I wt,I lt,.any],?_,?_⟩
             ·rw [List.getElem?_set_self (by simpa using hsl3)]; rfl
             refine ⟨by kernel_rfl,fun _=>⟨by dsimp only; omega,by dsimp only; omega⟩,⟨k+1,gvAdd s3 s.toNat [⟨p,k,el⟩],true⟩,⟨⟨rf,rfl,rfl,rfl,rf,rf,rf,rf,rf,rf,le_int (by simp),tv⟩,⟨⟨rfl,?_⟩,⟨rf,rf,rfl,tv⟩,subWs_dvs _ _ _ _,subWs_dvs _ _ _ [Ints (disc d).order,.sl 1 ((disc d).ways.map Ints)],tv⟩,rfl,rfl⟩,⟨by dsimp only; omega,hs4,ht4.symm⟩,by dsimp only; omega⟩
             unfold gvAdd
             rw [hz]
             dsimp only
             rw [List.map_set,List.set_set]
             rfl
           ·have hc:¬ (0<el∧0<pick l (31+s) 19):=fun hc=>bif_f h ⟨by simpa using hc.1,by simpa using hc.2⟩
            refine ⟨fun _=>⟨by dsimp only; omega,by dsimp only; omega⟩,⟨k+1,s3,g3⟩,⟨⟨rf,rfl,rfl,rfl,rf,rf,rf,rf,rf,rf,le_int (by simp),tv⟩,⟨⟨rfl,rfl⟩,⟨rf,rf,rfl,tv⟩,subWs_dvs _ _ _ _,subWs_dvs _ _ _ [Ints (disc d).order,.sl 1 ((disc d).ways.map Ints)],tv⟩,rfl,rfl⟩,⟨by dsimp only; omega,?_,hf3⟩,by dsimp only; omega⟩
            simp [gv3,hel,hc,hs3]
          ·have hke:k=3:=by
            have:¬ (k:Int)<3:=by simpa using h
            omega
           subst hke
           refine ⟨fun _=>⟨by omega,by omega⟩,⟨p+1,s3,g3⟩,⟨⟨rf,rfl,rfl,rfl,rf,rf,rf,rf,le_int (by simp),tv⟩,⟨⟨rfl,rfl⟩,⟨rf,rf,rfl,tv⟩,subWs_dvs _ _ _ _,subWs_dvs _ _ _ [Ints (disc d).order,.sl 1 ((disc d).ways.map Ints)],tv⟩,rfl,rfl⟩,⟨by dsimp only; omega,?_,hf3⟩,by dsimp only; omega⟩
           simp [gvP,hq,hrow,hs3]
       ·have hpe:p=m.length:=by
         have:¬ p<m.length:=by simpa using h
         omega
        subst hpe
        refine ⟨fun _=>⟨by omega,by omega⟩,⟨i+1,s2,g2⟩,⟨⟨rf,rfl,rfl,rfl,le_int (by simp),tv⟩,⟨⟨rfl,rfl⟩,⟨rf,rf,rfl,tv⟩,subWs_dvs _ _ _ _,subWs_dvs _ _ _ [Ints (disc d).order,.sl 1 ((disc d).ways.map Ints)],tv⟩,rfl,rfl⟩,⟨by dsimp only; omega,?_,hf2,?_⟩,by dsimp only; omega⟩
        ·simp [gvAt,hsi,hwi,gvRound,hx,←hyf,hnf,←hss,hfm',htn,←htl,hs2]
        ·intro x hx
         have h1:=gvAdd_len (s:=s.toNat) (g:=gvP l s turn m m.length) hgl x (hs2 ▸ hx)
         have h2:=gvP_len l s turn m m.length
         show x.gives.length≤(i+1) * 3000
         omega
   ·have hin:i=(disc d).order.length:=by
     have:¬ i<(disc d).order.length:=by simpa using h
     omega
    subst hin
    have hgd:(givD l d).states=ss:=hss.symm
    refine ⟨[.agg (dF d g)],[(0,tF g ss)],⟨by rw [hgd,←hf],by rw [hgd,←hf]⟩,rfl,⟨⟨rf,rf,rfl,tv⟩,tv⟩,⟨rfl,rfl⟩,tv⟩
end Go.Proofs.Ytfcfbfkjdenpdaa
