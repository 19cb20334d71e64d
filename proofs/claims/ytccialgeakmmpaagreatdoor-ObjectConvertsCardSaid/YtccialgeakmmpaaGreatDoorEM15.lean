import Derived.Test.YtccialgeakmmpaaGreatDoorEM14
set_option linter.unusedVariables false
set_option linter.unusedSimpArgs false
set_option linter.unusedSectionVars false
namespace Go.TM
open Go.RowKit
variable [Glob]
def envL:Nat→List AV→Env
 | _,[]=>[]
 | s,.any::r=>envL (s+1) r
 | s,v::r=>(s,v)::envL (s+1) r
theorem envL_lt:∀(l:List AV) (s t:Nat),t<s→look (envL s l) t=.any
 | [],_,_,_=>rfl
 | v::r,s,t,h=>by
  have ih:=envL_lt r (s+1) t (by omega)
  cases v <;> simp only [envL,look] <;> first | exact ih | (rw [beq_false (by omega)]; exact ih)
theorem envL_look:∀(l:List AV) (s j:Nat),look (envL s l) (s+j)=match l[j]? with | some v=>v | none=>.any
 | [],s,j=>by simp [envL,look]
 | v::r,s,0=>by
  have h0:=envL_lt r (s+1) s (by omega)
  cases v <;> simp only [envL,look,Nat.add_zero,Nat.beq_refl,cond_true,List.getElem?_cons_zero] <;> exact h0
 | v::r,s,j+1=>by
  have ih:=envL_look r (s+1) j
  have e:s+(j+1)=s+1+j:=by omega
  cases v <;> simp only [envL,look,List.getElem?_cons_succ] <;> rw [e] <;> first | exact ih | (rw [beq_false (by omega)]; exact ih)
def parE:List Nat→List AV→Env→Env
 | p::ps,v::vs,env=>parE ps vs ((p,v)::env)
 | _,_,env=>env
def ltAll (n:Nat):List Nat→Bool
 | []=>true
 | p::r=>Nat.blt p n && ltAll n r
theorem ltAll_mem {n:Nat}:∀{l:List Nat},ltAll n l=true→∀p,p∈l→p<n
 | [],_,p,h=>by simp at h
 | q::r,h,p,hp=>by
  simp only [ltAll,Bool.and_eq_true,Nat.blt_eq] at h
  rcases List.mem_cons.1 hp with rfl | hp
  ·exact h.1
  ·exact ltAll_mem h.2 p hp
theorem par_rel {G:Gh}:∀{ps:List Nat} {avs:List AV} {vs:List Value} {env:Env} {tmps:Array Value},(∀p,p∈ps→p<tmps.size)→CRel G avs vs→(∀t,VRel G (look env t) (tmps.getD t undef)) →
  ∀t,VRel G (look (parE ps avs env) t) (((ps.zip vs).foldl (fun tm (pv:Nat × Value)=>tm.setIfInBounds pv.1 pv.2) tmps).getD t undef)
 | [],avs,vs,env,tmps,_,_,h,t=>by cases avs <;> simpa [parE] using h t
 | p::ps,[],vs,env,tmps,_,hr,h,t=>by
  have:vs=[]:=by have:=hr.1; simpa using this.symm
  subst this
  simpa [parE] using h t
 | p::ps,v::avs,[],env,tmps,_,hr,h,t=>by have:=hr.1; simp at this
 | p::ps,v::avs,x::vs,env,tmps,hp,hr,h,t=>by
  simp only [parE,List.zip_cons_cons,List.foldl_cons]
  refine par_rel (fun q hq=>by rw [Array.size_setIfInBounds]; exact hp q (by simp [hq])) ⟨by simpa using hr.1,fun j d y hd hy=>hr.2 (j+1) d y (by simpa using hd) (by simpa using hy)⟩ (fun t=>?_) t
  simp only [look]
  by_cases e:t=p
  ·subst e
   have:=hp t (by simp)
   simp only [Nat.beq_refl,cond_true,Array.getD_eq_getD_getElem?]
   rw [Array.getElem?_setIfInBounds_self_of_lt this]
   exact hr.2 0 v x rfl rfl
  ·rw [beq_false e,Array.getD_eq_getD_getElem?,Array.getElem?_setIfInBounds_ne (fun h=>e h.symm),←Array.getD_eq_getD_getElem?]
   exact h t
theorem fold_size (ps:List (Nat × Value)):∀(tmps:Array Value),((ps.foldl (fun tm (pv:Nat × Value)=>tm.setIfInBounds pv.1 pv.2) tmps)).size=tmps.size:=by
 induction ps with
 | nil=>intro t; rfl
 | cons p r ih=>intro t; simp only [List.foldl_cons]; rw [ih,Array.size_setIfInBounds]
def isN:AX→Bool
 | .normal=>true
 | _=>false
def finSt:AX→RSt
 | .normal=>.ready
 | e=>.done e
def yPost2 (m ex:Nat) (R:List AV→Boxes→Prop) (e:AX) (_nx:Nat) (_env:Env) (K:Boxes):Prop:=match lookB K 0 with
 | .rcd rc .busy l=>∃rs K',R rs K'∧outChk m ex (lookB ((0,.rcd rc (finSt e) l)::K)) [.dv (.bool (isN e))] rs K'=true ∧
   subWs m (lookB ((0,.rcd rc (finSt e) l)::K)) (lookB K') rs [.dv (.bool (isN e))]∧subB m (lookB ((0,.rcd rc (finSt e) l)::K)) (lookB K') K'
 | _=>False
def yPost1 (P:Program) (T:List TI) (n m ex:Nat) (bd:Code) (R:List AV→Boxes→Prop) (e:AX) (nx:Nat) (env:Env) (K:Boxes):Prop:=match e with
 | .normal=>match lookB K 0 with
  | .rcd rc .ready l=>acode P T .round n m bd (yPost2 m ex R) nx env ((0,.rcd rc .busy l)::K)
  | _=>False
 | _=>False
section
variable {P:Program} {T:List TI}
theorem yspecR_of (hT:TOk P T) (hm:P.follows .mixedOrders=true) {rc:RC} {l args:List AV} {m ex:Nat} {K:Boxes} {R:List AV→Boxes→Prop} (h0:lookB K 0=.rcd rc .ready l)
  (hchk:(Nat.beq args.length rc.ps.size && ltAll l.length rc.ps.toList && Nat.blt 0 m && keysLt m K)=true) (h:acode P T .round l.length m rc.as (yPost1 P T l.length m ex rc.bd R) m (parE rc.ps.toList args (envL 0 l)) K) :
  YSpecR P args m K ex R:=by
 intro w G vs hgl hfit hr
 simp only [Bool.and_eq_true] at hchk
 obtain ⟨⟨⟨hal,hps⟩,hm0⟩,hkl⟩:=hchk
 have hal:=Nat.eq_of_beq_eq_true hal
 have hm0:0<m:=by simpa using hm0
 have hb:=hfit.box 0
 rw [h0] at hb
 obtain ⟨b,fn,tmps,D,hb0,hw,hcr⟩:=hb
 have hsz:tmps.size=l.length:=by have:=hcr.1; simp at this; exact this.symm
 have hvl:vs.toArray.size=rc.ps.size:=by rw [List.size_toArray,←hr.1]; exact hal
 refine ⟨b,hb0,fn,_,rc.as,rc.bd,w,run_yield hw hvl,roundIn_of_wpIn trivial ?_⟩
 have hfold:(rc.ps.zip vs.toArray).foldl (fun tm (pv:Nat × Value)=>tm.setIfInBounds pv.1 pv.2) tmps=(rc.ps.toList.zip vs).foldl (fun tm (pv:Nat × Value)=>tm.setIfInBounds pv.1 pv.2) tmps:=by
  rw [←Array.foldl_toList,Array.toList_zip]
 have hfold':(rc.ps.zip vs.toArray).foldl (fun tmps (t,a)=>tmps.setIfInBounds t a) tmps=(rc.ps.toList.zip vs).foldl (fun tm (pv:Nat × Value)=>tm.setIfInBounds pv.1 pv.2) tmps:=hfold
 let g:Org:=⟨fun b=>∃i,Own G i (lookB K i) b,w,G.M,m,G.β,fun i p=>G.H i 0 0 p⟩
 have henv:∀t,VRel G (look (envL 0 l) t) (tmps.getD t undef):=fun t=>by
  have:=envL_look l 0 t
  rw [Nat.zero_add] at this
  rw [this]
  split
  ·rename_i v hv
   have ht:t<tmps.size:=by rw [hsz]; exact (List.getElem?_eq_some_iff.1 hv).1
   refine hcr.2 t v _ hv ?_
   rw [Array.getD_eq_getD_getElem?,Array.getElem?_toList,Array.getElem?_eq_getElem ht]; rfl
  ·exact .any _
 have hst:StM g l.length (look (parE rc.ps.toList args (envL 0 l))) (lookB K) { tmps:=(rc.ps.toList.zip vs).foldl (fun tm (pv:Nat × Value)=>tm.setIfInBounds pv.1 pv.2) tmps,defers:=[] } w G :=
  {fit:=hfit,env:=par_rel (fun p hp=>by rw [hsz]; exact ltAll_mem hps p hp) hr henv,size:=by rw [←hsz]; exact fold_size _ _,bel:=fun _ _ _=>rfl,os:=rfl,tape:=rfl,output:=rfl,grow:=Nat.le_refl _,mem:=.refl G.M,mlow:=fun _ _ _=>rfl,ownhi:=fun i b ho=>.inr ⟨i,ho⟩,bet:=fun _ _=>rfl,hed:=fun _ _ _ _ hx=>hx,glob:=hgl,dfr:=⟨[],rfl,List.nodup_nil,by simp⟩ }
 rw [hfold']
 have hno:∀i,m≤i→lookB K i=.none:=fun i hi=>by
  rcases lookB_mem (K:=K) (i:=i) with h' | h'
  ·exact h'
  ·have:=keysLt_mem hkl i (List.mem_map.2 ⟨_,h',rfl⟩); omega
 refine acode_sound (g:=g) (C:=fun _=>True) hT hm (calls_snd P) (range_snd P) trivial (wide_round b) (r:=.round) (fun h=>by cases h) (m:=m) (Nat.le_refl _) rc.as h ⟨⟨G,hst⟩,Nat.le_refl _,hno⟩ fun e nx env1 K1 a1 w1 hq hs=>?_
 cases e with
 | ret=>exact hq.elim
 | exit i=>exact hq.elim
 | normal =>
  simp only [yPost1] at hq
  split at hq
  ·rename_i rc1 l1 hk1
   obtain ⟨⟨G1,st1⟩,hnx,hn1⟩:=hs
   have hl1:G1.β 0=some b:=by rw [st1.bet 0 hm0]; exact hb0
   obtain ⟨r,hw1,hr1,hr2,hset,_⟩:=st1.setRcd hk1 hl1
   have hbeg:=run_beginRound (P:=P) hw1 hr1
   have hset1:=hset .busy
   have hloop:({ r with state:=RSt.busy.st,pending:=RSt.busy.pend }:Loop)={ r with state:=.busy }:=by
    have:r.pending=none:=hr2
    simp only [RSt.st,RSt.pend,←this]
   rw [hloop] at hset1
   refine ⟨_,hbeg,?_⟩
   refine acode_sound (g:=g) (C:=fun _=>True) hT hm (calls_snd P) (range_snd P) trivial (wide_round b) (r:=.round) (fun h=>by cases h) (m:=m) (Nat.le_refl _) rc.bd hq ⟨⟨G1,by rw [lookB_cons]; exact hset1⟩,hnx,fun i hi=>by
    have:m≤nx:=hnx
    rw [lookB_cons,upd_other _ _ (by omega)]; exact hn1 i hi⟩ fun e nx2 env2 K2 a2 w2 hq hs=>?_
   simp only [yPost2] at hq
   split at hq
   ·rename_i rc2 l2 hk2
    obtain ⟨rs,K3,hR,hout,hsV,hsB⟩:=hq
    obtain ⟨⟨G2,st2⟩,_,_⟩:=hs
    have hl2:G2.β 0=some b:=by rw [st2.bet 0 hm0]; exact hb0
    obtain ⟨r2,hw2,_,_,hset2,_⟩:=st2.setRcd hk2 hl2
    have st3:=hset2 (finSt e)
    rw [←lookB_cons] at st3
    simp only [outChk,Bool.and_eq_true] at hout
    obtain ⟨⟨⟨hwf2,hscr⟩,hfr⟩,hfull⟩:=hout
    obtain ⟨G3,_,hvs,hst4⟩:=st3.sub (m:=m) (Nat.le_refl _) (F:=fidws (lookB ((0,.rcd rc2 (finSt e) l2)::K2)) rs [.dv (.bool (isN e))]++fidsB (lookB ((0,.rcd rc2 (finSt e) l2)::K2)) K3) hwf2 (fun i hi=>List.mem_append.2 (.inr hi)) hfr hfull hsB
    have hdr:=hvs rs [.dv (.bool (isN e))] [.bool (isN e)] hsV hscr (fun i hi=>List.mem_append.2 (.inl hi)) ⟨rfl,fun j d v hd hv=>by
     cases j with
     | zero=>simp at hd hv; subst hd; subst hv; exact .dv (.bool _)
     | succ j=>simp at hd⟩
    have st5:=hst4 (fun _=>.any) (fun _=>.any _)
    have fin:∃v rs K' G',Ending.returned (.bool (isN e))=.returned v∧R rs K'∧COut m ex (lookB K) w G rs (lookB K') (w2.putObj b (.loop { r2 with state:=(finSt e).st,pending:=(finSt e).pend })) G' v:=by
     refine ⟨_,rs,K3,G3,rfl,hR,⟨st5.fit,fun i hi=>wfB_none hwf2 hi,?_,st5.mem,st5.bet,st5.hed,fun b hb hO=>⟨st5.bel b hb (fun ⟨i,h⟩=>hO i h),st5.mlow b hb (fun ⟨i,h⟩=>hO i h)⟩,st5.ownhi,st5.os,st5.tape,st5.output,st5.grow⟩⟩
     match rs,hdr with
     | [d],hdr=>exact hdr.2 0 d _ rfl rfl
     | [],hdr=>have:=hdr.1; simp at this
     | _::_::_,hdr=>have:=hdr.1; simp at this
    have hend:=run_endRound (P:=P) (endCode e) hw2
    cases e with
    | normal=>exact ⟨_,_,hend,fin⟩
    | ret=>exact ⟨_,_,hend,fin⟩
    | exit i=>exact ⟨_,_,hend,fin⟩
   ·exact hq.elim
  ·exact hq.elim
end
end Go.TM
namespace Go.TM
open Go.RowKit
variable [Glob]
def upC {γ:Type} (f:Nat→γ) (i:Nat) (x:γ):Nat→γ:=fun j=>Bool.casesOn (Nat.beq j i) (f j) x
def upsC {γ:Type} (f:Nat→γ):List (Nat × γ)→Nat→γ
 | []=>f
 | p::r=>upC (upsC f r) p.1 p.2
inductive XR (α:Type):Type
 | ok (a:α)
 | no (why:List Nat)
def XR.bind {α β:Type} (x:XR α) (f:α→XR β):XR β:=XR.casesOn x f .no
def xif {α:Type} (b:Bool) (why:Nat) (x:XR α):XR α:=Bool.casesOn b (.no [why]) x
def xopt {α:Type} (x:Option α) (why:Nat):XR α:=Option.casesOn x (.no [why]) .ok
def ilt (a b:Int):Bool:=Int.casesOn a (fun m=>Int.casesOn b (fun n=>Nat.blt m n) (fun _=>false)) (fun m=>Int.casesOn b (fun _=>true) (fun n=>Nat.blt n m))
def ile (a b:Int):Bool:=!(ilt b a)
def ieq (a b:Int):Bool:=Int.casesOn a (fun m=>Int.casesOn b (fun n=>Nat.beq m n) (fun _=>false)) (fun m=>Int.casesOn b (fun _=>false) (fun n=>Nat.beq m n))
def inn (a:Int):Bool:=Int.casesOn a (fun _=>true) (fun _=>false)
def lget {α:Type}:List α→Nat→Option α
 | [],_=>none
 | x::r,i=>Nat.casesOn i (some x) (fun i=>lget r i)
abbrev EN:=Eff × Nat
def xopen (κ:Nat→Box) (v:AV):XR AV:=match v with
 | .opt g v=>xif g 1 (.ok (res κ v))
 | v=>.ok v
def xex (ρ:Nat→AV) (κ:Nat→Box) (x:Operand):XR AV:=xopen κ (ev ρ κ x)
def xexs (ρ:Nat→AV) (κ:Nat→Box):List Operand→XR (List AV)
 | []=>.ok []
 | x::r=>(xex ρ κ x).bind fun v=>(xexs ρ κ r).bind fun l=>.ok (v::l)
def xparts (ρ:Nat→AV) (κ:Nat→Box):List (Nat × Operand)→XR (List (Nat × AV))
 | []=>.ok []
 | p::r=>(xex ρ κ p.2).bind fun v=>(xparts ρ κ r).bind fun l=>.ok ((p.1,v)::l)
structure XV where
 v:AV
 bx:List (Nat × Box)
 rd:List Nat
 nx:Nat
def xval (nx:Nat) (v:AV):XR XV:=.ok ⟨v,[],[],nx⟩
def xret (n:Nat) (dst:Option Nat) (r:XV):XR EN:=match dst with
 | none=>.ok (⟨[],r.bx,r.rd⟩,r.nx)
 | some d=>xif (Nat.blt d n) 2 (.ok (⟨[(d,r.v)],r.bx,r.rd⟩,r.nx))
def inI64 (n:Int):Bool:=Int.casesOn n (fun m=>Nat.ble m 9223372036854775807) (fun m=>Nat.ble m 9223372036854775807)
def xarith (k:IntKind) (n:Int):XR AV:=match k with
 | .i64=>xif (inI64 n) 3 (.ok (.dv (.int .i64 n)))
 | k=>.ok (.dv (.int k (k.wrap n)))
def xbool (b:Bool):XR AV:=.ok (.dv (.bool b))
def xbinI (op:BinOp) (k:IntKind) (a b:Int):XR AV:=match op with
 | .add=>xarith k (a+b)
 | .sub=>xarith k (a - b)
 | .mul=>xarith k (a * b)
 | .quo=>xif (!(ieq b 0)) 5 (xarith k (a.tdiv b))
 | .rem=>xif (!(ieq b 0)) 5 (.ok (.dv (.int k (a.tmod b))))
 | .eql=>xbool (ieq a b)
 | .neq=>xbool (!(ieq a b))
 | .lss=>xbool (ilt a b)
 | .leq=>xbool (ile a b)
 | .gtr=>xbool (ilt b a)
 | .geq=>xbool (ile b a)
 | _=>.no [6]
def xbinB (op:BinOp) (p q:Bool):XR AV:=match op with
 | .eql=>xbool (p == q)
 | .neq=>xbool (!(p == q))
 | _=>.no [8]
def xbinS (op:BinOp) (s t:ByteArray):XR AV:=match op with
 | .eql=>xbool (s.toList == t.toList)
 | .neq=>xbool (!(s.toList == t.toList))
 | .add=>xif (decide (((s.size+t.size:Nat):Int)≤9223372036854775807)) 9 (.ok (.dv (.str (s++t))))
 | _=>.no [10]
def xbinP (op:BinOp) (same:Bool):XR AV:=match op with
 | .eql=>xbool same
 | .neq=>xbool (!same)
 | _=>.no [12]
def DV.int?:DV→Option (IntKind × Int)
 | .int k n=>some (k,n)
 | _=>none
def AV.int?:AV→Option (IntKind × Int)
 | .dv d=>d.int?
 | _=>none
def DV.bool?:DV→Option Bool
 | .bool b=>some b
 | _=>none
def AV.bool?:AV→Option Bool
 | .dv d=>d.bool?
 | _=>none
def DV.str?:DV→Option ByteArray
 | .str s=>some s
 | _=>none
def AV.str?:AV→Option ByteArray
 | .dv d=>d.str?
 | _=>none
def DV.isNilp:DV→Bool
 | .nilp=>true
 | _=>false
def AV.isNilp:AV→Bool
 | .dv d=>d.isNilp
 | _=>false
def DV.ivl?:DV→Option (IntKind × Int × Int)
 | .ivl k lo hi=>some (k,lo,hi)
 | _=>none
def AV.ivl?:AV→Option (IntKind × Int × Int)
 | .dv d=>d.ivl?
 | _=>none
def xivl (op:BinOp) (lo hi b:Int):Option Bool:=match op with
 | .lss=>selB (ilt hi b) (!(ilt lo b))
 | .leq=>selB (!(ilt b hi)) (ilt b lo)
 | .gtr=>selB (ilt b lo) (!(ilt b hi))
 | .geq=>selB (!(ilt lo b)) (ilt hi b)
 | .eql=>bif ilt b lo || ilt hi b then some false else none
 | .neq=>bif ilt b lo || ilt hi b then some true else none
 | _=>none
def xbin (ti:TI) (op:BinOp) (x y:AV):XR AV:=match x.int? with
 | some a=>(xopt y.int? 4).bind fun b=>xif (a.1 == b.1) 4 (xbinI op a.1 a.2 b.2)
 | none=>match x.ivl? with
  | some t=>(xopt y.int? 14).bind fun b=>xif (t.1 == b.1) 14 ((xopt (xivl op t.2.1 t.2.2 b.2) 14).bind xbool)
  | none=>match x.bool? with
   | some p=>(xopt y.bool? 7).bind fun q=>xif (ti.ok && Nat.beq ti.kind 1) 7 (xbinB op p q)
   | none=>match x.str? with
    | some s=>(xopt y.str? 11).bind fun t=>xbinS op s t
    | none=>xif (y.isNilp && (ti.ok && Nat.beq ti.kind 5)) 13 (match x.isNilp with
     | true=>xbinP op true
     | false=>xif (isPtr x) 15 (xbinP op false))
def xgetN:DV→List PS→XR DV
 | d,[]=>.ok d
 | d,s::p=>match step d s with
  | some c=>xgetN c p
  | none=>.no [18]
def xsetN:DV→List PS→DV→XR DV
 | _,[],n=>.ok n
 | d,s::p,n=>match step d s with
  | some c=>(xsetN c p n).bind fun c'=>.ok (put d s c')
  | none=>.no [25]
def xtree (κ:Nat→Box) (i ver ep:Nat) (p:List PS):XR (Nat × DV):=match κ i with
 | .tree ver' ep' d=>xif (Nat.beq ver ver' && (emp p || Nat.beq ep ep')) 32 (.ok (ep',d))
 | _=>.no [33]
structure XN where
 ep:Nat
 d:DV
 n:DV
def xnode (κ:Nat→Box) (i ver ep:Nat) (p:List PS):XR XN:=(xtree κ i ver ep p).bind fun t=>(xgetN t.2 p).bind fun n=>.ok ⟨t.1,t.2,n⟩
def DV.osl?:DV→Option (Nat × List DV)
 | .osl sz l=>some (sz,l)
 | _=>none
def DV.omap?:DV→Option (KS × List DV)
 | .omap s m=>some (s,m)
 | _=>none
def DV.optr?:DV→Option DV
 | .optr x=>some x
 | _=>none
def xpick (agg:Bool) (l:List AV) (off n:Nat):XR AV:=match agg with
 | true=>xif (Nat.ble (off+n) l.length) 16 (.ok (.agg ((l.drop off).take n)))
 | false=>xopt (lget l off) 17
def ne {α:Type}:List α→Bool
 | []=>false
 | _::_=>true
def closedB (x:DV):Bool:=x.cells.all fun d=>!d.owning
def allClosed:List DV→Bool
 | []=>true
 | x::r=>closedB x && allClosed r
structure XL where
 sz:Nat
 l:List DV
 rd:List Nat
 kill:List Nat
def xlistD (d:DV):XR (Option XL):=match d with
 | .sl sz l=>.ok (some ⟨sz,l,[],[]⟩)
 | .nils=>.ok none
 | _=>.no [36]
def xlist (κ:Nat→Box) (v:AV):XR (Option XL):=match v with
 | .dv d=>xlistD d
 | .own i ver ep p=>(xnode κ i ver ep p).bind fun t=>(xopt t.n.osl? 35).bind fun q=>match allClosed q.2 with
  | true=>.ok (some ⟨q.1,q.2,[i],[]⟩)
  | false=>xif (emp p) 34 (.ok (some ⟨q.1,q.2,[i],[i]⟩))
 | _=>.no [36]
def xfits (ti:TI) (n:Nat):Bool:=Nat.ble (n * ti.bytes) 140737488355328 && Nat.ble n 9223372036854775807
def isFull:AV→Bool
 | .ownf _ _=>true
 | _=>false
def xappNil (ti:TI) (nx:Nat) (x:Option XL):XR XV:=match x with
 | none=>xval nx (.dv .nils)
 | some q=>xif (Nat.beq q.sz ti.size && xfits ti q.l.length) 38 (.ok ⟨.own nx 0 0 [],(nx,.tree 0 0 (.osl q.sz q.l))::deadL q.kill,nx::q.rd,nx+1⟩)
def xappO (ti:TI) (nx i ver:Nat) (p:List PS) (t:XN) (sz:Nat) (l:List DV) (q:XL):XR XV:=xif (!memN i q.rd) 41 (match p with
 | []=>.ok ⟨.own i (ver+1) 0 [],(i,.tree (ver+1) 0 (.osl sz (l++q.l)))::deadL q.kill,i::q.rd,nx⟩
 | s::p=>(xsetN t.d (s::p) .any).bind fun d'=>.ok ⟨.own nx 1 0 [],(nx,.tree 1 0 (.osl sz (l++q.l)))::(i,.tree ver (t.ep+1) d')::deadL q.kill,nx::i::q.rd,nx+1⟩)
def xappE (nx i ver:Nat) (p:List PS) (t:XN) (sz:Nat) (l:List DV):XR XV:=match p with
 | []=>.ok ⟨.own i (ver+1) 0 [],[(i,.tree (ver+1) 0 (.osl sz l))],[i],nx⟩
 | s::p=>(xsetN t.d (s::p) .any).bind fun d'=>.ok ⟨.own nx 0 0 [],[(nx,.tree 0 0 (.osl sz l)),(i,.tree ver (t.ep+1) d')],[nx,i],nx+1⟩
def xappOwn (ti:TI) (nx:Nat) (full:Bool) (i ver:Nat) (p:List PS) (t:XN) (sz:Nat) (l:List DV) (x:Option XL):XR XV:=match x with
 | none=>xappE nx i ver p t sz l
 | some q=>xif (Nat.beq q.sz sz && xfits ti (l.length+q.l.length)) 40 (match full && ne q.l && !ne q.kill && allClosed l && allClosed q.l with
  | true=>.ok ⟨.own nx 0 0 [],[(nx,.tree 0 0 (.osl sz (l++q.l)))],nx::i::q.rd,nx+1⟩
  | false=>xappO ti nx i ver p t sz l q)
def isNils:DV→Bool
 | .nils=>true
 | _=>false
def xappend (ti te:TI) (nx:Nat) (κ:Nat→Box) (s x:AV):XR XV :=
 xif (ti.ok && ti.isSl && te.ok && Nat.blt 0 te.size) 37 ((xlist κ (dn x)).bind fun src=>match dn s with
  | .dv d=>xif (isNils d) 43 (xappNil te nx src)
  | .own i ver ep p=>(xnode κ i ver ep p).bind fun t=>(xopt t.n.osl? 42).bind fun q=>xif (Nat.beq q.1 te.size) 39 (xappOwn te nx (isFull s) i ver p t q.1 q.2 src)
  | _=>.no [43])
def xlenD (ti:TI) (d:DV):XR Nat:=match d with
 | .sl _ l=>xif (ti.ok && ti.isSl) 44 (.ok l.length)
 | .nils=>xif (ti.ok && ti.isSl) 44 (.ok 0)
 | .str s=>xif (ti.ok && ti.isStr) 44 (.ok s.size)
 | _=>.no [46]
def xlenN (ti:TI) (n:DV):XR Nat:=match n with
 | .osl _ l=>xif (ti.ok && ti.isSl) 44 (.ok l.length)
 | .omap _ m=>xif (ti.ok && Nat.beq ti.kind 6) 44 (.ok m.length)
 | _=>.no [45]
def xint (nx:Nat) (n:Nat) (rd:List Nat):XR XV:=.ok ⟨.dv (.int .i64 n),[],rd,nx⟩
def xlen (ti:TI) (nx:Nat) (κ:Nat→Box) (v:AV):XR XV:=match v with
 | .dv d=>(xlenD ti d).bind fun n=>xint nx n []
 | .own i ver ep p=>(xnode κ i ver ep p).bind fun t=>(xlenN ti t.n).bind fun n=>xint nx n [i]
 | .sle _ m=>xif (ti.ok && ti.isSl) 44 (xint nx m [])
 | _=>.no [46]
def xnilD (d:DV):XR Bool:=match d with
 | .nils=>.ok true
 | .sl _ l=>xif (ne l) 88 (.ok false)
 | _=>.no [88]
def xnil (ti:TI) (κ:Nat→Box) (v:AV):XR (Bool × List Nat):=xif (ti.ok && ti.isSl) 87 (match v with
 | .dv d=>(xnilD d).bind fun b=>.ok (b,[])
 | .own i ver ep p=>(xnode κ i ver ep p).bind fun t=>(xopt t.n.osl? 88).bind fun q=>xif (ne q.2) 88 (.ok (false,[i]))
 | .ownf _ _=>.ok (false,[])
 | .sle _ _=>.ok (false,[])
 | _=>.no [89])
def xnodeCells (i ver ep:Nat) (p:List PS) (sz idx:Nat) (nd:DV):XR (List AV):=match nd with
 | .osl sz' l=>xif (Nat.beq sz sz') 47 ((xopt (lget l idx) 48).bind fun x=>.ok (liftE i ver ep p idx 0 x.cells))
 | .optr x=>xif (Nat.beq idx 0) 49 (.ok (liftE i ver ep p 0 0 x.cells))
 | _=>.no [50]
def xoverC (x:DV) (off:Nat) (ds:List DV):XR DV:=match x with
 | .agg l=>xif (Nat.ble (off+ds.length) l.length) 51 (.ok (.agg (spliceD l off ds)))
 | _=>match off,ds with
  | 0,[d]=>.ok d
  | _,_=>.no [52]
def xoverN (sz idx off:Nat) (nd:DV) (ds:List DV):XR (List DV × DV):=match nd with
 | .osl sz' l=>xif (Nat.beq sz sz') 53 ((xopt (lget l idx) 54).bind fun x=>(xoverC x off ds).bind fun y=>.ok ((x.cells.drop off).take ds.length,.osl sz' (l.set idx y)))
 | .optr x=>xif (Nat.beq idx 0) 55 ((xoverC x off ds).bind fun y=>.ok ((x.cells.drop off).take ds.length,.optr y))
 | _=>.no [56]
def xstoreT (nx:Nat) (κ:Nat→Box) (i ver ep:Nat) (p:List PS) (sz idx off:Nat) (vs:List AV):XR XV :=
 (xnode κ i ver ep p).bind fun t=>(xopt (toTs κ vs) 58).bind fun q=>xif (!(memN i q.2 || !nodupN q.2)) 57 ((xoverN sz idx off t.n q.1).bind fun on=>(xsetN t.d p on.2).bind fun d' =>
  .ok ⟨.any,(i,.tree ver (bif anyOwn on.1 || anyOwn q.1 then t.ep+1 else t.ep) d')::deadL q.2,i::q.2,nx⟩)
def AV.i64? (v:AV):Option Int:=match v.int? with
 | some (.i64,n)=>some n
 | _=>none
def xI (ρ:Nat→AV) (κ:Nat→Box) (x:Option Operand):XR (Option Int):=match x with
 | none=>.ok none
 | some x=>(xex ρ κ x).bind fun v=>(xopt v.i64? 59).bind fun n=>.ok (some n)
def xbnd (lo hi:Option Int) (len:Nat):Bool:=inn (lo.getD 0) && ile (lo.getD 0) (hi.getD len) && ile (hi.getD len) len
def cutL (lo hi:Option Int) (l:List DV):List DV:=(l.take (hi.getD l.length).toNat).drop (lo.getD 0).toNat
def xsliceD (ti:TI) (esz nx:Nat) (d:DV) (lo hi:Option Int):XR XV:=match d with
 | .sl sz l=>xif (ti.isSl && Nat.beq sz esz && xbnd lo hi l.length) 60 (xval nx (.dv (.sl sz (cutL lo hi l))))
 | .str s=>xif (ti.isStr && xbnd lo hi s.size) 63 (xval nx (.dv (.str (s.extract (lo.getD 0).toNat (hi.getD s.size).toNat))))
 | _=>.no [64]
def xslice (ti:TI) (esz nx:Nat) (κ:Nat→Box) (v:AV) (lo hi:Option Int):XR XV:=match v with
 | .dv d=>xsliceD ti esz nx d lo hi
 | .own i ver ep p=>xif (emp p) 62 ((xnode κ i ver ep []).bind fun t=>(xopt t.n.osl? 62).bind fun q=>xif (ti.isSl && Nat.beq q.1 esz && xbnd lo hi q.2.length) 61 (
   .ok ⟨.own i (ver+1) 0 [],[(i,.tree (ver+1) 0 (.osl q.1 (cutL lo hi q.2)))],[i],nx⟩))
 | _=>.no [64]
def keyS (ti:TI):Option KS:=bif ti.ok && ti.ikd == some .i64 then some intK else bif ti.ok && ti.isStr then some strK else bif ti.ok && ti.pair then some pairK else none
def eqTag:KTag→KTag→Bool
 | .int k,.int k'=>k == k'
 | .bool,.bool=>true
 | .str,.str=>true
 | _,_=>false
def eqTags:List KTag→List KTag→Bool
 | [],[]=>true
 | a::l,b::r=>eqTag a b && eqTags l r
 | _,_=>false
def eqKS (a b:KS):Bool:=(a.agg == b.agg) && eqTags a.tags b.tags
def keyOk (ti:TI) (s:KS):Bool:=match keyS ti with
 | some s'=>eqKS s s'
 | none=>false
def unDvs:List AV→Option (List DV)
 | []=>some []
 | .dv d::r=>match unDvs r with
  | some l=>some (d::l)
  | none=>none
 | _=>none
def keyD:AV→Option DV
 | .dv d=>bif d.isAgg then none else some d
 | .agg l=>match unDvs l with
  | some ds=>some (.agg ds)
  | none=>none
 | _=>none
def xfound (te:TI) (i ver ep:Nat) (p:List PS) (key:DV) (c b:Bool) (x:DV) (nx:Nat):XR XV:=xif (x.isAgg == te.agg) 66 (
 .ok ⟨bif c then .tup [alookup.packA te.agg (liftK i ver ep p key 0 x.cells),.dv (.bool b)] else alookup.packA te.agg (liftK i ver ep p key 0 x.cells),[],[i],nx⟩)
def xlookup (tk te:TI) (nx:Nat) (κ:Nat→Box) (v kv:AV) (c:Bool):XR XV:=match v with
 | .own i ver ep p=>(xnode κ i ver ep p).bind fun t=>(xopt t.n.omap? 68).bind fun q=>(xopt (keyD kv) 68).bind fun key=>xif (keyOk tk q.1 && q.1.ok key) 65 (match mget q.2 key with
  | some x=>xfound te i ver t.ep p key c true x nx
  | none=>xfound te i ver t.ep p key c false te.zeroD nx)
 | _=>.no [69]
def isAggA:AV→Bool
 | .agg _=>true
 | _=>false
def wasClosed (m:List DV) (key:DV):Bool:=match mget m key with
 | some x=>closedB x
 | none=>true
def xmapUpd (tk:TI) (nx:Nat) (κ:Nat→Box) (v kv u:AV):XR XV:=match v with
 | .own i ver ep p=>(xnode κ i ver ep p).bind fun t=>(xopt t.n.omap? 74).bind fun q=>(xopt (keyD kv) 74).bind fun key=>xif (keyOk tk q.1 && q.1.ok key) 70 (
   (xopt (toTs κ (cellsOf u)) 73).bind fun w=>xif (!(memN i w.2 || !nodupN w.2 || !allCell (cellsOf u))) 71 (
    xif ((packD (isAggA u) w.1).isAgg == isAggA u && Nat.beq (packD (isAggA u) w.1).cells.length w.1.length) 72 (
     (xsetN t.d p (.omap q.1 (mput q.2 key (packD (isAggA u) w.1)))).bind fun d' =>
      .ok ⟨.any,(i,.tree ver (bif closedB (packD (isAggA u) w.1) && wasClosed q.2 key then t.ep else t.ep+1) d')::deadL w.2,i::w.2,nx⟩)))
 | _=>.no [75]
def cutD (agg:Bool) (sz:Nat):Nat→List DV→List DV
 | 0,_=>[]
 | k+1,l=>packD agg (l.take sz)::cutD agg sz k (l.drop sz)
end Go.TM
namespace Go.TM
open Go.RowKit
variable [Glob]
mutual
def AV.ids:AV→List Nat
 | .ptr i _=>[i]
 | .own i _ _ _=>[i]
 | .loc i _ _ _ _ _ _=>[i]
 | .fn _ l=>AV.idss l
 | .bfn _ l=>AV.idss l
 | .agg l=>AV.idss l
 | .tup l=>AV.idss l
 | .opt _ _=>[]
 | .yld i=>[i]
 | .sle i _=>[i]
 | .ownf i _=>[i]
 | .any=>[]
 | .dv _=>[]
def AV.idss:List AV→List Nat
 | []=>[]
 | v::l=>AV.ids v++AV.idss l
end
def Box.ids:Box→List Nat
 | .cells l=>AV.idss l
 | .rcd _ _ l=>AV.idss l
 | _=>[]
def Box.live:Box→Bool
 | .none=>false
 | .dead=>false
 | _=>true
def clos (κ:Nat→Box):Nat→List Nat→List Nat→List Nat
 | 0,_,acc=>acc
 | _+1,[],acc=>acc
 | f+1,i::r,acc=>bif memN i acc || !(κ i).live then clos κ f r acc else clos κ f ((κ i).ids++r) (acc++[i])
def posB:List Nat→Nat→Option Nat
 | [],_=>none
 | x::l,i=>bif Nat.beq x i then some 0 else match posB l i with
  | some j=>some (Nat.succ j)
  | none=>none
def Box.vis? (v e:Nat) (p:List PS):Box→Bool
 | .tree v' e' _=>Nat.beq v v' && (emp p || Nat.beq e e')
 | _=>false
def Box.fz? (v:Nat) (p:List PS):Box→Option DV
 | .fz v' d=>bif Nat.beq v v' && emp p then Option.some d else Option.none
 | _=>Option.none
def xnOwn (b:Box) (v e:Nat) (p:List PS) (j:Option Nat):AV:=match b.fz? v p with
 | some d=>.dv d
 | none=>match j with
  | some j=>bif b.vis? v e p then .own j 0 0 p else .any
  | none=>.any
def xnOwnf (b:Box) (v:Nat) (j:Option Nat):AV:=match b.fz? v [] with
 | some d=>.dv d
 | none=>match j with
  | some j=>bif b.vis? v 0 [] then .ownf j 0 else .any
  | none=>.any
def xnLoc (b:Box) (v e:Nat) (p:List PS) (x y z:Nat) (j:Option Nat):AV:=match j with
 | some j=>bif b.vis? v e p then .loc j 0 0 p x y z else .any
 | none=>.any
def xnPtr (o:Nat) (j:Option Nat):AV:=match j with
 | some j=>.ptr j o
 | none=>.any
def xnYld (j:Option Nat):AV:=match j with
 | some j=>.yld j
 | none=>.any
def xnSle (n:Nat) (j:Option Nat):AV:=match j with
 | some j=>.sle j n
 | none=>.any
mutual
def xn (κ:Nat→Box) (σ:List Nat):AV→AV
 | .any=>.any
 | .dv d=>.dv d
 | .ptr i o=>xnPtr o (posB σ i)
 | .own i v e p=>xnOwn (κ i) v e p (posB σ i)
 | .loc i v e p a b c=>xnLoc (κ i) v e p a b c (posB σ i)
 | .ownf i v=>xnOwnf (κ i) v (posB σ i)
 | .fn f l=>.fn f (xns κ σ l)
 | .bfn f l=>.bfn f (xns κ σ l)
 | .agg l=>.agg (xns κ σ l)
 | .tup l=>.tup (xns κ σ l)
 | .opt _ _=>.any
 | .yld i=>xnYld (posB σ i)
 | .sle i n=>xnSle n (posB σ i)
def xns (κ:Nat→Box) (σ:List Nat):List AV→List AV
 | []=>[]
 | v::l=>xn κ σ v::xns κ σ l
end
def xnB (κ:Nat→Box) (σ:List Nat):Box→Box
 | .cells l=>.cells (xns κ σ l)
 | .tree _ _ d=>.tree 0 0 d
 | .rcd rc st l=>.rcd rc st (xns κ σ l)
 | .held=>.dead
 | .itr _ _ _ _ _=>.dead
 | .fz _ d=>.fz 0 d
 | .dead=>.dead
 | .none=>.none
def xnK (κ:Nat→Box) (σ:List Nat):Nat→List Nat→Boxes
 | _,[]=>[]
 | j,i::r=>(j,xnB κ σ (κ i))::xnK κ σ (Nat.succ j) r
abbrev XOut:=List AV × Boxes × Nat
abbrev Callee:=List AV→Nat→Boxes→XR XOut
def xcallD (nx:Nat) (κ:Nat→Box) (l:List AV) (σ:List Nat) (args0:List AV) (K0:Boxes) (r:XOut):XR XV :=
 xif (outKChk σ r.2.2 K0 r.2.1 r.1) 81 (.ok ⟨ren (sg σ nx) (shs κ σ) (resC r.1),
  renK (sg σ nx) (shs κ σ) r.2.1++frz κ (fidws κ (rens (sg σ nx) zsh args0) l++fidsB κ (renK (sg σ nx) zsh K0)),
  σ++(fidws κ (rens (sg σ nx) zsh args0) l++fidsB κ (renK (sg σ nx) zsh K0))++upFrom nx r.2.2,nx+r.2.2⟩)
def xcallC (hd:Option Nat) (X:Callee) (nx:Nat) (κ:Nat→Box) (l:List AV) (σ:List Nat) (args0:List AV) (K0:Boxes):XR XV :=
 xif (callChk κ σ nx l args0 K0 && hdOk hd σ && neK (lookB K0) σ.length) 80 ((X args0 σ.length K0).bind fun r=>xcallD nx κ l σ args0 K0 r)
def xcallB (hd:Option Nat) (X:Callee) (nx:Nat) (κ:Nat→Box) (l:List AV) (σ:List Nat):XR XV:=xcallC hd X nx κ l σ (xns κ σ l) (xnK κ σ 0 σ)
def hdL:Option Nat→List Nat
 | some i=>[i]
 | none=>[]
def xcall (fuel:Nat) (hd:Option Nat) (X:Callee) (nx:Nat) (κ:Nat→Box) (l:List AV):XR XV:=xcallB hd X nx κ l (clos κ fuel (hdL hd++AV.idss l) [])
def nB (m:Nat) (κ:Nat→Box) (i:Nat):Box→Box
 | .cells l=>.cells (nrms m κ l)
 | .tree V E d=>.tree (nfv m i V E).1 (nfv m i V E).2 d
 | .fz V d=>.fz (nfv m i V 0).1 d
 | .rcd rc st l=>.rcd rc st (nrms m κ l)
 | .held=>.dead
 | .itr _ _ _ _ _=>.dead
 | .dead=>.dead
 | .none=>.none
def nK (m:Nat) (κ:Nat→Box):List Nat→Boxes
 | []=>[]
 | i::r=>(i,nB m κ i (κ i))::nK m κ r
def maxK:Boxes→Nat
 | []=>0
 | p::r=>Nat.max (Nat.succ p.1) (maxK r)
def xoutC (m:Nat) (κ:Nat→Box) (avs rs:List AV) (K':Boxes):XR XOut:=xif (outChk m (Nat.sub (maxK K') m) κ avs rs K') 82 (.ok (rs,K',Nat.sub (maxK K') m))
def xout (fuel m:Nat) (κ:Nat→Box) (avs:List AV):XR XOut:=xoutC m κ avs (nrms m κ avs) (nK m κ (clos κ fuel (upFrom 0 m++AV.idss (nrms m κ avs)) []))
def xload (t:TI) (nx:Nat) (κ:Nat→Box) (v:AV):XR XV:=xif t.ok 120 (match v with
 | .ptr i off=>match κ i with
  | .cells l=>(xpick t.agg l off t.size).bind fun v=>.ok ⟨v,[],[i],nx⟩
  | _=>.no [121]
 | .dv d=>match d with
  | .at x off=>(xpick t.agg (dvs x.cells) off t.size).bind fun v=>xval nx v
  | _=>.no [122]
 | .loc i ver ep p sz idx off=>(xnode κ i ver ep p).bind fun n=>(xnodeCells i ver n.ep p sz idx n.n).bind fun l=>(xpick t.agg l off t.size).bind fun v=>.ok ⟨v,[],[i],nx⟩
 | _=>.no [122])
def xres (T:List TI) (ρ:Nat→AV) (κ:Nat→Box):List ResultVar→XR (List AV)
 | []=>.ok []
 | .tmp t::r=>(xres T ρ κ r).bind fun l=>.ok (res κ (ρ t)::l)
 | .cell t ty::r=>xif (nth T ty).ok 83 (match res κ (ρ t) with
  | .ptr i off=>match κ i with
   | .cells l=>(xpick (nth T ty).agg l off (nth T ty).size).bind fun v=>(xres T ρ κ r).bind fun l=>.ok (v::l)
   | _=>.no [84]
  | _=>.no [85])
def xnilChk (nx:Nat) (κ:Nat→Box) (v:AV):XR XV:=match v with
 | .ptr i off=>xval nx (.ptr i off)
 | .loc i ver ep p sz idx off=>xval nx (.loc i ver ep p sz idx off)
 | .dv d=>match d with
  | .at x off=>xval nx (.dv (.at x off))
  | _=>.no [102]
 | .own i ver ep p=>(xnode κ i ver ep p).bind fun t=>(xopt t.n.optr? 101).bind fun _=>.ok ⟨.loc i ver ep p 1 0 0,[],[i],nx⟩
 | _=>.no [102]
def xpickB (ρ:Nat→AV) (κ:Nat→Box) (nx:Nat) (c x y:Operand):XR XV:=(xex ρ κ c).bind fun c=>(xopt c.bool? 104).bind fun b=>(bif b then xex ρ κ x else xex ρ κ y).bind fun v=>(xopt v.bool? 103).bind fun p=>xval nx (.dv (.bool p))
def xcmpNil (op:BinOp) (nx:Nat) (r:Bool × List Nat):XR XV:=match op with
 | .eql=>.ok ⟨.dv (.bool r.1),[],r.2,nx⟩
 | .neq=>.ok ⟨.dv (.bool (!r.1)),[],r.2,nx⟩
 | _=>.no [100]
def xeqA (ti:TI) (op:BinOp) (a b:AV):XR AV:=xif (ti.ok && Nat.beq ti.kind 9) 165 (match a with
 | .agg l=>xif (ne l) 165 (match b with
  | .agg r=>(xopt (eqCells ti.eqk l r) 166).bind fun e=>xbinP op e
  | _=>.no [166])
 | _=>.no [166])
def xbinO (ti:TI) (op:BinOp) (nx:Nat) (κ:Nat→Box) (a b:AV):XR XV:=match b.isNils with
 | true=>(xnil ti κ a).bind fun r=>xcmpNil op nx r
 | false=>(match a.ag with
  | true=>xeqA ti op a b
  | false=>xbin ti op a b).bind fun v=>xval nx v
def xun (op:UnOp) (nx:Nat) (v:AV):XR XV:=match op with
 | .not=>(xopt v.bool? 105).bind fun b=>xval nx (.dv (.bool (!b)))
 | .neg=>(xopt v.int? 105).bind fun k=>(xarith k.1 (0 - k.2)).bind fun v=>xval nx v
 | _=>.no [105]
def AV.tup?:AV→Option (List AV)
 | .tup l=>some l
 | _=>none
def AV.agg?:AV→Option (List AV)
 | .agg l=>some l
 | _=>none
def xfield (T:List TI) (t f nx:Nat) (v:AV):XR XV:=match (nth T t).ok,(nth T t).fields[f]?,(nth T t).ftys[f]? with
 | true,some (off,sz+1),some ft=>(xopt v.agg? 109).bind fun l=>xif ((nth T ft).ok && Nat.beq (nth T ft).size (sz+1)) 108 ((xpick (nth T ft).agg l off (sz+1)).bind fun v=>xval nx v)
 | _,_,_=>.no [110]
def xaddr (nx off:Nat) (v:AV):XR XV:=match v with
 | .ptr i o'=>xval nx (.ptr i (o'+off))
 | .dv d=>match d with
  | .at x o'=>xval nx (.dv (.at x (o'+off)))
  | _=>.no [111]
 | .loc i ver ep p sz' idx o'=>xval nx (.loc i ver ep p sz' idx (o'+off))
 | _=>.no [111]
def xfieldAddr (ti:TI) (f nx:Nat) (v:AV):XR XV:=match ti.ok,ti.fields[f]? with
 | true,some (off,_+1)=>xaddr nx off v
 | _,_=>.no [112]
def xindexP (nx off:Nat) (v:AV):XR XV:=match v with
 | .dv d=>(match d with
  | .at y o=>xval nx (.dv (.at y (o+off)))
  | _=>.no [119])
 | .ptr j o=>xval nx (.ptr j (o+off))
 | .loc j ver ep p sz idx o=>xval nx (.loc j ver ep p sz idx (o+off))
 | _=>.no [119]
def xindexA (ti te:TI) (nx:Nat) (v iv:AV):XR XV:=xif (ti.ok && Nat.beq ti.kind 10 && te.ok) 113 ((xopt iv.int? 119).bind fun k=>xif (inn k.2 && ilt k.2 ti.len) 114 (xindexP nx (k.2.toNat * te.size) v))
def xindexS (ti te:TI) (nx:Nat) (κ:Nat→Box) (v iv:AV):XR XV:=xif (ti.ok && ti.isSl && te.ok) 113 ((xopt iv.int? 119).bind fun k=>match dn v with
 | .dv d=>match d with
  | .sl sz l=>xif (Nat.beq sz te.size && inn k.2) 114 ((xopt (lget l k.2.toNat) 115).bind fun x=>xval nx (.dv (.at x 0)))
  | _=>.no [119]
 | .own j ver ep p=>(xnode κ j ver ep p).bind fun t=>(xopt t.n.osl? 117).bind fun q=>xif (Nat.beq q.1 te.size && inn k.2 && ilt k.2 q.2.length) 116 (.ok ⟨.loc j ver ep p q.1 k.2.toNat 0,[],[j],nx⟩)
 | .sle j len=>xif (inn k.2 && ilt k.2 len) 118 (xval nx (.ptr j (k.2.toNat * te.size)))
 | _=>.no [119])
def xindex (ti te:TI) (nx:Nat) (κ:Nat→Box) (v iv:AV):XR XV:=match ti.isSl with
 | true=>xindexS ti te nx κ v iv
 | false=>xindexA ti te nx v iv
def xindexB (ti:TI) (nx:Nat) (v iv:AV):XR XV:=xif (ti.ok && ti.isStr) 160 ((xopt v.str? 160).bind fun s=>(xopt iv.int? 160).bind fun k=>xif (inn k.2) 160 ((xopt (lget s.data.toList k.2.toNat) 161).bind fun b=>xval nx (.dv (.int .u8 (b.toNat:Nat)))))
def xconv (ti:TI) (nx:Nat) (v:AV):XR XV:=(xopt v.int? 162).bind fun k=>(xopt ti.ikd 162).bind fun kd=>xval nx (.dv (.int kd (kd.wrap k.2)))
def xstore (t:TI) (nx:Nat) (κ:Nat→Box) (p v:AV):XR XV:=xif (t.ok && (Nat.beq (cellsOf v).length t.size && allCell (cellsOf v))) 124 (match p with
 | .ptr i off=>match κ i with
  | .cells l=>xif (Nat.ble (off+t.size) l.length) 125 (.ok ⟨.any,[(i,.cells (splice l off (cellsOf v)))],[i],nx⟩)
  | _=>.no [126]
 | .loc i ver ep p sz idx off=>xstoreT nx κ i ver ep p sz idx off (cellsOf v)
 | _=>.no [127])
def xmakeFunc (nx:Nat) (fn:Fn) (l r:List AV):XR XV:=match fn with
 | .func f=>match l with
  | []=>xval nx (.fn f r)
  | v::l=>xif (!ne r) 128 (xval nx (.bfn f (v::l)))
 | _=>.no [128]
def xmakeMap (T:List TI) (t nx:Nat):XR XV:=xif ((nth T t).ok && Nat.beq (nth T t).kind 6) 129 ((xopt (keyS (nth T (nth T t).key)) 130).bind fun s=>.ok ⟨.own nx 0 0 [],[(nx,.tree 0 0 (.omap s []))],[nx],nx+1⟩)
def xbuild (ti:TI) (nx:Nat) (l:List (Nat × AV)):XR XV:=xif (ti.ok && Nat.beq ti.kind 9) 135 ((xopt (fillA (fun i=>ti.fields[i]?) (dvs ti.zero) l) 136).bind fun cs=>xval nx (.agg cs))
def cellAll:List DV→Bool
 | []=>true
 | d::r=>d.isCell && cellAll r
def xsliceOf (te:TI) (len nx:Nat) (κ:Nat→Box) (closed:Bool) (cs:List AV):XR XV:=xif (allCell cs) 138 (match closed with
 | true=>(xopt (toDs κ cs) 158).bind fun q=>xif (Nat.beq q.1.length (len * te.size) && cellAll q.1) 157 (.ok ⟨.dv (.sl te.size (cutD te.agg te.size len q.1)),frz κ q.2,q.2,nx⟩)
 | false=>match toTs κ cs with
  | some q=>xif (nodupN q.2 && Nat.beq q.1.length (len * te.size) && cellAll q.1) 139 (.ok ⟨.own nx 0 0 [],(nx,.tree 0 0 (.osl te.size (cutD te.agg te.size len q.1)))::deadL q.2,nx::q.2,nx+1⟩)
  | none=>.ok ⟨.sle nx len,[(nx,.cells cs)],[nx],nx+1⟩)
def xbuildSlice (ti te:TI) (closed:Bool) (len nx:Nat) (κ:Nat→Box) (l:List (Nat × AV)):XR XV:=xif (ti.ok && ti.isSl && te.ok && Nat.blt 0 te.size && Nat.blt (len * te.size) 16777216 && (te.agg || Nat.beq te.size 1)) 137 (
 (xopt (fillA (fun i=>some (i * te.size,te.size)) ((List.replicate len (dvs te.zero)).flatten) l) 140).bind fun cs=>xsliceOf te len nx κ closed cs)
def xmakeSlice (ti te:TI) (nx:Nat) (lv cv:AV):XR XV:=xif (ti.ok && ti.isSl && te.ok && Nat.blt 0 te.size && Nat.beq te.zeroD.cells.length te.zero.length) 141 ((xopt lv.i64? 143).bind fun a=>(xopt cv.i64? 143).bind fun b =>
 xif (inn a && ile a b && ile (b * te.bytes) 140737488355328 && ile b 9223372036854775807) 142 (
  .ok ⟨bif ieq a b then .ownf nx 0 else .own nx 0 0 [],[(nx,.tree 0 0 (.osl te.size (List.replicate a.toNat te.zeroD)))],[nx],nx+1⟩))
def xmin (nx:Nat) (a b:AV):XR XV:=(xopt a.i64? 148).bind fun a=>(xopt b.i64? 148).bind fun b=>xval nx (.dv (.int .i64 (bif ilt b a then b else a)))
def xmax (nx:Nat) (a b:AV):XR XV:=(xopt a.i64? 150).bind fun a=>(xopt b.i64? 150).bind fun b=>xval nx (.dv (.int .i64 (bif ilt a b then b else a)))
mutual
def eqD:DV→DV→Bool
 | .any=>fun d=>match d with
  | .any=>true
  | _=>false
 | .anyb=>fun d=>match d with
  | .anyb=>true
  | _=>false
 | .ivl k lo hi=>fun d=>match d with
  | .ivl k' lo' hi'=>(k == k') && (ieq lo lo' && ieq hi hi')
  | _=>false
 | .int k m=>fun d=>match d with
  | .int k' m'=>(k == k') && ieq m m'
  | _=>false
 | .bool b=>fun d=>match d with
  | .bool b'=>b == b'
  | _=>false
 | .str s=>fun d=>match d with
  | .str s'=>decide (s=s')
  | _=>false
 | .nilp=>fun d=>match d with
  | .nilp=>true
  | _=>false
 | .nilf=>fun d=>match d with
  | .nilf=>true
  | _=>false
 | .nilm=>fun d=>match d with
  | .nilm=>true
  | _=>false
 | .nili=>fun d=>match d with
  | .nili=>true
  | _=>false
 | .nils=>fun d=>match d with
  | .nils=>true
  | _=>false
 | .fn f l=>fun d=>match d with
  | .fn f' l'=>Nat.beq f f' && eqDs l l'
  | _=>false
 | .sl z l=>fun d=>match d with
  | .sl z' l'=>Nat.beq z z' && eqDs l l'
  | _=>false
 | .at x o=>fun d=>match d with
  | .at x' o'=>eqD x x' && Nat.beq o o'
  | _=>false
 | .agg l=>fun d=>match d with
  | .agg l'=>eqDs l l'
  | _=>false
 | .osl z l=>fun d=>match d with
  | .osl z' l'=>Nat.beq z z' && eqDs l l'
  | _=>false
 | .optr x=>fun d=>match d with
  | .optr x'=>eqD x x'
  | _=>false
 | .omap s l=>fun d=>match d with
  | .omap s' l'=>eqKS s s' && eqDs l l'
  | _=>false
 | .ent a b=>fun d=>match d with
  | .ent a' b'=>eqD a a' && eqD b b'
  | _=>false
termination_by structural t=>t
def eqDs:List DV→List DV→Bool
 | []=>fun l=>match l with
  | []=>true
  | _=>false
 | a::r=>fun l=>match l with
  | b::r'=>eqD a b && eqDs r r'
  | []=>false
termination_by structural t=>t
end
def eqPS:PS→PS→Bool
 | .el i j=>fun p=>match p with
  | .el i' j'=>Nat.beq i i' && Nat.beq j j'
  | _=>false
 | .key k j=>fun p=>match p with
  | .key k' j'=>eqD k k' && Nat.beq j j'
  | _=>false
def eqPath:List PS→List PS→Bool
 | [],[]=>true
 | a::l,b::r=>eqPS a b && eqPath l r
 | _,_=>false
mutual
def eqA:AV→AV→Bool
 | .any=>fun v=>match v with
  | .any=>true
  | _=>false
 | .dv d=>fun v=>match v with
  | .dv d'=>eqD d d'
  | _=>false
 | .ptr i o=>fun v=>match v with
  | .ptr i' o'=>Nat.beq i i' && Nat.beq o o'
  | _=>false
 | .own i a b p=>fun v=>match v with
  | .own i' a' b' p'=>Nat.beq i i' && Nat.beq a a' && Nat.beq b b' && eqPath p p'
  | _=>false
 | .fn f l=>fun v=>match v with
  | .fn f' l'=>Nat.beq f f' && eqAs l l'
  | _=>false
 | .bfn f l=>fun v=>match v with
  | .bfn f' l'=>Nat.beq f f' && eqAs l l'
  | _=>false
 | .agg l=>fun v=>match v with
  | .agg l'=>eqAs l l'
  | _=>false
 | .tup l=>fun v=>match v with
  | .tup l'=>eqAs l l'
  | _=>false
 | .yld i=>fun v=>match v with
  | .yld i'=>Nat.beq i i'
  | _=>false
 | .sle i m=>fun v=>match v with
  | .sle i' m'=>Nat.beq i i' && Nat.beq m m'
  | _=>false
 | .ownf i m=>fun v=>match v with
  | .ownf i' m'=>Nat.beq i i' && Nat.beq m m'
  | _=>false
 | .loc _ _ _ _ _ _ _=>fun _=>false
 | .opt _ _=>fun _=>false
termination_by structural t=>t
def eqAs:List AV→List AV→Bool
 | []=>fun l=>match l with
  | []=>true
  | _=>false
 | a::r=>fun l=>match l with
  | b::r'=>eqA a b && eqAs r r'
  | []=>false
termination_by structural t=>t
end
def eqBox:Box→Box→Bool
 | .cells l=>fun b=>match b with
  | .cells l'=>eqAs l l'
  | _=>false
 | .tree v e d=>fun b=>match b with
  | .tree v' e' d'=>Nat.beq v v' && Nat.beq e e' && eqD d d'
  | _=>false
 | .fz v d=>fun b=>match b with
  | .fz v' d'=>Nat.beq v v' && eqD d d'
  | _=>false
 | _=>fun _=>false
def filt (κ:Nat→Box) (rd:List Nat):List (Nat × Box)→List (Nat × Box)
 | []=>[]
 | p::r=>bif memN p.1 rd && !memN p.1 (keysB r) && eqBox p.2 (κ p.1) then filt κ rd r else p::filt κ rd r
def xfilt (drawn:Bool) (κ:Nat→Box) (e:EN):EN:=bif drawn then (⟨e.1.dst,filt κ e.1.reads e.1.box,e.1.reads⟩,e.2) else e
structure XC where
 drawn:Bool
 fuel:Nat
 X:Nat→Callee
 Y:Callee
def xcallV (c:XC) (nx:Nat) (κ:Nat→Box) (v:AV) (l:List AV):XR XV:=match v with
 | .fn f caps=>xcall c.fuel none (c.X f) nx κ (l++caps)
 | .bfn f first=>xcall c.fuel none (c.X f) nx κ (first++l)
 | .dv d=>match d with
  | .fn f caps=>xcall c.fuel none (c.X f) nx κ (l++dvs caps)
  | _=>.no [152]
 | .yld i=>xcall c.fuel (some i) c.Y nx κ l
 | _=>.no [152]
def xbuiltin (T:List TI) (nx:Nat) (ρ:Nat→AV) (κ:Nat→Box) (b:Builtin) (args:List Operand) (tys:List Nat):XR XV:=match b with
 | .len=>match args,tys with
  | [x],[t]=>(xex ρ κ x).bind fun v=>xlen (nth T t) nx κ (dn v)
  | _,_=>.no [145]
 | .append=>match args,tys with
  | [s,x],[t,t']=>xif (Nat.beq t t') 146 ((xex ρ κ s).bind fun sv=>(xex ρ κ x).bind fun xv=>xappend (nth T t) (nth T (nth T t).elem) nx κ sv xv)
  | _,_=>.no [147]
 | .min=>match args with
  | [x,y]=>(xex ρ κ x).bind fun a=>(xex ρ κ y).bind fun b=>xmin nx a b
  | _=>.no [149]
 | .max=>match args with
  | [x,y]=>(xex ρ κ x).bind fun a=>(xex ρ κ y).bind fun b=>xmax nx a b
  | _=>.no [151]
 | _=>.no [153]
def xcallO (T:List TI) (c:XC) (nx:Nat) (ρ:Nat→AV) (κ:Nat→Box) (k:Call):XR XV:=match k.callee with
 | .builtin b=>xbuiltin T nx ρ κ b k.args.toList k.argTypes.toList
 | .value x=>match x with
  | .func f=>(xexs ρ κ k.args.toList).bind fun l=>xcall c.fuel none (c.X f) nx κ l
  | .tmp t=>(xex ρ κ (.tmp t)).bind fun v=>(xexs ρ κ k.args.toList).bind fun l=>xcallV c nx κ v l
  | _=>.no [153]
 | _=>.no [153]
def xop (T:List TI) (pol:Nat→Bool) (c:XC) (nx:Nat) (ρ:Nat→AV) (κ:Nat→Box) (op:Op):XR XV:=match op with
 | .move x=>(xex ρ κ x).bind fun v=>xval nx v
 | .assign x=>(xex ρ κ x).bind fun v=>xval nx v
 | .nilCheck x=>(xex ρ κ x).bind fun v=>xnilChk nx κ v
 | .pick b x y=>xpickB ρ κ nx b x y
 | .binOp op t x y _=>(xex ρ κ x).bind fun a=>(xex ρ κ y).bind fun b=>xbinO (nth T t) op nx κ a b
 | .unOp op _ x=>(xex ρ κ x).bind fun v=>xun op nx v
 | .extract x i=>(xex ρ κ x).bind fun v=>(xopt v.tup? 107).bind fun l=>(xopt (lget l i) 106).bind fun v=>xval nx v
 | .field t x f=>(xex ρ κ x).bind fun v=>xfield T t f nx v
 | .fieldAddr t x f=>(xex ρ κ x).bind fun v=>xfieldAddr (nth T t) f nx v
 | .indexAddr t x i=>(xex ρ κ x).bind fun v=>(xex ρ κ i).bind fun iv=>xindex (nth T t) (nth T (nth T t).elem) nx κ v iv
 | .load t x=>(xex ρ κ x).bind fun v=>xload (nth T t) nx κ v
 | .store t x y=>(xex ρ κ x).bind fun p=>(xex ρ κ y).bind fun v=>xstore (nth T t) nx κ p v
 | .makeFunc fn first caps=>(xexs ρ κ first.toList).bind fun l=>(xexs ρ κ caps.toList).bind fun r=>xmakeFunc nx fn l r
 | .makeMap t none=>xmakeMap T t nx
 | .makeMap t (some x)=>(xex ρ κ x).bind fun v=>(xopt v.int? 163).bind fun _=>xmakeMap T t nx
 | .index t x i=>(xex ρ κ x).bind fun v=>(xex ρ κ i).bind fun iv=>xindexB (nth T t) nx v iv
 | .convert s t x=>(xex ρ κ x).bind fun v=>xif ((nth T s).ok && (nth T t).ok) 162 (xconv (nth T t) nx v)
 | .lookup t x i c=>(xex ρ κ x).bind fun v=>(xex ρ κ i).bind fun kv=>xif ((nth T t).ok && Nat.beq (nth T t).kind 6 && (nth T (nth T t).elem).ok) 131 (xlookup (nth T (nth T t).key) (nth T (nth T t).elem) nx κ v kv c)
 | .mapUpdate t x i y=>(xex ρ κ x).bind fun v=>(xex ρ κ i).bind fun kv=>(xex ρ κ y).bind fun u=>xif ((nth T t).ok && Nat.beq (nth T t).kind 6) 132 (xmapUpd (nth T (nth T t).key) nx κ v kv u)
 | .alloc t=>xif (nth T t).ok 133 (.ok ⟨.ptr nx 0,[(nx,.cells (dvs (nth T t).zero))],[nx],nx+1⟩)
 | .box _ x=>(xex ρ κ x).bind fun v=>xif (allCell (cellsOf v)) 134 (.ok ⟨.ptr nx 0,[(nx,.cells (cellsOf v))],[nx],nx+1⟩)
 | .build t parts=>(xparts ρ κ parts.toList).bind fun l=>xbuild (nth T t) nx l
 | .buildSlice t len parts=>(xparts ρ κ parts.toList).bind fun l=>xbuildSlice (nth T t) (nth T (nth T t).elem) (pol t) len nx κ l
 | .makeSlice t l c=>(xex ρ κ l).bind fun lv=>(xex ρ κ c).bind fun cv=>xmakeSlice (nth T t) (nth T (nth T t).elem) nx lv cv
 | .slice t x l h none=>(xex ρ κ x).bind fun v=>(xI ρ κ l).bind fun lo=>(xI ρ κ h).bind fun hi=>xif ((nth T t).ok && ((nth T t).isSl && (nth T (nth T t).elem).ok || (nth T t).isStr)) 144 (xslice (nth T t) (nth T (nth T t).elem).size nx κ (dn v) lo hi)
 | .call k=>xcallO T c nx ρ κ k
 | _=>.no [154]
def optE:List (Nat × AV)→List (Nat × AV)
 | []=>[]
 | p::r=>(p.1,.opt true p.2)::optE r
def xskip (n nx:Nat) (dst:Option Nat):XR EN:=match dst with
 | none=>.ok (⟨[],[],[]⟩,nx)
 | some d=>xif (Nat.blt d n) 155 (.ok (⟨[(d,.opt false (.dv (.bool false)))],[],[]⟩,nx))
def xwant (T:List TI) (pol:Nat→Bool) (c:XC) (n:Nat) (o:Oper) (nx:Nat) (ρ:Nat→AV) (κ:Nat→Box):XR EN:=(xop T pol c nx ρ κ o.op).bind fun r=>(xret n o.dst r).bind fun e=>.ok (xfilt c.drawn κ e)
def xguard (T:List TI) (pol:Nat→Bool) (c:XC) (n:Nat) (o:Oper) (nx:Nat) (ρ:Nat→AV) (κ:Nat→Box) (g:Option Bool):XR EN:=match g with
 | some true=>(xwant T pol c n o nx ρ κ).bind fun r=>.ok (⟨optE r.1.dst,r.1.box,r.1.reads⟩,r.2)
 | some false=>xskip n nx o.dst
 | none=>.no [156]
def xstep (T:List TI) (pol:Nat→Bool) (c:XC) (ops:List Oper) (n:Nat) (o:Oper) (nx:Nat) (ρ:Nat→AV) (κ:Nat→Box):XR EN :=
 match o.guard with
 | none=>xwant T pol c n o nx ρ κ
 | some g=>xguard T pol c n o nx ρ κ (gval ρ ops (some g))
structure XS where
 nx:Nat
 ρ:Nat→AV
 κ:Nat→Box
abbrev Stepper:=Oper→Nat→(Nat→AV)→(Nat→Box)→XR EN
def xput (s:XS) (e:EN):XS:=⟨e.2,upsC s.ρ e.1.dst,upsC s.κ e.1.box⟩
def xrun (S:Stepper):List Oper→XS→XR XS
 | [],s=>.ok s
 | o::r,s=>(S o s.nx s.ρ s.κ).bind fun e=>xrun S r (xput s e)
def xdraw (S:Stepper):List Oper→XS→List Rec→XR (XS × List Rec)
 | [],s,acc=>.ok (s,acc)
 | o::r,s,acc=>(S o s.nx s.ρ s.κ).bind fun e=>xdraw S r (xput s e) (acc++[⟨ridk s.ρ s.κ o,e.1⟩])
abbrev Coder:=Bool→Nat→Code→XS→XR (AX × XS)
def xenter (m:Nat) (env:Env) (K:Boxes):XS:=⟨m,upsC (fun _=>.any) env,upsC (fun _=>.none) K⟩
def xleave (T:List TI) (f m:Nat) (fn:Func) (q:AX × XS):XR XOut:=match q.1 with
 | .exit _=>.no [171]
 | _=>(xres T q.2.ρ q.2.κ fn.results.toList).bind fun avs=>xout f m q.2.κ avs
def xtag {α:Type} (g:Nat) (x:XR α):XR α:=match x with
 | .ok a=>.ok a
 | .no w=>.no ((1000+g)::w)
def xbody (T:List TI) (go:Coder) (f g:Nat) (fn:Func) (c:Code) (args:List AV) (m:Nat) (K:Boxes):XR XOut :=
 xif (Nat.ble args.length fn.ntmps && AState.wf ⟨m,entryA 0 args,K⟩) 170 (xtag g ((go true fn.ntmps c (xenter m (entryA 0 args) K)).bind fun q=>xleave T f m fn q))
def xfunc (P:Program) (T:List TI) (go:Coder) (f g:Nat) (args:List AV) (m:Nat) (K:Boxes):XR XOut :=
 (xopt P.funcs[g]? 173).bind fun fn=>(xopt fn.body 172).bind fun c=>xbody T go f g fn c args m K
def xround2 (f m:Nat) (q:AX × XS) (b:Box):XR XOut:=match b with
 | .rcd rc .busy l=>xout f m (upC q.2.κ 0 (.rcd rc (finSt q.1) l)) [.dv (.bool (isN q.1))]
 | _=>.no [167]
def xround1 (go:Coder) (f m n:Nat) (bd:Code) (s:XS) (b:Box):XR XOut:=match b with
 | .rcd rc .ready l=>(go false n bd ⟨s.nx,s.ρ,upC s.κ 0 (.rcd rc .busy l)⟩).bind fun q=>xround2 f m q (q.2.κ 0)
 | _=>.no [168]
def xround (go:Coder) (f m:Nat) (rc:RC) (l args:List AV) (K:Boxes):XR XOut :=
 xif (Nat.beq args.length rc.ps.size && ltAll l.length rc.ps.toList && Nat.blt 0 m && keysLt m K) 166 ((go false l.length rc.as (xenter m (parE rc.ps.toList args (envL 0 l)) K)).bind fun q=>match q.1 with
  | .normal=>xround1 go f m l.length rc.bd q.2 (q.2.κ 0)
  | _=>.no [168])
def xyield (go:Coder) (f:Nat) (args:List AV) (m:Nat) (K:Boxes):XR XOut:=match lookB K 0 with
 | .rcd rc .ready l=>xround go f m rc l args K
 | _=>.no [169]
def xconf (P:Program) (T:List TI) (go:Coder) (f:Nat) (drawn:Bool):XC:=⟨drawn,f,xfunc P T go f,xyield go f⟩
def xregion (P:Program) (T:List TI) (pol:Nat→Bool) (go:Coder) (f n:Nat) (ops:List Oper) (s:XS):XR (AX × XS):=(xrun (xstep T pol (xconf P T go f false) ops n) ops s).bind fun s=>.ok (.normal,s)
def xregionD (P:Program) (T:List TI) (pol:Nat→Bool) (go:Coder) (f n:Nat) (ops:List Oper) (s:XS):XR (AX × XS):=(xdraw (xstep T pol (xconf P T go f true) ops n) ops s []).bind fun q=>xif (indepB ops q.2) 160 (.ok (.normal,q.1))
def xseq (go:Coder) (r:Bool) (n:Nat) (b:Code) (q:AX × XS):XR (AX × XS):=match q.1 with
 | .normal=>go r n b q.2
 | e=>.ok (e,q.2)
def xloop (go:Coder) (r:Bool) (n:Nat) (c:Code):Nat→XS→XR (AX × XS)
 | 0,_=>.no [174]
 | k+1,s=>(go r n c s).bind fun q=>match q.1 with
  | .normal=>xloop go r n c k q.2
  | e=>.ok (e,q.2)
def xblock (id:Nat) (q:AX × XS):XR (AX × XS):=match q.1 with
 | .exit i=>bif Nat.beq i id then .ok (.normal,q.2) else .ok (.exit i,q.2)
 | e=>.ok (e,q.2)
def xrangeEnd (nx ex:Nat) (ρ:Nat→AV) (κ:Nat→Box) (b:Box):XR (AX × XS):=match b with
 | .rcd _ st _=>match st with
  | .ready=>.ok (.normal,⟨ex,ρ,upC κ nx .dead⟩)
  | .done e=>.ok (e,⟨ex,ρ,upC κ nx .dead⟩)
  | .busy=>.no [163]
 | _=>.no [163]
def xrangeG (nx:Nat) (ρ:Nat→AV) (κ:Nat→Box) (q:XV):XR (AX × XS):=xrangeEnd nx q.nx ρ (upsC κ q.bx) (upsC κ q.bx nx)
def xrangeF (P:Program) (T:List TI) (go:Coder) (f nx:Nat) (ρ:Nat→AV) (κ:Nat→Box) (g:Nat) (caps:List AV):XR (AX × XS) :=
 (xcall f none (xfunc P T go f g) (Nat.succ nx) κ (.yld nx::caps)).bind fun q=>xrangeG nx ρ κ q
def xrangeV (P:Program) (T:List TI) (go:Coder) (f nx:Nat) (ρ:Nat→AV) (κ:Nat→Box) (x:AV):XR (AX × XS):=match x with
 | .fn g caps=>xrangeF P T go f nx ρ κ g caps
 | .dv d=>match d with
  | .fn g caps=>xrangeF P T go f nx ρ κ g (dvs caps)
  | _=>.no [162]
 | _=>.no [162]
def xrange (P:Program) (T:List TI) (go:Coder) (f n:Nat) (x:AV) (rc:RC) (s:XS):XR (AX × XS):=xrangeV P T go f s.nx s.ρ (upC s.κ s.nx (.rcd rc .ready (slots s.ρ 0 n))) x
def xcodeS (P:Program) (T:List TI) (pol:Nat→Bool) (f:Nat) (go:Coder) (r:Bool) (n:Nat) (c:Code) (s:XS):XR (AX × XS):=match c with
 | .skip=>.ok (.normal,s)
 | .region _ ops d=>bif d then xregionD P T pol go f n ops.toList s else xregion P T pol go f n ops.toList s
 | .seq a b=>(go r n a s).bind fun q=>xseq go r n b q
 | .cond x a b=>(xopt (ev s.ρ s.κ x).bool? 161).bind fun t=>bif t then go r n a s else go r n b s
 | .block id c=>(go r n c s).bind fun q=>xblock id q
 | .exit id=>.ok (.exit id,s)
 | .ret=>.ok (.ret,s)
 | .scope c=>go r n c s
 | .label _=>.ok (.normal,s)
 | .loop c=>xloop go r n c f s
 | .rangeFunc x ps as bd=>xif r 164 (xrange P T go f n (ev s.ρ s.κ x) ⟨ps,as,bd⟩ s)
 | _=>.no [165]
def xcode (P:Program) (T:List TI) (pol:Nat→Bool):Nat→Coder
 | 0=>fun _ _ _ _=>.no [0]
 | f+1=>xcodeS P T pol f (xcode P T pol f)
def xfun (P:Program) (T:List TI) (pol:Nat→Bool) (f g:Nat) (args:List AV) (m:Nat) (K:Boxes):XR XOut:=xfunc P T (xcode P T pol f) f g args m K
end Go.TM
