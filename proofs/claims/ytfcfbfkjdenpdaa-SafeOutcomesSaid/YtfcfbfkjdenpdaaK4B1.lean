import Derived.Test.YtfcfbfkjdenpdaaK4A3
set_option linter.unusedVariables false
set_option linter.unusedSimpArgs false
set_option linter.unusedSectionVars false
namespace Go.Proofs.Ytfcfbfkjdenpdaa
open Go.TM
abbrev Rows:=List (List Int)
def oRow (r:List Int):DV:=.osl 1 (r.map I)
def eRows (m:Rows):DV:=.sl 1 (m.map Ints)
def addAt (m:Rows) (p i:Nat) (x:Int):Rows:=match m[p]? with
 | some r=>match r[i]? with
  | some e=>m.set p (r.set i (e+x))
  | none=>m
 | none=>m
def putAll (m:Rows) (p:Int) (put:List (Int × Int)):Rows:=put.foldl (fun m a=>addAt m p.toNat a.1.toNat a.2) m
structure FolS where
 s:Int
 m:Rows
def fstep (d:Dea) (f:FolS) (a:Int):FolS:=match d.states[f.s.toNat]? with
 | none=>f
 | some x=>if a=-1 then ⟨x.late,f.m⟩ else match x.opts[a.toNat]? with
  | none=>f
  | some o=>⟨o.next,putAll f.m o.party o.put⟩
def zrows (p n:Nat):Rows:=List.replicate p (List.replicate n 0)
def folW (n:Nat) (d:Dea) (way:List Int):FolS:=way.foldl (fstep d) ⟨0,zrows d.parties.length n⟩
def folM (n:Nat) (d:Dea) (way:List Int):Rows:=(folW n d way).m
structure Rect (p n:Nat) (b:Int) (m:Rows):Prop where
 len:m.length=p
 row:∀r,r∈m→r.length=n
 bd:∀r,r∈m→∀e,e∈r→0≤e∧e≤b
theorem Rect.mono {p n:Nat} {b c:Int} {m:Rows} (h:Rect p n b m) (hb:b≤c):Rect p n c m:=⟨h.len,h.row,fun r hr e he=>by have:=h.bd r hr e he; omega⟩
theorem rect_z (p n:Nat):Rect p n 0 (zrows p n):=⟨by simp [zrows],fun r hr=>by simp [zrows] at hr; simp [hr.2],fun r hr e he=>by simp [zrows] at hr; rw [hr.2] at he; simp at he; omega⟩
theorem Rect.add {p n:Nat} {b x:Int} {m:Rows} (h:Rect p n b m) (hx:0≤x) (i j:Nat):Rect p n (b+x) (addAt m i j x):=by
 unfold addAt
 split
 ·rename_i r hr
  split
  ·rename_i e he
   have hb0:=h.bd r (List.mem_of_getElem? hr) e (List.mem_of_getElem? he)
   refine ⟨by simp [h.len],fun q hq=>?_,fun q hq f hf=>?_⟩
   ·rcases List.mem_or_eq_of_mem_set hq with hq | rfl
    ·exact h.row q hq
    ·simp [h.row r (List.mem_of_getElem? hr)]
   ·rcases List.mem_or_eq_of_mem_set hq with hq | rfl
    ·have:=h.bd q hq f hf; omega
    ·rcases List.mem_or_eq_of_mem_set hf with hf | rfl
     ·have:=h.bd r (List.mem_of_getElem? hr) f hf; omega
     ·omega
  ·exact h.mono (by omega)
 ·exact h.mono (by omega)
structure OptOk (p n:Nat) (d:Dea):Prop where
 opt:∀x,x∈d.states→∀o,o∈x.opts→0≤o.party∧o.party<p∧o.put.length≤1000∧∀a,a∈o.put→0≤a.1∧a.1<n∧0≤a.2∧a.2≤1099511627776
theorem Rect.puts {p n:Nat} {m:Rows} (q:Int):∀(l:List (Int × Int)) {b:Int} {m:Rows},Rect p n b m→(∀a,a∈l→0≤a.2∧a.2≤1099511627776)→Rect p n (b+l.length * 1099511627776) (putAll m q l)
 | [],b,m,h,_=>h.mono (by simp)
 | a::l,b,m,h,ha=>by
  have h1:=(h.add (ha a (by simp)).1 q.toNat a.1.toNat).mono (c:=b+1099511627776) (by have:=ha a (by simp); omega)
  have h2:=Rect.puts (m:=m) q l h1 fun x hx=>ha x (by simp [hx])
  refine Rect.mono (show Rect p n _ (putAll m q (a::l)) from h2) (by simp only [List.length_cons]; omega)
theorem addAt_map {m:Rows} {p i:Nat} {x e:Int} {r:List Int} (hr:m[p]?=some r) (he:r[i]?=some e):(m.map oRow).set p (.osl 1 ((r.map I).set i (I (e+x))))=(addAt m p i x).map oRow:=by
 unfold addAt
 rw [hr]; simp only [he]
 rw [List.map_set]
 simp [oRow,List.map_set]
structure FwI where
 i:Nat
 f:FolS
structure FkI where
 k:Nat
 m:Rows
set_option maxHeartbeats 4000000 in
theorem Follow_spec (n:Nat) (hn:n≤1000) (d:Dea) (hdp:d.parties.length≤1000) (hok:OptOk d.parties.length n d) (way:List Int) (t:Int) (hp:Path d 0 way t) (hw:way.length≤1000):PSpec Try.prog 36 [I n,eDea d,Ints way] [eRows (folM n d way)]:=by
 refine pspec_of tab_ok mixed (calls_snd _) (range_snd _) Try.func36 rfl (by kernel_rfl) rfl ?_
 refine ⟨Nat,fun k=>⟨2,[(0,.dv (I n)),(2,.dv (Ints way)),(4,.ptr 0 0),(7,.own 1 0 0 []),(8,.dv (I k))],[(0,.cells (dvs (dcells d))),(1,.tree 0 0 (.osl 1 ((zrows k n).map oRow)))]⟩,fun k=>k≤d.parties.length,fun k=>d.parties.length - k,0,fun _=>rfl,?_,by omega,?_⟩
 ·exact ⟨⟨rf,rf,rfl,⟨rfl,rfl,rfl,rfl,1,rfl⟩,rf,tv⟩,⟨subWs_dvs _ _ _ (dcells d),⟨rfl,rfl,1,rfl⟩,tv⟩,rfl,rfl⟩
 ·intro k hk
  refine ⟨fun h=>?_,fun h=>?_⟩
  ·have hk:k<d.parties.length:=by simpa using h
   refine ⟨I 0,⟨rf,tv⟩,by omega,by omega,by rw [by22]; omega,by omega,false,(fun h=>by cases h),?_⟩
   refine .inr (.inl ⟨[oRow (List.replicate n 0)],rfl,⟨?_,tv⟩,fun y hy=>(by rcases List.mem_singleton.1 hy with rfl; rfl),.inr (.inr ⟨rfl,[oRow (List.replicate n 0)],ELes.refl _,?_,?_,fun _=>⟨by omega,by omega⟩,k+1,?_,by dsimp only; omega,by dsimp only; omega⟩)⟩)
   ·show DV.osl 1 (List.replicate (n:Int).toNat (I 0))=.osl 1 ((List.replicate n 0).map I)
    simp
   ·rw [by26]; simp [zrows]; omega
   ·simp [zrows]; omega
   ·refine ⟨⟨rf,rf,rfl,rfl,le_int (by omega),tv⟩,⟨subWs_dvs _ _ _ (dcells d),⟨rfl,?_⟩,tv⟩,rfl,rfl⟩
    show DV.osl 1 ((zrows k n).map oRow++[oRow (List.replicate n 0)])=.osl 1 ((zrows (k+1) n).map oRow)
    simp only [zrows,List.replicate_succ',List.map_append,List.map_cons,List.map_nil]
  ·have hk:k=d.parties.length:=by
    have:¬ k<d.parties.length:=by simpa using h
    omega
   subst hk
   refine ⟨FwI,fun s=>⟨2,[(0,.dv (I n)),(2,.dv (Ints way)),(4,.ptr 0 0),(7,.own 1 0 0 []),(9,.dv (I s.f.s)),(10,.dv (I s.i))],[(0,.cells (dvs (dcells d))),(1,.tree 0 0 (.osl 1 (s.f.m.map oRow)))]⟩,fun s=>s.i≤way.length∧s.f=folW n d (way.take s.i)∧Path d s.f.s (way.drop s.i) t∧Rect d.parties.length n (s.i * 1099511627776000) s.f.m,fun s=>way.length - s.i,⟨0,⟨0,zrows d.parties.length n⟩⟩,fun _=>rfl,?_,?_,?_⟩
   ·exact ⟨⟨rf,rf,rfl,rfl,rf,rf,tv⟩,⟨subWs_dvs _ _ _ (dcells d),⟨rfl,rfl⟩,tv⟩,rfl,rfl⟩
   ·exact ⟨by simp,rfl,hp,(rect_z _ _).mono (by simp)⟩
   ·rintro ⟨i,⟨s,m⟩⟩ ⟨hi,hf,hps,hr⟩
    dsimp only at hi hf hps hr
    refine ⟨fun h=>?_,fun h=>?_⟩
    ·have hlt:i<way.length:=by simpa using h
     clear h
     rw [List.drop_eq_getElem_cons hlt] at hps
     obtain ⟨u,he,hq⟩:=hps.head
     generalize hla:way[i]=a at *
     obtain ⟨x,h0,hx,hfi,hnx,hor⟩:=he.inv
     have htk:folW n d (way.take (i+1))=fstep d ⟨s,m⟩ a:=by
      rw [List.take_add_one,List.getElem?_eq_getElem hlt,hla,folW,List.foldl_append]
      show fstep d (folW n d (way.take i)) a=_
      rw [←hf]
     refine ⟨eSta x,fun _=>⟨h0,by simp [hx]⟩,?_⟩
     refine ⟨I a,fun _=>⟨by omega,by simp [hlt,hla]⟩,fun h=>?_,fun h=>?_⟩
     ·have ha:a=-1:=by simpa using h
      clear h
      obtain ⟨o,h1,-⟩ | ⟨-,hwt,hu⟩:=hor
      ·omega
      ·refine ⟨fun _=>⟨by dsimp only; omega,by dsimp only; omega⟩,⟨i+1,⟨u,m⟩⟩,⟨⟨rf,rf,rfl,rfl,le_int hu,le_int (by simp),tv⟩,⟨subWs_dvs _ _ _ (dcells d),⟨rfl,rfl⟩,tv⟩,rfl,rfl⟩,⟨by dsimp only; omega,?_,hq,hr.mono (by dsimp only; omega)⟩,by dsimp only; omega⟩
       dsimp only
       rw [htk]
       simp [fstep,hx,ha,hu]
     ·have ha:a ≠ -1:=by simpa using h
      clear h
      obtain ⟨o,h1,ho,hu⟩ | ⟨hm,-⟩:=hor
      ·refine ⟨I a,fun _=>⟨by omega,by simp [hlt,hla]⟩,eOpt o,fun _=>⟨h1,by simp [ho]⟩,by kernel_rfl,?_⟩
       have hoo:=hok.opt x (List.mem_of_getElem? hx) o (List.mem_of_getElem? ho)
       obtain ⟨hp0,hp1,hpl,hpa⟩:=hoo
       refine ⟨FkI,fun z=>⟨4,[(0,.dv (I n)),(2,.dv (Ints way)),(4,.ptr 0 0),(7,.own 1 0 0 []),(9,.dv (I s)),(10,.dv (I i)),(12,.ptr 3 0),(13,.dv (I z.k))],[(0,.cells (dvs (dcells d))),(1,.tree 0 0 (.osl 1 (z.m.map oRow))),(3,.cells (dvs (eOpt o).cells))]⟩,fun z=>z.k≤o.put.length∧z.m=putAll m o.party (o.put.take z.k)∧Rect d.parties.length n (i * 1099511627776000+z.k * 1099511627776) z.m,fun z=>o.put.length - z.k,⟨0,m⟩,fun _=>rfl,?_,?_,?_⟩
       ·exact ⟨⟨rf,rf,rfl,rfl,rf,rf,rfl,rf,tv⟩,⟨subWs_dvs _ _ _ (dcells d),⟨rfl,rfl⟩,subWs_dvs _ _ _ (eOpt o).cells,tv⟩,rfl,rfl⟩
       ·exact ⟨by simp,rfl,hr.mono (by simp)⟩
       ·rintro ⟨k,m'⟩ ⟨hk,hm',hr'⟩
        dsimp only at hk hm' hr'
        refine ⟨fun h=>?_,fun h=>?_⟩
        ·have hk:k<o.put.length:=by simpa using h
         have hpt:o.party.toNat<m'.length:=by rw [hr'.len]; omega
         generalize hrw:m'[o.party.toNat]=row
         have hrow:m'[o.party.toNat]?=some row:=by rw [List.getElem?_eq_getElem hpt,hrw]
         have hrl:=hr'.row row (List.mem_of_getElem? hrow)
         generalize hpa':o.put[k]=am
         have hpk:o.put[k]?=some am:=by rw [List.getElem?_eq_getElem hk,hpa']
         obtain ⟨ha1,ha2,ha3,ha4⟩:=hpa am (List.mem_of_getElem? hpk)
         have hit:am.1.toNat<row.length:=by omega
         generalize hre:row[am.1.toNat]=el
         have hel:row[am.1.toNat]?=some el:=by rw [List.getElem?_eq_getElem hit,hre]
         have hbd:=hr'.bd row (List.mem_of_getElem? hrow) el (List.mem_of_getElem? hel)
         have hdl:d.parties.length=m'.length:=hr'.len.symm
         refine ⟨fun _=>⟨hp0,by dsimp only; simp; omega⟩,oRow row,fun _=>by simp [hrow],?_⟩
         refine ⟨eAmt am,fun _=>⟨by dsimp only; omega,by simp [hpk]⟩,?_⟩
         refine ⟨fun _=>⟨hp0,by dsimp only; simp; omega⟩,oRow row,fun _=>by simp [hrow],?_⟩
         refine ⟨eAmt am,fun _=>⟨by dsimp only; omega,by simp [hpk]⟩,?_⟩
         refine ⟨oRow row,fun _=>by simp [hrow],fun _=>⟨ha1,by simp; omega⟩,?_⟩
         refine ⟨oRow row,fun _=>by simp [hrow],I el,fun _=>by simp [hel],?_⟩
         refine ⟨eAmt am,fun _=>⟨by dsimp only; omega,by simp [hpk]⟩,fun _=>⟨by omega,by omega⟩,?_⟩
         refine ⟨oRow row,fun _=>by simp [hrow],fun _=>⟨ha1,by simp; omega⟩,?_⟩
         refine ⟨[I (el+am.2)],⟨rf,tv⟩,oRow row,fun _=>by simp [hrow],I el,by simp [hel],oRow row,by simp [hrow],by kernel_rfl,?_⟩
         refine ⟨fun _=>⟨by dsimp only; omega,by dsimp only; omega⟩,⟨k+1,addAt m' o.party.toNat am.1.toNat am.2⟩,⟨⟨rf,rf,rfl,rfl,rf,rf,rfl,le_int (by simp),tv⟩,⟨subWs_dvs _ _ _ (dcells d),⟨rfl,?_⟩,subWs_dvs _ _ _ (eOpt o).cells,tv⟩,rfl,rfl⟩,⟨by dsimp only; omega,?_,(hr'.add ha3 _ _).mono (by dsimp only; omega)⟩,by dsimp only; omega⟩
         ·exact congrArg (DV.osl 1) (addAt_map hrow hel)
         ·dsimp only
          rw [List.take_add_one,hpk,putAll,List.foldl_append]
          show _=addAt (putAll m o.party (o.put.take k)) _ _ _
          rw [←hm']
        ·have hkk:k=o.put.length:=by
          have:¬ k<o.put.length:=by simpa using h
          omega
         subst hkk
         rw [List.take_length] at hm'
         refine ⟨fun _=>⟨by omega,by omega⟩,⟨i+1,⟨u,m'⟩⟩,⟨⟨rf,rf,rfl,rfl,le_int hu,le_int (by simp),tv⟩,⟨subWs_dvs _ _ _ (dcells d),⟨rfl,rfl⟩,tv⟩,rfl,rfl⟩,⟨by dsimp only; omega,?_,hq,hr'.mono (by dsimp only; omega)⟩,by dsimp only; omega⟩
         dsimp only
         rw [htk]
         simp [fstep,hx,ha,ho,hu,hm']
      ·omega
    ·have hin:i=way.length:=by
      have:¬ i<way.length:=by simpa using h
      omega
     subst hin
     rw [List.take_length] at hf
     refine ⟨DV.Le.of_eq ?_,tv⟩
     show DV.sl 1 (fzL (m.map oRow))=.sl 1 ((folW n d way).m.map Ints)
     rw [←hf,fzL_eq,List.map_map]
     congr 1
     refine List.map_congr_left fun r _=>?_
     show DV.sl 1 (fzL (r.map I))=_
     rw [fzL_map fun _=>rfl]
end Go.Proofs.Ytfcfbfkjdenpdaa
namespace Go.Proofs.Ytfcfbfkjdenpdaa
open Go.TM
def gC:List Giv→DV
 | []=>.nils
 | g::r=>.osl 3 ((g::r).map eGiv)
def gA (s:Nat):List Giv→AV
 | []=>.dv .nils
 | _::_=>.own 0 0 0 [.el s 5]
def oSta (s:Sta):DV:=.agg [.str s.name,B s.final,.sl 3 (s.opts.map eOpt),I s.wait,I s.late,gC s.gives]
def tS (ss:List Sta):Box:=.tree 0 0 (.osl 6 (ss.map oSta))
def dAc (d:Dea) (i:Nat):List AV:=[.dv (.str d.name),.dv (.sl 1 (d.parties.map .str)),.own i 0 0 []]
def dA (d:Dea) (i:Nat):AV:=.agg (dAc d i)
def strip (x:Sta):Sta:={ x with gives:=[] }
theorem optSteps_gives (d:Dea) (x:Sta):∀k,optSteps d x k=optSteps d (strip x) k
 | 0=>rfl
 | k+1=>by simp only [optSteps,optSteps_gives d x k]; rfl
theorem stepsOf_gives (d:Dea) (x:Sta):stepsOf d x=stepsOf d (strip x):=by simp only [stepsOf,optSteps_gives d x]; rfl
set_option maxHeartbeats 4000000 in
theorem steps_specO (d:Dea) (s:Nat) (x:Sta) (hx:d.states[s]?=some x) (ho:x.opts.length≤1000000):CSpec Try.prog 22 [dA d 0,.dv (I s)] 1 [(0,tS d.states)] 0 [.dv (.sl 4 ((stepsOf d x).map eStp))] [(0,tS d.states)]:=by
 rw [stepsOf_gives]
 refine cspec_of tab_ok mixed (calls_snd _) (range_snd _) Try.func22 rfl rfl (by kernel_rfl) ?_
 have hsl:s<d.states.length:=(List.getElem?_eq_some_iff.1 hx).1
 refine ⟨fun _=>⟨by omega,by simp; omega⟩,oSta x,fun _=>by simp [hx],?_⟩
 obtain ⟨nm,fi,op,wt,lt,gv⟩:=x
 simp only [strip]
 dsimp only at ho
 let c:AV:=gA s gv
 cases gv
 all_goals
  refine ⟨Nat,fun k=>⟨4,[(2,.ptr 1 0),(5,.own 3 0 0 []),(6,.ptr 2 0),(7,.dv (I k))],[(0,tS d.states),(1,.cells (dAc d 0)),(2,.cells [.dv (.str nm),.dv (B fi),.dv (.sl 3 (op.map eOpt)),.dv (I wt),.dv (I lt),c]),(3,.tree 0 0 (.osl 4 ((optSteps d (⟨nm,fi,op,wt,lt,[]⟩:Sta) k).map eStp)))]⟩,
   fun k=>k≤op.length∧(fi=true→k=0),fun k=>op.length - k,0,fun _=>rfl,?_,⟨by omega,fun _=>rfl⟩,?_⟩
  ·exact ⟨⟨rfl,⟨rfl,rfl,rfl,rfl,4,rfl⟩,rfl,rf,tv⟩,⟨⟨rfl,rfl⟩,⟨rf,rf,rfl,tv⟩,⟨rf,rf,rf,rf,rf,(by first | exact rfl | exact rf),tv⟩,⟨rfl,rfl,4,rfl⟩,tv⟩,rfl,rfl⟩
  ·rintro k ⟨hk1,hk2⟩
   refine ⟨id,id,fun _ h=>bw_t h,fun h=>?_,fun h=>?_⟩
   ·obtain ⟨h1,h2⟩:=bif_t h
    have hk:k<op.length:=by simpa using h1
    have hf:fi=false:=by simpa using h2
    refine ⟨eOpt op[k],fun _=>⟨by omega,by simp [hk]⟩,?_⟩
    refine ⟨id,id,id,id,id,fun _ h=>bw_t h,fun h=>?_,fun h=>?_⟩
    ·obtain ⟨h3,h4⟩:=bif_t h
     have hok:okNext d op[k].next=true:=by simp only [okNext,h3,Bool.true_and]; simpa using h4
     have hlen:(optSteps d (⟨nm,fi,op,wt,lt,[]⟩:Sta) k).length≤k:=optSteps_len d (⟨nm,fi,op,wt,lt,[]⟩:Sta) k
     refine .inl ⟨[eStp ⟨k,op[k].party,op[k].next,op[k].put⟩],rfl,⟨rf,rf,rf,rf,tv⟩,fun y hy=>(by rcases List.mem_singleton.1 hy with rfl; rfl),.inr ⟨[eStp ⟨k,op[k].party,op[k].next,op[k].put⟩],ELes.refl _,(by rw [by54]; simp; omega),(by simp; omega),?_⟩⟩
     refine ⟨fun _=>⟨by omega,by omega⟩,k+1,⟨⟨rfl,rfl,rfl,le_int (by omega),tv⟩,⟨⟨rfl,rfl⟩,⟨rf,rf,rfl,tv⟩,⟨rf,rf,rf,rf,rf,(by first | exact rfl | exact rf),tv⟩,⟨rfl,?_⟩,tv⟩,rfl,rfl⟩,⟨by omega,fun hh=>by rw [hf] at hh; cases hh⟩,?_⟩
     ·simp [optSteps,hk,hok]
     ·show op.length - (k+1)<op.length - k
      omega
    ·have hok:okNext d op[k].next=false:=by
      have:=bif_f h
      cases hh:okNext d op[k].next with
      | false=>rfl
      | true =>
       simp only [okNext,Bool.and_eq_true] at hh
       exact absurd ⟨hh.1,by simpa using hh.2⟩ this
     refine ⟨fun _=>⟨by omega,by omega⟩,k+1,⟨⟨rfl,rfl,rfl,le_int (by omega),tv⟩,⟨⟨rfl,rfl⟩,⟨rf,rf,rfl,tv⟩,⟨rf,rf,rf,rf,rf,(by first | exact rfl | exact rf),tv⟩,⟨rfl,?_⟩,tv⟩,rfl,rfl⟩,⟨by omega,fun hh=>by rw [hf] at hh; cases hh⟩,?_⟩
     ·simp [optSteps,hk,hok]
     ·show op.length - (k+1)<op.length - k
      omega
   ·have hend:optSteps d (⟨nm,fi,op,wt,lt,[]⟩:Sta) k=if fi then [] else optSteps d (⟨nm,fi,op,wt,lt,[]⟩:Sta) op.length:=by
     cases hf:fi with
     | true=>rw [hk2 hf]; rfl
     | false =>
      have:=bif_f h
      have hk:k=op.length:=by
       by_cases hk:k<op.length
       ·exact absurd ⟨by simpa using hk,by simp [hf]⟩ this
       ·omega
      rw [hk]; rfl
    refine ⟨id,id,fun _ h=>bw_t h,id,id,fun _ h=>bw_t h,id,id,id,id,id,fun _ h=>bw_t h,fun h=>?_,fun h=>?_⟩
    ·have hw:(!fi && decide (0<wt) && okNext d lt)=true:=by
      obtain ⟨h1,h2⟩:=bif_t h
      obtain ⟨h3,h4⟩:=bif_t h1
      obtain ⟨h5,h6⟩:=bif_t h3
      simp only [okNext,h5,h6,h4,Bool.true_and]
      simpa using h2
     have hlen:(optSteps d (⟨nm,fi,op,wt,lt,[]⟩:Sta) k).length≤k:=optSteps_len d (⟨nm,fi,op,wt,lt,[]⟩:Sta) k
     refine .inl ⟨[eStp ⟨-1,-1,lt,[]⟩],rfl,⟨rf,rf,rf,DV.nils_le 2,tv⟩,fun y hy=>(by rcases List.mem_singleton.1 hy with rfl; rfl),.inr ⟨[eStp ⟨-1,-1,lt,[]⟩],ELes.refl _,(by rw [by54]; simp; omega),(by simp; omega),?_⟩⟩
     refine ⟨_,_,⟨rfl,rfl⟩,rfl,⟨DV.Le.of_eq ?_,tv⟩,⟨rfl,rfl⟩,tv⟩
     show DV.sl 4 (fzL ((optSteps d (⟨nm,fi,op,wt,lt,[]⟩:Sta) k).map eStp++[eStp ⟨-1,-1,lt,[]⟩]))=_
     have e:(optSteps d (⟨nm,fi,op,wt,lt,[]⟩:Sta) k).map eStp++[eStp ⟨-1,-1,lt,[]⟩]=(stepsOf d (⟨nm,fi,op,wt,lt,[]⟩:Sta)).map eStp:=by
      simp only [stepsOf,hw,if_true,←hend,List.map_append,List.map_cons,List.map_nil]
     rw [e,fzL_map fun _=>rfl]
    ·have hw:(!fi && decide (0<wt) && okNext d lt)=false:=by
      cases hh:!fi && decide (0<wt) && okNext d lt with
      | false=>rfl
      | true =>
       simp only [Bool.and_eq_true,okNext] at hh
       have:=bif_f h
       refine absurd ⟨?_,by simpa using hh.2.2⟩ this
       rw [hh.1.1,hh.1.2,hh.2.1]; rfl
     refine ⟨_,_,⟨rfl,rfl⟩,rfl,⟨DV.Le.of_eq ?_,tv⟩,⟨rfl,rfl⟩,tv⟩
     show DV.sl 4 (fzL ((optSteps d (⟨nm,fi,op,wt,lt,[]⟩:Sta) k).map eStp))=_
     have e:(optSteps d (⟨nm,fi,op,wt,lt,[]⟩:Sta) k).map eStp=(stepsOf d (⟨nm,fi,op,wt,lt,[]⟩:Sta)).map eStp:=by
      simp only [stepsOf,hw,←hend,Bool.false_eq_true,if_false,List.append_nil]
     rw [e,fzL_map fun _=>rfl]
end Go.Proofs.Ytfcfbfkjdenpdaa
namespace Go.Proofs.Ytfcfbfkjdenpdaa
open Go.TM
def dKO (d:Dea) (w:Bfs):Boxes:=[(0,tS d.states),(1,.cells (dAc d 0)),(2,.cells (dvs [.nils,.nils])),(3,.cells [.own 4 0 0 [],.own 5 0 0 []]),(4,.tree 0 0 (.osl 1 (w.order.map I))),(5,.tree 0 0 (.osl 1 (w.ways.map Ints)))]
set_option maxHeartbeats 4000000 in
theorem discover_specO (d:Dea) (hs:Small d):CSpec Try.prog 34 [dA d 0] 1 [(0,tS d.states)] 0 [.agg [.dv (Ints (disc d).order),.dv (.sl 1 ((disc d).ways.map Ints))]] [(0,tS d.states)]:=by
 refine cspec_of tab_ok mixed (calls_snd _) (range_snd _) Try.func34 rfl rfl (by kernel_rfl) ?_
 refine ⟨fun h=>?_,fun h=>?_⟩
 ·have hd:d.states=[]:=List.eq_nil_of_length_eq_zero (by simpa using h)
  refine ⟨_,_,⟨rfl,rfl⟩,rfl,⟨?_,tv⟩,⟨rfl,rfl⟩,tv⟩
  have hdd:disc d=⟨[],[]⟩:=by unfold disc; rw [hd]
  rw [hdd]
  exact ⟨DV.nils_le 1,DV.nils_le 1,tv⟩
 ·refine .inr (.inl ⟨[I 0],rfl,⟨rf,tv⟩,fun y hy=>(by rcases List.mem_singleton.1 hy with rfl; rfl),?_⟩)
  refine .inr (.inl ⟨[Ints []],rfl,⟨DV.nils_le 1,tv⟩,fun y hy=>(by rcases List.mem_singleton.1 hy with rfl; rfl),?_⟩)
  refine ⟨Nat,fun i=>⟨6,[(1,.ptr 1 0),(2,.ptr 2 0),(3,.ptr 3 0),(4,.dv (I i))],dKO d (bfsAt d i)⟩,fun i=>i≤(bfsAt d i).order.length,fun i=>d.states.length - i,0,fun _=>rfl,?_,by simp [bfsAt],?_⟩
  ·exact ⟨⟨rfl,rfl,rfl,rf,tv⟩,⟨⟨rfl,rfl⟩,⟨rf,rf,rfl,tv⟩,subWs_dvs _ _ _ [.nils,.nils],⟨rfl,rfl,tv⟩,⟨rfl,rfl⟩,⟨rfl,rfl⟩,tv⟩,rfl,rfl⟩
  ·intro i hi
   have hd:d.states ≠ []:=fun e=>by simp [e] at h
   have hb:=bfsAt_ok d hd i
   have hle:=hb.le
   have hsm:=hs.states
   refine ⟨fun h=>?_,fun h=>?_⟩
   ·have hlt:i<(bfsAt d i).order.length:=by simpa using h
    obtain ⟨h0,h1⟩:=hb.rng (bfsAt d i).order[i] (by simp)
    have hlt2:((bfsAt d i).order[i]).toNat<d.states.length:=by omega
    obtain ⟨x,hx⟩:∃x,d.states[((bfsAt d i).order[i]).toNat]?=some x:=⟨_,List.getElem?_eq_getElem hlt2⟩
    have hsp:=steps_specO d ((bfsAt d i).order[i]).toNat x hx (by have:=hs.opts x (List.mem_of_getElem? hx); omega)
    rw [Int.toNat_of_nonneg h0] at hsp
    refine ⟨fun _=>⟨by omega,by simpa using hlt⟩,I (bfsAt d i).order[i],fun _=>(by simp [hlt]),.inr ⟨[0],[dA d 0,.dv (I (bfsAt d i).order[i])],[(0,tS d.states)],0,_,_,hsp,rfl,rfl,⟨⟨rf,rf,rfl,tv⟩,rf,tv⟩,⟨⟨rfl,rfl⟩,tv⟩,rfl,?_⟩⟩
    have hwl:(bfsAt d i).ways.length=(bfsAt d i).order.length:=hb.len
    have hlw:i<(bfsAt d i).ways.length:=by omega
    generalize hway:(bfsAt d i).ways[i]=way
    have hwy:(bfsAt d i).ways[i]?=some way:=by rw [List.getElem?_eq_getElem hlw,hway]
    have hwlen:way.length≤(bfsAt d i).order.length:=hb.way _ (List.mem_of_getElem? hwy)
    have hol:x.opts.length≤1000:=hs.opts x (List.mem_of_getElem? hx)
    have hsl:=stepsOf_len d x
    have hpr:proc d i (bfsAt d i)=(stepsOf d x).foldl (addStep way) (bfsAt d i):=by
     unfold proc
     rw [List.getElem?_eq_getElem hlt,hwy]
     simp only [hx]
    refine ⟨Nat,fun k=>⟨6,[(1,.ptr 1 0),(2,.ptr 2 0),(3,.ptr 3 0),(4,.dv (I i)),(5,.dv (.sl 4 ((stepsOf d x).map eStp))),(6,.dv (I k))],dKO d (((stepsOf d x).take k).foldl (addStep way) (bfsAt d i))⟩,fun k=>k≤(stepsOf d x).length,fun k=>(stepsOf d x).length - k,0,fun _=>rfl,?_,by omega,?_⟩
    ·exact ⟨⟨rfl,rfl,rfl,rf,rf,rf,tv⟩,⟨⟨rfl,rfl⟩,⟨rf,rf,rfl,tv⟩,subWs_dvs _ _ _ [.nils,.nils],⟨rfl,rfl,tv⟩,⟨rfl,rfl⟩,⟨rfl,rfl⟩,tv⟩,rfl,rfl⟩
    ·intro k hk
     obtain ⟨hbk,hgr⟩:=BOk.fold (way:=way) ((stepsOf d x).take k) hb hwlen fun t ht=>stepsOf_next (List.mem_of_mem_take ht)
     obtain ⟨e,f,hpe,hpf⟩:=fold_pre way ((stepsOf d x).take k) (bfsAt d i)
     generalize hwk:((stepsOf d x).take k).foldl (addStep way) (bfsAt d i)=wk at *
     have hlk:=hbk.le
     refine ⟨fun h=>?_,fun h=>?_⟩
     ·have hk:k<(stepsOf d x).length:=by simpa using h
      generalize hst:(stepsOf d x)[k]=st
      have hsnx:=stepsOf_next (d:=d) (x:=x) (s:=st) (by rw [←hst]; exact List.getElem_mem hk)
      refine ⟨eStp st,fun _=>⟨by omega,by simp [hk,hst]⟩,?_⟩
      have hix:CallOk Try.prog 43 [.sl 1 (fzL (wk.order.map I)),I st.next] [I (idxOf wk.order st.next)]:=by
       rw [fzL_map (e:=I) fun _=>rfl]
       exact (index_spec wk.order st.next (by omega)).ok
      rw [←hwk] at hix
      refine .inl (.inl ⟨_,fun _=>hix,rfl,?_⟩)
      refine ⟨rfl,fun h=>?_,fun h=>?_⟩
      ·have hni:st.next ∉ wk.order:=by
        rw [hwk] at h
        have h2:=idx_neg wk.order st.next
        rw [show decide (idxOf wk.order st.next<0)=true from h] at h2
        simpa using h2.symm
       have hnx:((stepsOf d x).take (k+1)).foldl (addStep way) (bfsAt d i)=⟨wk.order++[st.next],wk.ways++[way++[st.label]]⟩:=by
        rw [List.take_add_one,List.getElem?_eq_getElem hk,hst,List.foldl_append,hwk]
        show addStep way wk st=_
        unfold addStep
        rw [if_neg hni]
       have hwl2:wk.ways.length=wk.order.length:=hbk.len
       refine ⟨eStp st,fun _=>⟨by omega,by simp [hk,hst]⟩,.inl ⟨[I st.next],rfl,⟨rf,tv⟩,fun y hy=>(by rcases List.mem_singleton.1 hy with rfl; rfl),?_⟩⟩
       refine .inr ⟨[I st.next],ELes.refl _,(by rw [by22,hwk]; simp; omega),(by rw [hwk]; simp; omega),rfl,?_⟩
       have hgi:wk.ways[i]?=some way:=by rw [hpf,List.getElem?_append_left hlw,hwy]
       refine ⟨fun _=>⟨by omega,by rw [hwk]; simp; omega⟩,Ints way,fun _=>(by rw [hwk]; simp [hgi]),?_⟩
       refine ⟨eStp st,fun _=>⟨by omega,by simp [hk,hst]⟩,.inl ⟨_,fun _=>(longer_spec way st.label (by omega)).ok,?_⟩⟩
       refine .inl ⟨[Ints (way++[st.label])],rfl,⟨rf,tv⟩,fun y hy=>(by rcases List.mem_singleton.1 hy with rfl; rfl),?_⟩
       refine .inr ⟨[Ints (way++[st.label])],ELes.refl _,(by rw [by26,hwk]; simp; omega),(by rw [hwk]; simp; omega),?_⟩
       refine ⟨by kernel_rfl,?_⟩
       refine ⟨fun _=>⟨by omega,by omega⟩,?_⟩
       refine ⟨k+1,⟨⟨rfl,rfl,rfl,rf,rf,rf,tv⟩,⟨⟨rfl,rfl⟩,⟨rf,rf,rfl,tv⟩,subWs_dvs _ _ _ [.nils,.nils],⟨rfl,rfl,tv⟩,⟨rfl,?_⟩,⟨rfl,?_⟩,tv⟩,rfl,rfl⟩,by omega,by dsimp only; omega⟩
       ·rw [hnx,hwk]; simp
       ·rw [hnx,hwk]; simp
      ·have hmi:st.next∈wk.order:=by
        rw [hwk] at h
        have h2:=idx_neg wk.order st.next
        rw [show decide (idxOf wk.order st.next<0)=false from h] at h2
        simpa using h2.symm
       have hnx:((stepsOf d x).take (k+1)).foldl (addStep way) (bfsAt d i)=wk:=by
        rw [List.take_add_one,List.getElem?_eq_getElem hk,hst,List.foldl_append,hwk]
        show addStep way wk st=_
        unfold addStep
        rw [if_pos hmi]
       refine ⟨fun _=>⟨by omega,by omega⟩,?_⟩
       refine ⟨k+1,⟨⟨rfl,rfl,rfl,rf,rf,rf,tv⟩,⟨⟨rfl,rfl⟩,⟨rf,rf,rfl,tv⟩,subWs_dvs _ _ _ [.nils,.nils],⟨rfl,rfl,tv⟩,⟨rfl,?_⟩,⟨rfl,?_⟩,tv⟩,rfl,rfl⟩,by omega,by dsimp only; omega⟩
       ·rw [hnx,hwk]
       ·rw [hnx,hwk]
     ·have hkk:k=(stepsOf d x).length:=by have:¬ k<(stepsOf d x).length:=by simpa using h
                                          omega
      refine ⟨fun _=>⟨by omega,by omega⟩,?_⟩
      have hnx:bfsAt d (i+1)=wk:=by
       show proc d i (bfsAt d i)=wk
       rw [hpr,←hwk,hkk,List.take_length]
      refine ⟨i+1,⟨⟨rfl,rfl,rfl,rf,tv⟩,⟨⟨rfl,rfl⟩,⟨rf,rf,rfl,tv⟩,subWs_dvs _ _ _ [.nils,.nils],⟨rfl,rfl,tv⟩,⟨rfl,?_⟩,⟨rfl,?_⟩,tv⟩,rfl,rfl⟩,by dsimp only; rw [hnx]; omega,by dsimp only; omega⟩
      ·rw [hnx,hwk]
      ·rw [hnx,hwk]
   ·have hni:(bfsAt d i).order.length≤i:=by simpa using h
    have hdd:disc d=bfsAt d i:=by
     have h3:=bfsAt_stop d hni (d.states.length - i)
     rw [show i+(d.states.length - i)=d.states.length by omega] at h3
     unfold disc
     split
     ·rename_i e; exact absurd e hd
     ·exact h3
    rw [hdd]
    refine ⟨_,_,⟨rfl,rfl⟩,rfl,⟨⟨DV.Le.of_eq ?_,DV.Le.of_eq ?_,tv⟩,tv⟩,⟨rfl,rfl⟩,tv⟩
    ·show DV.sl 1 (fzL ((bfsAt d i).order.map I))=_
     rw [fzL_map (e:=I) fun _=>rfl]
    ·show DV.sl 1 (fzL ((bfsAt d i).ways.map Ints))=_
     rw [fzL_map (e:=Ints) fun _=>rfl]
end Go.Proofs.Ytfcfbfkjdenpdaa
