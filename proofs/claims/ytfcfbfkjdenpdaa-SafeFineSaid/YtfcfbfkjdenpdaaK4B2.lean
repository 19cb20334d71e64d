import Derived.Test.YtfcfbfkjdenpdaaK4B1
set_option linter.unusedVariables false
set_option linter.unusedSimpArgs false
set_option linter.unusedSectionVars false
namespace Go.Proofs.Ytfcfbfkjdenpdaa
open Go.TM
set_option maxHeartbeats 4000000 in
theorem Follow_specO (n:Nat) (hn:n≤1000) (d:Dea) (hdp:d.parties.length≤1000) (hok:OptOk d.parties.length n d) (way:List Int) (t:Int) (hp:Path d 0 way t) (hw:way.length≤1000):CSpec Try.prog 36 [.dv (I n),dA d 0,.dv (Ints way)] 1 [(0,tS d.states)] 0 [.dv (eRows (folM n d way))] [(0,tS d.states)]:=by
 refine cspec_of tab_ok mixed (calls_snd _) (range_snd _) Try.func36 rfl rfl (by kernel_rfl) ?_
 refine ⟨Nat,fun k=>⟨3,[(0,.dv (I n)),(2,.dv (Ints way)),(4,.ptr 1 0),(7,.own 2 0 0 []),(8,.dv (I k))],[(0,tS d.states),(1,.cells (dAc d 0)),(2,.tree 0 0 (.osl 1 ((zrows k n).map oRow)))]⟩,fun k=>k≤d.parties.length,fun k=>d.parties.length - k,0,fun _=>rfl,?_,by omega,?_⟩
 ·exact ⟨⟨rf,rf,rfl,⟨rfl,rfl,rfl,rfl,1,rfl⟩,rf,tv⟩,⟨⟨rfl,rfl⟩,⟨rf,rf,rfl,tv⟩,⟨rfl,rfl,1,rfl⟩,tv⟩,rfl,rfl⟩
 ·intro k hk
  refine ⟨fun h=>?_,fun h=>?_⟩
  ·have hk:k<d.parties.length:=by simpa using h
   refine ⟨I 0,⟨rf,tv⟩,by omega,by omega,by rw [by22]; omega,by omega,false,(fun h=>by cases h),?_⟩
   refine .inr (.inl ⟨[oRow (List.replicate n 0)],rfl,⟨?_,tv⟩,fun y hy=>(by rcases List.mem_singleton.1 hy with rfl; rfl),.inr (.inr ⟨rfl,[oRow (List.replicate n 0)],ELes.refl _,?_,?_,fun _=>⟨by omega,by omega⟩,k+1,?_,by dsimp only; omega,by dsimp only; omega⟩)⟩)
   ·show DV.osl 1 (List.replicate (n:Int).toNat (I 0))=.osl 1 ((List.replicate n 0).map I)
    simp
   ·rw [by26]; simp [zrows]; omega
   ·simp [zrows]; omega
   ·refine ⟨⟨rf,rf,rfl,rfl,le_int (by omega),tv⟩,⟨⟨rfl,rfl⟩,⟨rf,rf,rfl,tv⟩,⟨rfl,?_⟩,tv⟩,rfl,rfl⟩
    show DV.osl 1 ((zrows k n).map oRow++[oRow (List.replicate n 0)])=.osl 1 ((zrows (k+1) n).map oRow)
    simp only [zrows,List.replicate_succ',List.map_append,List.map_cons,List.map_nil]
  ·have hk:k=d.parties.length:=by
    have:¬ k<d.parties.length:=by simpa using h
    omega
   subst hk
   refine ⟨FwI,fun s=>⟨3,[(0,.dv (I n)),(2,.dv (Ints way)),(4,.ptr 1 0),(7,.own 2 0 0 []),(9,.dv (I s.f.s)),(10,.dv (I s.i))],[(0,tS d.states),(1,.cells (dAc d 0)),(2,.tree 0 0 (.osl 1 (s.f.m.map oRow)))]⟩,fun s=>s.i≤way.length∧s.f=folW n d (way.take s.i)∧Path d s.f.s (way.drop s.i) t∧Rect d.parties.length n (s.i * 1099511627776000) s.f.m,fun s=>way.length - s.i,⟨0,⟨0,zrows d.parties.length n⟩⟩,fun _=>rfl,?_,?_,?_⟩
   ·exact ⟨⟨rf,rf,rfl,rfl,rf,rf,tv⟩,⟨⟨rfl,rfl⟩,⟨rf,rf,rfl,tv⟩,⟨rfl,rfl⟩,tv⟩,rfl,rfl⟩
   ·exact ⟨by simp,rfl,hp,(rect_z _ _).mono (by simp)⟩
   ·rintro ⟨i,⟨s,m⟩⟩ ⟨hi,hf,hps,hr⟩
    dsimp only at hi hf hps hr
    refine ⟨fun h=>?_,fun h=>?_⟩
    ·have hlt:i<way.length:=by simpa using h
     clear h
     rw [List.drop_eq_getElem_cons hlt] at hps
     obtain ⟨u,he,hq⟩:=hps.head
     generalize hla:way[i]=a at *
     obtain ⟨x,h0,hx,hfi,hnx,hor⟩:=he.inv
     have htk:folW n d (way.take (i+1))=fstep d ⟨s,m⟩ a:=by
      rw [List.take_add_one,List.getElem?_eq_getElem hlt,hla,folW,List.foldl_append]
      show fstep d (folW n d (way.take i)) a=_
      rw [←hf]
     have hsl:s.toNat<d.states.length:=(List.getElem?_eq_some_iff.1 hx).1
     refine ⟨fun _=>⟨h0,by dsimp only; simp; omega⟩,oSta x,fun _=>by simp [hx],?_⟩
     obtain ⟨nm,fi,op,wt,lt,gv⟩:=x
     dsimp only at hor
     cases gv
     all_goals
      refine ⟨I a,fun _=>⟨by omega,by simp [hlt,hla]⟩,fun h=>?_,fun h=>?_⟩
      ·have ha:a=-1:=by simpa using h
       clear h
       obtain ⟨o,h1,-⟩ | ⟨-,hwt,hu⟩:=hor
       ·omega
       ·refine ⟨fun _=>⟨by dsimp only; omega,by dsimp only; omega⟩,⟨i+1,⟨u,m⟩⟩,⟨⟨rf,rf,rfl,rfl,le_int hu,le_int (by simp),tv⟩,⟨⟨rfl,rfl⟩,⟨rf,rf,rfl,tv⟩,⟨rfl,rfl⟩,tv⟩,rfl,rfl⟩,⟨by dsimp only; omega,?_,hq,hr.mono (by dsimp only; omega)⟩,by dsimp only; omega⟩
        dsimp only
        rw [htk]
        simp [fstep,hx,ha,hu]
      ·have ha:a ≠ -1:=by simpa using h
       clear h
       obtain ⟨o,h1,ho,hu⟩ | ⟨hm,-⟩:=hor
       ·refine ⟨I a,fun _=>⟨by omega,by simp [hlt,hla]⟩,eOpt o,fun _=>⟨h1,by simp [ho]⟩,by kernel_rfl,?_⟩
        have hoo:=hok.opt _ (List.mem_of_getElem? hx) o (List.mem_of_getElem? ho)
        obtain ⟨hp0,hp1,hpl,hpa⟩:=hoo
        refine ⟨FkI,fun z=>⟨5,[(0,.dv (I n)),(2,.dv (Ints way)),(4,.ptr 1 0),(7,.own 2 0 0 []),(9,.dv (I s)),(10,.dv (I i)),(12,.ptr 4 0),(13,.dv (I z.k))],[(0,tS d.states),(1,.cells (dAc d 0)),(2,.tree 0 0 (.osl 1 (z.m.map oRow))),(4,.cells (dvs (eOpt o).cells))]⟩,fun z=>z.k≤o.put.length∧z.m=putAll m o.party (o.put.take z.k)∧Rect d.parties.length n (i * 1099511627776000+z.k * 1099511627776) z.m,fun z=>o.put.length - z.k,⟨0,m⟩,fun _=>rfl,?_,?_,?_⟩
        ·exact ⟨⟨rf,rf,rfl,rfl,rf,rf,rfl,rf,tv⟩,⟨⟨rfl,rfl⟩,⟨rf,rf,rfl,tv⟩,⟨rfl,rfl⟩,subWs_dvs _ _ _ (eOpt o).cells,tv⟩,rfl,rfl⟩
        ·exact ⟨by simp,rfl,hr.mono (by simp)⟩
        ·rintro ⟨k,m'⟩ ⟨hk,hm',hr'⟩
         dsimp only at hk hm' hr'
         refine ⟨fun h=>?_,fun h=>?_⟩
         ·have hk:k<o.put.length:=by simpa using h
          have hpt:o.party.toNat<m'.length:=by rw [hr'.len]; omega
          generalize hrw:m'[o.party.toNat]=row
          have hrow:m'[o.party.toNat]?=some row:=by rw [List.getElem?_eq_getElem hpt,hrw]
          have hrl:=hr'.row row (List.mem_of_getElem? hrow)
          generalize hpa':o.put[k]=am
          have hpk:o.put[k]?=some am:=by rw [List.getElem?_eq_getElem hk,hpa']
          obtain ⟨ha1,ha2,ha3,ha4⟩:=hpa am (List.mem_of_getElem? hpk)
          have hit:am.1.toNat<row.length:=by omega
          generalize hre:row[am.1.toNat]=el
          have hel:row[am.1.toNat]?=some el:=by rw [List.getElem?_eq_getElem hit,hre]
          have hbd:=hr'.bd row (List.mem_of_getElem? hrow) el (List.mem_of_getElem? hel)
          have hdl:d.parties.length=m'.length:=hr'.len.symm
          refine ⟨fun _=>⟨hp0,by dsimp only; simp; omega⟩,oRow row,fun _=>by simp [hrow],?_⟩
          refine ⟨eAmt am,fun _=>⟨by dsimp only; omega,by simp [hpk]⟩,?_⟩
          refine ⟨fun _=>⟨hp0,by dsimp only; simp; omega⟩,oRow row,fun _=>by simp [hrow],?_⟩
          refine ⟨eAmt am,fun _=>⟨by dsimp only; omega,by simp [hpk]⟩,?_⟩
          refine ⟨oRow row,fun _=>by simp [hrow],fun _=>⟨ha1,by simp; omega⟩,?_⟩
          refine ⟨oRow row,fun _=>by simp [hrow],I el,fun _=>by simp [hel],?_⟩
          refine ⟨eAmt am,fun _=>⟨by dsimp only; omega,by simp [hpk]⟩,fun _=>⟨by omega,by omega⟩,?_⟩
          refine ⟨oRow row,fun _=>by simp [hrow],fun _=>⟨ha1,by simp; omega⟩,?_⟩
          refine ⟨[I (el+am.2)],⟨rf,tv⟩,oRow row,fun _=>by simp [hrow],I el,by simp [hel],oRow row,by simp [hrow],by kernel_rfl,?_⟩
          refine ⟨fun _=>⟨by dsimp only; omega,by dsimp only; omega⟩,⟨k+1,addAt m' o.party.toNat am.1.toNat am.2⟩,⟨⟨rf,rf,rfl,rfl,rf,rf,rfl,le_int (by simp),tv⟩,⟨⟨rfl,rfl⟩,⟨rf,rf,rfl,tv⟩,⟨rfl,?_⟩,subWs_dvs _ _ _ (eOpt o).cells,tv⟩,rfl,rfl⟩,⟨by dsimp only; omega,?_,(hr'.add ha3 _ _).mono (by dsimp only; omega)⟩,by dsimp only; omega⟩
          ·exact congrArg (DV.osl 1) (addAt_map hrow hel)
          ·dsimp only
           rw [List.take_add_one,hpk,putAll,List.foldl_append]
           show _=addAt (putAll m o.party (o.put.take k)) _ _ _
           rw [←hm']
         ·have hkk:k=o.put.length:=by
           have:¬ k<o.put.length:=by simpa using h
           omega
          subst hkk
          rw [List.take_length] at hm'
          refine ⟨fun _=>⟨by omega,by omega⟩,⟨i+1,⟨u,m'⟩⟩,⟨⟨rf,rf,rfl,rfl,le_int hu,le_int (by simp),tv⟩,⟨⟨rfl,rfl⟩,⟨rf,rf,rfl,tv⟩,⟨rfl,rfl⟩,tv⟩,rfl,rfl⟩,⟨by dsimp only; omega,?_,hq,hr'.mono (by dsimp only; omega)⟩,by dsimp only; omega⟩
          dsimp only
          rw [htk]
          simp [fstep,hx,ha,ho,hu,hm']
       ·omega
    ·have hin:i=way.length:=by
      have:¬ i<way.length:=by simpa using h
      omega
     subst hin
     rw [List.take_length] at hf
     refine ⟨_,_,⟨rfl,rfl⟩,rfl,⟨DV.Le.of_eq ?_,tv⟩,⟨rfl,rfl⟩,tv⟩
     show DV.sl 1 (fzL (m.map oRow))=.sl 1 ((folW n d way).m.map Ints)
     rw [←hf,fzL_eq,List.map_map]
     congr 1
     refine List.map_congr_left fun r _=>?_
     show DV.sl 1 (fzL (r.map I))=_
     rw [fzL_map fun _=>rfl]
end Go.Proofs.Ytfcfbfkjdenpdaa
namespace Go.Proofs.Ytfcfbfkjdenpdaa
open Go.TM
theorem fol_rect {p n:Nat} {d:Dea} (hok:OptOk p n d):∀(way:List Int) (f:FolS) (b:Int),Rect p n b f.m→Rect p n (b+way.length * 1099511627776000) (way.foldl (fstep d) f).m
 | [],f,b,h=>h.mono (by simp)
 | a::way,f,b,h=>by
  have h1:Rect p n (b+1099511627776000) (fstep d f a).m:=by
   unfold fstep
   split
   ·exact h.mono (by omega)
   ·rename_i x hx
    split
    ·exact h.mono (by omega)
    ·split
     ·exact h.mono (by omega)
     ·rename_i o ho
      obtain ⟨-,-,hl,ha⟩:=hok.opt x (List.mem_of_getElem? hx) o (List.mem_of_getElem? ho)
      exact (Rect.puts (m:=f.m) o.party o.put h fun a ha'=>⟨(ha a ha').2.2.1,(ha a ha').2.2.2⟩).mono (by omega)
  exact (fol_rect hok way _ _ h1).mono (by simp only [List.length_cons]; omega)
theorem folM_rect {n:Nat} {d:Dea} (hok:OptOk d.parties.length n d) (way:List Int):Rect d.parties.length n (way.length * 1099511627776000) (folM n d way) :=
 (fol_rect hok way _ 0 (rect_z _ _)).mono (by omega)
def Eqv (ss tt:List Sta):Prop:=tt.map strip=ss.map strip
theorem Eqv.len {ss tt:List Sta} (h:Eqv ss tt):tt.length=ss.length:=by simpa using congrArg List.length h
theorem Eqv.get {ss tt:List Sta} (h:Eqv ss tt) (i:Nat):(tt[i]?).map strip=(ss[i]?).map strip:=by rw [←List.getElem?_map,←List.getElem?_map,h]
theorem Eqv.some {ss tt:List Sta} (h:Eqv ss tt) {i:Nat} {x:Sta} (hx:ss[i]?=some x):∃y,tt[i]?=Option.some y∧strip y=strip x:=by
 have:=h.get i
 rw [hx] at this
 cases ht:tt[i]? with
 | none=>rw [ht] at this; simp at this
 | some y=>rw [ht] at this; simp at this; exact ⟨y,rfl,this⟩
theorem Eqv.none {ss tt:List Sta} (h:Eqv ss tt) {i:Nat} (hx:ss[i]?=Option.none):tt[i]?=Option.none:=by
 have:=h.get i
 rw [hx] at this
 cases ht:tt[i]? with
 | none=>rfl
 | some y=>rw [ht] at this; simp at this
theorem strip_fields {x y:Sta} (h:strip y=strip x):y.final=x.final∧y.opts=x.opts∧y.wait=x.wait∧y.late=x.late∧y.name=x.name:=by
 simp only [strip,Sta.mk.injEq] at h
 exact ⟨h.2.1,h.2.2.1,h.2.2.2.1,h.2.2.2.2.1,h.1⟩
theorem Eqv.symm {ss tt:List Sta} (h:Eqv ss tt):Eqv tt ss:=Eq.symm h
theorem okNext_eqv {nm:ByteArray} {ps:List ByteArray} {ss tt:List Sta} (h:Eqv ss tt) (i:Int):okNext ⟨nm,ps,tt⟩ i=okNext ⟨nm,ps,ss⟩ i:=by simp only [okNext,h.len]
theorem fstep_eqv {nm:ByteArray} {ps:List ByteArray} {ss tt:List Sta} (h:Eqv ss tt) (f:FolS) (a:Int):fstep ⟨nm,ps,tt⟩ f a=fstep ⟨nm,ps,ss⟩ f a:=by
 unfold fstep
 dsimp only
 cases hx:ss[f.s.toNat]? with
 | none=>rw [h.none hx]
 | some x =>
  obtain ⟨y,hy,hs⟩:=h.some hx
  obtain ⟨-,h2,-,h4,-⟩:=strip_fields hs
  rw [hy]; simp only [h2,h4]
theorem folM_eqv {nm:ByteArray} {ps:List ByteArray} {ss tt:List Sta} (h:Eqv ss tt) (n:Nat) (way:List Int):folM n ⟨nm,ps,tt⟩ way=folM n ⟨nm,ps,ss⟩ way:=by
 unfold folM folW
 have:fstep ⟨nm,ps,tt⟩=fstep ⟨nm,ps,ss⟩:=by funext f a; exact fstep_eqv h f a
 rw [this]
theorem edge_eqv {nm:ByteArray} {ps:List ByteArray} {ss tt:List Sta} (h:Eqv ss tt) {s a u:Int} (e:Edge ⟨nm,ps,ss⟩ s a u):Edge ⟨nm,ps,tt⟩ s a u:=by
 cases e with
 | opt x k o h0 hx hf ho hn =>
  obtain ⟨y,hy,hs⟩:=h.some hx
  obtain ⟨h1,h2,-,-,-⟩:=strip_fields hs
  exact .opt s y k o h0 hy (by rw [h1,hf]) (by rw [h2,ho]) (by rw [okNext_eqv h,hn])
 | late x h0 hx hf hw hn =>
  obtain ⟨y,hy,hs⟩:=h.some hx
  obtain ⟨h1,-,h3,h4,-⟩:=strip_fields hs
  rw [←h4]
  exact .late s y h0 hy (by rw [h1,hf]) (by rw [h3]; exact hw) (by rw [okNext_eqv h,h4,hn])
theorem path_eqv {nm:ByteArray} {ps:List ByteArray} {ss tt:List Sta} (h:Eqv ss tt) {s u:Int} {w:List Int} (e:Path ⟨nm,ps,ss⟩ s w u):Path ⟨nm,ps,tt⟩ s w u:=by
 induction e with
 | nil s=>exact .nil s
 | cons e _ ih=>exact .cons (edge_eqv h e) ih
theorem mem_eqv {ss tt:List Sta} (h:Eqv ss tt) {y:Sta} (hy:y∈tt):∃x,x∈ss∧strip y=strip x:=by
 obtain ⟨i,hi⟩:=List.getElem?_of_mem hy
 obtain ⟨x,hx,hs⟩:=h.symm.some hi
 exact ⟨x,List.mem_of_getElem? hx,hs.symm⟩
theorem optOk_eqv {nm:ByteArray} {ps:List ByteArray} {ss tt:List Sta} {p n:Nat} (h:Eqv ss tt) (hok:OptOk p n ⟨nm,ps,ss⟩):OptOk p n ⟨nm,ps,tt⟩:=⟨fun y hy o ho=>by
 obtain ⟨x,hx,hs⟩:=mem_eqv h hy
 rw [(strip_fields hs).2.1] at ho
 exact hok.opt x hx o ho⟩
def gv3 (l:List Int) (s p:Int) (row:List Int):Nat→List Giv
 | 0=>[]
 | k+1=>gv3 l s p row k++(match row[k]? with | some e=>if 0<e∧0<pick l (31+s) 19 then [⟨p,k,e⟩] else [] | none=>[])
def gvP (l:List Int) (s turn:Int) (m:Rows):Nat→List Giv
 | 0=>[]
 | p+1=>gvP l s turn m p++(match m[((p+turn).tmod m.length).toNat]? with | some row=>gv3 l s p row 3 | none=>[])
def gvTurn (l:List Int) (d:Dea) (s:Int):Int:=(pick l (30+s) 4).tmod d.parties.length
def gvAdd (ss:List Sta) (s:Nat) (g:List Giv):List Sta:=match ss[s]? with
 | some x=>ss.set s { x with gives:=x.gives++g }
 | none=>ss
def gvRound (l:List Int) (d:Dea) (ss:List Sta) (s:Int) (way:List Int):List Sta:=match d.states[s.toNat]? with
 | some x=>if x.final then gvAdd ss s.toNat (gvP l s (gvTurn l d s) (folM 3 d way) d.parties.length) else ss
 | none=>ss
def gvAt (l:List Int) (d:Dea):Nat→List Sta
 | 0=>d.states
 | i+1=>match (disc d).order[i]?,(disc d).ways[i]? with
  | some s,some w=>gvRound l d (gvAt l d i) s w
  | _,_=>gvAt l d i
def givD (l:List Int) (d:Dea):Dea:=⟨d.name,d.parties,gvAt l d (disc d).order.length⟩
def tch (ss:List Sta):Bool:=ss.any fun x=>!x.gives.isEmpty
theorem tch_false {ss:List Sta} (h:tch ss=false) {s:Nat} {x:Sta} (hx:ss[s]?=some x):x.gives=[]:=by
 unfold tch at h
 rw [List.any_eq_false] at h
 have:=h x (List.mem_of_getElem? hx)
 simpa using this
theorem gvAdd_nil (ss:List Sta) (s:Nat):gvAdd ss s []=ss:=by
 unfold gvAdd
 split
 ·rename_i x hx
  rw [List.append_nil]
  exact List.ext_getElem? fun i=>by
   rw [List.getElem?_set]
   split
   ·rename_i e; subst e
    have:=(List.getElem?_eq_some_iff.1 hx).1
    rw [if_pos this,hx]
   ·rfl
 ·rfl
theorem gvAdd_get {ss:List Sta} {s:Nat} {x:Sta} (hx:ss[s]?=some x) (g:List Giv):(gvAdd ss s g)[s]?=some { x with gives:=x.gives++g }:=by
 have hl:=(List.getElem?_eq_some_iff.1 hx).1
 unfold gvAdd
 rw [hx]
 simp only []
 rw [List.getElem?_set,if_pos rfl,if_pos hl]
theorem gvAdd_add (ss:List Sta) (s:Nat) (g h:List Giv):gvAdd (gvAdd ss s g) s h=gvAdd ss s (g++h):=by
 cases hx:ss[s]? with
 | none=>simp [gvAdd,hx]
 | some x =>
  have h1:=gvAdd_get hx g
  have h2:gvAdd ss s g=ss.set s { x with gives:=x.gives++g }:=by unfold gvAdd; rw [hx]
  have h3:gvAdd ss s (g++h)=ss.set s { x with gives:=x.gives++(g++h) }:=by unfold gvAdd; rw [hx]
  have h4:gvAdd (gvAdd ss s g) s h=(gvAdd ss s g).set s { x with gives:=(x.gives++g)++h }:=by
   generalize gvAdd ss s g=tt at *
   unfold gvAdd; rw [h1]
  rw [h4,h3,h2,List.set_set,List.append_assoc]
theorem gvAdd_eqv (ss:List Sta) (s:Nat) (g:List Giv):Eqv ss (gvAdd ss s g):=by
 unfold gvAdd Eqv
 split
 ·rename_i x hx
  rw [List.map_set]
  refine List.ext_getElem? fun i=>?_
  rw [List.getElem?_set]
  split
  ·rename_i e; subst e
   have:=(List.getElem?_eq_some_iff.1 hx).1
   rw [List.length_map,if_pos this,List.getElem?_map,hx]
   rfl
  ·rfl
 ·rfl
theorem gvAdd_tch {ss:List Sta} {s:Nat} {x:Sta} (hx:ss[s]?=some x) {g:List Giv} (hg:g ≠ []):tch (gvAdd ss s g)=true:=by
 unfold tch
 rw [List.any_eq_true]
 exact ⟨_,List.mem_of_getElem? (gvAdd_get hx g),by simp [hg]⟩
theorem Eqv.trans {a b c:List Sta} (h:Eqv a b) (g:Eqv b c):Eqv a c:=Eq.trans g h
theorem gvRound_eqv (l:List Int) (d:Dea) (ss:List Sta) (s:Int) (way:List Int):Eqv ss (gvRound l d ss s way):=by
 unfold gvRound
 split
 ·split
  ·exact gvAdd_eqv _ _ _
  ·rfl
 ·rfl
theorem gvAt_eqv (l:List Int) (d:Dea):∀i,Eqv d.states (gvAt l d i)
 | 0=>rfl
 | i+1=>by
  simp only [gvAt]
  split
  ·exact (gvAt_eqv l d i).trans (gvRound_eqv _ _ _ _ _)
  ·exact gvAt_eqv l d i
end Go.Proofs.Ytfcfbfkjdenpdaa
