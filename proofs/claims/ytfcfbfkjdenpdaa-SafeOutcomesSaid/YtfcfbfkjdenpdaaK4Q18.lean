import Derived.Test.YtfcfbfkjdenpdaaK4Q17
import Derived.Test.YtfcfbfkjdenpdaaK4Q16
import Derived.Test.YtfcfbfkjdenpdaaK4Q13
import Derived.Test.YtfcfbfkjdenpdaaK4R6
set_option linter.unusedVariables false
set_option linter.unusedSimpArgs false
set_option linter.unusedSectionVars false
namespace Go.Proofs.Ytfcfbfkjdenpdaa
open Go.TM
theorem S_bd {f:Nat→Int} {lo hi:Int}:∀{k:Nat},(∀i,i<k→lo≤f i∧f i≤hi)→k * lo≤S f k∧S f k≤k * hi
 | 0,_=>by simp [S]
 | k+1,h=>by
  have h1:=S_bd (k:=k) fun i hi=>h i (by omega)
  have h2:=h k (by omega)
  rw [S]
  have e1:((k+1:Nat):Int) * lo=k * lo+lo:=by rw [Int.natCast_add,Int.add_mul]; simp
  have e2:((k+1:Nat):Int) * hi=k * hi+hi:=by rw [Int.natCast_add,Int.add_mul]; simp
  omega
structure OlOk (n:Nat) (fine:Bool) (L:List Rows):Prop where
 len:L.length≤12
 row:∀R,R∈L→∃P,P≤4∧OuOk n P R∧(fine=true→∀it,it<n→S (fun p=>(R.getD p []).getD it 0) P=0)
theorem outs_ok (n:Nat) (d:Dea) (hs:Parts d) (h12:d.states.length≤12):OlOk n (decide ((checkF n d).code=0)) (outsF n d).1:=by
 unfold outsF
 split
 ·rename_i hc
  obtain ⟨hn0,hwf⟩:=malf_none hs (analyze_code hc)
  rw [Int.toNat_natCast] at hwf ⊢
  refine ⟨by have:=ouTo_len n d d.states.length; dsimp only; omega,fun R hR=>?_⟩
  obtain ⟨i,x,v,hx,hv,hf,rfl⟩:=ouTo_mem hR
  exact ⟨_,hwf.p4,ouRows_ok hs hwf hx hv,fun h it hi=>check_even hs hwf (of_decide_eq_true h) hx hv hf it hi⟩
 ·exact ⟨by simp,fun R hR=>by simp at hR⟩
set_option maxRecDepth 100000 in
set_option maxHeartbeats 4000000 in
theorem outcomes_spec (l:List Int) (hl:∀x,x∈l→InI x) (a b n:Int) (ha:InI a) (hb:InI b) (hn:InI n):PSpec Try.prog 6 [Ints l,I a,I b,I n] [B true]:=by
 refine pspec_of tab_ok mixed (calls_snd _) (range_snd _) Try.func6 rfl (by kernel_rfl) rfl ?_
 refine .inl ⟨_,fun _=>(deals_spec l hl a b n ha hb hn).ok,?_⟩
 have hpt:=dealsOf_parts l a b n
 have hsz:=dealsOf_sz l a b n
 have hle:=dealsOf_len l a b n
 have hal:(dealsOf l a b n).length=4:=rfl
 generalize dealsOf l a b n=all at *
 refine ⟨Nat,fun i=>⟨0,[(9,.dv (.sl 3 (all.map eDea))),(10,.dv (I i))],[]⟩,fun i=>i≤4,fun i=>4 - i,0,fun _=>rfl,⟨⟨rf,rf,tv⟩,tv,rfl,rfl⟩,by omega,?_⟩
 intro i hi
 refine ⟨fun h=>?_,fun h=>?_⟩
 ·have hlt:i<all.length:=by simpa using h
  clear h
  generalize hd':all[i]=d at *
  have hdi:all[i]?=some d:=by rw [List.getElem?_eq_getElem hlt,hd']
  have hmem:=List.mem_of_getElem? hdi
  have hs:=hsz d hmem
  have hp:=hpt d hmem
  have h12:=hle d hmem
  have hdd:true=true→0≤(i:Int)∧(all.map eDea)[((i:Int)).toNat]?=some (eDea d):=fun _=>⟨by omega,by simp [hdi]⟩
  have hok:=outs_ok 5 d hp h12
  have hso:=sOuts_spec 5 d hp h12
  have hro:=Outs_spec 5 d hp
  have hch:=sCheck_spec 5 d hp
  have hok:OlOk 5 (decide ((checkF 5 d).code=0)) (outsF 5 d).1:=hok
  generalize outsF 5 d=OF at *
  obtain ⟨L,e⟩:=OF
  dsimp only at hok
  generalize checkF 5 d=f at *
  refine ⟨eDea d,hdd,.inl ⟨_,fun _=>(lgiven_spec d hs).ok,.inl ⟨_,fun _=>hso.ok,?_⟩⟩⟩
  refine ⟨eDea d,hdd,.inl ⟨_,fun _=>hro.ok,?_⟩⟩
  refine ⟨id,id,id,id,fun _ h=>bw_f h,fun h=>?_,fun _=>?_⟩
  ·exfalso
   have h:(bif e != e then true else ((L.map eRows).length:Int) != (L.map eRows).length)=true:=h
   simp at h
  refine ⟨eDea d,hdd,.inl ⟨_,fun _=>(lgiven_spec d hs).ok,.inl ⟨_,fun _=>hch.ok,?_⟩⟩⟩
  have hfe:decide (f.code=0)=(f.code == 0):=rfl
  rw [hfe] at hok
  have hll:=hok.len
  refine ⟨Nat,fun k=>⟨0,[(9,.dv (.sl 3 (all.map eDea))),(10,.dv (I i)),(11,.dv (.sl 1 (L.map eRows))),(13,.dv (.sl 1 (L.map eRows))),(15,.dv (B (f.code == 0))),(16,.dv (I k))],[]⟩,fun k=>k≤L.length,fun k=>L.length - k,0,fun _=>rfl,⟨⟨rf,rf,rf,rf,rf,rf,tv⟩,tv,rfl,rfl⟩,by omega,?_⟩
  intro k hk
  refine ⟨fun h=>?_,fun h=>?_⟩
  ·have hkl:k<L.length:=by simpa using h
   clear h
   generalize hR':L[k]=R at *
   have hRk:L[k]?=some R:=by rw [List.getElem?_eq_getElem hkl,hR']
   obtain ⟨P,hP,hR,hz⟩:=hok.row R (List.mem_of_getElem? hRk)
   have hRl:=hR.len
   have hRi:true=true→0≤(k:Int)∧(L.map eRows)[((k:Int)).toNat]?=some (eRows R):=fun _=>⟨by omega,by simp [hRk]⟩
   refine ⟨eRows R,hRi,eRows R,hRi,.inl ⟨_,fun _=>(lists_spec R (by omega) (fun r hr=>by have:=(hR.row r hr).len; omega)).ok,by kernel_rfl,(fun h=>by cases h),fun _=>?_⟩⟩
   generalize (f.code == 0)=fine at *
   refine ⟨Nat,fun it=>⟨0,[(9,.dv (.sl 3 (all.map eDea))),(10,.dv (I i)),(11,.dv (.sl 1 (L.map eRows))),(13,.dv (.sl 1 (L.map eRows))),(15,.dv (B fine)),(16,.dv (I k)),(17,.dv (I it))],[]⟩,fun it=>it≤5,fun it=>5 - it,0,fun _=>rfl,⟨⟨rf,rf,rf,rf,rf,rf,rf,tv⟩,tv,rfl,rfl⟩,by omega,?_⟩
   intro it hit
   refine ⟨fun _ h=>bw_t h,fun h=>?_,fun h=>?_⟩
   ·obtain ⟨h1,h2⟩:=bif_t h
    have hi5:it<5:=by
     have:(it:Int)<5:=of_decide_eq_true h1
     omega
    subst h2
    clear h h1
    have hz:=hz rfl it hi5
    have hrow:∀p,p<P→∃r e,R[p]?=some r∧r[it]?=some e∧(R.getD p []).getD it 0=e∧-1099511627776000000≤e∧e≤109951162777600000:=fun p hp=>by
     obtain ⟨r,hr⟩:∃r,R[p]?=some r:=⟨_,List.getElem?_eq_getElem (by omega)⟩
     have hrb:=hR.row r (List.mem_of_getElem? hr)
     obtain ⟨e,he⟩:∃e,r[it]?=some e:=⟨_,List.getElem?_eq_getElem (by have:=hrb.len; omega)⟩
     have heb:=hrb.bd e (List.mem_of_getElem? he)
     exact ⟨r,e,hr,he,by simp [List.getD_eq_getElem?_getD,hr,he],heb.1,heb.2⟩
    have hbd:∀p,p≤P→-4398046511104000000≤S (fun p=>(R.getD p []).getD it 0) p∧S (fun p=>(R.getD p []).getD it 0) p≤439804651110400000:=fun p hp=>by
     have:=S_bd (k:=p) (f:=fun p=>(R.getD p []).getD it 0) (lo:=-1099511627776000000) (hi:=109951162777600000) (fun q hq=>by
      obtain ⟨r,e,-,-,h3,h4,h5⟩:=hrow q (by omega)
      rw [h3]; exact ⟨h4,h5⟩)
     omega
    refine ⟨Nat,fun p=>⟨0,[(9,.dv (.sl 3 (all.map eDea))),(10,.dv (I i)),(11,.dv (.sl 1 (L.map eRows))),(13,.dv (.sl 1 (L.map eRows))),(15,.dv (B true)),(16,.dv (I k)),(17,.dv (I it)),(18,.dv (I (S (fun p=>(R.getD p []).getD it 0) p))),(19,.dv (I p))],[]⟩,fun p=>p≤P,fun p=>P - p,0,fun _=>rfl,⟨⟨rf,rf,rf,rf,rf,rf,rf,rf,rf,tv⟩,tv,rfl,rfl⟩,by omega,?_⟩
    intro p hp
    refine ⟨eRows R,hRi,fun h=>?_,fun h=>?_⟩
    ·have hpl:p<P:=by
      have h:decide ((p:Int)<((R.map Ints).length:Int))=true:=h
      have h:=of_decide_eq_true h
      simp at h
      omega
     clear h
     obtain ⟨r,e',hr,he,hge,hlo,hhi⟩:=hrow p hpl
     have hb1:=hbd p hp
     have hsu:S (fun p=>(R.getD p []).getD it 0) (p+1)=S (fun p=>(R.getD p []).getD it 0) p+e':=by rw [S,hge]
     refine ⟨eRows R,hRi,Ints r,fun _=>⟨by omega,by simp [hr]⟩,I e',fun _=>⟨by omega,by simp [he]⟩,fun _=>⟨by omega,by omega⟩,?_⟩
     exact ⟨fun _=>⟨by omega,by omega⟩,p+1,⟨⟨rf,rf,rf,rf,rf,rf,rf,le_int (by rw [hsu]),le_int (by omega),tv⟩,tv,rfl,rfl⟩,by dsimp only; omega,by dsimp only; omega⟩
    ·have hpe:p=P:=by
      have h:decide ((p:Int)<((R.map Ints).length:Int))=false:=h
      have h:=of_decide_eq_false h
      simp at h
      omega
     subst hpe
     rw [hz]
     refine ⟨(fun h=>by cases h),fun _=>?_⟩
     exact ⟨fun _=>⟨by omega,by omega⟩,it+1,⟨⟨rf,rf,rf,rf,rf,rf,le_int (by omega),tv⟩,tv,rfl,rfl⟩,by dsimp only; omega,by dsimp only; omega⟩
   ·exact ⟨fun _=>⟨by omega,by omega⟩,k+1,⟨⟨rf,rf,rf,rf,rf,le_int (by omega),tv⟩,tv,rfl,rfl⟩,by dsimp only; omega,by dsimp only; omega⟩
  ·exact ⟨fun _=>⟨by omega,by omega⟩,i+1,⟨⟨rf,le_int (by omega),tv⟩,tv,rfl,rfl⟩,by dsimp only; omega,by dsimp only; omega⟩
 ·exact .inl ⟨_,fun _=>lives_spec.ok,rf,tv⟩
end Go.Proofs.Ytfcfbfkjdenpdaa
