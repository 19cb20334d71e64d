import Derived.Test.YtfcfbfkjdenpdaaK3Q1
set_option linter.unusedVariables false
set_option linter.unusedSimpArgs false
set_option linter.unusedSectionVars false
namespace Go.Proofs.Ytfcfbfkjdenpdaa
open Go.TM
def addRow (acc r:List Int):List Int:=List.zipWith (·+·) acc r
def addTo (acc r:List Int) (i:Nat):List Int:=(addRow acc r).take i++acc.drop i
def sumR (n:Nat) (m:Rows):List Int:=m.foldl addRow (List.replicate n 0)
theorem addTo_zero (acc r:List Int):addTo acc r 0=acc:=by simp [addTo]
theorem addRow_len {acc r:List Int} (h:acc.length=r.length):(addRow acc r).length=acc.length:=by simp [addRow,h]
theorem addTo_len {acc r:List Int} (h:acc.length=r.length) (i:Nat) (hi:i≤acc.length):(addTo acc r i).length=acc.length:=by
 simp [addTo,addRow,h]; omega
theorem addTo_end {acc r:List Int} (h:acc.length=r.length):addTo acc r acc.length=addRow acc r:=by
 unfold addTo
 rw [List.take_of_length_le (by rw [addRow_len h]; omega)]; simp
theorem addTo_at {acc r:List Int} (h:acc.length=r.length) {i:Nat} {e:Int} (he:acc[i]?=some e):(addTo acc r i)[i]?=some e:=by
 have hi:i<acc.length:=(List.getElem?_eq_some_iff.1 he).1
 unfold addTo
 have hl:((addRow acc r).take i).length=i:=by rw [List.length_take,addRow_len h]; omega
 rw [List.getElem?_append_right (by omega),hl]
 simp [he]
theorem addTo_set {acc r:List Int} (h:acc.length=r.length) {i:Nat} {e f:Int} (he:acc[i]?=some e) (hf:r[i]?=some f):(addTo acc r i).set i (e+f)=addTo acc r (i+1):=by
 have hi:i<acc.length:=(List.getElem?_eq_some_iff.1 he).1
 have hl:((addRow acc r).take i).length=i:=by rw [List.length_take,addRow_len h]; omega
 have hz:(addRow acc r)[i]?=some (e+f):=by simp [addRow,List.getElem?_zipWith,he,hf]
 unfold addTo
 rw [List.set_append_right _ _ (by omega),hl,List.take_add_one,hz,List.append_assoc]
 have hd:=List.drop_eq_getElem_cons hi
 simp only [Nat.sub_self]
 rw [hd,List.set_cons_zero]
 rfl
structure RowOk (n:Nat) (b:Int) (r:List Int):Prop where
 len:r.length=n
 bd:∀e,e∈r→0≤e∧e≤b
theorem rowOk_add {n:Nat} {b c:Int} {acc r:List Int} (h:RowOk n b acc) (k:RowOk n c r):RowOk n (b+c) (addRow acc r):=by
 refine ⟨by rw [addRow_len (by rw [h.len,k.len]),h.len],fun e he=>?_⟩
 obtain ⟨i,hi⟩:=List.getElem?_of_mem he
 unfold addRow at hi
 rw [List.getElem?_zipWith] at hi
 cases ha:acc[i]? with
 | none=>rw [ha] at hi; cases hi
 | some x =>
  cases hr:r[i]? with
  | none=>rw [ha,hr] at hi; cases hi
  | some y =>
   rw [ha,hr] at hi
   simp at hi
   have h1:=h.bd x (List.mem_of_getElem? ha)
   have h2:=k.bd y (List.mem_of_getElem? hr)
   omega
theorem Rect.at {p n:Nat} {b:Int} {m:Rows} (h:Rect p n b m) {r:List Int} (hr:r∈m):RowOk n b r:=⟨h.row r hr,h.bd r hr⟩
structure SuI where
 p:Nat
 acc:List Int
structure SvI where
 i:Nat
 cur:List Int
theorem analyze_code {n:Int} {d:Dea} (h:(analyze n d).code=0):malf n d=none:=by
 unfold analyze at h
 cases hm:malf n d with
 | none=>rfl
 | some s=>rw [hm] at h; simp at h
end Go.Proofs.Ytfcfbfkjdenpdaa
namespace Go.Proofs.Ytfcfbfkjdenpdaa
open Go.TM
theorem clone_spec (l:List Int) (hl:l.length≤1000):CSpec Try.prog 81 [.dv (Ints l)] 0 [] 1 [.own 0 0 0 []] [(0,.tree 0 0 (.osl 1 (l.map I)))]:=by
 refine cspec_of tab_ok mixed (calls_snd _) (range_snd _) Try.func81 rfl rfl (by kernel_rfl) ?_
 cases l with
 | nil =>
  refine .inl ⟨?_,?_⟩
  ·exact ⟨_,_,⟨rfl,rfl⟩,rfl,⟨⟨rfl,rfl,rfl,rfl,1,rfl⟩,tv⟩,⟨rfl,rfl,1,rfl⟩,tv⟩
  ·refine .inr (.inl ⟨[],rfl,tv,(fun x hx=>by cases hx),.inr ⟨[],tv,by simp,by simp,?_⟩⟩)
   exact ⟨_,_,⟨rfl,rfl⟩,rfl,⟨rfl,tv⟩,⟨rfl,rfl⟩,tv⟩
 | cons x l =>
  refine .inr ⟨by simp,(fun h=>by cases h),fun _=>?_⟩
  refine .inr (.inl ⟨[],rfl,tv,(fun x hx=>by cases hx),.inr ⟨(x::l).map I,ELes.refl _,by rw [by22]; simp at hl ⊢; omega,by simp at hl ⊢; omega,?_⟩⟩)
  exact ⟨_,_,⟨rfl,rfl⟩,rfl,⟨rfl,tv⟩,⟨rfl,rfl⟩,tv⟩
theorem equal_spec (a b:List Int) (hl:a.length≤1000000000000):PSpec Try.prog 60 [Ints a,Ints b] [B (a == b)]:=by
 refine pspec_of tab_ok mixed (calls_snd _) (range_snd _) Try.func60 rfl (by kernel_rfl) rfl ?_
 refine ⟨fun h=>?_,fun h=>?_⟩
 ·refine ⟨DV.Le.of_eq ?_,tv⟩
  have hne:a.length ≠ b.length:=by
   intro e
   simp [e] at h
  have:(a == b)=false:=by
   rw [beq_eq_false_iff_ne]
   intro e; exact hne (by rw [e])
  rw [this]
 ·have he:a.length=b.length:=by
   simp at h; omega
  refine ⟨Nat,fun k=>⟨0,[(0,.dv (Ints a)),(1,.dv (Ints b)),(12,.dv (I a.length)),(13,.dv (I k))],[]⟩,fun k=>k≤a.length∧∀i<k,a[i]?=b[i]?,fun k=>a.length - k,0,fun _=>rfl,⟨⟨rf,rf,le_int (by simp),rf,tv⟩,tv,rfl,rfl⟩,⟨by omega,by omega⟩,?_⟩
  rintro k ⟨hk1,hk2⟩
  refine ⟨fun h=>?_,fun h=>?_⟩
  ·have hk:k<a.length:=by
    have:(k:Int)<a.length:=of_decide_eq_true h
    omega
   refine ⟨I a[k],fun _=>⟨by omega,by simp⟩,I (b[k]'(by omega)),fun _=>⟨by omega,by simp⟩,by kernel_rfl,?_⟩
   refine ⟨fun h=>?_,fun h=>?_⟩
   ·have hn:a[k] ≠ b[k]'(by omega):=by simpa using h
    refine ⟨DV.Le.of_eq ?_,tv⟩
    have:(a == b)=false:=by
     rw [beq_eq_false_iff_ne]
     intro e; subst e; exact hn rfl
    rw [this]
   ·have hn:a[k]=b[k]'(by omega):=by simpa using h
    refine ⟨fun _=>⟨by omega,by omega⟩,k+1,⟨⟨rf,rf,rf,le_int (by omega),tv⟩,tv,rfl,rfl⟩,⟨by omega,fun i hi=>?_⟩,?_⟩
    ·by_cases e:i=k
     ·subst e; rw [List.getElem?_eq_getElem hk,List.getElem?_eq_getElem (by omega),hn]
     ·exact hk2 i (by omega)
    ·show a.length - (k+1)<a.length - k
     omega
  ·have hk:k=a.length:=by
    have:¬ (k:Int)<a.length:=of_decide_eq_false h
    omega
   refine ⟨DV.Le.of_eq ?_,tv⟩
   have:a=b:=by
    apply List.ext_getElem?
    intro i
    by_cases hi:i<a.length
    ·exact hk2 i (by omega)
    ·rw [List.getElem?_eq_none (by omega),List.getElem?_eq_none (by omega)]
   rw [beq_iff_eq.2 this]
structure AfI where
 k:Nat
 m:Rows
set_option maxHeartbeats 4000000 in
theorem after_spec (n:Nat) (hn:n≤1000) (m:Rows) (p:Nat) (hp:p≤4) (hr:Rect p n 1099511627776000000 m) (s:Stp) (hsp:s.put ≠ []→0≤s.party∧s.party<p) (hsl:s.put.length≤1000) (hsa:∀a,a∈s.put→0≤a.1∧a.1<n∧0≤a.2∧a.2≤1099511627776):PSpec Try.prog 58 [eRows m,eSs s] [eRows (putAll m s.party s.put)]:=by
 refine pspec_of tab_ok mixed (calls_snd _) (range_snd _) Try.func58 rfl (by kernel_rfl) rfl ?_
 have hml:=hr.len
 refine ⟨.nils,⟨rf,tv⟩,by simp,by simp,by rw [by26]; simp; omega,by simp; omega,false,(fun h=>by cases h),?_⟩
 refine ⟨Nat,fun k=>⟨2,[(3,.ptr 0 0),(5,.own 1 0 0 []),(13,.dv (eRows m)),(14,.dv (I m.length)),(15,.dv (I k))],[(0,.cells (dvs (eSs s).cells)),(1,.tree 0 0 (.osl 1 ((m.take k).map oRow++List.replicate (m.length - k) .nils)))]⟩,fun k=>k≤m.length,fun k=>m.length - k,0,fun _=>rfl,?_,by omega,?_⟩
 ·refine ⟨⟨rfl,rfl,rf,le_int (by simp),rf,tv⟩,⟨⟨rf,rf,rf,rf,tv⟩,⟨rfl,?_⟩,tv⟩,rfl,rfl⟩
  show DV.osl 1 (List.replicate ((m.map Ints).length:Int).toNat .nils)=_
  simp
 intro k hk1
 refine ⟨fun h=>?_,fun h=>?_⟩
 ·have hk:k<m.length:=by
   have:(k:Int)<m.length:=of_decide_eq_true h
   omega
  clear h
  generalize hr':m[k]=r at *
  have hro:m[k]?=some r:=by rw [List.getElem?_eq_getElem hk,hr']
  have hrl:=hr.row r (List.mem_of_getElem? hro)
  refine ⟨Ints r,fun _=>⟨by omega,by simp [hro]⟩,?_⟩
  refine .inr ⟨[],[.dv (Ints r)],[],1,_,_,clone_spec r (by omega),rfl,rfl,⟨rf,tv⟩,tv,?_⟩
  have hrk:List.replicate (m.length - k) DV.nils=DV.nils::List.replicate (m.length - (k+1)) DV.nils:=by
   rw [show m.length - k=(m.length - (k+1))+1 by omega,List.replicate_succ]
  have htl:((m.take k).map oRow).length=k:=by simp; omega
  refine ⟨fun _=>⟨by omega,by simp; omega⟩,[oRow r],⟨rfl,tv⟩,.nils,?_,?_⟩
  ·rw [Int.toNat_natCast,List.getElem?_append_right (by omega),htl,hrk]; simp
  refine ⟨fun _=>⟨by omega,by omega⟩,k+1,⟨⟨rfl,rfl,rf,rf,le_int (by omega),tv⟩,⟨⟨rf,rf,rf,rf,tv⟩,⟨rfl,?_⟩,tv⟩,rfl,rfl⟩,by omega,by dsimp only; omega⟩
  show DV.osl 1 (((m.take k).map oRow++List.replicate (m.length - k) DV.nils).set (k:Int).toNat (oRow r))=.osl 1 ((m.take (k+1)).map oRow++List.replicate (m.length - (k+1)) DV.nils)
  rw [Int.toNat_natCast,List.set_append_right _ _ (by omega),htl,hrk,Nat.sub_self,List.set_cons_zero,List.take_add_one,hro,List.map_append,List.append_assoc]
  rfl
 have hk:k=m.length:=by
  have:¬ (k:Int)<m.length:=of_decide_eq_false h
  omega
 clear h
 subst hk
 refine ⟨AfI,fun z=>⟨2,[(3,.ptr 0 0),(5,.own 1 0 0 []),(27,.dv (ePut s.put)),(28,.dv (I s.put.length)),(29,.dv (I z.k))],[(0,.cells (dvs (eSs s).cells)),(1,.tree 0 0 (.osl 1 (z.m.map oRow)))]⟩,fun z=>z.k≤s.put.length∧z.m=putAll m s.party (s.put.take z.k)∧Rect p n (1099511627776000000+z.k * 1099511627776) z.m,fun z=>s.put.length - z.k,⟨0,m⟩,fun _=>rfl,?_,⟨by simp,rfl,hr.mono (by simp)⟩,?_⟩
 ·refine ⟨⟨rfl,rfl,rf,le_int (by simp),rf,tv⟩,⟨⟨rf,rf,rf,rf,tv⟩,⟨rfl,?_⟩,tv⟩,rfl,rfl⟩
  rw [List.take_length]; simp
 rintro ⟨k,m'⟩ ⟨hk1,hm',hr'⟩
 dsimp only at hk1 hm' hr'
 refine ⟨fun h=>?_,fun h=>?_⟩
 ·have hk:k<s.put.length:=by
   have:(k:Int)<s.put.length:=of_decide_eq_true h
   omega
  clear h
  obtain ⟨hp0,hp1⟩:=hsp (by intro e; rw [e] at hk; simp at hk)
  have hpt:s.party.toNat<m'.length:=by rw [hr'.len]; omega
  generalize hrw:m'[s.party.toNat]=row
  have hrow:m'[s.party.toNat]?=some row:=by rw [List.getElem?_eq_getElem hpt,hrw]
  have hrl:=hr'.row row (List.mem_of_getElem? hrow)
  generalize hpa':s.put[k]=am
  have hpk:s.put[k]?=some am:=by rw [List.getElem?_eq_getElem hk,hpa']
  obtain ⟨ha1,ha2,ha3,ha4⟩:=hsa am (List.mem_of_getElem? hpk)
  have hit:am.1.toNat<row.length:=by omega
  generalize hre:row[am.1.toNat]=el
  have hel:row[am.1.toNat]?=some el:=by rw [List.getElem?_eq_getElem hit,hre]
  have hbd:=hr'.bd row (List.mem_of_getElem? hrow) el (List.mem_of_getElem? hel)
  have hdl:m'.length=p:=hr'.len
  refine ⟨eAmt am,fun _=>⟨by dsimp only; omega,by simp [hpk]⟩,?_⟩
  refine ⟨fun _=>⟨hp0,by simp; omega⟩,oRow row,fun _=>by simp [hrow],?_⟩
  refine ⟨oRow row,fun _=>by simp [hrow],fun _=>⟨ha1,by simp; omega⟩,?_⟩
  refine ⟨oRow row,fun _=>by simp [hrow],I el,fun _=>by simp [hel],?_⟩
  refine ⟨fun _=>⟨by omega,by omega⟩,?_⟩
  refine ⟨oRow row,fun _=>by simp [hrow],fun _=>⟨ha1,by simp; omega⟩,?_⟩
  refine ⟨[I (el+am.2)],⟨rf,tv⟩,oRow row,fun _=>by simp [hrow],I el,by simp [hel],oRow row,by simp [hrow],by kernel_rfl,?_⟩
  refine ⟨fun _=>⟨by dsimp only; omega,by dsimp only; omega⟩,⟨k+1,addAt m' s.party.toNat am.1.toNat am.2⟩,⟨⟨rfl,rfl,rf,rf,le_int (by simp),tv⟩,⟨⟨rf,rf,rf,rf,tv⟩,⟨rfl,?_⟩,tv⟩,rfl,rfl⟩,⟨by dsimp only; omega,?_,(hr'.add ha3 _ _).mono (by dsimp only; omega)⟩,by dsimp only; omega⟩
  ·exact congrArg (DV.osl 1) (addAt_map hrow hel)
  ·dsimp only
   rw [List.take_add_one,hpk,putAll,List.foldl_append]
   show _=addAt (putAll m s.party (s.put.take k)) _ _ _
   rw [←hm']
 ·have hk:k=s.put.length:=by
   have:¬ (k:Int)<s.put.length:=of_decide_eq_false h
   omega
  clear h
  subst hk
  rw [List.take_length] at hm'
  refine ⟨DV.Le.of_eq ?_,tv⟩
  show DV.sl 1 (fzL (m'.map oRow))=.sl 1 ((putAll m s.party s.put).map Ints)
  rw [←hm',fzL_eq,List.map_map]
  congr 1
  refine List.map_congr_left fun r _=>?_
  show DV.sl 1 (fzL (r.map I))=_
  rw [fzL_map fun _=>rfl]
end Go.Proofs.Ytfcfbfkjdenpdaa
namespace Go.Proofs.Ytfcfbfkjdenpdaa
open Go.TM
def Found (d:Dea) (b:PB) (j:Nat) (s:Int):Prop :=
 (j=0∧s=0∧lookI b.from_ s=some (-1)) ∨
 (0<j∧∃(k:Nat) (p:Int) (st:Stp) (x:Sta),k<j∧(keysF b)[k]?=some p∧0≤p∧lookI b.from_ s=some p∧lookI b.steps s=some st∧d.states[p.toNat]?=some x∧st∈stepsOf d x∧st.next=s)
structure FOk (d:Dea) (b:PB):Prop where
 st:b.steps.map (·.1)=(keysF b).tail
 ne:keysF b ≠ []
 nd:(keysF b).Nodup
 fo:∀(j:Nat) (s:Int),(keysF b)[j]?=some s→Found d b j s
theorem Found.add {d:Dea} {b:PB} {j:Nat} {s:Int} (h:Found d b j s) {cur:Int} {t:Stp} (hn:t.next ∉ keysF b):Found d ⟨b.from_++[(t.next,cur)],b.steps++[(t.next,t)]⟩ j s:=by
 rcases h with ⟨h1,h2,h3⟩ | ⟨h0,k,p,st,x,h1,h2,h3,h4,h5,h6⟩
 ·exact .inl ⟨h1,h2,lookI_mono h3 _ _⟩
 ·refine .inr ⟨h0,k,p,st,x,h1,?_,h3,lookI_mono h4 _ _,lookI_mono h5 _ _,h6⟩
  have hk:k<(keysF b).length:=(List.getElem?_eq_some_iff.1 h2).1
  simp only [keysF,List.map_append] at h2 hk ⊢
  rw [List.getElem?_append_left hk]; exact h2
theorem FOk.add {d:Dea} {b:PB} (h:FOk d b) {i:Nat} {cur:Int} (hc:(keysF b)[i]?=some cur) (h0:0≤cur) {x:Sta} (hx:d.states[cur.toNat]?=some x) {t:Stp} (ht:t∈stepsOf d x):FOk d (addP cur b t)∧(keysF (addP cur b t))[i]?=some cur:=by
 have hp:=PQok.add (z:=⟨b,[],false⟩) ⟨h.st,h.ne⟩ cur t
 by_cases hn:t.next∈keysF b
 ·have e1:addP cur b t=b:=by unfold addP; rw [if_pos hn]
  rw [e1]; exact ⟨h,hc⟩
 ·have e1:addP cur b t=⟨b.from_++[(t.next,cur)],b.steps++[(t.next,t)]⟩:=by unfold addP; rw [if_neg hn]
  have hil:i<(keysF b).length:=(List.getElem?_eq_some_iff.1 hc).1
  have hk:keysF (addP cur b t)=keysF b++[t.next]:=by rw [e1]; simp [keysF]
  have hns:t.next ∉ b.steps.map (·.1):=by rw [h.st]; exact fun h=>hn (List.mem_of_mem_tail h)
  refine ⟨⟨hp.st,hp.ne,?_,fun j s hj=>?_⟩,by rw [hk,List.getElem?_append_left hil]; exact hc⟩
  ·rw [hk,List.nodup_append]
   exact ⟨h.nd,by simp,fun a ha b hb=>by simp at hb; subst hb; exact fun e=>hn (e ▸ ha)⟩
  ·rw [hk] at hj
   by_cases hjl:j<(keysF b).length
   ·rw [List.getElem?_append_left hjl] at hj
    have:=(h.fo j s hj).add (cur:=cur) hn
    rw [e1]; exact this
   ·have hz:j - (keysF b).length=0:=by
     by_cases hz:j - (keysF b).length=0
     ·exact hz
     ·rw [List.getElem?_append_right (by omega),List.getElem?_eq_none (by simp; omega)] at hj
      cases hj
    rw [List.getElem?_append_right (by omega),hz] at hj
    simp at hj
    subst hj
    refine .inr ⟨by omega,i,cur,t,x,by omega,?_,h0,?_,?_,hx,ht,rfl⟩
    ·rw [hk,List.getElem?_append_left hil]; exact hc
    ·rw [e1]
     show lookI (b.from_++[(t.next,cur)]) t.next=_
     rw [lookI_app,lookI_none hn]; simp
    ·rw [e1]
     show lookI (b.steps++[(t.next,t)]) t.next=_
     rw [lookI_app,lookI_none hns]; simp
theorem FOk.fold {d:Dea} {i:Nat} {cur:Int} (h0:0≤cur) {x:Sta} (hx:d.states[cur.toNat]?=some x):∀(l:List Stp) {b:PB},FOk d b→(keysF b)[i]?=some cur→(∀t,t∈l→t∈stepsOf d x)→FOk d (l.foldl (addP cur) b)
 | [],_,h,_,_=>h
 | t::l,b,h,hc,hl=>by
  obtain ⟨h1,h2⟩:=h.add hc h0 hx (hl t (by simp))
  exact FOk.fold h0 hx l h1 h2 fun u hu=>hl u (by simp [hu])
theorem fok_at (d:Dea) (hd:d.states ≠ []):∀i,FOk d (bfsP d i)
 | 0=>⟨rfl,by simp [keysF,bfsP],by simp [keysF,bfsP],fun j s hj=>by
   match j with
   | 0=>simp [keysF,bfsP] at hj; subst hj; exact .inl ⟨rfl,rfl,rfl⟩
   | j+1=>simp [keysF,bfsP] at hj⟩
 | i+1=>by
  have ih:=fok_at d hd i
  have hb:=bfsAt_ok d hd i
  have hk:=bfsP_keys d hd i
  show FOk d (procP d i (bfsP d i))
  unfold procP
  cases ho:(keysF (bfsP d i))[i]? with
  | none=>exact ih
  | some s =>
   simp only
   cases hx:d.states[s.toNat]? with
   | none=>exact ih
   | some x =>
    have hr:=hb.rng s (by rw [←hk]; exact List.mem_of_getElem? ho)
    exact FOk.fold hr.1 hx _ ih ho fun t ht=>ht
theorem fok (d:Dea) (hd:d.states ≠ []):FOk d (pD d):=fok_at d hd _
theorem fol_step (n:Nat) {d:Dea} {v:List Int} {s:Int} (hp:Path d 0 v s) {x:Sta} (hx:d.states[s.toNat]?=some x) {t:Stp} (ht:t∈stepsOf d x):folM n d (v++[t.label])=putAll (folM n d v) t.party t.put:=by
 have hs:(folW n d v).s=s:=folW_s n hp
 have hopt:∀k (t:Stp),t∈optSteps d x k→∃o,0≤t.label∧x.opts[t.label.toNat]?=some o∧o.party=t.party∧o.put=t.put:=by
  intro k
  induction k with
  | zero=>intro t h; simp [optSteps] at h
  | succ k ih =>
   intro t h
   simp only [optSteps] at h
   split at h
   ·rename_i o ho
    split at h
    ·rcases List.mem_append.1 h with h | h
     ·exact ih t h
     ·rcases List.mem_singleton.1 h with rfl
      exact ⟨o,by simp,by simpa using ho,rfl,rfl⟩
    ·exact ih t h
   ·exact ih t h
 have key:(∃o,0≤t.label∧x.opts[t.label.toNat]?=some o∧o.party=t.party∧o.put=t.put) ∨ (t.label=-1∧t.put=[]):=by
  unfold stepsOf at ht
  rcases List.mem_append.1 ht with h | h
  ·split at h
   ·simp at h
   ·exact .inl (hopt _ t h)
  ·split at h
   ·rcases List.mem_singleton.1 h with rfl; exact .inr ⟨rfl,rfl⟩
   ·simp at h
 unfold folM folW
 rw [List.foldl_append]
 show (fstep d (folW n d v) t.label).m=_
 unfold fstep
 rw [hs]
 simp only [hx]
 rcases key with ⟨o,h1,h2,h3,h4⟩ | ⟨h1,h2⟩
 ·rw [if_neg (by omega),h2]
  simp only [h3,h4]; rfl
 ·rw [if_pos h1,h2]; rfl
def conAt (n:Nat) (d:Dea):Nat→List (Int × Rows)
 | 0=>[]
 | k+1=>match (disc d).order[k]?,(disc d).ways[k]? with
  | some s,some v=>conAt n d k++[(s,folM n d v)]
  | _,_=>conAt n d k
theorem conAt_zip (n:Nat) (d:Dea) (hl:(disc d).ways.length=(disc d).order.length):∀k,conAt n d k=(((disc d).order.zip (disc d).ways).take k).map fun z=>(z.1,folM n d z.2)
 | 0=>rfl
 | k+1=>by
  have ih:=conAt_zip n d hl k
  simp only [conAt]
  rw [List.take_add_one,List.map_append,←ih]
  by_cases hk:k<(disc d).order.length
  ·have h1:(disc d).order[k]?=some (disc d).order[k]:=List.getElem?_eq_getElem hk
   have h2:(disc d).ways[k]?=some ((disc d).ways[k]'(by omega)):=List.getElem?_eq_getElem (by omega)
   rw [h1,h2,zip_at h1 h2]; rfl
  ·have hz:((disc d).order.zip (disc d).ways)[k]?=none:=List.getElem?_eq_none (by simp; omega)
   rw [List.getElem?_eq_none (by omega),hz]; simp
theorem conAt_keys (n:Nat) (d:Dea) (hl:(disc d).ways.length=(disc d).order.length) (k:Nat):(conAt n d k).map (·.1)=(disc d).order.take k:=by
 rw [conAt_zip n d hl,List.map_map,List.map_take]
 congr 1
 rw [show ((fun x:Int × Rows=>x.1) ∘ fun z:Int × List Int=>(z.1,folM n d z.2))=Prod.fst from rfl,List.map_fst_zip (by omega)]
theorem lookI_of_nodup {α:Type}:∀{m:List (Int × α)} {s:Int} {v:α},(m.map (·.1)).Nodup→(s,v)∈m→lookI m s=some v
 | [],s,v,_,h=>by simp at h
 | x::m,s,v,hn,h=>by
  unfold lookI
  rw [List.find?_cons]
  rw [List.map_cons,List.nodup_cons] at hn
  rcases List.mem_cons.1 h with rfl | h
  ·simp
  ·have hne:(x.1 == s)=false:=by
    rw [beq_eq_false_iff_ne]
    intro e
    exact hn.1 (e ▸ List.mem_map.2 ⟨(s,v),h,rfl⟩)
   rw [hne]
   exact lookI_of_nodup hn.2 h
theorem conAt_look (n:Nat) {d:Dea} (hb:BOk d (disc d)) {i k:Nat} {s:Int} {v:List Int} (hki:k<i) (hs:(disc d).order[k]?=some s) (hv:(disc d).ways[k]?=some v):lookI (conAt n d i) s=some (folM n d v):=by
 refine lookI_of_nodup ?_ ?_
 ·rw [conAt_keys n d hb.len]
  exact List.Nodup.sublist (List.take_sublist _ _) hb.nod
 ·rw [conAt_zip n d hb.len]
  refine List.mem_map.2 ⟨(s,v),?_,rfl⟩
  have:=zip_at hs hv
  have h2:(((disc d).order.zip (disc d).ways).take i)[k]?=some (s,v):=by rw [List.getElem?_take_of_lt hki]; exact this
  exact List.mem_of_getElem? h2
end Go.Proofs.Ytfcfbfkjdenpdaa
