import Derived.Test.YtfcfbfkjdenpdaaK4Q10
import Derived.Test.YtfcfbfkjdenpdaaK4Q16
import Derived.Test.YtfcfbfkjdenpdaaK4Q6
set_option linter.unusedVariables false
set_option linter.unusedSimpArgs false
set_option linter.unusedSectionVars false
namespace Go.Proofs.Ytfcfbfkjdenpdaa
open Go.TM
def S (f:Nat→Int):Nat→Int
 | 0=>0
 | k+1=>S f k+f k
theorem S_congr {f g:Nat→Int}:∀{k:Nat},(∀i,i<k→f i=g i)→S f k=S g k
 | 0,_=>rfl
 | k+1,h=>by rw [S,S,S_congr (fun i hi=>h i (by omega)),h k (by omega)]
theorem S_add (f g:Nat→Int):∀k,S (fun i=>f i+g i) k=S f k+S g k
 | 0=>rfl
 | k+1=>by rw [S,S,S,S_add f g k]; omega
theorem S_zero:∀k,S (fun _=>0) k=0
 | 0=>rfl
 | k+1=>by rw [S,S_zero k]; rfl
def hit (it:Nat) (p:Int) (g:Giv):Int:=if g.party=p∧g.item.toNat=it then g.n else 0
def hitA (it:Nat) (g:Giv):Int:=if g.item.toNat=it then g.n else 0
theorem S_hit {it:Nat} {g:Giv} (h0:0≤g.party):∀k:Nat,S (fun p=>hit it p g) k=if g.party<k then hitA it g else 0
 | 0=>by rw [S,if_neg (by omega)]
 | k+1=>by
  rw [S,S_hit h0 k]
  unfold hit hitA
  by_cases h1:g.party<k
  ·have h2:¬ (g.party=(k:Int)∧g.item.toNat=it):=fun h=>by omega
   rw [if_pos h1,if_neg h2,if_pos (show g.party<((k+1:Nat):Int) by omega)]; omega
  ·rw [if_neg h1]
   by_cases h2:g.party=k
   ·rw [if_pos (show g.party<((k+1:Nat):Int) by omega)]
    by_cases h3:g.item.toNat=it
    ·rw [if_pos ⟨h2,h3⟩,if_pos h3]; omega
    ·rw [if_neg (fun h=>h3 h.2),if_neg h3]; omega
   ·rw [if_neg (fun h=>h2 h.1),if_neg (by omega)]; omega
theorem addE_get (acc:List Int) (i:Nat) (x:Int) (it:Nat) (h:it<acc.length):(addE acc i x).getD it 0=acc.getD it 0+if i=it then x else 0:=by
 unfold addE
 split
 ·rename_i e he
  rw [List.getD_eq_getElem?_getD,List.getD_eq_getElem?_getD,List.getElem?_set]
  by_cases h1:i=it
  ·subst h1
   rw [if_pos rfl,if_pos h,he,if_pos rfl]; rfl
  ·simp [h1]
 ·rename_i he
  have:i ≠ it:=by
   rintro rfl
   rw [List.getElem?_eq_getElem h] at he; cases he
  simp [this]
theorem gAdds_get (p:Int) (it:Nat):∀(l:List Giv) (acc:List Int),it<acc.length→(l.foldl (gAdd p) acc).getD it 0=acc.getD it 0+(l.map (hit it p)).sum
 | [],acc,_=>by simp
 | g::l,acc,h=>by
  rw [List.foldl_cons,gAdds_get p it l _ (by rw [gAdd_len]; exact h),List.map_cons,List.sum_cons]
  have:(gAdd p acc g).getD it 0=acc.getD it 0+hit it p g:=by
   unfold gAdd hit
   by_cases hp:g.party=p
   ·rw [if_pos hp,addE_get _ _ _ _ h]; simp [hp]
   ·simp [hp]
  omega
theorem gSums_get (it:Nat):∀(l:List Giv) (acc:List Int),it<acc.length→(l.foldl gSum acc).getD it 0=acc.getD it 0+(l.map (hitA it)).sum
 | [],acc,_=>by simp
 | g::l,acc,h=>by
  rw [List.foldl_cons,gSums_get it l _ (by rw [gSum,addE_len]; exact h),List.map_cons,List.sum_cons]
  have:(gSum acc g).getD it 0=acc.getD it 0+hitA it g:=by
   unfold gSum hitA
   rw [addE_get _ _ _ _ h]
  omega
theorem S_sum {α:Type} (f:Nat→α→Int) (k:Nat):∀(l:List α),S (fun p=>(l.map (f p)).sum) k=(l.map (fun g=>S (fun p=>f p g) k)).sum
 | []=>by simpa using S_zero k
 | g::l=>by
  rw [List.map_cons,List.sum_cons,←S_sum f k l,←S_add]
  exact S_congr fun i _=>by rw [List.map_cons,List.sum_cons]
theorem addRow_get {acc r:List Int} {it:Nat} (h1:it<acc.length) (h2:it<r.length):(addRow acc r).getD it 0=acc.getD it 0+r.getD it 0:=by
 unfold addRow
 rw [List.getD_eq_getElem?_getD,List.getD_eq_getElem?_getD,List.getD_eq_getElem?_getD,List.getElem?_zipWith,List.getElem?_eq_getElem h1,List.getElem?_eq_getElem h2]
 rfl
theorem addRows_get {it n:Nat} (hi:it<n):∀(m:Rows) (acc:List Int),acc.length=n→(∀r,r∈m→r.length=n)→(m.foldl addRow acc).getD it 0=acc.getD it 0+(m.map (fun r=>r.getD it 0)).sum
 | [],acc,_,_=>by simp
 | r::m,acc,h,hm=>by
  have hr:=hm r (List.mem_cons_self ..)
  rw [List.foldl_cons,addRows_get hi m _ (by rw [addRow_len (by omega)]; exact h) (fun s hs=>hm s (List.mem_cons_of_mem _ hs)),addRow_get (by omega) (by omega),List.map_cons,List.sum_cons]
  omega
theorem S_list (F:List Int→Int) (m:Rows):∀k,k≤m.length→S (fun p=>F ((m[p]?).getD [])) k=((m.take k).map F).sum
 | 0,_=>by simp [S]
 | k+1,h=>by
  rw [S,S_list F m k (by omega),List.take_add_one,List.getElem?_eq_getElem (show k<m.length by omega),List.map_append,List.sum_append]
  simp
theorem out_sum {n P:Nat} {m:Rows} {b:Int} (hr:Rect P n b m) (x:Sta) (hg:∀g,g∈x.gives→0≤g.party∧g.party<P) (it:Nat) (hi:it<n):S (fun p=>(outR m x p).getD it 0) P=(givR n x).getD it 0 - (sumR n m).getD it 0:=by
 have hml:=hr.len
 have h1:S (fun p=>(outR m x p).getD it 0) P=S (fun p=>(fun r:List Int=>0 - r.getD it 0) ((m[p]?).getD [])+(x.gives.map (hit it (p:Int))).sum) P:=S_congr fun p hp=>by
  have hpl:p<m.length:=by omega
  have hrl:=hr.row (m[p]) (List.getElem_mem _)
  unfold outR
  rw [Int.toNat_natCast,List.getElem?_eq_getElem hpl,gAdds_get _ _ _ _ (by simp [negR]; omega)]
  have:(negR (m[p])).getD it 0=0 - (m[p]).getD it 0:=by
   unfold negR
   rw [List.getD_eq_getElem?_getD,List.getD_eq_getElem?_getD,List.getElem?_map,List.getElem?_eq_getElem (by omega)]; rfl
  rw [Option.getD_some,this]
 rw [h1,S_add,S_sum,←hml,S_list (fun r:List Int=>0 - r.getD it 0) m _ (Nat.le_refl _),List.take_length]
 have h2:(x.gives.map fun g=>S (fun p=>hit it (p:Int) g) m.length)=x.gives.map (hitA it):=List.map_congr_left fun g hgm=>by
  have:=hg g hgm
  rw [S_hit this.1,if_pos (by omega)]
 rw [h2]
 unfold givR sumR
 rw [gSums_get it _ _ (by simpa using hi),addRows_get hi m _ (by simp) hr.row]
 have h3:∀m:Rows,(m.map fun r:List Int=>0 - r.getD it 0).sum=0 - (m.map fun r:List Int=>r.getD it 0).sum:=fun m=>by
  induction m with
  | nil=>rfl
  | cons r m ih=>rw [List.map_cons,List.map_cons,List.sum_cons,List.sum_cons,ih]; omega
 rw [h3]
 omega
theorem RowB.gadd {n:Nat} {lo hi:Int} {acc:List Int} (h:RowB n lo hi acc) (p:Int) {g:Giv} (hg:1≤g.n∧g.n≤1099511627776):RowB n lo (hi+1099511627776) (gAdd p acc g):=by
 unfold gAdd
 split
 ·unfold addE
  split
  ·rename_i e he
   have:=h.bd e (List.mem_of_getElem? he)
   exact (h.mono (Int.le_refl _) (by omega)).set _ ⟨by omega,by omega⟩
  ·exact h.mono (Int.le_refl _) (by omega)
 ·exact h.mono (Int.le_refl _) (by omega)
theorem RowB.gadds {n:Nat} {lo:Int} (p:Int):∀(l:List Giv) {hi:Int} {acc:List Int},RowB n lo hi acc→(∀g,g∈l→1≤g.n∧g.n≤1099511627776)→RowB n lo (hi+l.length * 1099511627776) (l.foldl (gAdd p) acc)
 | [],_,_,h,_=>h.mono (Int.le_refl _) (by simp)
 | g::l,hi,acc,h,hg=>by
  rw [List.foldl_cons]
  exact (RowB.gadds p l (h.gadd p (hg g (List.mem_cons_self ..))) (fun g' hg'=>hg g' (List.mem_cons_of_mem _ hg'))).mono (Int.le_refl _) (by simp only [List.length_cons]; omega)
structure OuOk (n P:Nat) (R:Rows):Prop where
 len:R.length=P
 row:∀r,r∈R→RowB n (-1099511627776000000) 109951162777600000 r
theorem ouRows_ok {n:Nat} {d:Dea} (hs:Parts d) (hwf:WF n d) {i:Nat} {x:Sta} {v:List Int} (hx:d.states[i]?=some x) (hv:wayOf d i=some v):OuOk n d.parties.length (ouRows n d v x):=by
 refine ⟨by simp [ouRows],fun r hr=>?_⟩
 obtain ⟨p,hp,rfl⟩:=List.mem_map.1 hr
 have hp:p<d.parties.length:=by simpa using hp
 obtain ⟨q,h1,h2⟩:=wayOf_inv hv
 have hpa:=leads_disc d q _ v h1 h2
 have hvl:=way_len hv
 have hsl:=hwf.sl
 have hra:=rect_folM hwf.opt hpa (by omega)
 have hmem:=List.mem_of_getElem? hx
 have hgl:=hs.gi x hmem
 have hml:=hra.len
 unfold outR
 rw [Int.toNat_natCast,List.getElem?_eq_getElem (show p<(folM n d v).length by omega),Option.getD_some]
 refine (RowB.gadds (p:Int) x.gives (negR_bd (hra.at (List.getElem_mem _))) fun g hg=>?_).mono (Int.le_refl _) (by omega)
 have:=hwf.giv x hmem g hg
 exact ⟨this.2.2.2.2.1,this.2.2.2.2.2⟩
theorem ouTo_mem {n:Nat} {d:Dea} {k:Nat} {R:Rows} (h:R∈ouTo n d k):∃(i:Nat) (x:Sta) (v:List Int),d.states[i]?=some x∧wayOf d i=some v∧x.final=true∧R=ouRows n d v x:=by
 obtain ⟨i,-,h⟩:=List.mem_flatMap.1 h
 unfold ouAt at h
 split at h
 ·rename_i x v hx hv
  split at h
  ·rename_i hf
   exact ⟨i,x,v,hx,hv,hf,List.mem_singleton.1 h⟩
  ·cases h
 ·cases h
theorem check_conds {n:Int} {d:Dea} (h:(checkF n d).code=0):(analyze n d).code=0∧∀w,w<5→∀(k:Nat) (s:Int) (v:List Int) (x:Sta),(disc d).order[k]?=some s→(disc d).ways[k]?=some v→d.states[s.toNat]?=some x→(condS n.toNat d w s v x).code=0:=by
 unfold checkF at h
 split at h
 ·rename_i ha
  refine ⟨ha,fun w hw k s v x hk hv hx=>?_⟩
  cases hc:chk n.toNat d with
  | some f =>
   rw [hc] at h
   unfold chk at hc
   obtain ⟨w',-,hc⟩:=List.exists_of_findSome?_eq_some hc
   unfold condW at hc
   obtain ⟨z,-,hc⟩:=List.exists_of_findSome?_eq_some hc
   unfold condZ at hc
   split at hc
   ·unfold codeN at hc
    split at hc
    ·cases hc
    ·injection hc with hc
     rename_i hne
     rw [hc] at hne
     exact absurd h hne
   ·cases hc
  | none =>
   unfold chk at hc
   rw [List.findSome?_eq_none_iff] at hc
   have h1:=hc w (by simpa using hw)
   unfold condW at h1
   rw [List.findSome?_eq_none_iff] at h1
   have h2:=h1 (s,v) (List.mem_of_getElem? (zip_at hk hv))
   unfold condZ at h2
   rw [hx] at h2
   unfold codeN at h2
   dsimp only at h2
   split at h2
   ·assumption
   ·cases h2
 ·rename_i ha
  exact absurd h ha
theorem check_even {n:Nat} {d:Dea} (hs:Parts d) (hwf:WF n d) (h:(checkF n d).code=0) {i:Nat} {x:Sta} {v:List Int} (hx:d.states[i]?=some x) (hv:wayOf d i=some v) (hf:x.final=true) (it:Nat) (hi:it<n):S (fun p=>((ouRows n d v x).getD p []).getD it 0) d.parties.length=0:=by
 obtain ⟨q,h1,h2⟩:=wayOf_inv hv
 have hpa:=leads_disc d q _ v h1 h2
 have hvl:=way_len hv
 have hsl:=hwf.sl
 have hra:=rect_folM hwf.opt hpa (by omega)
 have hc:=(check_conds h).2 3 (by omega) q i v x h1 h2 (by simpa using hx)
 rw [Int.toNat_natCast] at hc
 have hu:unevR n (folM n d v) x=false:=by
  cases hu:unevR n (folM n d v) x with
  | false=>rfl
  | true=>simp [condS,hf,hu] at hc
 rw [uneven_law hra] at hu
 have he:givR n x=sumR n (folM n d v):=by simpa using hu
 have ho:=out_sum hra x (fun g hg=>by have:=hwf.giv x (List.mem_of_getElem? hx) g hg; exact ⟨this.1,this.2.1⟩) it hi
 rw [he,Int.sub_self] at ho
 refine Eq.trans (S_congr fun p hp=>?_) ho
 have:(ouRows n d v x).getD p []=outR (folM n d v) x p:=by
  rw [List.getD_eq_getElem?_getD]
  simp [ouRows,hp]
 rw [this]
end Go.Proofs.Ytfcfbfkjdenpdaa
namespace Go.Proofs.Ytfcfbfkjdenpdaa
open Go.TM
theorem spoilt_len (d:Dea) (a b n:Int):(spoilt d a b n).states.length=d.states.length:=by
 unfold spoilt
 split
 ·simp
 ·rfl
theorem deal_len (l:List Int):(dealD l).states.length≤12:=by
 have hn:=pick_bd l 1 6 (by omega)
 have heq:Eqv (dl0 l).states (dealD l).states:=gvAt_eqv l (dl0 l) _
 have h1:=heq.len
 have h2:(dl0 l).states.length=(dlN l).toNat:=dlStas_len _ _ _ _
 unfold dlN at h2
 omega
theorem mk_len (l:List Int):(mkDeal l 5).states.length≤12:=by
 have hp:=pick_bd l 1 4 (by omega)
 have hn:=pick_bd l 2 5 (by omega)
 have hpl:((mkPart l).length:Int)≤4:=by
  simp only [mkPart,pnames,List.length_take,List.length_cons,List.length_nil]
  omega
 obtain ⟨-,-,h3,-⟩:=mkStas_ok l 5 (mkPart l).length (mkN l) hpl 3 (mkN l).toNat
 have e:(mkDeal l 5).states=(mkStas l 5 (mkPart l).length (mkN l) 3 (mkN l).toNat).1:=rfl
 rw [e,h3]
 unfold mkN
 omega
theorem dealsOf_len (l:List Int) (a b n:Int):∀d,d∈dealsOf l a b n→d.states.length≤12:=by
 intro d hd
 simp only [dealsOf,List.mem_cons,List.not_mem_nil,or_false] at hd
 rcases hd with rfl | rfl | rfl | rfl
 ·exact deal_len l
 ·rw [spoilt_len]; exact deal_len l
 ·rw [spoilt_len]; exact deal_len l
 ·exact mk_len l
theorem fine_ends {n:Nat} {d:Dea} (h:(checkF n d).code=0) {f:Nat} {x:Sta} {v:List Int} (hx:d.states[f]?=some x) (hv:wayOf d f=some v):endsR d f=true:=by
 obtain ⟨q,h1,h2⟩:=wayOf_inv hv
 have hc:=(check_conds h).2 1 (by omega) q f v x h1 h2 (by simpa using hx)
 cases he:endsR d f with
 | true=>rfl
 | false=>simp [condS,he] at hc
theorem fine_loss {n:Nat} {d:Dea} (h:(checkF n d).code=0) {f:Nat} {x:Sta} {v:List Int} (hx:d.states[f]?=some x) (hv:wayOf d f=some v) (hf:x.final=true) {p:Nat} (hp:p<d.parties.length) (hl:lostR (outR (folM n d v) x p)=true) {s:Nat} {y:Sta} {u:List Int} (hy:d.states[s]?=some y) (hu:wayOf d s=some u) {t:Stp} (ht:t∈stepsOf d y):¬ (t.next=f∧t.party ≠ p):=by
 obtain ⟨q,h1,h2⟩:=wayOf_inv hv
 obtain ⟨q',h1',h2'⟩:=wayOf_inv hu
 have hc:=(check_conds h).2 4 (by omega) q f v x h1 h2 (by simpa using hx)
 rw [Int.toNat_natCast] at hc
 simp only [condS,hf,if_true] at hc
 have hn:lossAll n d x v f=none:=by
  cases ha:lossAll n d x v f with
  | none=>rfl
  | some g =>
   rw [ha] at hc
   unfold lossAll at ha
   obtain ⟨p',-,ha⟩:=List.exists_of_findSome?_eq_some ha
   unfold lossA at ha
   split at ha
   ·unfold lossR at ha
    obtain ⟨z,-,ha⟩:=List.exists_of_findSome?_eq_some ha
    unfold lossS at ha
    split at ha
    ·cases ha
    ·obtain ⟨t',-,ha⟩:=List.exists_of_findSome?_eq_some ha
     unfold lossF at ha
     split at ha
     ·injection ha with ha
      rw [←ha] at hc
      cases hc
     ·cases ha
   ·cases ha
 unfold lossAll at hn
 rw [List.findSome?_eq_none_iff] at hn
 have h3:=hn p (by simpa using hp)
 rw [lossA,hf,hl] at h3
 have h3:lossR d f p=none:=h3
 unfold lossR at h3
 rw [List.findSome?_eq_none_iff] at h3
 have h4:=h3 (s,u) (List.mem_of_getElem? (zip_at h1' h2'))
 simp only [lossS,Int.toNat_natCast,hy] at h4
 rw [List.findSome?_eq_none_iff] at h4
 have h5:=h4 t ht
 unfold lossF at h5
 split at h5
 ·cases h5
 ·assumption
theorem ouTo_pre (n:Nat) (d:Dea) (f:Nat):∀j,∃e,ouTo n d (f+j)=ouTo n d f++e
 | 0=>⟨[],by simp⟩
 | j+1=>by
  obtain ⟨e,he⟩:=ouTo_pre n d f j
  exact ⟨e++ouAt n d (f+j),by rw [←Nat.add_assoc,ouTo_succ,he,List.append_assoc]⟩
theorem ouTo_at {n:Nat} {d:Dea} {f k:Nat} (hf:f<k) {R:Rows} (h:ouAt n d f=[R]):(ouTo n d k)[(ouTo n d f).length]?=some R:=by
 obtain ⟨e,he⟩:=ouTo_pre n d (f+1) (k - (f+1))
 rw [show f+1+(k - (f+1))=k by omega,ouTo_succ,h] at he
 rw [he]
 simp
end Go.Proofs.Ytfcfbfkjdenpdaa
