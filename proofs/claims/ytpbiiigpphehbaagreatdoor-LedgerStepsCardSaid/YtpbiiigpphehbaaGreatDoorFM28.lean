import Derived.Test.YtpbiiigpphehbaaGreatDoorFM26
import Derived.Test.YtpbiiigpphehbaaGreatDoorFM27
import Derived.Test.YtpbiiigpphehbaaGreatDoorFM22
import Derived.Test.YtpbiiigpphehbaaGreatDoorProg
import Derived.Test.YtpbiiigpphehbaaGreatDoorChecked
import Derived.KernelRfl
set_option linter.all false
namespace Go.Proofs.YtpbiiigpphehbaaGreatDoor
set_option maxRecDepth 100000
section
def eX(rs:List Int)(i j:Nat):Bool:=decide (rs.getD j 0<rs.getD i 0\/rs.getD i 0=rs.getD j 0/\i<j)
def O4(rs:List Int)(i:Nat):Nat:=(List.range rs.length).countP fun j=>eX rs j i
theorem Sd{rs:List Int}{i j:Nat}(h:i≠j):eX rs i j=true\/eX rs j i=true:=by
 simp only[eX,decide_eq_true_eq];omega
theorem Se{rs:List Int}{i j:Nat}(h:eX rs i j=true):eX rs j i=false:=by
 simp only[eX,decide_eq_true_eq,acb]at *; omega
theorem VJ{rs:List Int}{i j k:Nat}(h:eX rs i j=true)(h2:eX rs j k=true):eX rs i k=true:=by
 simp only[eX,decide_eq_true_eq]at *; omega
structure Ord(rs:List Int)(o:List Nat):Prop where
 perm:o.Perm (List.range rs.length)
 srt:o.Pairwise fun i j=>eX rs i j=true
theorem Ord.nodup{rs:List Int}{o:List Nat}(h:Ord rs o):o.Nodup:=h.perm.nodup_iff.2 List.nodup_range
theorem Ord.len{rs:List Int}{o:List Nat}(h:Ord rs o):o.length=rs.length:=by rw[h.perm.length_eq,List.length_range]
theorem H5(rs:List Int):∃o,Ord rs o:=by
 let le:Nat->Nat->Bool:=fun i j=>eX rs i j||i==j
 refine⟨(List.range rs.length).mergeSort le,List.mergeSort_perm _ _,?_⟩
 have h1:((List.range rs.length).mergeSort le).Pairwise fun a b=>le a b=true:=List.pairwise_mergeSort (fun a b c h h2=>by
  simp only[le,Bool.or_eq_true,beq_iff_eq]at*
  rcases h with h|rfl
  ·rcases h2 with h2|rfl
   ·exact .inl (VJ h h2)
   ·exact .inl h
  ·exact h2) (fun a b=>by
  simp only[le,Bool.or_eq_true,beq_iff_eq]
  by_cases e:a=b
  ·exact .inl (.inr e)
  ·rcases Sd (rs:=rs) e with h|h
   ·exact .inl (.inl h)
   ·exact .inr (.inl h)) _
 have h2:((List.range rs.length).mergeSort le).Nodup:=(List.mergeSort_perm _ _).nodup_iff.2 List.nodup_range
 refine(List.Pairwise.and h1 h2).imp fun h=>?_
 simp only[le,Bool.or_eq_true,beq_iff_eq]at h
 exact h.1.resolve_right h.2
theorem Ord.LJ{rs:List Int}{o:List Nat}(h:Ord rs o){k i:Nat}(hk:o[k]?=some i):O4 rs i=k:=by
 unfold O4
 rw[<-h.perm.countP_eq]
 have e:o=o.take k++i::o.drop (k+1):=by
  have hl:=(abA.1 hk).1
  conv=>lhs;rw[<-List.take_append_drop k o,List.drop_eq_getElem_cons hl]
  rw[(abA.1 hk).2]
 have hs:=h.srt
 rw[e,List.pairwise_append]at hs
 obtain⟨h1,h2,h3⟩:=hs
 have h4:=List.pairwise_cons.1 h2
 rw[e,List.countP_append,List.countP_cons]
 have c1:(o.take k).countP (fun j=>eX rs j i)=k:=by
  rw[List.countP_eq_length.2 fun j hj=>h3 j hj i abL,abU]
  have hl:=(abA.1 hk).1
  omega
 have c2:(o.drop (k+1)).countP (fun j=>eX rs j i)=0:=List.countP_eq_zero.2 fun j hj=>by rw[Se (h4.1 j hj)];simp
 have c3:eX rs i i=false:=by simp[eX]
 rw[c1,c2,c3];rfl
theorem Ord.mem{rs:List Int}{o:List Nat}(h:Ord rs o){m i:Nat}(hi:i<rs.length):i∈o.take m↔O4 rs i<m:=by
 obtain⟨k,hk⟩:=abV (h.perm.mem_iff.2 (ab2.2 hi))
 rw[h.LJ hk]
 constructor
 ·intro hm
  obtain⟨q,hq⟩:=abV hm
  have hqm:q<m:=by have:=(abA.1 hq).1;rw[abU]at this;omega
  rw[List.getElem?_take_of_lt hqm]at hq
  have hl:=(abA.1 hq).1
  have:=(List.getElem?_inj hl h.nodup).1 (hq.trans hk.symm)
  omega
 ·intro hm
  exact abC ((List.getElem?_take_of_lt hm).trans hk)
def kf(l:List Int)(i:Nat):List Int:=l.set i (l.getD i 0+1)
def plus(rs qs:List Int)(m:Nat):List Int:=(List.range rs.length).map fun i=>qs.getD i 0+bif decide (O4 rs i<m)then 1 else 0
theorem w6(l:List Int)(i:Nat):(kf l i).length=l.length:=List.length_set ..
theorem Sf(l:List Int)(i j:Nat)(hi:i<l.length):(kf l i).getD j 0=l.getD j 0+if i=j then 1 else 0:=by
 unfold kf
 rw[abE,List.getElem?_set]
 split
 ·rename_i e;subst e
  simp[hi]
 ·rename_i e
  rw[<-abE];omega
theorem yJ:∀(o:List Nat) (l:List Int),o.Nodup->(∀i∈o,i<l.length)->(o.foldl kf l).length=l.length/\∀j,(o.foldl kf l).getD j 0=l.getD j 0+if j∈o then 1 else 0
 |[],l,_,_=>⟨rfl,fun j=>by simp⟩
 |i::o,l,hn,hl=>by
  have EI:=List.nodup_cons.1 hn
  have ih:=yJ o (kf l i) EI.2 fun k hk=>by rw[w6];exact hl k (abH _ hk)
  rw[List.foldl_cons]
  refine⟨by rw[ih.1,w6],fun j=>?_⟩
  rw[ih.2,Sf _ _ _ (hl i abL)]
  by_cases e:i=j
  ·subst e
   rw[if_pos rfl,if_neg EI.1,if_pos abL];omega
  ·rw[if_neg e]
   have:j∈i::o↔j∈o:=by simp[Ne.symm e]
   simp only[this];omega
theorem O5{a b:List Int}(hl:a.length=b.length)(h:∀j,j<a.length->a.getD j 0=b.getD j 0):a=b:=by
 refine List.ext_getElem hl fun i h1 h2=>?_
 have:=h i h1
 rwa[abE,abE,aaa h1,aaa h2]at this
theorem FA(rs qs:List Int)(m:Nat):(plus rs qs m).length=rs.length:=by simp[plus]
theorem yK{rs qs:List Int}{m j:Nat}(h:j<rs.length):(plus rs qs m).getD j 0=qs.getD j 0+if O4 rs j<m then 1 else 0:=by
 unfold plus
 rw[abE,abB,List.getElem?_range h]
 simp only[Option.map_some,Option.getD_some]
 by_cases hc:O4 rs j<m
 ·rw[if_pos hc,abW hc];rfl
 ·rw[if_neg hc,abX hc];rfl
theorem yL{rs qs:List Int}{o:List Nat}(h:Ord rs o)(hl:qs.length=rs.length)(m:Nat):(o.take m).foldl kf qs=plus rs qs m:=by
 have hn:(o.take m).Nodup:=h.nodup.sublist (List.take_sublist _ _)
 have hm:∀i∈o.take m,i<qs.length:=fun i hi=>by
  have:=h.perm.mem_iff.1 (List.mem_of_mem_take hi)
  rw[hl];exact ab2.1 this
 obtain⟨h1,h2⟩:=yJ _ qs hn hm
 refine O5 (by rw[h1,FA,hl]) fun j hj=>?_
 have hj:j<rs.length:=by rw[h1,hl]at hj;exact hj
 rw[h2,yK hj]
 simp only[h.mem hj]
def Ao(rs:List Int)(b i:Nat):Nat:=if rs.getD b 0<rs.getD i 0 then i else b
def yM(rs:List Int):Nat:=(List.range' 1 (rs.length-1)).foldl (Ao rs) 0
def onR(p:List Int×List Int):List Int×List Int:=(kf p.1 (yM p.2),p.2.set (yM p.2) (-1))
def Ap(p:List Int×List Int):Nat->List Int×List Int
 |0=>p
 |k+1=>onR (Ap p k)
theorem yN(rs:List Int):∀(n s b:Nat),b<s->(∀j,j<s->eX rs j b=false)->((List.range' s n).foldl (Ao rs) b)<s+n/\∀j,j<s+n->eX rs j ((List.range' s n).foldl (Ao rs) b)=false
 |0,s,b,hb,h=>⟨by simpa using hb,by simpa using h⟩
 |n+1,s,b,hb,h=>by
  rw[List.range'_succ,List.foldl_cons]
  have:=yN rs n (s+1) (Ao rs b s) (by unfold Ao;split<;>omega) fun j hj=>by
   unfold Ao
   have YN:=h b hb
   split
   ·rename_i hc
    by_cases e:j=s
    ·subst e;simp[eX]
    ·have:=h j (by omega)
     simp only[eX,acb]at*
     omega
   ·rename_i hc
    by_cases e:j=s
    ·subst e
     simp only[eX,acb];omega
    ·exact h j (by omega)
  rw[show s+(n+1)=s+1+n by omega]
  exact this
theorem VK{rs:List Int}(h:0<rs.length):yM rs<rs.length/\∀j,j<rs.length->eX rs j (yM rs)=false:=by
 have:=yN rs (rs.length-1) 1 0 (by omega) fun j hj=>by
  have:j=0:=by omega
  subst this;simp[eX]
 rw[show 1+(rs.length-1)=rs.length by omega]at this
 exact this
theorem O6{rs qs:List Int}{o:List Nat}(h:Ord rs o)(hp:∀r∈rs,0<=r)(hl:qs.length=rs.length):∀k,k<=rs.length->(Ap (qs,rs) k).1=(o.take k).foldl kf qs/\(Ap (qs,rs) k).2.length=rs.length/\∀j,j<rs.length->(Ap (qs,rs) k).2.getD j 0=if j∈o.take k then -1 else rs.getD j 0
 |0,_=>⟨rfl,rfl,fun j _=>by simp[Ap]⟩
 |k+1,hk=>by
  obtain⟨h1,h2,h3⟩:=O6 h hp hl k (by omega)
  have mj:k<o.length:=by rw[h.len];omega
  have cB:o[k]?=some o[k]:=aaa mj
  have ht:o.take (k+1)=o.take k++[o[k]]:=by rw[abJ,cB];rfl
  have GQ:o[k]<rs.length:=ab2.1 (h.perm.mem_iff.1 (ab6 mj))
  have hrk:=h.LJ cB
  have dr:∀j,j<rs.length->0<=rs.getD j 0:=fun j hj=>by
   rw[abE,aaa hj];exact hp _ (ab6 hj)
  have hb:yM (Ap (qs,rs) k).2=o[k]:=by
   obtain⟨b1,b2⟩:=VK (rs:=(Ap (qs,rs) k).2) (by omega)
   rw[h2]at b1 b2
   have b3:=b2 o[k] GQ
   generalize yM (Ap (qs,rs) k).2=b at b1 b3
   have g1:=h3 b b1
   have g2:=h3 o[k] GQ
   have c6:o[k]∉o.take k:=fun hm=>by have:=(h.mem GQ).1 hm;omega
   rw[if_neg c6]at g2
   have p1:=dr o[k] GQ
   refine Classical.byContradiction fun ck=>?_
   by_cases hbm:b∈o.take k
   ·rw[if_pos hbm]at g1
    simp only[eX,acb]at b3
    omega
   ·rw[if_neg hbm]at g1
    have Xb:k<O4 rs b:=by
     have h5:¬O4 rs b<k:=fun h6=>hbm ((h.mem b1).2 h6)
     rcases Nat.lt_or_eq_of_le (Nat.le_of_not_lt h5)with h6|h6
     ·exact h6
     ·obtain⟨q,hq⟩:=abV (h.perm.mem_iff.2 (ab2.2 b1))
      have B1:=h.LJ hq
      have:q=k:=by omega
      subst this
      rw[cB]at hq
      injection hq with hq
      exact absurd hq.symm ck
    obtain⟨q,hq⟩:=abV (h.perm.mem_iff.2 (ab2.2 b1))
    have B1:=h.LJ hq
    have G4:=(abA.1 hq).1
    have hbt:=List.pairwise_iff_getElem.1 h.srt k q mj G4 (by omega)
    rw[(abA.1 hq).2]at hbt
    simp only[eX,acb,decide_eq_true_eq]at b3 hbt
    omega
  have eo:Ap (qs,rs) (k+1)=(kf (Ap (qs,rs) k).1 o[k],(Ap (qs,rs) k).2.set o[k] (-1)):=by show onR _=_;unfold onR;rw[hb]
  rw[eo]
  refine⟨by rw[ht,abZ,<-h1];rfl,(List.length_set ..).trans h2,fun j hj=>?_⟩
  show((Ap (qs,rs) k).2.set o[k] (-1)).getD j 0=_
  by_cases e:o[k]=j
  ·subst e
   rw[abE,List.getElem?_set_self (by omega),if_pos (by rw[ht];exact abI.2 (.inr (abF.2 rfl)))];rfl
  ·rw[abE,List.getElem?_set_ne e,<-abE,h3 j hj]
   have:j∈o.take (k+1)↔j∈o.take k:=by rw[ht,abI,abF];exact⟨fun h=>h.resolve_right fun h=>e h.symm,.inl⟩
   simp only[this]
theorem O7{rs qs:List Int}(hp:∀r∈rs,0<=r)(hl:qs.length=rs.length){k:Nat}(hk:k<=rs.length):(Ap (qs,rs) k).1=plus rs qs k:=by
 obtain⟨o,h⟩:=H5 rs
 rw[(O6 h hp hl k hk).1,yL h hl]
def qL(t s:Int)(ws:List Int):List Int:=ws.map fun w=>t*w/s
def rL(t s:Int)(ws:List Int):List Int:=ws.map fun w=>t*w%s
def fT(t s:Int)(ws:List Int):Int:=t-(qL t s ws).sum
def zT(t:Int)(ws:List Int):List Int:=plus (rL t ws.sum ws) (qL t ws.sum ws) (fT t ws.sum ws).toNat
theorem O8(t s:Int):∀ws:List Int,s*(qL t s ws).sum+(rL t s ws).sum=t*ws.sum
 |[]=>by simp[qL,rL]
 |w::ws=>by
  have ih:=O8 t s ws
  have:=Int.mul_ediv_add_emod (t*w) s
  simp only[qL,rL,List.map_cons,List.sum_cons]at*
  rw[Int.mul_add,Int.mul_add];omega
theorem VL{t s:Int}(hs:0<s){ws:List Int}:∀r∈rL t s ws,0<=r/\r<s:=fun r hr=>by
 obtain⟨w,_,rfl⟩:=ab1.1 hr
 exact⟨Int.emod_nonneg _ (by omega),Int.emod_lt_of_pos _ hs⟩
theorem yO:∀{l:List Int},(∀x∈l,0<=x)->0<=l.sum
 |[],_=>by simp
 |x::l,h=>by
  have:=h x abL
  have:=yO fun y hy=>h y (abH x hy)
  simp only[List.sum_cons];omega
theorem yP{s:Int}(hs:0<s):∀{l:List Int},(∀x∈l,0<=x/\x<s)->l.sum<=s*(l.countP (fun x=>decide (0<x)):Nat)/\(0<l.sum->l.sum<s*(l.countP (fun x=>decide (0<x)):Nat))
 |[],_=>by simp
 |x::l,h=>by
  have hx:=h x abL
  have ih:=yP hs fun y hy=>h y (abH x hy)
  simp only[List.sum_cons,List.countP_cons]
  by_cases hp:0<x
  ·rw[abW hp]
   simp only[if_true]
   have:s*((l.countP (fun x=>decide (0<x))+1:Nat):Int)=s*(l.countP (fun x=>decide (0<x)):Nat)+s:=by rw[Int.natCast_add,Int.mul_add];simp
   rw[this]
   omega
  ·rw[abX hp]
   simp only[Bool.false_eq_true,if_false,Nat.add_zero]
   have:x=0:=by omega
   subst this
   simpa using ih
theorem w7{t:Int}{ws:List Int}(hs:0<ws.sum):0<=fT t ws.sum ws/\fT t ws.sum ws<=((rL t ws.sum ws).countP fun x=>decide (0<x):Nat)/\(0<fT t ws.sum ws->fT t ws.sum ws<((rL t ws.sum ws).countP fun x=>decide (0<x):Nat)):=by
 have h1:=O8 t ws.sum ws
 have h2:=VL (t:=t) hs (ws:=ws)
 have h3:=yO fun x hx=>(h2 x hx).1
 have h4:=yP hs h2
 have e:(rL t ws.sum ws).sum=ws.sum*fT t ws.sum ws:=by unfold fT;rw[Int.mul_sub,Int.mul_comm ws.sum t];omega
 generalize fT t ws.sum ws=L at*
 generalize ((rL t ws.sum ws).countP fun x=>decide (0<x))=C at*
 rw[e]at h3 h4
 refine⟨?_,?_,fun hL=>?_⟩
 ·exact Classical.byContradiction fun hn=>by
   have:=Int.mul_neg_of_pos_of_neg hs (show L<0 by omega);omega
 ·exact Int.le_of_mul_le_mul_left h4.1 hs
 ·exact Int.lt_of_mul_lt_mul_left (h4.2 (Int.mul_pos hs hL)) (by omega)
theorem Ka(t:Int)(ws:List Int):(zT t ws).length=ws.length:=by simp[zT,FA,rL]
theorem Sg{rs:List Int}(hp:∀r∈rs,0<=r){i:Nat}(hi:i<rs.length)(h:O4 rs i<rs.countP fun x=>decide (0<x)):0<rs.getD i 0:=by
 refine Classical.byContradiction fun hn=>?_
 have h0:rs.getD i 0<=0:=by omega
 have:rs.countP (fun x=>decide (0<x))<=O4 rs i:=by
  unfold O4
  have e:rs=(List.range rs.length).map fun j=>rs.getD j 0:=by
   refine List.ext_getElem (by simp) fun j h1 h2=>?_
   simp[abE,h1]
  conv=>lhs;rw[e,List.countP_map]
  refine List.countP_mono_left fun j _ hj=>?_
  simp only[Function.comp,decide_eq_true_eq]at hj
  simp only[eX,decide_eq_true_eq]
  omega
 omega
theorem TZ{t:Int}{ws:List Int}(ht:0<=t)(hw:∀w∈ws,0<=w)(hs:0<ws.sum)(GK:t<=ws.sum){i:Nat}(hi:i<ws.length):0<=(zT t ws).getD i 0/\(zT t ws).getD i 0<=ws.getD i 0:=by
 unfold zT
 have hr:i<(rL t ws.sum ws).length:=by simpa[rL]using hi
 rw[yK hr]
 have YO:=hw _ (ab6 hi)
 have eq:(qL t ws.sum ws).getD i 0=t*ws[i]/ws.sum:=by simp[qL,abE,hi]
 have er:(rL t ws.sum ws).getD i 0=t*ws[i]%ws.sum:=by simp[rL,abE,hi]
 have ew:ws.getD i 0=ws[i]:=by simp[abE,hi]
 rw[eq,ew]
 have YP:0<=t*ws[i]/ws.sum:=Int.ediv_nonneg (Int.mul_nonneg ht YO) (by omega)
 have hm:=Int.mul_ediv_add_emod (t*ws[i]) ws.sum
 have hle:t*ws[i]<=ws.sum*ws[i]:=Int.mul_le_mul_of_nonneg_right GK YO
 have Xb:=VL (t:=t) hs (ws:=ws)
 split
 ·rename_i hc
  obtain⟨l1,l2,l3⟩:=w7 (t:=t) hs
  have dr:0<fT t ws.sum ws:=by omega
  have hrp:=Sg (fun r hr=>(Xb r hr).1) hr (by have:=l3 dr;omega)
  rw[er]at hrp
  refine⟨by omega,?_⟩
  have:ws.sum*(t*ws[i]/ws.sum)<ws.sum*ws[i]:=by omega
  have:=Int.lt_of_mul_lt_mul_left this (by omega)
  omega
 ·refine⟨by omega,?_⟩
  have h0:=Int.emod_nonneg (t*ws[i]) (show ws.sum≠0 by omega)
  have:ws.sum*(t*ws[i]/ws.sum)<=ws.sum*ws[i]:=by omega
  have:=Int.le_of_mul_le_mul_left this hs
  omega
end
section
open Go.TM
section
variable {κ β:Type} [DecidableEq κ]
def aR:List (κ×β)->κ->Option β
 |[],_=>none
 |(k',v)::r,k=>if k'=k then some v else aR r k
def aU:List (κ×β)->κ->β->List (κ×β)
 |[],k,x=>[(k,x)]
 |(k',v)::r,k,x=>if k'=k then(k,x)::r else(k',v)::aU r k x
def s0:List (κ×β)->κ->List (κ×β)
 |[],_=>[]
 |(k',v)::r,k=>if k'=k then r else(k',v)::s0 r k
def Nk(m:List (κ×β)):Prop:=(m.map (·.1)).Nodup
theorem kU(m:List (κ×β))(k k':κ)(x:β):aR (aU m k x) k'=if k=k' then some x else aR m k':=by
 induction m with
 |nil=>simp[aU,aR]
 |cons p r ih=>
  obtain⟨q,v⟩:=p
  simp only[aU]
  by_cases h:q=k
  ·rw[if_pos h]
   subst h
   simp only[aR]
   by_cases h2:q=k'
   ·rw[if_pos h2,if_pos h2]
   ·rw[if_neg h2,if_neg h2,if_neg h2]
  ·rw[if_neg h]
   simp only[aR,ih]
   by_cases h2:q=k'
   ·rw[if_pos h2,if_pos h2,if_neg (by rintro rfl;exact h h2)]
   ·rw[if_neg h2,if_neg h2]
theorem kV{m:List (κ×β)}{k:κ}{x:β}(h:aR m k=some x):(k,x)∈m:=by
 induction m with
 |nil=>cases h
 |cons p r ih=>
  obtain⟨q,v⟩:=p
  simp only[aR]at h
  by_cases h2:q=k
  ·rw[if_pos h2]at h;injection h with h;subst h;subst h2;exact abL
  ·rw[if_neg h2]at h;exact abH _ (ih h)
theorem mQ{m:List (κ×β)}{k:κ}(h:k∉m.map (·.1)):aR m k=none:=by
 cases hg:aR m k with
 |none=>rfl
 |some x=>exact absurd (ab1.2 ⟨_,kV hg,rfl⟩) h
theorem O9{m:List (κ×β)}{k:κ}:aR m k=none↔k∉m.map (·.1):=by
 refine⟨fun h hm=>?_,mQ⟩
 induction m with
 |nil=>cases hm
 |cons p r ih=>
  obtain⟨q,v⟩:=p
  simp only[aR]at h
  by_cases h2:q=k
  ·rw[if_pos h2]at h;cases h
  ·rw[if_neg h2]at h
   rcases abG.1 hm with e|hm
   ·exact h2 e.symm
   ·exact ih h hm
theorem s3{m:List (κ×β)}{k:κ}{x:β}(hn:Nk m)(h:(k,x)∈m):aR m k=some x:=by
 induction m with
 |nil=>cases h
 |cons p r ih=>
  obtain⟨q,v⟩:=p
  have EI:=List.nodup_cons.1 hn
  simp only[aR]
  rcases abG.1 h with e|h
  ·injection e with e1 e2;subst e1;subst e2;exact if_pos rfl
  ·rw[if_neg,ih EI.2 h]
   rintro rfl
   exact EI.1 (ab1.2 ⟨_,h,rfl⟩)
theorem uO(m:List (κ×β))(k:κ)(x:β):(aU m k x).map (·.1)=if k∈m.map (·.1)then m.map (·.1)else m.map (·.1)++[k]:=by
 induction m with
 |nil=>simp[aU]
 |cons p r ih=>
  obtain⟨q,v⟩:=p
  simp only[aU,List.map_cons,abG]
  by_cases h:q=k
  ·subst h;simp
  ·rw[if_neg h,List.map_cons,ih]
   have:k≠q:=fun e=>h e.symm
   by_cases h2:k∈r.map (·.1)
   ·rw[if_pos h2,if_pos (.inr h2)]
   ·rw[if_neg h2,if_neg (by simp[this,h2])];rfl
theorem Nk.put{m:List (κ×β)}(h:Nk m)(k:κ)(x:β):Nk (aU m k x):=by
 unfold Nk
 rw[uO]
 split
 ·exact h
 ·rename_i h2
  rw[List.nodup_append]
  refine⟨h,by simp,fun a ha b hb=>?_⟩
  rw[abF]at hb;subst hb
  rintro rfl;exact h2 ha
theorem Pa(m:List (κ×β))(k:κ):(s0 m k).Sublist m:=by
 induction m with
 |nil=>exact .slnil
 |cons p r ih=>
  obtain⟨q,v⟩:=p
  simp only[s0]
  split
  ·exact List.sublist_cons_self _ _
  ·exact ih.cons_cons _
theorem Nk.del{m:List (κ×β)}(h:Nk m)(k:κ):Nk (s0 m k):=h.sublist ((Pa m k).map _)
theorem FB{m:List (κ×β)}(h:Nk m)(k k':κ):aR (s0 m k) k'=if k=k' then none else aR m k':=by
 induction m with
 |nil=>simp[s0,aR]
 |cons p r ih=>
  obtain⟨q,v⟩:=p
  have EI:=List.nodup_cons.1 h
  simp only[s0]
  by_cases h1:q=k
  ·subst h1
   rw[if_pos rfl]
   by_cases h2:q=k'
   ·subst h2
    rw[if_pos rfl];exact mQ EI.1
   ·rw[if_neg h2];simp only[aR];rw[if_neg h2]
  ·rw[if_neg h1]
   simp only[aR,ih EI.2]
   by_cases h2:q=k'
   ·rw[if_pos h2,if_pos h2,if_neg (by rintro rfl;exact h1 h2)]
   ·rw[if_neg h2,if_neg h2]
theorem Nk.perm{m m':List (κ×β)}(h:Nk m)(p:m.Perm m'):Nk m':=(p.map _).nodup_iff.1 h
theorem Bp{m m':List (κ×β)}(h:Nk m)(p:m.Perm m')(k:κ):aR m k=aR m' k:=by
 cases hg:aR m k with
 |some x=>exact(s3 (h.perm p) (p.mem_iff.1 (kV hg))).symm
 |none=>
  have:=O9.1 hg
  exact(mQ fun hm=>this ((p.map _).mem_iff.2 hm)).symm
def eM(ek:κ->DV)(ev:β->DV)(m:List (κ×β)):List DV:=m.map fun p=>.fe (ek p.1) (ev p.2)
variable {ek:κ->DV} {ev:β->DV} (hk:∀a b,tI (ek a) (ek b)=decide (a=b))
include hk
theorem iN(m:List (κ×β))(k:κ):bZ (eM ek ev m) (ek k)=(aR m k).map ev:=by
 induction m with
 |nil=>rfl
 |cons p r ih=>
  obtain⟨q,v⟩:=p
  show(bif tI (ek q) (ek k)then some (ev v)else bZ (eM ek ev r) (ek k))=_
  rw[hk,ih]
  simp only[aR]
  by_cases h:q=k
  ·rw[abW h,if_pos h];rfl
  ·rw[abX h,if_neg h];rfl
theorem dB(m:List (κ×β))(k:κ)(x:β):cW (eM ek ev m) (ek k) (ev x)=eM ek ev (aU m k x):=by
 induction m with
 |nil=>rfl
 |cons p r ih=>
  obtain⟨q,v⟩:=p
  show(bif tI (ek q) (ek k)then DV.fe (ek k) (ev x)::eM ek ev r else .fe (ek q) (ev v)::cW (eM ek ev r) (ek k) (ev x))=_
  rw[hk,ih]
  simp only[aU]
  by_cases h:q=k
  ·rw[abW h,if_pos h];rfl
  ·rw[abX h,if_neg h];rfl
theorem Sh(m:List (κ×β))(k:κ):gN (eM ek ev m) (ek k)=eM ek ev (s0 m k):=by
 induction m with
 |nil=>rfl
 |cons p r ih=>
  obtain⟨q,v⟩:=p
  show(bif tI (ek q) (ek k)then eM ek ev r else .fe (ek q) (ev v)::gN (eM ek ev r) (ek k))=_
  rw[hk,ih]
  simp only[s0]
  by_cases h:q=k
  ·rw[abW h,if_pos h];rfl
  ·rw[abX h,if_neg h];rfl
end
end
section
open Go.TM
def zU:TI:=⟨false,1,0,false,[],[],false,false,0,0,0,[],none,false,0,[]⟩
def bN:TI:=⟨true,1,8,false,[],[.jo],false,false,0,7,0,[],none,false,0,[]⟩
def ty2:TI:=⟨true,1,8,false,[],[.int .i64 0],false,false,0,2,0,[],some .i64,false,0,[]⟩
def ty3:TI:=⟨true,1,1,false,[],[.int .u8 0],false,false,0,2,0,[],some .u8,false,0,[]⟩
def ty4:TI:=⟨true,4,24,true,[(0,1),(1,1),(2,1),(3,1)],[.int .i64 0,.int .i64 0,.bool false,.int .u8 0],false,false,0,9,0,[2,3,4,6],none,false,0,[2,2,1,2]⟩
def ty5:TI:=⟨true,1,16,false,[],[.str ⟨#[]⟩],false,true,0,3,0,[],none,false,0,[]⟩
def ty6:TI:=⟨true,1,8,false,[],[.int .u64 0],false,false,0,2,0,[],some .u64,false,0,[]⟩
def ty7:TI:=⟨true,2,24,true,[(0,1),(1,1)],[.str ⟨#[]⟩,.int .u64 0],false,false,0,9,0,[9,12],none,false,0,[]⟩
def Pb:TI:=⟨true,1,8,false,[],[.ez],false,false,0,5,0,[],none,false,0,[]⟩
def ty9:TI:=⟨true,1,8,true,[(0,1)],[.ez],false,false,0,9,0,[17],none,false,0,[]⟩
def VM:TI:=⟨true,1,16,false,[],[.nc],false,false,0,8,0,[],none,false,0,[]⟩
def VN:TI:=⟨true,1,4,false,[],[.int .i32 0],false,false,0,2,0,[],some .i32,false,0,[]⟩
def YQ:TI:=⟨true,7,72,true,[(0,1),(1,1),(2,1),(3,1),(4,1),(5,1),(6,1)],[.int .i64 0,.int .i64 0,.int .i64 0,.int .i64 0,.int .i64 0,.int .i64 0,.az],false,false,0,9,0,[3,3,3,3,3,3,27],none,false,0,[]⟩
def YR:TI:=⟨true,4,96,true,[(0,1),(1,1),(2,1),(3,1)],[.az,.az,.az,.az],false,false,0,9,0,[44,45,46,47],none,false,0,[]⟩
def YS:TI:=⟨true,8,176,true,[(0,1),(1,4),(5,1),(6,1),(7,1)],[.int .i64 0,.az,.az,.az,.az,.az,.az,.az],false,false,0,9,0,[3,49,53,54,55],none,false,0,[]⟩
def YT:TI:=⟨true,5,56,true,[(0,1),(1,1),(2,1),(3,1),(4,1)],[.int .i64 0,.int .i64 0,.int .i64 0,.int .i64 0,.az],false,false,0,9,0,[3,3,3,3,58],none,false,0,[]⟩
def Si:TI:=⟨true,3,24,true,[(0,1),(1,1),(2,1)],[.int .i64 0,.int .i64 0,.int .i64 0],false,false,0,9,0,[3,3,3],none,false,0,[2,2,2]⟩
def YU:TI:=⟨true,14,160,true,[(0,1),(1,7),(8,1),(9,1),(10,1),(11,1),(12,1),(13,1)],[.ez,.int .i64 0,.int .i64 0,.int .i64 0,.int .i64 0,.int .i64 0,.int .i64 0,.az,.ij,.ij,.ij,.ij,.az,.az],false,false,0,9,0,[23,29,67,68,69,69,54,22],none,false,0,[]⟩
def LK:TI:=⟨true,2,16,true,[(0,1),(1,1)],[.int .i64 0,.int .i64 0],false,false,0,9,0,[3,3],none,true,0,[2,2]⟩
def YV:TI:=⟨true,11,184,true,[(0,1),(1,4),(5,1),(6,1),(7,1),(8,1),(9,1),(10,1)],[.int .i64 0,.az,.az,.az,.az,.ij,.ij,.az,.az,.ij,.ij],false,false,0,9,0,[3,49,67,68,55,54,69,69],none,false,0,[]⟩
def YW:TI:=⟨true,11,120,true,[(0,1),(1,1),(2,1),(3,1),(4,1),(5,1),(6,1),(7,1),(8,1),(9,1),(10,1)],[.int .i64 0,.int .i64 0,.int .i64 0,.int .i64 0,.int .i64 0,.int .i64 0,.int .i64 0,.int .i64 0,.int .i64 0,.az,.az],false,false,0,9,0,[3,3,3,3,3,3,3,3,3,58,22],none,false,0,[]⟩
def YX:TI:=⟨true,3,40,true,[(0,1),(1,1),(2,1)],[.int .i64 0,.int .i64 0,.az],false,false,0,9,0,[3,3,58],none,false,0,[]⟩
def YY:TI:=⟨true,7,48,true,[(0,1),(1,1),(2,1),(3,1),(4,1),(5,1),(6,1)],[.str ⟨#[]⟩,.bool false,.bool false,.bool false,.int .i64 0,.int .i64 0,.int .i64 0],false,false,0,9,0,[9,4,4,4,3,3,3],none,false,0,[3,1,1,1,2,2,2]⟩
def YZ:TI:=⟨true,9,128,true,[(0,1),(1,1),(2,1),(3,1),(4,1),(5,1),(6,1),(7,1),(8,1)],[.str ⟨#[]⟩,.bool false,.int .i64 0,.int .i64 0,.int .i64 0,.int .i64 0,.az,.az,.az],false,false,0,9,0,[9,4,3,3,3,3,102,102,102],none,false,0,[]⟩
def Y0:TI:=⟨true,2,32,true,[(0,1),(1,1)],[.int .i64 0,.az],false,false,0,9,0,[3,102],none,false,0,[]⟩
def Y1:TI:=⟨true,2,40,true,[(0,1),(1,1)],[.str ⟨#[]⟩,.az],false,false,0,9,0,[9,107],none,false,0,[]⟩
def Y2:TI:=⟨true,2,40,true,[(0,1),(1,1)],[.str ⟨#[]⟩,.az],false,false,0,9,0,[9,112],none,false,0,[]⟩
def Y3:TI:=⟨true,4,32,true,[(0,1),(1,1),(2,1),(3,1)],[.jo,.jo,.bool false,.jo],false,false,0,9,0,[118,118,4,159],none,false,0,[]⟩
def VO:TI:=⟨true,4,40,true,[(0,1),(1,1),(2,1),(3,1)],[.int .i64 0,.str ⟨#[]⟩,.int .i64 0,.int .i64 0],false,false,0,9,0,[3,9,3,3],none,false,0,[2,3,2,2]⟩
def Y4:TI:=⟨true,4,40,true,[(0,1),(1,1),(2,1),(3,1)],[.ez,.ez,.ez,.str ⟨#[]⟩],false,false,0,9,0,[17,17,17,9],none,false,0,[]⟩
def Y5:TI:=⟨true,0,0,true,[(0,0)],[],false,false,0,9,0,[303],none,false,0,[]⟩
def Y6:TI:=⟨true,11,48,true,[(0,1),(1,1),(2,1),(3,1),(4,1),(5,1),(6,1),(7,1),(8,1),(9,1),(10,1)],[.int .u64 0,.int .u64 0,.int .u32 0,.int .u8 0,.int .u8 0,.int .u8 0,.int .u8 0,.jo,.ez,.int .i32 0,.int .i32 0],false,false,0,9,0,[12,12,220,306,5,5,307,308,309,310,311],none,false,0,[]⟩
def Y7:TI:=⟨true,1,16,true,[(0,1)],[.str ⟨#[]⟩],false,false,0,9,0,[9],none,false,0,[3]⟩
def j4:List TI:=[
 zU,bN,ty2,ty2,⟨true,1,1,false,[],[.bool false],false,false,0,1,0,[],none,false,0,[]⟩,ty3,ty3,ty4,ty4,ty5,ty5,ty5,ty6,ty7,ty7,Pb,Pb,Pb,ty9,ty9,VM,VN,⟨true,1,24,false,[],[.az],true,false,3,4,0,[],none,false,0,[]⟩,Pb,Pb,zU,bN,⟨true,1,24,false,[],[.az],true,false,60,4,0,[],none,false,0,[]⟩,YQ,YQ,bN,ty2,zU,bN,bN,bN,bN,bN,bN,bN,bN,bN,zU,bN,⟨true,1,24,false,[],[.az],true,false,99,4,0,[],none,false,0,[]⟩,⟨true,1,24,false,[],[.az],true,false,104,4,0,[],none,false,0,[]⟩,⟨true,1,24,false,[],[.az],true,false,109,4,0,[],none,false,0,[]⟩,⟨true,1,24,false,[],[.az],true,false,114,4,0,[],none,false,0,[]⟩,YR,YR,bN,zU,bN,⟨true,1,24,false,[],[.az],true,false,84,4,0,[],none,false,0,[]⟩,
 ⟨true,1,24,false,[],[.az],true,false,82,4,0,[],none,false,0,[]⟩,⟨true,1,24,false,[],[.az],true,false,29,4,0,[],none,false,0,[]⟩,YS,YS,⟨true,1,24,false,[],[.az],true,false,63,4,0,[],none,false,0,[]⟩,YT,YT,bN,Si,Si,Pb,zU,bN,⟨true,1,8,false,[],[.ij],false,false,58,6,73,[],none,false,0,[]⟩,⟨true,1,8,false,[],[.ij],false,false,3,6,3,[],none,false,0,[]⟩,⟨true,1,8,false,[],[.ij],false,false,58,6,3,[],none,false,0,[]⟩,YU,YU,LK,LK,YV,YV,bN,bN,bN,bN,bN,YW,YW,YX,YX,bN,bN,bN,bN,bN,bN,⟨true,1,24,false,[],[.az],true,false,131,4,0,[],none,false,0,[]⟩,bN,bN,bN,bN,bN,bN,YY,YY,LK,LK,⟨true,1,24,false,[],[.az],true,false,101,4,0,[],none,false,0,[]⟩,YZ,YZ,Y0,
 Y0,⟨true,1,24,false,[],[.az],true,false,106,4,0,[],none,false,0,[]⟩,Y1,Y1,LK,LK,⟨true,1,24,false,[],[.az],true,false,111,4,0,[],none,false,0,[]⟩,Y2,Y2,bN,bN,bN,bN,bN,bN,zU,bN,bN,bN,bN,bN,bN,bN,bN,Si,Si,bN,bN,bN,bN,bN,bN,bN,bN,bN,bN,bN,bN,⟨true,1,24,false,[],[.az],true,false,146,4,0,[],none,false,0,[]⟩,bN,⟨true,1,24,false,[],[.az],true,false,9,4,0,[],none,false,0,[]⟩,bN,bN,bN,zU,bN,bN,bN,⟨true,1,24,false,[],[.az],true,false,102,4,0,[],none,false,0,[]⟩,bN,⟨true,1,24,false,[],[.az],true,false,4,4,0,[],none,false,0,[]⟩,⟨true,1,24,false,[],[.az],true,false,31,4,0,[],none,false,0,[]⟩,bN,bN,Y3,Y3,zU,bN,bN,bN,bN,bN,zU,bN,bN,zU,bN,bN,bN,bN,
 ty6,bN,bN,bN,bN,bN,bN,bN,bN,bN,bN,bN,bN,bN,bN,bN,bN,bN,bN,bN,bN,bN,bN,bN,bN,bN,bN,⟨true,1,24,false,[],[.az],true,false,207,4,0,[],none,false,0,[]⟩,zU,bN,VO,VO,bN,bN,zU,bN,bN,ty2,zU,bN,bN,bN,bN,bN,⟨true,1,4,false,[],[.int .u32 0],false,false,0,2,0,[],some .u32,false,0,[]⟩,bN,ty6,⟨true,1,24,false,[],[.az],true,false,226,4,0,[],none,false,0,[]⟩,zU,bN,VO,⟨true,1,8,false,[],[.ij],false,false,4,6,9,[],none,false,0,[]⟩,bN,bN,bN,bN,bN,bN,bN,Pb,bN,zU,bN,bN,zU,bN,ty6,bN,bN,bN,Pb,bN,bN,bN,bN,bN,bN,bN,bN,bN,bN,zU,bN,Pb,zU,bN,bN,zU,bN,bN,bN,bN,bN,bN,⟨true,1,24,false,[],[.az],true,false,222,4,0,[],none,false,0,[]⟩,zU,bN,bN,bN,bN,
 bN,bN,bN,bN,bN,bN,zU,bN,bN,bN,bN,
 ⟨true,128,128,true,[],[.int .u8 0,.int .u8 0,.int .u8 0,.int .u8 0,.int .u8 0,.int .u8 0,.int .u8 0,.int .u8 0,.int .u8 0,.int .u8 0,.int .u8 0,.int .u8 0,.int .u8 0,.int .u8 0,.int .u8 0,.int .u8 0,.int .u8 0,.int .u8 0,.int .u8 0,.int .u8 0,.int .u8 0,.int .u8 0,.int .u8 0,.int .u8 0,.int .u8 0,.int .u8 0,.int .u8 0,.int .u8 0,.int .u8 0,.int .u8 0,.int .u8 0,.int .u8 0,.int .u8 0,.int .u8 0,.int .u8 0,.int .u8 0,.int .u8 0,.int .u8 0,.int .u8 0,.int .u8 0,.int .u8 0,.int .u8 0,.int .u8 0,.int .u8 0,.int .u8 0,.int .u8 0,.int .u8 0,.int .u8 0,.int .u8 0,.int .u8 0,.int .u8 0,.int .u8 0,.int .u8 0,.int .u8 0,.int .u8 0,.int .u8 0,.int .u8 0,.int .u8 0,.int .u8 0,.int .u8 0,.int .u8 0,.int .u8 0,.int .u8 0,.int .u8 0,.int .u8 0,.int .u8 0,.int .u8 0,.int .u8 0,.int .u8 0,.int .u8 0,.int .u8 0,.int .u8 0,.int .u8 0,.int .u8 0,.int .u8 0,.int .u8 0,.int .u8 0,.int .u8 0,.int .u8 0,.int .u8 0,.int .u8 0,.int .u8 0,.int .u8 0,.int .u8 0,.int .u8 0,.int .u8 0,.int .u8 0,.int .u8 0,.int .u8 0,.int .u8 0,.int .u8 0,.int .u8 0,.int .u8 0,.int .u8 0,.int .u8 0,.int .u8 0,.int .u8 0,.int .u8 0,.int .u8 0,.int .u8 0,.int .u8 0,.int .u8 0,.int .u8 0,.int .u8 0,.int .u8 0,.int .u8 0,.int .u8 0,.int .u8 0,.int .u8 0,.int .u8 0,.int .u8 0,.int .u8 0,.int .u8 0,.int .u8 0,.int .u8 0,.int .u8 0,.int .u8 0,.int .u8 0,.int .u8 0,.int .u8 0,.int .u8 0,.int .u8 0,.int .u8 0,.int .u8 0,.int .u8 0,.int .u8 0,.int .u8 0,.int .u8 0],false,false,5,10,0,[],none,false,128,[]⟩,
 bN,VM,VM,bN,bN,bN,bN,bN,bN,bN,bN,Pb,bN,Y4,Y4,⟨true,0,0,true,[],[],false,false,16,10,0,[],none,false,0,[]⟩,Y5,Y5,ty3,ty3,bN,Pb,VN,VN,Y6,Y6,Y7,Y7,⟨true,1,8,false,[],[.ez],false,false,0,0,0,[],none,false,0,[]⟩]
theorem Sj(f:Nat->TI)(l:List Nat)(t:Nat):nth (l.map f) t=match l[t]? with|some i=>f i|none=>TI.no:=by
 induction l generalizing t with
 |nil=>cases t<;>rfl
 |cons x r ih=>cases t with
  |zero=>rfl
  |succ t=>simpa[nth]using ih t
theorem VP:(List.range 317).map (TI.of Tryz.prog)=j4:=by kernel_rfl
theorem gx:eV Tryz.prog j4:=by
 intro t h
 rw[<-VP,Sj]at h⊢
 by_cases ht:t<317
 ·rw[List.getElem?_range ht]
 ·rw[List.getElem?_eq_none (by simp;omega)]at h;cases h
theorem mixed:Tryz.prog.follows .mixedOrders=true:=Checked.mixed Tryz.checked
end
section
open Go.TM
def Bq:List Nat:=[0,0,0,0,0,0,0,0,0,1,1,0,0,0,0,0,0,0,0,0,0,0,0,0,0,0,0,0,0,0,0,0,1,0,0,2,0,0,0,0,7,7,0,7,7,6,7,0,4,4,4,4,4,4,4,4,4,4,7,7,7,7,7,0,0,0,0,0,0,0,0,0,0,0,0,0,0,0,0,0,0,0,0,0,0,0,0,0,0,0,0,0,0,0,0,5,0,3,3,3,3,3,3,3,3,3,3,3,3,3,3,3,3,3,3,3,3,3,3,3,3,3,3,7,0,7,0,0]
class bJ where
 ty:TypeId
 fr:Nat×Nat
def LL:Array Value:=(Bq.map fun n=>Value.int .u8 (n:Nat)).toArray
def Pc[bJ]:Nat->Option Obj:=fun i=>bif Nat.beq i 0 then some (.cells LL bJ.ty bJ.fr)else none
def kDv:Nat->Option DV:=fun i=>bif Nat.beq i 0 then some (.agg (Bq.map fun n=>DV.int .u8 (n:Nat)))else none
theorem kOk[bJ]:∀i x,kDv i=some x->∀M:Mem,(∀j o,Pc j=some o->M j=some o)->bz M (.at x 0) (.pointer (some ⟨i,0,none⟩)):=by
 intro i x h M hM
 unfold kDv at h
 cases hb:Nat.beq i 0 with
 |false=>rw[hb]at h;cases h
 |true=>
  rw[hb]at h
  have hi:=abD hb
  injection h with h;subst h
  have hm:=hM i (.cells LL bJ.ty bJ.fr) (by unfold Pc;rw[hb];rfl)
  have ha:∀j,(⟨i,0,none⟩:Addr).add j=⟨i,j,none⟩:=fun j=>by unfold Addr.add;split<;>simp[*]
  have:=bz.at (M:=M) (.agg (Bq.map fun n=>DV.int .u8 (n:Nat))) 0 ⟨i,0,none⟩ (fun j=>.int .u8 ((Bq.getD j 0:Nat):Int)) (fun d hd=>by
   simp only[DV.cells,ab1]at hd
   obtain⟨n,_,rfl⟩:=hd
   rfl) (fun j hj=>by
   rw[ha]
   simp only[DV.cells,abz]at hj
   simp[Mem.cell?,hm,LL,hj]) (fun j d hd=>by
   simp only[DV.cells,abB]at hd
   cases hj:Bq[j]? with
   |none=>rw[hj]at hd;cases hd
   |some n=>
    rw[hj]at hd
    simp only[Option.map_some,Option.some.injEq]at hd
    subst hd
    simp only[List.getD,hj,Option.getD_some]
    exact .int .u8 _)
  rw[ha]at this
  exact this
instance abb[bJ]:cj where
 obj:=Pc
 dv:=kDv
 ok:=kOk
abbrev I(n:Int):DV:=.int .i64 n
abbrev B(b:Bool):DV:=.bool b
abbrev Ints(l:List Int):DV:=.sl 1 (l.map I)
theorem aG{a b:Int}{k:IntKind}(h:a=b):(DV.int k a).Le (.int k b):=h▸DV.Le.refl _
abbrev rf{d:DV}:d.Le d:=DV.Le.refl d
theorem s5:∀(g:Nat) (fn:Func),Tryz.prog.funcs[g]?=some fn->(fn.name== "runtime.NumGoroutine")=false:=by
 have h:(Tryz.prog.funcs.all fun fn=>!(fn.name== "runtime.NumGoroutine"))=true:=by kernel_rfl
 intro g fn hg
 rw[Array.all_eq_true']at h
 have:=h fn (Array.mem_of_getElem? hg)
 simpa using this
variable [bJ]
def oC(n:Int):Prop:=-9223372036854775808<=n/\n<=9223372036854775807
theorem fE{α:Type}{e:α->DV}(h:∀x,oo (e x)=e x)(l:List α):w8 (l.map e)=l.map e:=by
 rw[yQ,List.map_map]
 exact List.map_congr_left fun x _=>h x
theorem uP{b:Bool}(h:b=true):bw b true=true:=by subst h;rfl
theorem aaE{b:Bool}(h:b=false):bw b false=true:=by subst h;rfl
theorem VQ{a b:Bool}(h:a=true)(h2:b=true):(a&&bw b true)=true:=by subst h;subst h2;rfl
theorem Sk{a b:Bool}(h:a=true)(h2:b=false):(a&&bw b false)=true:=by subst h;subst h2;rfl
theorem dV{a b:Bool}(h:(bif a then b else false)=true):a=true/\b=true:=by cases a<;>simp_all
theorem lQ{a b:Bool}(h:(bif a then b else false)=false):¬(a=true/\b=true):=by cases a<;>simp_all
def yR(b w:DV):List DV:=[.agg [.str ⟨⟨[103,111,108,100]⟩⟩,B false,B true,B true,I 0,I 0,I 0],
 .agg [.str ⟨⟨[111,114,101]⟩⟩,B false,B false,B false,I 0,I 0,I 0],
 .agg [.str ⟨⟨[99,111,97,108]⟩⟩,B false,B true,B false,I 0,I 0,I 0],
 .agg [.str ⟨⟨[98,97,114]⟩⟩,B false,B false,B false,I 0,I 0,I 0],
 .agg [.str ⟨⟨[115,119,111,114,100]⟩⟩,B true,B false,B false,w,b,I 3]]
def Pd:DV:=.sl 9 [.agg [.str ⟨⟨[100,105,103]⟩⟩,B true,I 0,I 0,I 1,I 1,.az,.sl 2 [.agg [I 1,I 4],.agg [I 2,I 3]],.az],
 .agg [.str ⟨⟨[115,109,101,108,116]⟩⟩,B false,I 2,I 5,I 2,I 3,.sl 2 [.agg [I 1,I 2],.agg [I 2,I 1]],.sl 2 [.agg [I 3,I 1]],.sl 2 [.agg [I 1,I 1]]],
 .agg [.str ⟨⟨[102,111,114,103,101]⟩⟩,B false,I 3,I 10,I 1,I 1,.sl 2 [.agg [I 3,I 3]],.sl 2 [.agg [I 4,I 1]],.az],
 .agg [.str ⟨⟨[115,99,114,97,112]⟩⟩,B false,I 0,I 1,I 1,I 1,.sl 2 [.agg [I 4,I 1]],.sl 2 [.agg [I 3,I 3]],.az],
 .agg [.str ⟨⟨[115,101,108,108]⟩⟩,B false,I 0,I 1,I 1,I 1,.sl 2 [.agg [I 3,I 1]],.sl 2 [.agg [I 0,I 7]],.az]]
def T0:DV:=.sl 2 [.agg [.str ⟨⟨[99,104,101,115,116]⟩⟩,.sl 2 [.agg [I 5,.sl 2 [.agg [I 0,I 10]]],.agg [I 1,.sl 2 [.agg [I 3,I 2]]]]]]
def Pe:DV:=.sl 2 [.agg [.str ⟨⟨[115,97,108,101]⟩⟩,.sl 2 [.agg [I 0,I 500],.agg [I 100,I 1000]]]]
def aaF(b w:DV):DV:=.agg [.sl 7 (yR b w),Pd,T0,Pe]
def VR(_:Nat):Bool:=true
def aaG(_:Nat):Bool:=false
theorem pO{f:Nat}{fn:Func}{c:Code}{args rs:List DV}(hf:Tryz.prog.funcs[f]?=some fn)(hb:fn.body=some c)(hn:(fn.name== "runtime.NumGoroutine")=false)
 (ha:Nat.ble args.length fn.ntmps=true) (h:fg Tryz.prog j4 .fn fn.ntmps 0 c (Ty j4 fn rs) 0 (rp 0 args) []):aO Tryz.prog f args rs:=EW gx mixed (eU _) (fq _) hf hb hn ha h
theorem cO{f:Nat}{fn:Func}{c:Code}{args:List AV}{m ex:Nat}{K:ae}{rs:List AV}{K':ae}(hf:Tryz.prog.funcs[f]?=some fn)(hb:fn.body=some c)
 (ha:((!(fn.name== "runtime.NumGoroutine"))&&(Nat.ble args.length fn.ntmps&&cI.wf ⟨m,de 0 args,K⟩))=true) (h:fg Tryz.prog j4 .fn fn.ntmps m c (pd j4 fn m ex fun r k=>r=rs/\k=K') m (de 0 args) K):aq Tryz.prog f args m K ex rs K':=by
 rw[aca,acd]at ha
 exact NW gx mixed (eU _) (fq _) hf hb ha.1 ha.2 h
theorem g1{a p:Prop}(h:p):(a->a)/\p:=⟨id,h⟩
theorem g2{b:Bool}{a p:Prop}(h:p):(a->b=false->bw b false=true)/\p:=⟨fun _ h=>aaE h,h⟩
theorem g3{b:Bool}{a p:Prop}(h:p):(a->b=true->bw b true=true)/\p:=⟨fun _ h=>uP h,h⟩
theorem g4{a b:Bool}{p:Prop}(h:p):(a=true->a=true/\(b=true->(a&&bw b true)=true))/\p:=⟨fun h=>⟨h,fun h2=>VQ h h2⟩,h⟩
theorem g5{a b:Bool}{p:Prop}(h:p):(a=true->a=true/\(b=false->(a&&bw b false)=true))/\p:=⟨fun h=>⟨h,fun h2=>Sk h h2⟩,h⟩
def aF(x:Lt):DV:=.agg [I x.f,I x.a,I x.n]
abbrev aS(l:List Lt):DV:=.sl 3 (l.map aF)
end
section
open Go.TM
variable [bJ]
abbrev FC:DV:=aaF (I 2) (I 20)
theorem yS:aO Tryz.prog 17 [] [FC]:=qe (pol:=VR) (fuel:=1000) gx mixed s5 (by kernel_rfl)
theorem Br:aO Tryz.prog 43 [FC] [FC]:=qe (pol:=aaG) (fuel:=1000) gx mixed s5 (by kernel_rfl)
theorem yT:aO Tryz.prog 42 [FC] [I 0]:=qe (pol:=VR) (fuel:=1000) gx mixed s5 (by kernel_rfl)
theorem FD:aO Tryz.prog 44 [FC] [I 0]:=qe (pol:=VR) (fuel:=1000) gx mixed s5 (by kernel_rfl)
end
section
open Go.TM
def aQ(x:Lt):Bool:=decide (0<=x.f/\0<=x.a/\1<=x.n/\x.a+x.n<=1099511627776)
def ca(l:List Lt):Bool:=l.all aQ&&decide (l.length<=4096)
def bQ(l:List Lt):Int:=bif ca l then du l else 0
theorem aw{x:Lt}:aQ x=true↔0<=x.f/\0<=x.a/\1<=x.n/\x.a+x.n<=1099511627776:=by simp[aQ]
theorem FE{p:Lt->Bool}{l:List Lt}{j:Nat}{x:Lt}(hx:l[j]?=some x):(l.take (j+1)).all p=((l.take j).all p&&p x):=by
 rw[abJ,hx,List.all_append];simp
theorem Pf{p:Lt->Bool}{l:List Lt}{x:Lt}(hx:x∈l)(h:p x=false):l.all p=false:=by
 rw[List.all_eq_false];exact⟨x,hx,by rw[h];simp⟩
theorem uQ{l:List Lt}{j:Nat}{x:Lt}(hx:l[j]?=some x):du (l.take (j+1))=du (l.take j)+x.n:=by
 rw[abJ,hx,sW];simp[du]
theorem C5:∀{l:List Lt},(∀x∈l,0<=x.n/\x.n<=1099511627776)->0<=du l/\du l<=1099511627776*l.length
 |[],_=>by simp[du]
 |x::l,h=>by
  have h1:=h x abL
  have h2:=C5 fun y hy=>h y (abH x hy)
  simp only[du,List.map_cons,List.sum_cons,List.length_cons]at*
  omega
theorem Kb{l:List Lt}(h:∀x∈l,0<=x.n/\x.n<=1099511627776)(j:Nat)(hj:l.length<=1000000):0<=du (l.take j)/\du (l.take j)<=1099511627776000000:=by
 have:=C5 fun x hx=>h x (List.mem_of_mem_take (i:=j) hx)
 have h2:(l.take j).length<=1000000:=by rw[abU];omega
 omega
theorem hZ{l:List Lt}(h:ca l=true):l.length<=4096/\∀x∈l,aQ x=true:=by
 simp only[ca,aca,abY,decide_eq_true_eq]at h
 exact⟨h.2,h.1⟩
theorem lR{x:Lt}(h:aQ x=true):0<=x.n/\x.n<=1099511627776:=by have:=aw.1 h;omega
theorem mlt{i n:Nat}(h:i<n):n-(i+1)<n-i:=by omega
variable [bJ]
theorem LM(x:Lt):aO Tryz.prog 152 [aF x] [B (aQ x)]:=by
 refine pO Tryz.func152 rfl (by kernel_rfl) rfl ?_
 repeat first|apply g1|apply g2|apply g3|apply g4|apply g5
 refine⟨fun h=>?_,?_⟩
 ·simp[bw]at h;omega
 repeat first|apply g1|apply g2|apply g3|apply g4|apply g5
 refine⟨DV.Le.of_eq ?_,tv⟩
 congr 1
 rw[ab5,aw];simp;omega
theorem Bs(x:Lt):aO Tryz.prog 165 [aF x] [B (aQ x)]:=by
 refine pO Tryz.func165 rfl (by kernel_rfl) rfl ?_
 repeat first|apply g1|apply g2|apply g3|apply g4|apply g5
 refine⟨fun h=>?_,?_⟩
 ·simp[bw]at h;omega
 repeat first|apply g1|apply g2|apply g3|apply g4|apply g5
 refine⟨DV.Le.of_eq ?_,tv⟩
 congr 1
 rw[ab5,aw];simp;omega
theorem gh(l:List Lt)(hl:l.length<=1000000):aO Tryz.prog 88 [aS l] [B (ca l)]:=by
 refine pO Tryz.func88 rfl (by kernel_rfl) rfl ?_
 refine⟨Nat,fun i=>⟨0,[(0,.dv (aS l)),(3,.dv (I i))],[]⟩,fun i=>i<=l.length/\(l.take i).all aQ=true,fun i=>l.length-i,0,fun _=>rfl,jn rfl rfl rfl rfl,⟨abO _,rfl⟩,?_⟩
 rintro i ⟨hi,hv⟩
 refine⟨fun h=>?_,fun h=>?_⟩
 ·have au:i<l.length:=by have:=abQ h;rw[abz]at this;omega
  have hx:=aaa au
  generalize l[i]=x at hx
  refine⟨aF x,fun _=>⟨by omega,by rw[abB];simp[hx]⟩,?_⟩
  refine .inl ⟨_,fun _=>(LM x).ok,?_⟩
  refine⟨fun h=>?_,fun h=>?_⟩
  ·have h:aQ x=false:=by simpa using h
   refine⟨DV.Le.of_eq ?_,tv⟩
   rw[ca,Pf (abC hx) h];rfl
  ·have h:aQ x=true:=by simpa using h
   exact⟨fun _=>⟨by omega,by omega⟩,i+1,jn rfl rfl rfl rfl,⟨by omega,by rw[FE hx,hv,h];rfl⟩,mlt au⟩
 ·have he:i=l.length:=by have:=abR h;rw[abz]at this;omega
  subst he
  rw[abP]at hv
  refine⟨DV.Le.of_eq ?_,tv⟩
  rw[ca,hv,abz]
  congr 1
  simp only[Bool.true_and]
  congr 1
  simp only[eq_iff_iff];omega
theorem ku(l:List Lt)(hl:l.length<=1000000):aO Tryz.prog 159 [aS l] [B (ca l)]:=by
 refine pO Tryz.func159 rfl (by kernel_rfl) rfl ?_
 refine⟨fun h=>?_,fun h=>?_⟩
 ·have:4096<l.length:=by have:=abQ h;rw[abz]at this;omega
  refine⟨DV.Le.of_eq ?_,tv⟩
  rw[ca,abX (by omega),Bool.and_false]
 have hle:l.length<=4096:=by have:=abR h;rw[abz]at this;omega
 refine⟨Nat,fun i=>⟨0,[(8,.dv (aS l)),(9,.dv (I l.length)),(10,.dv (I i))],[]⟩,fun i=>i<=l.length/\(l.take i).all aQ=true,fun i=>l.length-i,0,fun _=>rfl,jn (by simp;rfl) rfl rfl rfl,⟨abO _,rfl⟩,?_⟩
 rintro i ⟨hi,hv⟩
 refine⟨fun h=>?_,fun h=>?_⟩
 ·have au:i<l.length:=by have:=abQ h;omega
  have hx:=aaa au
  generalize l[i]=x at hx
  refine⟨aF x,fun _=>⟨by omega,by rw[abB];simp[hx]⟩,?_⟩
  refine .inl ⟨_,fun _=>(Bs x).ok,?_⟩
  refine⟨fun h=>?_,fun h=>?_⟩
  ·have h:aQ x=false:=by simpa using h
   refine⟨DV.Le.of_eq ?_,tv⟩
   rw[ca,Pf (abC hx) h];rfl
  ·have h:aQ x=true:=by simpa using h
   exact⟨fun _=>⟨by omega,by omega⟩,i+1,jn rfl rfl rfl rfl,⟨by omega,by rw[FE hx,hv,h];rfl⟩,mlt au⟩
 ·have he:i=l.length:=by have:=abR h;omega
  subst he
  rw[abP]at hv
  exact⟨DV.Le.of_eq (by rw[ca,hv,abW hle];rfl),tv⟩
theorem mR(l:List Lt)(hl:l.length<=1000000)(hn:∀x∈l,0<=x.n/\x.n<=1099511627776):aO Tryz.prog 61 [aS l] [I (du l)]:=by
 refine pO Tryz.func61 rfl (by kernel_rfl) rfl ?_
 refine⟨Nat,fun i=>⟨0,[(3,.dv (I (du (l.take i)))),(6,.dv (aS l)),(7,.dv (I l.length)),(8,.dv (I i))],[]⟩,fun i=>i<=l.length,fun i=>l.length-i,0,fun _=>rfl,jn (by simp;rfl) rfl rfl rfl,abO _,?_⟩
 rintro i hi
 refine⟨fun h=>?_,fun h=>?_⟩
 ·have au:i<l.length:=by have:=abQ h;omega
  have hx:=aaa au
  generalize l[i]=x at hx
  have b1:=Kb hn i hl
  have b2:=hn x (abC hx)
  refine⟨aF x,fun _=>⟨by omega,by rw[abB];simp[hx]⟩,?_⟩
  exact⟨fun _=>⟨by omega,by omega⟩,fun _=>⟨by omega,by omega⟩,i+1,jn (by simp only[uQ hx];rfl) rfl rfl rfl,by omega,mlt au⟩
 ·have he:i=l.length:=by have:=abR h;omega
  subst he
  exact⟨aG (by rw[abP]),tv⟩
theorem qg(l:List Lt)(hl:l.length<=1000000):aO Tryz.prog 160 [aS l] [I (bQ l)]:=by
 refine pO Tryz.func160 rfl (by kernel_rfl) rfl ?_
 refine .inl ⟨_,fun _=>(ku l hl).ok,?_⟩
 refine⟨fun h=>?_,fun h=>?_⟩
 ·have h:ca l=false:=by simpa using h
  exact⟨aG (by rw[bQ,h];rfl),tv⟩
 ·have h:ca l=true:=by simpa using h
  refine .inl ⟨_,fun _=>(mR l hl fun x hx=>lR ((hZ h).2 x hx)).ok,?_⟩
  exact⟨aG (by rw[bQ,h];rfl),tv⟩
theorem kz(l:List Lt)(hl:l.length<=1000000):aO Tryz.prog 45 [aS l] [I (bQ l)]:=by
 refine pO Tryz.func45 rfl (by kernel_rfl) rfl ?_
 refine .inl ⟨_,fun _=>(gh l hl).ok,?_⟩
 have hb:=fun h=>@hZ l h
 have ht:bQ l=bif ca l then du l else 0:=rfl
 generalize ca l=v at hb ht
 refine⟨Nat,fun i=>⟨0,[(0,.dv (aS l)),(3,.dv (I (du (l.take i)))),(4,.dv (B v)),(5,.dv (I i))],[]⟩,fun i=>i<=l.length/\(v=false->i=0),fun i=>l.length-i,0,fun _=>rfl,jn rfl rfl rfl rfl,⟨abO _,fun _=>rfl⟩,?_⟩
 rintro i ⟨hi,hv⟩
 repeat first|apply g1|apply g2|apply g3|apply g4|apply g5
 refine⟨fun h=>?_,fun h=>?_⟩
 ·have h:=dV h
  have au:i<l.length:=by have:=abQ h.1;rw[abz]at this;omega
  have VS:v=true:=h.2
  have hx:=aaa au
  generalize l[i]=x at hx
  have hn:∀x∈l,0<=x.n/\x.n<=1099511627776:=fun x hx=>lR ((hb VS).2 x hx)
  have b1:=Kb hn i hl
  have b2:=hn x (abC hx)
  refine⟨aF x,fun _=>⟨by omega,by rw[abB];simp[hx]⟩,?_⟩
  exact⟨fun _=>⟨by omega,by omega⟩,fun _=>⟨by omega,by omega⟩,i+1,jn (by simp only[uQ hx];rfl) rfl rfl rfl,⟨by omega,by simp[VS]⟩,mlt au⟩
 ·have h:=lQ h
  refine⟨aG ?_,tv⟩
  rw[ht]
  cases v with
  |true=>
   have:i=l.length:=by
    have:¬(i:Int)<(l.map aF).length:=fun hh=>h ⟨abW hh,rfl⟩
    rw[abz]at this;omega
   subst this
   rw[abP];rfl
  |false=>rw[hv rfl];rfl
end
end Go.Proofs.YtpbiiigpphehbaaGreatDoor
