import Derived.Test.YtpbdohkbiklflaaGreatDoorFM25
import Derived.Test.YtpbdohkbiklflaaGreatDoorFM19
set_option linter.unusedVariables false
set_option linter.unusedSimpArgs false
set_option linter.unusedSectionVars false
namespace Go.Proofs.YtpbdohkbiklflaaGreatDoor
open Go.TM
theorem ur (x:Rk):jT x x=false:=by
 unfold jT; simp
theorem E9 {x y z:Rk} (h1:jT x y=true) (h2:jT y z=true):jT x z=true:=by
 unfold jT at *
 simp only [Bool.or_eq_true,Bool.and_eq_true,decide_eq_true_eq,beq_iff_eq] at *
 omega
theorem Nq {x y:Rk} (h1:jT x y=false) (h2:jT y x=false):x=y:=by
 obtain ⟨a,b⟩:=x; obtain ⟨c,d⟩:=y
 unfold jT at *
 simp only [Bool.or_eq_false_iff,Bool.and_eq_false_iff,decide_eq_false_iff_not,beq_eq_false_iff_ne,ne_eq] at *
 have:b=d:=by omega
 subst this
 have:a=c:=by
  rcases h1.2 with h | h
  ·exact absurd rfl h
  ·rcases h2.2 with h' | h'
   ·exact absurd rfl h'
   ·omega
 rw [this]
def fQ (l:List Rk):Prop:=l.Pairwise fun x y=>jT x y=true
theorem lR {y x:Rk} {r:List Rk} (h:jT y x=true):oC (y::r) x=oC r x+1:=by
 unfold oC; rw [List.countP_cons,if_pos h]
theorem qW {x:Rk} {l:List Rk} (h:∀z,z∈l→jT z x=false):oC l x=0:=by
 unfold oC; rw [List.countP_eq_zero]; intro z hz; rw [h z hz]; simp
theorem uv {y x:Rk} {r:List Rk} (hs:fQ (y::r)) (h:jT y x=false):∀z,z∈y::r→jT z x=false:=by
 intro z hz
 rcases List.mem_cons.1 hz with rfl | hz
 ·exact h
 ·have h1:=(List.pairwise_cons.1 hs).1 z hz
  cases hq:jT z x with
  | false=>rfl
  | true=>rw [E9 h1 hq] at h; cases h
theorem lS:∀{l:List Rk} (_:fQ l) (x:Rk),lK l (oC l x) x
 | [],_,x=>⟨Nat.le_refl _,fun i y _ h=>by simp at h,fun i y _ h=>by simp at h⟩
 | y::r,hs,x=>by
  have ih:=lS (l:=r) (List.pairwise_cons.1 hs).2 x
  cases hq:jT y x with
  | true =>
   rw [lR hq]
   refine ⟨by have:=ih.le; simp; omega,fun i z hi hz=>?_,fun i z hi hz=>?_⟩
   ·cases i with
    | zero=>simp at hz; subst hz; exact hq
    | succ i=>exact ih.lo i z (by omega) (by simpa using hz)
   ·cases i with
    | zero=>omega
    | succ i=>exact ih.hi i z (by omega) (by simpa using hz)
  | false =>
   have ha:=uv hs hq
   rw [qW ha]
   exact ⟨by omega,fun i z hi _=>by omega,fun i z _ hz=>ha z (List.mem_of_getElem? hz)⟩
theorem Ip (y x:Rk) (r:List Rk) (hs:fQ (y::r)):sk (y::r) x=if jT y x=true then y::sk r x else x::y::r:=by
 cases hq:jT y x with
 | true=>unfold sk; rw [lR hq]; simp [qP]
 | false=>unfold sk; rw [qW (uv hs hq)]; simp [qP]
theorem Iq (y x:Rk) (r:List Rk) (hs:fQ (y::r)):lL (y::r) x=if jT y x=true then y::lL r x else r:=by
 cases hq:jT y x with
 | true=>unfold lL; rw [lR hq]; simp [xN]
 | false=>unfold lL; rw [qW (uv hs hq)]; simp [xN]
theorem CP {l:List Rk} {x y:Rk}:y∈sk l x ↔ y=x ∨ y∈l:=by
 unfold sk qP
 rw [List.mem_append,List.mem_cons]
 have:=List.take_append_drop (oC l x) l
 constructor
 ·rintro (h | h | h)
  ·exact .inr (List.mem_of_mem_take h)
  ·exact .inl h
  ·exact .inr (List.mem_of_mem_drop h)
 ·rintro (h | h)
  ·exact .inr (.inl h)
  ·rw [←this,List.mem_append] at h
   rcases h with h | h
   ·exact .inl h
   ·exact .inr (.inr h)
theorem ts:∀{l:List Rk} {x:Rk},fQ l→x ∉ l→fQ (sk l x)
 | [],x,_,_=>by unfold sk qP fQ; simp
 | y::r,x,hs,hx=>by
  have hp:=List.pairwise_cons.1 hs
  rw [Ip y x r hs]
  have bD:x ≠ y:=fun h=>hx (by rw [h]; exact List.mem_cons_self)
  cases hq:jT y x with
  | true =>
   rw [if_pos rfl]
   refine List.pairwise_cons.2 ⟨fun z hz=>?_,ts hp.2 fun h=>hx (List.mem_cons_of_mem _ h)⟩
   rcases CP.1 hz with rfl | hz
   ·exact hq
   ·exact hp.1 z hz
  | false =>
   rw [if_neg (by simp)]
   have OW:jT x y=true:=by
    cases gE:jT x y with
    | true=>rfl
    | false=>exact absurd (Nq gE hq) bD
   refine List.pairwise_cons.2 ⟨fun z hz=>?_,hs⟩
   rcases List.mem_cons.1 hz with rfl | hz
   ·exact OW
   ·exact E9 OW (hp.1 z hz)
theorem sq:∀{l:List Rk} {x:Rk},fQ l→x∈l→oC l x<l.length∧fQ (lL l x)∧∀y,y∈lL l x ↔ y∈l∧y ≠ x
 | [],x,_,h=>by cases h
 | y::r,x,hs,hx=>by
  have hp:=List.pairwise_cons.1 hs
  have VM:∀z,z∈r→z ≠ y:=fun z hz h=>by have:=hp.1 z hz; rw [h,ur] at this; cases this
  rw [Iq y x r hs]
  cases hq:jT y x with
  | true =>
   have bD:x ≠ y:=fun h=>by rw [h,ur] at hq; cases hq
   have YN:x∈r:=by
    rcases List.mem_cons.1 hx with h | h
    ·exact absurd h bD
    ·exact h
   obtain ⟨h1,h2,h3⟩:=sq hp.2 YN
   rw [if_pos rfl,lR hq]
   refine ⟨by simp; exact h1,List.pairwise_cons.2 ⟨fun z hz=>hp.1 z ((h3 z).1 hz).1,h2⟩,fun z=>?_⟩
   rw [List.mem_cons,List.mem_cons,h3 z]
   constructor
   ·rintro (rfl | ⟨a,b⟩)
    ·exact ⟨.inl rfl,fun h=>bD h.symm⟩
    ·exact ⟨.inr a,b⟩
   ·rintro ⟨rfl | a,b⟩
    ·exact .inl rfl
    ·exact .inr ⟨a,b⟩
  | false =>
   have OW:x=y:=by
    rcases List.mem_cons.1 hx with h | h
    ·exact h
    ·have:=hp.1 x h; rw [this] at hq; cases hq
   subst OW
   rw [if_neg (by simp),qW (uv hs hq)]
   refine ⟨by simp,hp.2,fun z=>?_⟩
   rw [List.mem_cons]
   constructor
   ·intro hz; exact ⟨.inr hz,VM z hz⟩
   ·rintro ⟨rfl | a,b⟩
    ·exact absurd rfl b
    ·exact a
theorem pI {l:List Rk} (h:fQ l):l.Nodup:=by
 refine List.Pairwise.imp (fun {a b} sL=>?_) h
 rintro rfl
 rw [ur] at sL; cases sL
theorem CQ {l r:List Rk} (hl:fQ l) (hr:fQ r) (h:∀x,x∈l ↔ x∈r):l=r :=
 List.Perm.eq_of_pairwise (fun a b _ _ h1 h2=>by have:=E9 h1 h2; rw [ur] at this; cases this) hl hr ((List.perm_ext_iff_of_nodup (pI hl) (pI hr)).2 h)
end Go.Proofs.YtpbdohkbiklflaaGreatDoor
namespace Go.Proofs.YtpbdohkbiklflaaGreatDoor
open Go.TM
variable [de]
def Nk (m:HM):Prop:=(m.map (·.1)).Nodup
theorem dG:∀{m:HM} {k:Ky} {x:Int},bm m k=some x→(k,x)∈m
 | [],_,_,h=>by cases h
 | p::r,k,x,h=>by
  simp only [bm] at h
  split at h
  ·rename_i hk; injection h with h; subst h; subst hk; exact List.mem_cons_self
  ·exact List.mem_cons_of_mem _ (dG h)
theorem fo:∀{m:HM} {k:Ky} {x:Int},Nk m→(k,x)∈m→bm m k=some x
 | [],_,_,_,h=>by cases h
 | p::r,k,x,hn,h=>by
  unfold Nk at hn
  rw [List.map_cons,List.nodup_cons] at hn
  simp only [bm]
  rcases List.mem_cons.1 h with h | h
  ·subst h; simp
  ·rw [if_neg]
   ·exact fo hn.2 h
   ·intro hk
    exact hn.1 (by rw [hk]; exact List.mem_map.2 ⟨_,h,rfl⟩)
theorem kS {m:HM} {k:Ky} (h:k ∉ m.map (·.1)):bm m k=none:=by
 cases hq:bm m k with
 | none=>rfl
 | some x=>exact absurd (List.mem_map.2 ⟨_,dG hq,rfl⟩) h
theorem yR:∀(m:HM) (k:Ky) (x:Int) (j:Ky),j∈(bO m k x).map (·.1) ↔ j=k ∨ j∈m.map (·.1)
 | [],k,x,j=>by simp [bO]
 | p::r,k,x,j=>by
  simp only [bO]
  split
  ·rename_i hk; subst hk; simp
  ·simp only [List.map_cons,List.mem_cons,yR r k x j]
   constructor
   ·rintro (h | h | h)
    ·exact .inr (.inl h)
    ·exact .inl h
    ·exact .inr (.inr h)
   ·rintro (h | h | h)
    ·exact .inr (.inl h)
    ·exact .inl h
    ·exact .inr (.inr h)
theorem Nk.bO:∀{m:HM},Nk m→∀(k:Ky) (x:Int),Nk (bO m k x)
 | [],_,k,x=>by simp [Nk,Proofs.YtpbdohkbiklflaaGreatDoor.bO]
 | p::r,h,k,x=>by
  unfold Nk at h
  rw [List.map_cons,List.nodup_cons] at h
  simp only [Proofs.YtpbdohkbiklflaaGreatDoor.bO]
  split
  ·rename_i hk; subst hk; unfold Nk; rw [List.map_cons,List.nodup_cons]; exact h
  ·rename_i hk
   unfold Nk; rw [List.map_cons,List.nodup_cons]
   refine ⟨fun hm=>?_,Nk.bO (m:=r) h.2 k x⟩
   rcases (yR r k x p.1).1 hm with h1 | h1
   ·exact hk h1
   ·exact h.1 h1
theorem wJ:∀(m:HM) (k:Ky),(iE m k).Sublist m
 | [],_=>List.Sublist.refl _
 | p::r,k=>by
  simp only [iE]
  split
  ·exact List.sublist_cons_self _ _
  ·exact (wJ r k).cons_cons _
theorem Nk.iE {m:HM} (h:Nk m) (k:Ky):Nk (iE m k):=h.sublist ((wJ m k).map _)
theorem yS:∀{m:HM} (_:Nk m) (k j:Ky),bm (iE m k) j=if k=j then none else bm m j
 | [],_,k,j=>by simp [iE,bm]
 | p::r,h,k,j=>by
  unfold Nk at h
  rw [List.map_cons,List.nodup_cons] at h
  simp only [iE]
  split
  ·rename_i hk
   subst hk
   by_cases hj:p.1=j
   ·subst hj; rw [if_pos rfl]; exact kS h.1
   ·rw [if_neg hj]; simp only [bm]; rw [if_neg hj]
  ·rename_i hk
   simp only [bm]
   by_cases hj:p.1=j
   ·rw [if_pos hj,if_pos hj,if_neg (fun h9=>hk (hj.trans h9.symm))]
   ·rw [if_neg hj,if_neg hj]; exact yS (m:=r) h.2 k j
theorem Nr {m r:HM} (hm:Nk m) (hr:Nk r) (h:∀k,bm m k=bm r k):m.Perm r:=by
 have nd:∀{m:HM},Nk m→m.Nodup:=fun {m} hm=>by
  unfold Nk at hm
  exact (List.pairwise_map.1 hm).imp fun {a b} sL he=>sL (by rw [he])
 refine (List.perm_ext_iff_of_nodup (nd hm) (nd hr)).2 fun p=>⟨fun hp=>?_,fun hp=>?_⟩
 ·have:=fo hm (k:=p.1) (x:=p.2) hp; rw [h] at this; exact dG this
 ·have:=fo hr (k:=p.1) (x:=p.2) hp; rw [←h] at this; exact dG this
def iq:HM→Int→Int
 | [],_=>0
 | p::r,i=>(if p.1.2=i then p.2 else 0)+iq r i
theorem uw (p:Ky × Int) (r:HM) (k:Ky):hv (p::r) k=if p.1=k then p.2 else hv r k:=by
 unfold hv; simp only [bm]; split <;> rfl
theorem yT:∀(m:HM) (k:Ky) (x i:Int),iq (bO m k x) i=iq m i+(if k.2=i then x - hv m k else 0)
 | [],k,x,i=>by simp [bO,iq,hv,bm]
 | p::r,k,x,i=>by
  simp only [bO,uw]
  split
  ·rename_i hk; subst hk; simp only [iq]; split <;> omega
  ·simp only [iq,yT r k x i]; omega
theorem yU:∀(m:HM) (k:Ky) (i:Int),iq (iE m k) i=iq m i+(if k.2=i then - hv m k else 0)
 | [],k,i=>by simp [iE,iq,hv,bm]
 | p::r,k,i=>by
  simp only [iE,uw]
  split
  ·rename_i hk; subst hk; simp only [iq]; split <;> omega
  ·simp only [iq,yU r k i]; omega
theorem wK {C:Int}:∀{m:HM} (_:∀p∈m,0≤p.2∧p.2≤C) (_:0≤C) (i:Int),0≤iq m i∧iq m i≤m.length * C
 | [],_,_,i=>by simp [iq]
 | p::r,h,hC,i=>by
  have h1:=h p List.mem_cons_self
  have h2:=wK (fun q hq=>h q (List.mem_cons_of_mem _ hq)) hC i
  simp only [iq,List.length_cons]
  have h3:((r.length+1:Nat):Int) * C=r.length * C+C:=by rw [Int.natCast_add,Int.add_mul]; omega
  rw [h3]
  split <;> omega
theorem Ir {m r:HM} (h:m.Perm r) (i:Int):iq m i=iq r i:=by
 induction h with
 | nil=>rfl
 | cons x _ ih=>simp only [iq,ih]
 | swap x y l=>simp only [iq]; omega
 | trans _ _ a b=>exact a.trans b
def c7 (H:HM) (k:Ky) (now:Int):HM:=if now=0 then iE H k else bO H k now
theorem kT {H:HM} (h:Nk H) (k:Ky) (now:Int) (j:Ky):bm (c7 H k now) j=if k=j then (if now=0 then none else some now) else bm H j:=by
 unfold c7
 by_cases h0:now=0
 ·rw [if_pos h0,if_pos h0,yS h]
 ·rw [if_neg h0,if_neg h0,yN]
theorem Nk.c7 {H:HM} (h:Nk H) (k:Ky) (now:Int):Nk (c7 H k now):=by
 unfold Proofs.YtpbdohkbiklflaaGreatDoor.c7; split
 ·exact h.iE k
 ·exact h.bO k now
theorem Is (H:HM) (k:Ky) (now i:Int):iq (c7 H k now) i=iq H i+(if k.2=i then now - hv H k else 0):=by
 unfold c7; split
 ·rename_i h0; subst h0; rw [yU]; split <;> omega
 ·rw [yT]
theorem Ns {H:HM} (h:Nk H) (k:Ky) (now:Int) (j:Ky):hv (c7 H k now) j=if k=j then now else hv H j:=by
 unfold hv; rw [kT h]
 by_cases hk:k=j
 ·rw [if_pos hk,if_pos hk]; by_cases h0:now=0
  ·rw [if_pos h0,h0]; rfl
  ·rw [if_neg h0]; rfl
 ·rw [if_neg hk,if_neg hk]
theorem Ln (H:HM) (k:Ky) (now:Int):(c7 H k now).length≤H.length+1:=by
 unfold c7; split
 ·have:=(wJ H k).length_le; omega
 ·exact wH ..
def QN (H:HM) (i:Nat) (q:Bool × List Rk):Prop:=(q.1=true→q.2=[])∧fQ q.2∧∀x:Rk,x∈q.2 ↔ x.1<1048576∧bm H (x.1,(i:Int))=some x.2
structure G4 (s:Vs) (L:Nat):Prop where
 nd:Nk s.H
 pos:∀p∈s.H,1≤p.1.1∧(∃i:Nat,i<4∧p.1.2=(i:Int))∧1≤p.2∧p.2≤1125899906842624
 len:s.H.length≤L
 tl:s.cS.length=4
 rl:s.rk.length=4
 rk:∀i:Nat,i<4→QN s.H i (s.rk.getD i (true,[]))
 QO:∀i:Nat,i<4→s.cS.getD i 0=iq s.H i
theorem G4.zn {s:Vs} {L:Nat} (h:G4 s L) (k:Ky):0≤hv s.H k∧hv s.H k≤1125899906842624∧(hv s.H k ≠ 0→bm s.H k=some (hv s.H k))∧(hv s.H k=0→bm s.H k=none):=by
 unfold hv
 cases hq:bm s.H k with
 | none=>simp
 | some x =>
  have:=h.pos _ (dG hq)
  simp only [Option.getD_some]
  simp only at this
  refine ⟨by omega,by omega,fun _=>trivial,fun h0=>?_⟩
  omega
theorem G5 {α β:Type} [BEq β] [LawfulBEq β] (f:α→β):∀{l:List α} {m:List β} (_:l.Nodup) (_:∀x∈l,f x∈m) (_:∀x∈l,∀y∈l,f x=f y→x=y),l.length≤m.length
 | [],m,_,_,_=>by simp
 | x::l,m,hn,hm,hi=>by
  rw [List.nodup_cons] at hn
  have h1:=hm x List.mem_cons_self
  have h2:=G5 f (l:=l) (m:=m.erase (f x)) hn.2 (fun y hy=>by
   refine (List.mem_erase_of_ne fun he=>?_).2 (hm y (List.mem_cons_of_mem _ hy))
   have:=hi y (List.mem_cons_of_mem _ hy) x List.mem_cons_self he
   subst this; exact hn.1 hy) (fun a ha b hb=>hi a (List.mem_cons_of_mem _ ha) b (List.mem_cons_of_mem _ hb))
  rw [List.length_erase_of_mem h1] at h2
  have:0<m.length:=List.length_pos_of_mem h1
  simp only [List.length_cons]; omega
theorem Fa {H:HM} {i:Nat} {q:Bool × List Rk} (h:QN H i q):q.2.length≤H.length :=
 G5 (fun x:Rk=>(((x.1,(i:Int)):Ky),x.2)) (pI h.2.1) (fun x hx=>dG ((h.2.2 x).1 hx).2) (fun x _ y _ he=>by
  simp only [Prod.mk.injEq] at he
  exact Prod.ext he.1.1 he.2)
def QP (l:List Rk) (a before now:Int):List Rk :=
 let l1:=if before ≠ 0 then lL l (a,before) else l
 if now ≠ 0 then sk l1 (a,now) else l1
theorem Lo {s:Vs} {L:Nat} (h:G4 s L) {i:Nat} (hi:i<4) {a:Int} (ha:a<1048576):∀l1,l1=(if hv s.H (a,(i:Int)) ≠ 0 then lL (s.rk.getD i (true,[])).2 (a,hv s.H (a,(i:Int))) else (s.rk.getD i (true,[])).2)→fQ l1∧∀x,x∈l1 ↔ x∈(s.rk.getD i (true,[])).2∧x.1 ≠ a:=by
 intro l1 EE
 obtain ⟨_,hs,hm⟩:=h.rk i hi
 have hh:=h.zn (a,(i:Int))
 by_cases hb:hv s.H (a,(i:Int)) ≠ 0
 ·rw [if_pos hb] at EE
  have BS:(a,hv s.H (a,(i:Int)))∈(s.rk.getD i (true,[])).2:=(hm _).2 ⟨ha,hh.2.2.1 hb⟩
  obtain ⟨_,h2,h3⟩:=sq hs BS
  rw [EE]
  refine ⟨h2,fun x=>?_⟩
  rw [h3 x]
  constructor
  ·rintro ⟨h4,h5⟩
   refine ⟨h4,fun h6=>h5 ?_⟩
   have h7:=((hm x).1 h4).2
   rw [h6,hh.2.2.1 hb] at h7
   injection h7 with h7
   exact Prod.ext h6 h7.symm
  ·rintro ⟨h4,h5⟩
   exact ⟨h4,fun h6=>h5 (by rw [h6])⟩
 ·rw [if_neg hb] at EE
  have hb:hv s.H (a,(i:Int))=0:=by simpa using hb
  rw [EE]
  refine ⟨hs,fun x=>⟨fun h4=>⟨h4,fun h6=>?_⟩,fun h4=>h4.1⟩⟩
  have h7:=((hm x).1 h4).2
  rw [h6,hh.2.2.2 hb] at h7
  cases h7
theorem ux (s:Vs) (a:Int) (i:Nat) (now:Int) (bD:hv s.H (a,(i:Int)) ≠ now):cG s (a,(i:Int)) i now={ s with work:=s.work+1,cS:=s.cS.set i (s.cS.getD i 0+(now - hv s.H (a,(i:Int)))),H:=c7 s.H (a,(i:Int)) now,rk:=if 1048576≤a then s.rk else s.rk.set i (false,QP (s.rk.getD i (true,[])).2 a (hv s.H (a,(i:Int))) now) }:=by
 unfold cG c7
 rw [if_neg bD]
 by_cases ha:1048576≤a
 ·simp only [if_pos ha]
 ·simp only [if_neg ha]
  by_cases hn:now=0
  ·subst hn
   simp only [ne_eq,not_true_eq_false,if_false,bD,not_false_eq_true,if_true,QP]
  ·simp only [ne_eq,hn,not_false_eq_true,if_true,QP]
theorem AL {s:Vs} {L:Nat} (h:G4 s L) (hL:L≤500) (hw:0≤s.work∧s.work≤2305843009213693952) {a:Int} {i:Nat} {now:Int} (hi:i<4) (ha:1≤a) (hn:0≤now∧now≤1125899906842624) :
  K4 s (a,(i:Int)) i now∧G4 (cG s (a,(i:Int)) i now) (L+1):=by
 have hh:=h.zn (a,(i:Int))
 obtain ⟨hf,hs,hm⟩:=h.rk i hi
 have hb:=wK (C:=1125899906842624) (fun p hp=>by have:=h.pos p hp; omega) (by omega) (i:Int) (m:=s.H)
 have hlen:=h.len
 have cw:iq s.H i≤562949953421312000:=by
  have:(s.H.length:Int) * 1125899906842624≤500 * 1125899906842624:=by omega
  omega
 constructor
 ·refine ⟨rfl,by rw [h.tl]; exact hi,by rw [h.rl]; exact hi,by omega,by omega,?_,by omega,?_,hf,fun Ry cO=>?_,fun Ry Bo l1 EE=>?_⟩
  ·rw [h.QO i hi]; omega
  ·have:=Fa (h.rk i hi); omega
  ·exact ⟨(sq hs ((hm (a,hv s.H (a,(i:Int)))).2 ⟨Ry,hh.2.2.1 cO⟩)).1,lS hs _⟩
  ·exact lS (Lo h hi Ry l1 EE).1 _
 ·by_cases bD:hv s.H (a,(i:Int))=now
  ·have:cG s (a,(i:Int)) i now=s:=by unfold cG; rw [if_pos bD]
   rw [this]
   exact { h with len:=by omega }
  ·rw [ux s a i now bD]
   have eT:∀p∈c7 s.H (a,(i:Int)) now,1≤p.1.1∧(∃i:Nat,i<4∧p.1.2=(i:Int))∧1≤p.2∧p.2≤1125899906842624:=by
    intro p hp
    have hg:=fo (h.nd.c7 _ _) (k:=p.1) (x:=p.2) hp
    rw [kT h.nd] at hg
    split at hg
    ·rename_i hk
     split at hg
     ·cases hg
     ·injection hg with hg
      rw [←hk,←hg]
      exact ⟨ha,⟨i,hi,rfl⟩,by omega,by omega⟩
    ·exact h.pos p (dG hg)
   have K6:∀j:Nat,j<4→QN (c7 s.H (a,(i:Int)) now) j ((if 1048576≤a then s.rk else s.rk.set i (false,QP (s.rk.getD i (true,[])).2 a (hv s.H (a,(i:Int))) now)).getD j (true,[])):=by
    intro j hj
    by_cases DA:j=i
    ·subst DA
     by_cases Ry:1048576≤a
     ·rw [if_pos Ry]
      refine ⟨hf,hs,fun x=>?_⟩
      rw [hm x,kT h.nd]
      constructor
      ·rintro ⟨h1,h2⟩
       exact ⟨h1,by rw [if_neg (fun he=>by simp only [Prod.mk.injEq] at he; omega)]; exact h2⟩
      ·rintro ⟨h1,h2⟩
       rw [if_neg (fun he=>by simp only [Prod.mk.injEq] at he; omega)] at h2
       exact ⟨h1,h2⟩
     ·rw [if_neg Ry,List.getD_eq_getElem?_getD,List.getElem?_set_self (by rw [h.rl]; exact hi)]
      obtain ⟨q1,q2⟩:=Lo h hi (a:=a) (by omega) _ rfl
      refine ⟨fun h9=>by simp at h9,?_,fun x=>?_⟩
      ·simp only [Option.getD_some,QP]
       split
       ·exact ts q1 fun h9=>((q2 _).1 h9).2 rfl
       ·exact q1
      ·simp only [Option.getD_some,QP]
       rw [kT h.nd]
       by_cases Md:now=0
       ·subst Md
        simp only [ne_eq,not_true_eq_false,if_false]
        rw [q2 x,hm x]
        constructor
        ·rintro ⟨⟨h1,h2⟩,h3⟩
         exact ⟨h1,by rw [if_neg (fun he=>by simp only [Prod.mk.injEq] at he; omega)]; exact h2⟩
        ·rintro ⟨h1,h2⟩
         by_cases he:a=x.1
         ·rw [if_pos (by rw [he])] at h2; simp at h2
         ·rw [if_neg (fun yV=>by simp only [Prod.mk.injEq] at yV; exact he yV.1)] at h2
          exact ⟨⟨h1,h2⟩,fun h4=>he h4.symm⟩
       ·rw [if_pos Md,CP,q2 x,hm x,if_neg Md]
        constructor
        ·rintro (h1 | ⟨⟨h1,h2⟩,h3⟩)
         ·subst h1; exact ⟨by simp only; omega,by simp⟩
         ·exact ⟨h1,by rw [if_neg (fun he=>by simp only [Prod.mk.injEq] at he; omega)]; exact h2⟩
        ·rintro ⟨h1,h2⟩
         by_cases he:a=x.1
         ·rw [if_pos (by rw [he])] at h2
          injection h2 with h2
          exact .inl (Prod.ext he.symm h2.symm)
         ·rw [if_neg (fun yV=>by simp only [Prod.mk.injEq] at yV; exact he yV.1)] at h2
          exact .inr ⟨⟨h1,h2⟩,fun h4=>he h4.symm⟩
    ·have hq:(if 1048576≤a then s.rk else s.rk.set i (false,QP (s.rk.getD i (true,[])).2 a (hv s.H (a,(i:Int))) now)).getD j (true,[])=s.rk.getD j (true,[]):=by
      split
      ·rfl
      ·rw [List.getD_eq_getElem?_getD,List.getElem?_set_ne (fun h9=>DA h9.symm),←List.getD_eq_getElem?_getD]
     rw [hq]
     obtain ⟨r1,r2,r3⟩:=h.rk j hj
     refine ⟨r1,r2,fun x=>?_⟩
     rw [r3 x,kT h.nd,if_neg (fun he=>by simp only [Prod.mk.injEq] at he; omega)]
   refine ⟨h.nd.c7 _ _,eT,by have:=Ln s.H (a,(i:Int)) now; show (c7 s.H (a,(i:Int)) now).length≤_; omega,by simp only [List.length_set]; exact h.tl,?_,K6,fun j hj=>?_⟩
   ·simp only; split
    ·exact h.rl
    ·rw [List.length_set]; exact h.rl
   ·simp only
    rw [Is,List.getD_eq_getElem?_getD]
    by_cases DA:i=j
    ·subst DA
     rw [List.getElem?_set_self (by rw [h.tl]; exact hi),if_pos rfl,←h.QO i hi]; rfl
    ·rw [List.getElem?_set_ne DA,if_neg (by omega),←List.getD_eq_getElem?_getD,h.QO j hj]; omega
end Go.Proofs.YtpbdohkbiklflaaGreatDoor
namespace Go.Proofs.YtpbdohkbiklflaaGreatDoor
open Go.TM
variable [de]
theorem AM (s:Vs) (a:Int) (i:Nat) (now:Int):(cG s (a,(i:Int)) i now).H=if hv s.H (a,(i:Int))=now then s.H else c7 s.H (a,(i:Int)) now:=by
 by_cases h:hv s.H (a,(i:Int))=now
 ·unfold cG; rw [if_pos h,if_pos h]
 ·rw [ux s a i now h,if_neg h]
theorem uy {s:Vs} (h:Nk s.H) (a:Int) (i:Nat) (now:Int) (j:Ky):hv (cG s (a,(i:Int)) i now).H j=if (a,(i:Int))=j then now else hv s.H j:=by
 rw [AM]
 by_cases h0:hv s.H (a,(i:Int))=now
 ·rw [if_pos h0]; split
  ·rename_i hk; rw [←hk]; exact h0
  ·rfl
 ·rw [if_neg h0,Ns h]
structure Bj (es:HM):Prop where
 nd:Nk es
 pos:∀e∈es,1≤e.1.1∧(∃i:Nat,i<4∧e.1.2=(i:Int))∧0≤e.2∧e.2≤1125899906842624
theorem Bj.cons {e:Ky × Int} {r:HM} (h:Bj (e::r)):Bj r∧e.1 ∉ r.map (·.1):=by
 have:=h.nd
 unfold Nk at this
 rw [List.map_cons,List.nodup_cons] at this
 exact ⟨⟨this.2,fun x hx=>h.pos x (List.mem_cons_of_mem _ hx)⟩,this.1⟩
theorem Bj.perm {a b:HM} (h:Bj a) (hp:b.Perm a):Bj b :=
 ⟨((hp.map (fun p:Ky × Int=>p.1)).nodup_iff).2 (show (a.map fun p=>p.1).Nodup from h.nd),fun e he=>h.pos e (hp.mem_iff.1 he)⟩
theorem gT (s:Vs) (e:Ky × Int) (r:HM):aJ s (e::r)=aJ (cG s e.1 e.1.2.toNat e.2) r:=rfl
theorem oj:∀{es:HM} {s:Vs} {L:Nat},G4 s L→Bj es→L+es.length≤500→(0≤s.work∧s.work+es.length≤2305843009213693952)→G4 (aJ s es) (L+es.length)
 | [],s,L,h,_,_,_=>h
 | e::r,s,L,h,he,hL,hw=>by
  obtain ⟨p1,⟨i,hi,p2⟩,p3,p4⟩:=he.pos e List.mem_cons_self
  obtain ⟨⟨a,it⟩,now⟩:=e
  simp only at p1 p2 p3 p4
  subst p2
  simp only [List.length_cons] at hL hw
  have h1:=(AL h (by omega) (by omega) hi p1 ⟨p3,p4⟩).2
  rw [gT]
  simp only [Int.toNat_natCast]
  have h2:=oh s (a,(i:Int)) i now
  have h3:=oj h1 he.cons.1 (by omega) (by omega)
  rw [show L+((((a,(i:Int)),now):Ky × Int)::r).length=L+1+r.length by simp only [List.length_cons]; omega]
  exact h3
theorem lT:∀{es:HM} {s:Vs},Nk s.H→Bj es→∀j,hv (aJ s es).H j=hold es s.H j
 | [],s,_,_,j=>rfl
 | e::r,s,h,he,j=>by
  obtain ⟨p1,⟨i,hi,p2⟩,p3,p4⟩:=he.pos e List.mem_cons_self
  obtain ⟨⟨a,it⟩,now⟩:=e
  simp only at p1 p2 p3 p4
  subst p2
  rw [gT]
  simp only [Int.toNat_natCast]
  have hn:Nk (cG s (a,(i:Int)) i now).H:=by
   rw [AM]; split
   ·exact h
   ·exact h.c7 _ _
  rw [lT hn he.cons.1 j]
  unfold hold
  rw [uy h]
  simp only [bm]
  by_cases hk:(a,(i:Int))=j
  ·rw [if_pos hk,if_pos hk]
   have:=kS (hk ▸ he.cons.2)
   rw [this]; rfl
  ·rw [if_neg hk,if_neg hk]
theorem Fb {s:Vs} (h:Nk s.H) (a:Int) (i:Nat) (now:Int) {k:Ky} (hk:(a,(i:Int)) ≠ k) (x:Int):cx (cG s (a,(i:Int)) i now) k x=cx s k x:=by
 unfold cx; rw [uy h,if_neg hk]
def OX (s:Vs) (j:Nat):Bool:=(s.rk.getD j (true,[])).1
theorem Nt {s:Vs} {L:Nat} (h:G4 s L) (a:Int) (i:Nat) (now:Int) (hi:i<4) (j:Nat):OX (cG s (a,(i:Int)) i now) j=(OX s j && !(cx s (a,(i:Int)) now && decide ((i:Int)=j))):=by
 unfold OX cx
 by_cases h0:hv s.H (a,(i:Int))=now
 ·have:cG s (a,(i:Int)) i now=s:=by unfold cG; rw [if_pos h0]
  rw [this]; simp [h0]
 ·rw [ux s a i now h0]
  by_cases ha:1048576≤a
  ·simp [ha]
  ·simp only [if_neg ha]
   rw [List.getD_eq_getElem?_getD]
   by_cases DA:i=j
   ·subst DA
    rw [List.getElem?_set_self (by rw [h.rl]; exact hi)]
    simp only [Option.getD_some]
    rw [decide_eq_false h0,decide_eq_false ha]; simp
   ·rw [List.getElem?_set_ne DA,←List.getD_eq_getElem?_getD,decide_eq_false (show ¬ (i:Int)=j by omega)]; simp
theorem AN:∀{es:HM} {s:Vs} {L:Nat},G4 s L→Bj es→L+es.length≤500→(0≤s.work∧s.work+es.length≤2305843009213693952)→∀j:Nat,OX (aJ s es) j=(OX s j && !(es.any fun e=>cx s e.1 e.2 && decide (e.1.2=(j:Int))))
 | [],s,L,_,_,_,_,j=>by simp [aJ]
 | e::r,s,L,h,he,hL,hw,j=>by
  obtain ⟨p1,⟨i,hi,p2⟩,p3,p4⟩:=he.pos e List.mem_cons_self
  obtain ⟨⟨a,it⟩,now⟩:=e
  simp only at p1 p2 p3 p4
  subst p2
  simp only [List.length_cons] at hL hw
  have h1:=(AL h (by omega) (by omega) hi p1 ⟨p3,p4⟩).2
  have h2:=oh s (a,(i:Int)) i now
  rw [gT]
  simp only [Int.toNat_natCast]
  rw [AN h1 he.cons.1 (by omega) (by omega) j,Nt h a i now hi j]
  simp only [List.any_cons]
  have:(r.any fun e=>cx (cG s (a,(i:Int)) i now) e.1 e.2 && decide (e.1.2=(j:Int)))=r.any fun e=>cx s e.1 e.2 && decide (e.1.2=(j:Int)):=by
   have hc:=he.cons.2
   clear hw hL h1 h2 he
   induction r with
   | nil=>rfl
   | cons q r ih =>
    simp only [List.map_cons,List.mem_cons,not_or] at hc
    simp only [List.any_cons]
    rw [ih hc.2,Fb h.nd a i now hc.1]
  rw [this]
  cases OX s j <;> simp [Bool.not_or]
theorem It {s:Vs} (a:Int) (i:Nat) (now:Int):(cG s (a,(i:Int)) i now).work=s.work+(if hv s.H (a,(i:Int))=now then 0 else 1):=by
 by_cases h0:hv s.H (a,(i:Int))=now
 ·have:cG s (a,(i:Int)) i now=s:=by unfold cG; rw [if_pos h0]
  rw [this,if_pos h0]; omega
 ·rw [ux s a i now h0,if_neg h0]
def Iu (H:HM) (e:Ky × Int):Bool:=!decide (hv H e.1=e.2)
theorem om:∀{es:HM} {s:Vs},Nk s.H→Bj es→(aJ s es).work=s.work+(es.countP (Iu s.H):Nat)
 | [],s,_,_=>by simp [aJ]
 | e::r,s,h,he=>by
  obtain ⟨p1,⟨i,hi,p2⟩,p3,p4⟩:=he.pos e List.mem_cons_self
  obtain ⟨⟨a,it⟩,now⟩:=e
  simp only at p1 p2 p3 p4
  subst p2
  rw [gT]
  simp only [Int.toNat_natCast]
  have hn:Nk (cG s (a,(i:Int)) i now).H:=by
   rw [AM]; split
   ·exact h
   ·exact h.c7 _ _
  rw [om hn he.cons.1,It]
  have:r.countP (Iu (cG s (a,(i:Int)) i now).H)=r.countP (Iu s.H):=by
   have hc:=he.cons.2
   clear he
   induction r with
   | nil=>rfl
   | cons q r ih =>
    simp only [List.map_cons,List.mem_cons,not_or] at hc
    rw [List.countP_cons,List.countP_cons,ih hc.2]
    have:Iu (cG s (a,(i:Int)) i now).H q=Iu s.H q:=by
     unfold Iu; rw [uy h,if_neg hc.1]
    rw [this]
  rw [this,List.countP_cons]
  have hc:Iu s.H ((a,(i:Int)),now)=!decide (hv s.H (a,(i:Int))=now):=rfl
  rw [hc]
  by_cases h0:hv s.H (a,(i:Int))=now
  ·simp [h0]
  ·simp [h0]; omega
theorem Iv (s:Vs) (k:Ky) (i:Nat) (now:Int):(cG s k i now).coin=s.coin∧(cG s k i now).ab=s.ab∧(cG s k i now).aC=s.aC∧(cG s k i now).last=s.last:=by
 unfold cG; split
 ·exact ⟨rfl,rfl,rfl,rfl⟩
 ·simp only; split <;> exact ⟨rfl,rfl,rfl,rfl⟩
theorem jM:∀(es:HM) (s:Vs),(aJ s es).coin=s.coin∧(aJ s es).ab=s.ab∧(aJ s es).aC=s.aC∧(aJ s es).last=s.last
 | [],s=>⟨rfl,rfl,rfl,rfl⟩
 | e::r,s=>by
  rw [gT]
  have h1:=jM r (cG s e.1 e.1.2.toNat e.2)
  have h2:=Iv s e.1 e.1.2.toNat e.2
  exact ⟨h1.1.trans h2.1,h1.2.1.trans h2.2.1,h1.2.2.1.trans h2.2.2.1,h1.2.2.2.trans h2.2.2.2⟩
theorem AO {s:Vs} {L:Nat} (h:G4 s L) (k:Ky):bm s.H k=if hv s.H k=0 then none else some (hv s.H k):=by
 have:=h.zn k
 split
 ·rename_i h0; exact this.2.2.2 h0
 ·rename_i h0; exact this.2.2.1 h0
theorem Iw {a b:HM} (ha:Bj a) (hp:b.Perm a) (H:HM) (k:Ky):hold b H k=hold a H k:=by
 have hb:=ha.perm hp
 have:bm b k=bm a k:=by
  cases hq:bm a k with
  | none =>
   cases gE:bm b k with
   | none=>rfl
   | some x=>have:=fo ha.nd (hp.mem_iff.1 (dG gE)); rw [hq] at this; cases this
  | some x=>exact fo hb.nd (hp.mem_iff.2 (dG hq))
 unfold hold; rw [this]
theorem OY {α:Type} {l r:List α} (d:α) (hl:l.length=4) (hr:r.length=4) (h:∀i:Nat,i<4→l.getD i d=r.getD i d):l=r:=by
 apply List.ext_getElem (by omega)
 intro i h1 h2
 have:=h i (by omega)
 rw [List.getD_eq_getElem?_getD,List.getD_eq_getElem?_getD,List.getElem?_eq_getElem h1,List.getElem?_eq_getElem h2] at this
 exact this
theorem Ix {es done:HM} {s:Vs} {L:Nat} (h:G4 s L) (he:Bj es) (hp:done.Perm es) (hL:L+es.length≤500) (hw:0≤s.work∧s.work+es.length≤2305843009213693952) :
  (aJ s done).H.Perm (aJ s es).H∧aJ s done={ aJ s es with H:=(aJ s done).H }:=by
 have hd:=he.perm hp
 have Co:=hp.length_eq
 have o1:=oj h he hL hw
 have o2:=oj h hd (by omega) (by omega)
 have Hj:∀k,hv (aJ s done).H k=hv (aJ s es).H k:=fun k=>by rw [lT h.nd hd,lT h.nd he,Iw he hp]
 have TU:∀k,bm (aJ s done).H k=bm (aJ s es).H k:=fun k=>by rw [AO o2,AO o1,Hj]
 have pY:(aJ s done).H.Perm (aJ s es).H:=Nr o2.nd o1.nd TU
 refine ⟨pY,?_⟩
 have r1:=jM done s
 have r2:=jM es s
 have e1:(aJ s done).coin=(aJ s es).coin:=r1.1.trans r2.1.symm
 have e2:(aJ s done).ab=(aJ s es).ab:=r1.2.1.trans r2.2.1.symm
 have e3:(aJ s done).aC=(aJ s es).aC:=r1.2.2.1.trans r2.2.2.1.symm
 have e4:(aJ s done).last=(aJ s es).last:=r1.2.2.2.trans r2.2.2.2.symm
 have e5:(aJ s done).work=(aJ s es).work:=by rw [om h.nd hd,om h.nd he,hp.countP_eq]
 have e6:(aJ s done).cS=(aJ s es).cS:=OY 0 o2.tl o1.tl fun i hi=>by rw [o2.QO i hi,o1.QO i hi,Ir pY]
 have e7:(aJ s done).rk=(aJ s es).rk:=OY (true,[]) o2.rl o1.rl fun i hi=>by
  have f1:OX (aJ s done) i=OX (aJ s es) i:=by rw [AN h hd (by omega) (by omega),AN h he hL hw,hp.any_eq]
  have g1:=o2.rk i hi
  have g2:=o1.rk i hi
  refine Prod.ext f1 (CQ g1.2.1 g2.2.1 fun x=>?_)
  rw [g1.2.2 x,g2.2.2 x,TU]
 have e8:(aJ s done).sl=(aJ s es).sl:=by rw [ny,ny]
 have e9:(aJ s done).bL=(aJ s es).bL:=by rw [jL,jL]
 generalize aJ s done=t1 at *
 generalize aJ s es=t2 at *
 obtain ⟨a1,a2,a3,a4,a5,a6,a7,a8,a9,ZD⟩:=t1
 obtain ⟨b1,b2,b3,b4,b5,b6,b7,b8,b9,ZE⟩:=t2
 simp only at e1 e2 e3 e4 e5 e6 e7 e8 e9
 subst e1 e2 e3 e4 e5 e6 e7 e8 e9
 rfl
end Go.Proofs.YtpbdohkbiklflaaGreatDoor
namespace Go.Proofs.YtpbdohkbiklflaaGreatDoor
open Go.TM
variable [de]
theorem sr {H:HM}:∀{l:List Mv} {m A:HM},ko H m l=.ok A→∀v∈l,iN v=false
 | [],_,_,_,v,hv=>by cases hv
 | w::r,m,A,h,v,hv=>by
  simp only [ko] at h
  split at h
  ·cases h
  rename_i hb
  have hb:iN w=false:=by simpa using hb
  rcases List.mem_cons.1 hv with rfl | hv
  ·exact hb
  ·split at h
   ·split at h
    ·cases h
    ·exact sr h v hv
   ·exact sr h v hv
theorem uz {n:Int} (h:qR n=true):0≤n∧n≤1073741824:=by
 unfold qR at h; simpa using h
structure xO (m:HM) (C:Int):Prop where
 nd:Nk m
 pos:∀e∈m,1≤e.1.1∧(∃i:Nat,i<4∧e.1.2=(i:Int))∧0≤e.2∧e.2≤C
theorem CR:∀{m:HM} {k:Ky} {x:Int} {p:Ky × Int},p∈bO m k x→p=(k,x) ∨ p∈m
 | [],k,x,p,h=>by simp [bO] at h; exact .inl h
 | q::r,k,x,p,h=>by
  simp only [bO] at h
  split at h
  ·rcases List.mem_cons.1 h with h | h
   ·exact .inl h
   ·exact .inr (List.mem_cons_of_mem _ h)
  ·rcases List.mem_cons.1 h with h | h
   ·exact .inr (h ▸ List.mem_cons_self)
   ·rcases CR h with h | h
    ·exact .inl h
    ·exact .inr (List.mem_cons_of_mem _ h)
theorem xO.put {m:HM} {C D:Int} (h:xO m C) (YO:C≤D) {a it x:Int} (ha:1≤a) (jy:0≤it∧it<4) (hx:0≤x∧x≤D):xO (bO m (a,it) x) D:=by
 refine ⟨h.nd.bO _ _,fun e he=>?_⟩
 rcases CR he with rfl | he
 ·exact ⟨ha,⟨it.toNat,by omega,by simp only; omega⟩,hx⟩
 ·have:=h.pos e he; exact ⟨this.1,this.2.1,this.2.2.1,by omega⟩
theorem xO.mono {m:HM} {C D:Int} (h:xO m C) (YO:C≤D):xO m D:=⟨h.nd,fun e he=>by have:=h.pos e he; exact ⟨this.1,this.2.1,this.2.2.1,by omega⟩⟩
theorem Fc {H:HM}:∀{l:List Mv} {m A:HM} {C:Int},ko H m l=.ok A→0≤C→xO m C→(∀k,0≤hold m H k∧hold m H k≤C)→xO A (C+l.length * 1099511627776)
 | [],m,A,C,h,_,ho,_=>by simp only [ko] at h; injection h with h; subst h; simpa using ho
 | v::r,m,A,C,h,hC,ho,hb=>by
  simp only [ko] at h
  split at h
  ·cases h
  rename_i Hl
  obtain ⟨b1,b2,b3,b4,b5,b6,b7⟩:=oR (v:=v) (by simpa using Hl)
  have b5:=uz b5
  have b6:=uz b6
  have fin:∀m1:HM,xO m1 C→(∀k,0≤hold m1 H k∧hold m1 H k≤C)→xO (if v.t ≠ 0 then bO m1 (v.t,v.it) (hold m1 H (v.t,v.it)+v.n) else m1) (C+1099511627776)∧∀k,0≤hold (if v.t ≠ 0 then bO m1 (v.t,v.it) (hold m1 H (v.t,v.it)+v.n) else m1) H k∧hold (if v.t ≠ 0 then bO m1 (v.t,v.it) (hold m1 H (v.t,v.it)+v.n) else m1) H k≤C+1099511627776:=by
   intro m1 h1 h2
   have h3:=h2 (v.t,v.it)
   split
   ·exact ⟨h1.put (by omega) (by omega) ⟨b1,b2⟩ ⟨by omega,by omega⟩,AF h2 ⟨by omega,by omega⟩ (by omega)⟩
   ·exact ⟨h1.mono (by omega),fun k=>by have:=h2 k; omega⟩
  have hlen:C+((v::r).length:Int) * 1099511627776=C+1099511627776+r.length * 1099511627776:=by simp only [List.length_cons]; omega
  rw [hlen]
  split at h
  ·split at h
   ·cases h
   rename_i hs
   have h3:=hb (v.f,v.it)
   obtain ⟨f1,f2⟩:=fin (bO m (v.f,v.it) (hold m H (v.f,v.it) - v.n)) (ho.put (Int.le_refl C) (a:=v.f) (by omega) ⟨b1,b2⟩ (x:=hold m H (v.f,v.it) - v.n) ⟨by omega,by omega⟩) (AF hb ⟨by omega,by omega⟩ (Int.le_refl C))
   exact Fc h (by omega) f1 f2
  ·obtain ⟨f1,f2⟩:=fin _ ho hb
   exact Fc h (by omega) f1 f2
theorem Fe {coin:Int} {st:St} {it n c:Int} (hb:∀v∈st.mv,iN v=false) (h:bQ coin st=(it,n,c,true)):0≤it∧it<4∧1≤n∧n≤1099511627776∧1≤c∧c≤1099511627776:=by
 unfold bQ at h
 split at h
 ·simp at h
 ·split at h
  ·rename_i a b hm
   have h1:=oR (hb a (by rw [hm]; simp))
   have h2:=oR (hb b (by rw [hm]; simp))
   split at h <;> (simp only [kN,Prod.mk.injEq] at h; obtain ⟨rfl,rfl,rfl,_⟩:=h; omega)
  ·simp at h
def qX (l:List Sl):Prop:=∀(j:Nat) (x y:Sl),l[j]?=some x→l[j+1]?=some y→y.gx=x.gx+y.n∧y.gy=x.gy+y.c
structure GF (s:Vs) (S:SS) (N:Nat):Prop where
 CS:oe s S
 len:S.length≤N
 val:∀p∈S,1≤p.2.n∧p.2.n≤1099511627776∧1≤p.2.c∧p.2.c≤1099511627776∧p.2.n≤p.2.gx∧p.2.gx≤N * 1099511627776∧p.2.c≤p.2.gy∧p.2.gy≤N * 1099511627776
 chain:∀i,qX (cl S i)
 ord:S.Pairwise fun p q=>p.2.tick≤q.2.tick
 le:∀p∈S,p.2.tick≤s.last
def oS (s:Vs) (S:SS) (st:St):SS :=
 let lv:=du S (st.tick - s.ab)
 let q:=bQ s.coin st
 S.drop lv++(bif q.2.2.2 then [(q.1.toNat,⟨st.tick,q.2.1,q.2.2.1,q.2.1+iY (cl (S.drop lv) q.1.toNat),q.2.2.1+iZ (cl (S.drop lv) q.1.toNat)⟩)] else [])
theorem Nu {S:SS} {i:Nat} {x:Sl} (h:x∈cl S i):(i,x)∈S:=by
 unfold cl at h
 obtain ⟨p,h1,h2⟩:=List.mem_map.1 h
 obtain ⟨h3,h4⟩:=List.mem_filter.1 h1
 obtain ⟨j,y⟩:=p
 simp only [beq_iff_eq] at h4 h2
 subst h4 h2; exact h3
theorem OZ {s:Vs} {S:SS} {N:Nat} (h:GF s S N) (j i:Nat):0≤iY (cl (S.drop j) i)∧iY (cl (S.drop j) i)≤N * 1099511627776∧0≤iZ (cl (S.drop j) i)∧iZ (cl (S.drop j) i)≤N * 1099511627776:=by
 unfold iY iZ
 rw [List.getD_eq_getElem?_getD]
 cases hq:(cl (S.drop j) i)[(cl (S.drop j) i).length - 1]? with
 | none=>simp only [Option.getD_none]; omega
 | some x =>
  have:=h.val _ (List.mem_of_mem_drop (Nu (List.mem_of_getElem? hq)))
  simp only [Option.getD_some]
  simp only at this
  omega
theorem pJ (S T:SS) (i:Nat):cl (S++T) i=cl S i++cl T i:=by
 unfold cl; rw [List.filter_append,List.map_append]
theorem pK {S:SS} (h:∀i,qX (cl S i)) (j i:Nat):qX (cl (S.drop j) i):=by
 have:cl S i=cl (S.take j) i++cl (S.drop j) i:=by rw [←pJ,List.take_append_drop]
 intro k x y hx hy
 refine h i ((cl (S.take j) i).length+k) x y ?_ ?_
 ·rw [this,List.getElem?_append_right (by omega),Nat.add_sub_cancel_left]; exact hx
 ·rw [this,Nat.add_assoc,List.getElem?_append_right (by omega),Nat.add_sub_cancel_left]; exact hy
theorem Ff {l:List Sl} (h:qX l) (x:Sl) (h1:x.gx=x.n+iY l) (h2:x.gy=x.c+iZ l):qX (l++[x]):=by
 intro j a b ha hb
 by_cases hj:j+1<l.length
 ·rw [List.getElem?_append_left (by omega)] at ha hb
  exact h j a b ha hb
 ·have aK:=(List.getElem?_eq_some_iff.1 hb).1
  simp only [List.length_append,List.length_singleton] at aK
  have xq:j+1=l.length:=by omega
  rw [List.getElem?_append_right (by omega),xq,Nat.sub_self] at hb
  rw [List.getElem?_append_left (by omega)] at ha
  simp only [List.getElem?_cons_zero,Option.some.injEq] at hb
  subst hb
  have eZ:iY l=a.gx:=by unfold iY; rw [List.getD_eq_getElem?_getD,show l.length - 1=j by omega,ha]; rfl
  have nT:iZ l=a.gy:=by unfold iZ; rw [List.getD_eq_getElem?_getD,show l.length - 1=j by omega,ha]; rfl
  omega
theorem uA {s s1:Vs} {S:SS} (h:oe s S) (iI:s1.sl=s.sl) (lv:Nat):∀(i:Nat) (f:Bool) (l:List Sl),(dp s1 S lv)[i]?=some (f,l)→i<4∧l=cl (S.drop lv) i∧(f=true→l=[]):=by
 intro i f l hq
 have hi:i<4:=by have:=(List.getElem?_eq_some_iff.1 hq).1; rw [cn] at this; exact this
 rw [im _ _ _ _ hi] at hq
 simp only [Option.some.injEq,Prod.mk.injEq] at hq
 refine ⟨hi,hq.2.symm,fun hf=>?_⟩
 have hl:i<s.sl.length:=by rw [h.OQ]; exact hi
 have hg:=List.getElem?_eq_getElem hl
 have h1:=hq.1
 rw [iI,List.getD_eq_getElem?_getD,hg] at h1
 generalize s.sl[i]=q at hg h1
 obtain ⟨f0,l0⟩:=q
 have h2:f0=true:=h1.trans hf
 rw [←hq.2]
 refine lQ ?_ lv
 rw [←h.sl _ _ _ hg]
 exact h.sf _ _ _ hg h2
theorem Lp {s s1:Vs} {S:SS} {N:Nat} (h:GF s S N) (hN:N<1000) (h1:s1.sl=s.sl) (h2:s1.bL=s.bL) {st:St} (ht:s.last≤st.tick∧0≤st.tick∧st.tick≤1099511627776)
  (hb:∀it n c,bQ s.coin st=(it,n,c,true)→0≤it∧it<4∧1≤n∧n≤1099511627776∧1≤c∧c≤1099511627776):GF (cM s S st s1) (oS s S st) (N+1):=by
 unfold cM oS
 simp only
 generalize Uk:du S (st.tick - s.ab)=lv
 have sn:=h.CS
 cases hq:(bQ s.coin st).2.2.2 with
 | false =>
  simp only [cond_false,List.append_nil]
  refine ⟨⟨?_,cn ..,fun p hp=>sn.it p (List.mem_of_mem_drop hp),fun i f l hl=>(uA sn h1 lv i f l hl).2.1,fun i f l hl=>(uA sn h1 lv i f l hl).2.2,?_,fun p hp=>sn.tk p (List.mem_of_mem_drop hp)⟩,?_,fun p hp=>?_,fun i=>pK h.chain lv i,h.ord.sublist (List.drop_sublist _ _),fun p hp=>?_⟩
  ·show s1.bL.drop lv=_
   rw [h2,sn.bL,List.map_drop]
  ·rw [List.length_drop]; have:=h.len; omega
  ·rw [List.length_drop]; have:=h.len; omega
  ·have:=h.val p (List.mem_of_mem_drop hp); omega
  ·have:=h.le p (List.mem_of_mem_drop hp); show p.2.tick≤st.tick; omega
 | true =>
  simp only [cond_true]
  generalize xl:bQ s.coin st=q0 at *
  obtain ⟨it,n,c,b⟩:=q0
  simp only at hq
  subst hq
  obtain ⟨t1,t2,t3,t4,t5,t6⟩:=hb it n c rfl
  obtain ⟨i5,rfl⟩:∃i5:Nat,it=(i5:Int):=⟨it.toNat,by omega⟩
  simp only [Int.toNat_natCast]
  have ZF:=OZ h lv i5
  have Ul:i5<4:=by omega
  have hg:=im s1 S lv i5 Ul
  refine ⟨⟨?_,?_,fun p hp=>?_,fun i f l hl=>?_,fun i f l hl=>?_,?_,fun p hp=>?_⟩,?_,fun p hp=>?_,fun i=>?_,?_,fun p hp=>?_⟩
  ·show s1.bL.drop lv++[(i5:Int)]=_
   rw [h2,sn.bL,List.map_append,List.map_drop]; rfl
  ·show ((dp s1 S lv).set i5 _).length=4
   rw [List.length_set]; exact cn ..
  ·rcases List.mem_append.1 hp with hp | hp
   ·exact sn.it p (List.mem_of_mem_drop hp)
   ·simp only [List.mem_singleton] at hp; subst hp; exact Ul
  ·have hl:((dp s1 S lv).set i5 (false,cl (S.drop lv) i5++[⟨st.tick,n,c,n+iY (cl (S.drop lv) i5),c+iZ (cl (S.drop lv) i5)⟩]))[i]?=some (f,l):=hl
   rw [pJ]
   by_cases hi:i5=i
   ·subst hi
    rw [List.getElem?_set_self (by rw [cn]; exact Ul)] at hl
    simp only [Option.some.injEq,Prod.mk.injEq] at hl
    rw [←hl.2]; simp [cl]
   ·rw [List.getElem?_set_ne hi] at hl
    rw [(uA sn h1 lv i f l hl).2.1]; simp [cl,hi]
  ·have hl:((dp s1 S lv).set i5 (false,cl (S.drop lv) i5++[⟨st.tick,n,c,n+iY (cl (S.drop lv) i5),c+iZ (cl (S.drop lv) i5)⟩]))[i]?=some (f,l):=hl
   by_cases hi:i5=i
   ·subst hi
    rw [List.getElem?_set_self (by rw [cn]; exact Ul)] at hl
    simp only [Option.some.injEq,Prod.mk.injEq] at hl
    rw [←hl.1]; simp
   ·rw [List.getElem?_set_ne hi] at hl
    exact (uA sn h1 lv i f l hl).2.2
  ·rw [List.length_append,List.length_drop,List.length_singleton]; have:=h.len; omega
  ·rcases List.mem_append.1 hp with hp | hp
   ·exact sn.tk p (List.mem_of_mem_drop hp)
   ·simp only [List.mem_singleton] at hp; subst hp; simp only; omega
  ·rw [List.length_append,List.length_drop,List.length_singleton]; have:=h.len; omega
  ·rcases List.mem_append.1 hp with hp | hp
   ·have:=h.val p (List.mem_of_mem_drop hp); omega
   ·simp only [List.mem_singleton] at hp; subst hp; simp only; omega
  ·rw [pJ]
   by_cases hi:i5=i
   ·subst hi
    have:cl [(i5,(⟨st.tick,n,c,n+iY (cl (S.drop lv) i5),c+iZ (cl (S.drop lv) i5)⟩:Sl))] i5=[⟨st.tick,n,c,n+iY (cl (S.drop lv) i5),c+iZ (cl (S.drop lv) i5)⟩]:=by simp [cl]
    rw [this]
    exact Ff (pK h.chain lv i5) _ rfl rfl
   ·have:cl [(i5,(⟨st.tick,n,c,n+iY (cl (S.drop lv) i5),c+iZ (cl (S.drop lv) i5)⟩:Sl))] i=[]:=by simp [cl,hi]
    rw [this,List.append_nil]; exact pK h.chain lv i
  ·refine List.pairwise_append.2 ⟨h.ord.sublist (List.drop_sublist _ _),List.pairwise_singleton _ _,fun p hp q hq=>?_⟩
   simp only [List.mem_singleton] at hq; subst hq
   have:=h.le p (List.mem_of_mem_drop hp); simp only; omega
  ·rcases List.mem_append.1 hp with hp | hp
   ·have:=h.le p (List.mem_of_mem_drop hp); show p.2.tick≤st.tick; omega
   ·simp only [List.mem_singleton] at hp; subst hp; show st.tick≤st.tick; omega
end Go.Proofs.YtpbdohkbiklflaaGreatDoor
namespace Go.Proofs.YtpbdohkbiklflaaGreatDoor
open Go.TM
variable [de]
structure Lq (s:Vs) (S:SS) (L N:Nat):Prop where
 bJ:G4 s L
 Nv:GF s S N
 Rz:1≤s.ab∧s.ab≤1099511627776
 S9:0≤s.last
 wk:0≤s.work∧s.work≤N * 1000
 vb:∀p∈s.H,p.2≤N * 4398046511104
theorem Iy {a b:HM} (h:Bj (a++b)):Bj a∧Bj b:=by
 have hn:=h.nd
 unfold Nk at hn
 rw [List.map_append] at hn
 have:=List.nodup_append.1 hn
 exact ⟨⟨this.1,fun e he=>h.pos e (List.mem_append_left _ he)⟩,⟨this.2.1,fun e he=>h.pos e (List.mem_append_right _ he)⟩⟩
theorem Iz {a:HM} {k:Ky} {x:Int} {r:HM} (h:Bj (a++(k,x)::r)):bm a k=none:=by
 refine kS fun hm=>?_
 have hn:=h.nd
 unfold Nk at hn
 rw [List.map_append] at hn
 exact (List.nodup_append.1 hn).2.2 k hm k (by simp) rfl
theorem Fg {s:Vs} {S:SS} {L N:Nat} (h:Lq s S L N) (k:Ky):0≤hv s.H k∧hv s.H k≤N * 4398046511104:=by
 have h1:=h.bJ.zn k
 refine ⟨h1.1,?_⟩
 by_cases h0:hv s.H k=0
 ·rw [h0]; omega
 ·exact h.vb _ (dG (h1.2.2.1 h0))
theorem CT {s:Vs} {S:SS} {L N:Nat} (h:Lq s S L N) (hN:N≤100) {st:St} (hm:st.mv.length≤4) {A:HM} (hA:ko s.H [] st.mv=.ok A):Bj A∧A.length≤8∧(∀k,hold A s.H k≤(N+1:Nat) * 4398046511104)∧∀e∈A,e.2≤(N+1:Nat) * 4398046511104:=by
 have h1:=Fc (C:=N * 4398046511104) hA (by omega) ⟨List.nodup_nil,fun e he=>by cases he⟩ (fun k=>Fg h k)
 have h2:=uq hA
 simp only [List.length_nil] at h2
 have h3:∀e∈A,e.2≤(N+1:Nat) * 4398046511104:=fun e he=>by have:=(h1.pos e he).2.2.2; omega
 refine ⟨⟨h1.nd,fun e he=>?_⟩,by omega,fun k=>?_,h3⟩
 ·have:=h1.pos e he
  refine ⟨this.1,this.2.1,this.2.2.1,by omega⟩
 ·unfold hold
  cases hq:bm A k with
  | none=>have:=Fg h k; simp only [Option.getD_none]; omega
  | some x=>have:=h3 _ (dG hq); simpa using this
theorem AP (s:Vs) (S:SS) (st:St) (t:Vs):(cM s S st t).H=t.H∧(cM s S st t).cS=t.cS∧(cM s S st t).rk=t.rk∧(cM s S st t).ab=t.ab∧(cM s S st t).last=st.tick∧(cM s S st t).coin=t.coin∧(cM s S st t).aC=t.aC:=by
 unfold cM No
 cases (bQ s.coin st).2.2.2 <;> exact ⟨rfl,rfl,rfl,rfl,rfl,rfl,rfl⟩
theorem wL (s:Vs) (S:SS) (st:St) (t:Vs):(cM s S st t).work=t.work+du S (st.tick - s.ab)+(bif (bQ s.coin st).2.2.2 then 1 else 0):=by
 unfold cM No
 cases (bQ s.coin st).2.2.2
 ·show t.work+_=t.work+_+0; omega
 ·rfl
theorem Fh (s:Vs) (S:SS) (st:St) (t:Vs) (H:HM):cM s S st { t with H:=H }={ cM s S st t with H:=H }:=by
 unfold cM No
 cases (bQ s.coin st).2.2.2 <;> rfl
theorem Nw (f h g:Bool) (t:Vs) {H:HM} (hp:H.Perm t.H):oO (xm f h g { t with H:=H }) (xm f h g t):=by
 unfold xm
 refine .cons (.refl _) (.cons (.omap _ _ _ (hp.map _)) (.cons (.refl _) (.cons (.refl _) (.cons (.refl _) (.cons (.refl _) .nil)))))
def Fi (s:Vs) (S:SS) (st:St):Bool:=decide (0<du S (st.tick - s.ab)) || (bQ s.coin st).2.2.2
theorem ss {s:Vs} {S:SS} {L N:Nat} (h:Lq s S L N) (hL:L+8≤500) (hN:N≤99) (st:St) (hm:st.mv.length≤4) :
  match eS s S st with
  | .err e=>bn Tryz.prog 21 [.ptr 0 0,AE st] 6 (vK false s) 9 [.dv (I e)] (vK false s)
  | .ok A=>bn Tryz.prog 21 [.ptr 0 0,AE st] 6 (vK false s) 9 [.dv (I 0)] (xm (fF s A) (Fi s S st) true (cM s S st (aJ s A))):=by
 have hw:=Io s S h.Nv.CS st (by omega) (fun k=>by have:=Fg h k; omega) (by have:=h.bJ.len; omega) h.Rz h.S9 (by have:=h.wk; omega) (fun j i=>by have:=OZ h.Nv j i; omega)
  (fun A it n c hA hq=>Fe (sr hA) hq) (fun A hA done k now left hp=>?_)
 ·have rj:∀A,eS s S st=.ok A→ko s.H [] st.mv=.ok A:=by
   intro A hA
   unfold eS at hA
   split at hA
   ·cases hA
   split at hA
   ·cases hA
   ·split at hA
    ·cases hA
    ·rename_i h9 _; rw [h9]; rw [Ui.ok.injEq] at hA; rw [hA]
  cases hq:eS s S st with
  | err e =>
   rw [hq] at hw
   exact hw
  | ok A =>
   rw [hq] at hw
   simp only
   refine EF ⟨hw.1,fun w G vs ri cB hr=>?_⟩
   refine Calls.mono (hw.2 w G vs ri cB hr) ?_
   rintro e w' ⟨v,r,k,G',rfl,⟨done,hp,rfl,rfl⟩,hc⟩
   refine ⟨v,_,_,G',rfl,⟨rfl,?_⟩,hc⟩
   obtain ⟨a1,a2,a3,a4⟩:=CT h (by omega) hm (rj A hq)
   obtain ⟨p1,p2⟩:=Ix h.bJ a1 hp (by omega) (by have:=h.wk; omega)
   rw [p2,Fh]
   exact Nw _ _ _ _ (by rw [(AP s S st _).1]; exact p1)
 ·obtain ⟨a1,a2,a3,a4⟩:=CT h (by omega) hm hA
  have e1:=a1.perm hp
  have Co:=hp.length_eq
  simp only [List.length_append,List.length_cons] at Co
  obtain ⟨e2,e3⟩:=Iy e1
  have ho:=oj h.bJ e2 (by omega) (by have:=h.wk; omega)
  have Rx:=lP s done
  obtain ⟨q1,⟨i,hi,q2⟩,q3,q4⟩:=e3.pos _ List.mem_cons_self
  obtain ⟨a,it⟩:=k
  simp only at q1 q2 q3 q4
  subst q2
  refine ⟨i,(AL ho (by omega) (by have:=h.wk; omega) hi q1 ⟨q3,q4⟩).1,?_⟩
  unfold cx
  rw [lT h.bJ.nd e2]
  unfold hold
  rw [Iz e1]; rfl
theorem AQ {s:Vs} {S:SS} {L N:Nat} (h:Lq s S L N) (hL:L+8≤500) (hN:N≤99) (st:St) (hm:st.mv.length≤4) {A:HM} (hA:eS s S st=.ok A):Lq (cM s S st (aJ s A)) (oS s S st) (L+8) (N+1)∧ko s.H [] st.mv=.ok A∧(s.last≤st.tick∧st.tick≤1099511627776)∧Lj s S st+iH s.H A≤s.aC:=by
 unfold eS at hA
 split at hA
 ·cases hA
 rename_i hc
 have hc:(bif decide (st.tick<s.last) then true else decide (1099511627776<st.tick))=false:=by simpa using hc
 have Ig:s.last≤st.tick∧st.tick≤1099511627776:=by
  simp only [Bool.cond_true_left,Bool.or_eq_false_iff,decide_eq_false_iff_not] at hc; omega
 split at hA
 ·cases hA
 rename_i A' VN
 split at hA
 ·cases hA
 rename_i aT
 rw [Ui.ok.injEq] at hA
 subst hA
 refine ⟨?_,VN,Ig,by omega⟩
 obtain ⟨a1,a2,a3,a4⟩:=CT h (by omega) hm VN
 have ho:=oj h.bJ a1 (by omega) (by have:=h.wk; omega)
 have Rx:=lP s A'
 obtain ⟨f1,f2,f3,f4,f5,f6,f7⟩:=AP s S st (aJ s A')
 have hr:=jM A' s
 have QQ:=h.S9
 refine ⟨⟨by rw [f1]; exact ho.nd,by rw [f1]; exact ho.pos,by rw [f1]; have:=ho.len; omega,by rw [f2]; exact ho.tl,by rw [f3]; exact ho.rl,by rw [f1,f3]; exact ho.rk,by rw [f1,f2]; exact ho.QO⟩,
  Lp h.Nv (by omega) (ny ..) (jL ..) ⟨Ig.1,by omega,Ig.2⟩ (fun it n c hq=>Fe (sr VN) hq),by rw [f4,hr.2.1]; exact h.Rz,by rw [f5]; omega,?_,?_⟩
 ·rw [wL]
  have Uk:du S (st.tick - s.ab)≤N:=Nat.le_trans (by unfold du; exact (List.takeWhile_sublist _).length_le) h.Nv.len
  have:=h.wk
  cases (bQ s.coin st).2.2.2 <;> simp only [cond_true,cond_false] <;> omega
 ·rw [f1]
  intro p hp
  have h1:=fo ho.nd (k:=p.1) (x:=p.2) hp
  have h2:=lT h.bJ.nd a1 p.1
  unfold hv at h2
  rw [h1] at h2
  simp only [Option.getD_some] at h2
  rw [h2]; exact a3 _
end Go.Proofs.YtpbdohkbiklflaaGreatDoor
