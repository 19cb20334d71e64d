import Derived.Test.YtpbdohkbiklflaaGreatDoorWM25
import Derived.Test.YtpbdohkbiklflaaGreatDoorWM19
set_option linter.unusedVariables false
set_option linter.unusedSimpArgs false
set_option linter.unusedSectionVars false
namespace Go.Proofs.YtpbdohkbiklflaaGreatDoor
open Go.TM
theorem tV (x:Rk):km x x=false:=by
 unfold km; simp
theorem EA {x y z:Rk} (h1:km x y=true) (h2:km y z=true):km x z=true:=by
 unfold km at *
 simp only [Bool.or_eq_true,Bool.and_eq_true,decide_eq_true_eq,beq_iff_eq] at *
 omega
theorem MO {x y:Rk} (h1:km x y=false) (h2:km y x=false):x=y:=by
 obtain ⟨a,b⟩:=x; obtain ⟨c,d⟩:=y
 unfold km at *
 simp only [Bool.or_eq_false_iff,Bool.and_eq_false_iff,decide_eq_false_iff_not,beq_eq_false_iff_ne,ne_eq] at *
 have:b=d:=by omega
 subst this
 have:a=c:=by
  rcases h1.2 with h | h
  ·exact absurd rfl h
  ·rcases h2.2 with h' | h'
   ·exact absurd rfl h'
   ·omega
 rw [this]
def j3 (l:List Rk):Prop:=l.Pairwise fun x y=>km x y=true
theorem lP {y x:Rk} {r:List Rk} (h:km y x=true):oi (y::r) x=oi r x+1:=by
 unfold oi; rw [List.countP_cons,if_pos h]
theorem qM {x:Rk} {l:List Rk} (h:∀z,z∈l→km z x=false):oi l x=0:=by
 unfold oi; rw [List.countP_eq_zero]; intro z hz; rw [h z hz]; simp
theorem tW {y x:Rk} {r:List Rk} (hs:j3 (y::r)) (h:km y x=false):∀z,z∈y::r→km z x=false:=by
 intro z hz
 rcases List.mem_cons.1 hz with rfl | hz
 ·exact h
 ·have h1:=(List.pairwise_cons.1 hs).1 z hz
  cases hq:km z x with
  | false=>rfl
  | true=>rw [EA h1 hq] at h; cases h
theorem lQ:∀{l:List Rk} (_:j3 l) (x:Rk),lI l (oi l x) x
 | [],_,x=>⟨Nat.le_refl _,fun i y _ h=>by simp at h,fun i y _ h=>by simp at h⟩
 | y::r,hs,x=>by
  have ih:=lQ (l:=r) (List.pairwise_cons.1 hs).2 x
  cases hq:km y x with
  | true =>
   rw [lP hq]
   refine ⟨by have:=ih.le; simp; omega,fun i z hi hz=>?_,fun i z hi hz=>?_⟩
   ·cases i with
    | zero=>simp at hz; subst hz; exact hq
    | succ i=>exact ih.lo i z (by omega) (by simpa using hz)
   ·cases i with
    | zero=>omega
    | succ i=>exact ih.hi i z (by omega) (by simpa using hz)
  | false =>
   have ha:=tW hs hq
   rw [qM ha]
   exact ⟨by omega,fun i z hi _=>by omega,fun i z _ hz=>ha z (List.mem_of_getElem? hz)⟩
theorem HE (y x:Rk) (r:List Rk) (hs:j3 (y::r)):r5 (y::r) x=if km y x=true then y::r5 r x else x::y::r:=by
 cases hq:km y x with
 | true=>unfold r5; rw [lP hq]; simp [qC]
 | false=>unfold r5; rw [qM (tW hs hq)]; simp [qC]
theorem HF (y x:Rk) (r:List Rk) (hs:j3 (y::r)):lJ (y::r) x=if km y x=true then y::lJ r x else r:=by
 cases hq:km y x with
 | true=>unfold lJ; rw [lP hq]; simp [xi]
 | false=>unfold lJ; rw [qM (tW hs hq)]; simp [xi]
theorem Cm {l:List Rk} {x y:Rk}:y∈r5 l x ↔ y=x ∨ y∈l:=by
 unfold r5 qC
 rw [List.mem_append,List.mem_cons]
 have:=List.take_append_drop (oi l x) l
 constructor
 ·rintro (h | h | h)
  ·exact .inr (List.mem_of_mem_take h)
  ·exact .inl h
  ·exact .inr (List.mem_of_mem_drop h)
 ·rintro (h | h)
  ·exact .inr (.inl h)
  ·rw [←this,List.mem_append] at h
   rcases h with h | h
   ·exact .inl h
   ·exact .inr (.inr h)
theorem ta:∀{l:List Rk} {x:Rk},j3 l→x ∉ l→j3 (r5 l x)
 | [],x,_,_=>by unfold r5 qC j3; simp
 | y::r,x,hs,hx=>by
  have hp:=List.pairwise_cons.1 hs
  rw [HE y x r hs]
  have bB:x ≠ y:=fun h=>hx (by rw [h]; exact List.mem_cons_self)
  cases hq:km y x with
  | true =>
   rw [if_pos rfl]
   refine List.pairwise_cons.2 ⟨fun z hz=>?_,ta hp.2 fun h=>hx (List.mem_cons_of_mem _ h)⟩
   rcases Cm.1 hz with rfl | hz
   ·exact hq
   ·exact hp.1 z hz
  | false =>
   rw [if_neg (by simp)]
   have Og:km x y=true:=by
    cases gz:km x y with
    | true=>rfl
    | false=>exact absurd (MO gz hq) bB
   refine List.pairwise_cons.2 ⟨fun z hz=>?_,hs⟩
   rcases List.mem_cons.1 hz with rfl | hz
   ·exact Og
   ·exact EA Og (hp.1 z hz)
theorem sb:∀{l:List Rk} {x:Rk},j3 l→x∈l→oi l x<l.length∧j3 (lJ l x)∧∀y,y∈lJ l x ↔ y∈l∧y ≠ x
 | [],x,_,h=>by cases h
 | y::r,x,hs,hx=>by
  have hp:=List.pairwise_cons.1 hs
  have U0:∀z,z∈r→z ≠ y:=fun z hz h=>by have:=hp.1 z hz; rw [h,tV] at this; cases this
  rw [HF y x r hs]
  cases hq:km y x with
  | true =>
   have bB:x ≠ y:=fun h=>by rw [h,tV] at hq; cases hq
   have X7:x∈r:=by
    rcases List.mem_cons.1 hx with h | h
    ·exact absurd h bB
    ·exact h
   obtain ⟨h1,h2,h3⟩:=sb hp.2 X7
   rw [if_pos rfl,lP hq]
   refine ⟨by simp; exact h1,List.pairwise_cons.2 ⟨fun z hz=>hp.1 z ((h3 z).1 hz).1,h2⟩,fun z=>?_⟩
   rw [List.mem_cons,List.mem_cons,h3 z]
   constructor
   ·rintro (rfl | ⟨a,b⟩)
    ·exact ⟨.inl rfl,fun h=>bB h.symm⟩
    ·exact ⟨.inr a,b⟩
   ·rintro ⟨rfl | a,b⟩
    ·exact .inl rfl
    ·exact .inr ⟨a,b⟩
  | false =>
   have Og:x=y:=by
    rcases List.mem_cons.1 hx with h | h
    ·exact h
    ·have:=hp.1 x h; rw [this] at hq; cases hq
   subst Og
   rw [if_neg (by simp),qM (tW hs hq)]
   refine ⟨by simp,hp.2,fun z=>?_⟩
   rw [List.mem_cons]
   constructor
   ·intro hz; exact ⟨.inr hz,U0 z hz⟩
   ·rintro ⟨rfl | a,b⟩
    ·exact absurd rfl b
    ·exact a
theorem pt {l:List Rk} (h:j3 l):l.Nodup:=by
 refine List.Pairwise.imp (fun {a b} sB=>?_) h
 rintro rfl
 rw [tV] at sB; cases sB
theorem KA {l r:List Rk} (hl:j3 l) (hr:j3 r) (h:∀x,x∈l ↔ x∈r):l=r :=
 List.Perm.eq_of_pairwise (fun a b _ _ h1 h2=>by have:=EA h1 h2; rw [tV] at this; cases this) hl hr ((List.perm_ext_iff_of_nodup (pt hl) (pt hr)).2 h)
end Go.Proofs.YtpbdohkbiklflaaGreatDoor
namespace Go.Proofs.YtpbdohkbiklflaaGreatDoor
open Go.TM
variable [cZ]
def Nk (m:HM):Prop:=(m.map (·.1)).Nodup
theorem dW:∀{m:HM} {k:Ky} {x:Int},bm m k=some x→(k,x)∈m
 | [],_,_,h=>by cases h
 | p::r,k,x,h=>by
  simp only [bm] at h
  split at h
  ·rename_i hk; injection h with h; subst h; subst hk; exact List.mem_cons_self
  ·exact List.mem_cons_of_mem _ (dW h)
theorem gu:∀{m:HM} {k:Ky} {x:Int},Nk m→(k,x)∈m→bm m k=some x
 | [],_,_,_,h=>by cases h
 | p::r,k,x,hn,h=>by
  unfold Nk at hn
  rw [List.map_cons,List.nodup_cons] at hn
  simp only [bm]
  rcases List.mem_cons.1 h with h | h
  ·subst h; simp
  ·rw [if_neg]
   ·exact gu hn.2 h
   ·intro hk
    exact hn.1 (by rw [hk]; exact List.mem_map.2 ⟨_,h,rfl⟩)
theorem sd {m:HM} {k:Ky} (h:k ∉ m.map (·.1)):bm m k=none:=by
 cases hq:bm m k with
 | none=>rfl
 | some x=>exact absurd (List.mem_map.2 ⟨_,dW hq,rfl⟩) h
theorem yt:∀(m:HM) (k:Ky) (x:Int) (j:Ky),j∈(bM m k x).map (·.1) ↔ j=k ∨ j∈m.map (·.1)
 | [],k,x,j=>by simp [bM]
 | p::r,k,x,j=>by
  simp only [bM]
  split
  ·rename_i hk; subst hk; simp
  ·simp only [List.map_cons,List.mem_cons,yt r k x j]
   constructor
   ·rintro (h | h | h)
    ·exact .inr (.inl h)
    ·exact .inl h
    ·exact .inr (.inr h)
   ·rintro (h | h | h)
    ·exact .inr (.inl h)
    ·exact .inl h
    ·exact .inr (.inr h)
theorem Nk.bM:∀{m:HM},Nk m→∀(k:Ky) (x:Int),Nk (bM m k x)
 | [],_,k,x=>by simp [Nk,Proofs.YtpbdohkbiklflaaGreatDoor.bM]
 | p::r,h,k,x=>by
  unfold Nk at h
  rw [List.map_cons,List.nodup_cons] at h
  simp only [Proofs.YtpbdohkbiklflaaGreatDoor.bM]
  split
  ·rename_i hk; subst hk; unfold Nk; rw [List.map_cons,List.nodup_cons]; exact h
  ·rename_i hk
   unfold Nk; rw [List.map_cons,List.nodup_cons]
   refine ⟨fun hm=>?_,Nk.bM (m:=r) h.2 k x⟩
   rcases (yt r k x p.1).1 hm with h1 | h1
   ·exact hk h1
   ·exact h.1 h1
theorem wh:∀(m:HM) (k:Ky),(iD m k).Sublist m
 | [],_=>List.Sublist.refl _
 | p::r,k=>by
  simp only [iD]
  split
  ·exact List.sublist_cons_self _ _
  ·exact (wh r k).cons_cons _
theorem Nk.iD {m:HM} (h:Nk m) (k:Ky):Nk (iD m k):=h.sublist ((wh m k).map _)
theorem yu:∀{m:HM} (_:Nk m) (k j:Ky),bm (iD m k) j=if k=j then none else bm m j
 | [],_,k,j=>by simp [iD,bm]
 | p::r,h,k,j=>by
  unfold Nk at h
  rw [List.map_cons,List.nodup_cons] at h
  simp only [iD]
  split
  ·rename_i hk
   subst hk
   by_cases hj:p.1=j
   ·subst hj; rw [if_pos rfl]; exact sd h.1
   ·rw [if_neg hj]; simp only [bm]; rw [if_neg hj]
  ·rename_i hk
   simp only [bm]
   by_cases hj:p.1=j
   ·rw [if_pos hj,if_pos hj,if_neg (fun h9=>hk (hj.trans h9.symm))]
   ·rw [if_neg hj,if_neg hj]; exact yu (m:=r) h.2 k j
theorem MP {m r:HM} (hm:Nk m) (hr:Nk r) (h:∀k,bm m k=bm r k):m.Perm r:=by
 have nd:∀{m:HM},Nk m→m.Nodup:=fun {m} hm=>by
  unfold Nk at hm
  exact (List.pairwise_map.1 hm).imp fun {a b} sB he=>sB (by rw [he])
 refine (List.perm_ext_iff_of_nodup (nd hm) (nd hr)).2 fun p=>⟨fun hp=>?_,fun hp=>?_⟩
 ·have:=gu hm (k:=p.1) (x:=p.2) hp; rw [h] at this; exact dW this
 ·have:=gu hr (k:=p.1) (x:=p.2) hp; rw [←h] at this; exact dW this
def jI:HM→Int→Int
 | [],_=>0
 | p::r,i=>(if p.1.2=i then p.2 else 0)+jI r i
theorem Gr (p:Ky × Int) (r:HM) (k:Ky):hv (p::r) k=if p.1=k then p.2 else hv r k:=by
 unfold hv; simp only [bm]; split <;> rfl
theorem yv:∀(m:HM) (k:Ky) (x i:Int),jI (bM m k x) i=jI m i+(if k.2=i then x - hv m k else 0)
 | [],k,x,i=>by simp [bM,jI,hv,bm]
 | p::r,k,x,i=>by
  simp only [bM,Gr]
  split
  ·rename_i hk; subst hk; simp only [jI]; split <;> omega
  ·simp only [jI,yv r k x i]; omega
theorem yw:∀(m:HM) (k:Ky) (i:Int),jI (iD m k) i=jI m i+(if k.2=i then - hv m k else 0)
 | [],k,i=>by simp [iD,jI,hv,bm]
 | p::r,k,i=>by
  simp only [iD,Gr]
  split
  ·rename_i hk; subst hk; simp only [jI]; split <;> omega
  ·simp only [jI,yw r k i]; omega
theorem wi {C:Int}:∀{m:HM} (_:∀p∈m,0≤p.2∧p.2≤C) (_:0≤C) (i:Int),0≤jI m i∧jI m i≤m.length * C
 | [],_,_,i=>by simp [jI]
 | p::r,h,hC,i=>by
  have h1:=h p List.mem_cons_self
  have h2:=wi (fun q hq=>h q (List.mem_cons_of_mem _ hq)) hC i
  simp only [jI,List.length_cons]
  have h3:((r.length+1:Nat):Int) * C=r.length * C+C:=by rw [Int.natCast_add,Int.add_mul]; omega
  rw [h3]
  split <;> omega
theorem HG {m r:HM} (h:m.Perm r) (i:Int):jI m i=jI r i:=by
 induction h with
 | nil=>rfl
 | cons x _ ih=>simp only [jI,ih]
 | swap x y l=>simp only [jI]; omega
 | trans _ _ a b=>exact a.trans b
def c7 (H:HM) (k:Ky) (now:Int):HM:=if now=0 then iD H k else bM H k now
theorem kR {H:HM} (h:Nk H) (k:Ky) (now:Int) (j:Ky):bm (c7 H k now) j=if k=j then (if now=0 then none else some now) else bm H j:=by
 unfold c7
 by_cases h0:now=0
 ·rw [if_pos h0,if_pos h0,yu h]
 ·rw [if_neg h0,if_neg h0,yl]
theorem Nk.c7 {H:HM} (h:Nk H) (k:Ky) (now:Int):Nk (c7 H k now):=by
 unfold Proofs.YtpbdohkbiklflaaGreatDoor.c7; split
 ·exact h.iD k
 ·exact h.bM k now
theorem HH (H:HM) (k:Ky) (now i:Int):jI (c7 H k now) i=jI H i+(if k.2=i then now - hv H k else 0):=by
 unfold c7; split
 ·rename_i h0; subst h0; rw [yw]; split <;> omega
 ·rw [yv]
theorem MQ {H:HM} (h:Nk H) (k:Ky) (now:Int) (j:Ky):hv (c7 H k now) j=if k=j then now else hv H j:=by
 unfold hv; rw [kR h]
 by_cases hk:k=j
 ·rw [if_pos hk,if_pos hk]; by_cases h0:now=0
  ·rw [if_pos h0,h0]; rfl
  ·rw [if_neg h0]; rfl
 ·rw [if_neg hk,if_neg hk]
theorem KB (H:HM) (k:Ky) (now:Int):(c7 H k now).length≤H.length+1:=by
 unfold c7; split
 ·have:=(wh H k).length_le; omega
 ·exact we ..
def P8 (H:HM) (i:Nat) (q:Bool × List Rk):Prop:=(q.1=true→q.2=[])∧j3 q.2∧∀x:Rk,x∈q.2 ↔ x.1<1048576∧bm H (x.1,(i:Int))=some x.2
structure Gs (s:Vs) (L:Nat):Prop where
 nd:Nk s.H
 pos:∀p∈s.H,1≤p.1.1∧(∃i:Nat,i<4∧p.1.2=(i:Int))∧1≤p.2∧p.2≤1125899906842624
 len:s.H.length≤L
 tl:s.dm.length=4
 rl:s.rk.length=4
 rk:∀i:Nat,i<4→P8 s.H i (s.rk.getD i (true,[]))
 QN:∀i:Nat,i<4→s.dm.getD i 0=jI s.H i
theorem Gs.AI {s:Vs} {L:Nat} (h:Gs s L) (k:Ky):0≤hv s.H k∧hv s.H k≤1125899906842624∧(hv s.H k ≠ 0→bm s.H k=some (hv s.H k))∧(hv s.H k=0→bm s.H k=none):=by
 unfold hv
 cases hq:bm s.H k with
 | none=>simp
 | some x =>
  have:=h.pos _ (dW hq)
  simp only [Option.getD_some]
  simp only at this
  refine ⟨by omega,by omega,fun _=>trivial,fun h0=>?_⟩
  omega
theorem Gt {α β:Type} [BEq β] [LawfulBEq β] (f:α→β):∀{l:List α} {m:List β} (_:l.Nodup) (_:∀x∈l,f x∈m) (_:∀x∈l,∀y∈l,f x=f y→x=y),l.length≤m.length
 | [],m,_,_,_=>by simp
 | x::l,m,hn,hm,hi=>by
  rw [List.nodup_cons] at hn
  have h1:=hm x List.mem_cons_self
  have h2:=Gt f (l:=l) (m:=m.erase (f x)) hn.2 (fun y hy=>by
   refine (List.mem_erase_of_ne fun he=>?_).2 (hm y (List.mem_cons_of_mem _ hy))
   have:=hi y (List.mem_cons_of_mem _ hy) x List.mem_cons_self he
   subst this; exact hn.1 hy) (fun a ha b hb=>hi a (List.mem_cons_of_mem _ ha) b (List.mem_cons_of_mem _ hb))
  rw [List.length_erase_of_mem h1] at h2
  have:0<m.length:=List.length_pos_of_mem h1
  simp only [List.length_cons]; omega
theorem KC {H:HM} {i:Nat} {q:Bool × List Rk} (h:P8 H i q):q.2.length≤H.length :=
 Gt (fun x:Rk=>(((x.1,(i:Int)):Ky),x.2)) (pt h.2.1) (fun x hx=>dW ((h.2.2 x).1 hx).2) (fun x _ y _ he=>by
  simp only [Prod.mk.injEq] at he
  exact Prod.ext he.1.1 he.2)
def P9 (l:List Rk) (a before now:Int):List Rk :=
 let l1:=if before ≠ 0 then lJ l (a,before) else l
 if now ≠ 0 then r5 l1 (a,now) else l1
theorem KE {s:Vs} {L:Nat} (h:Gs s L) {i:Nat} (hi:i<4) {a:Int} (ha:a<1048576):∀l1,l1=(if hv s.H (a,(i:Int)) ≠ 0 then lJ (s.rk.getD i (true,[])).2 (a,hv s.H (a,(i:Int))) else (s.rk.getD i (true,[])).2)→j3 l1∧∀x,x∈l1 ↔ x∈(s.rk.getD i (true,[])).2∧x.1 ≠ a:=by
 intro l1 D8
 obtain ⟨_,hs,hm⟩:=h.rk i hi
 have hh:=h.AI (a,(i:Int))
 by_cases hb:hv s.H (a,(i:Int)) ≠ 0
 ·rw [if_pos hb] at D8
  have Bs:(a,hv s.H (a,(i:Int)))∈(s.rk.getD i (true,[])).2:=(hm _).2 ⟨ha,hh.2.2.1 hb⟩
  obtain ⟨_,h2,h3⟩:=sb hs Bs
  rw [D8]
  refine ⟨h2,fun x=>?_⟩
  rw [h3 x]
  constructor
  ·rintro ⟨h4,h5⟩
   refine ⟨h4,fun h6=>h5 ?_⟩
   have h7:=((hm x).1 h4).2
   rw [h6,hh.2.2.1 hb] at h7
   injection h7 with h7
   exact Prod.ext h6 h7.symm
  ·rintro ⟨h4,h5⟩
   exact ⟨h4,fun h6=>h5 (by rw [h6])⟩
 ·rw [if_neg hb] at D8
  have hb:hv s.H (a,(i:Int))=0:=by simpa using hb
  rw [D8]
  refine ⟨hs,fun x=>⟨fun h4=>⟨h4,fun h6=>?_⟩,fun h4=>h4.1⟩⟩
  have h7:=((hm x).1 h4).2
  rw [h6,hh.2.2.2 hb] at h7
  cases h7
theorem tX (s:Vs) (a:Int) (i:Nat) (now:Int) (bB:hv s.H (a,(i:Int)) ≠ now):cF s (a,(i:Int)) i now={ s with work:=s.work+1,dm:=s.dm.set i (s.dm.getD i 0+(now - hv s.H (a,(i:Int)))),H:=c7 s.H (a,(i:Int)) now,rk:=if 1048576≤a then s.rk else s.rk.set i (false,P9 (s.rk.getD i (true,[])).2 a (hv s.H (a,(i:Int))) now) }:=by
 unfold cF c7
 rw [if_neg bB]
 by_cases ha:1048576≤a
 ·simp only [if_pos ha]
 ·simp only [if_neg ha]
  by_cases hn:now=0
  ·subst hn
   simp only [ne_eq,not_true_eq_false,if_false,bB,not_false_eq_true,if_true,P9]
  ·simp only [ne_eq,hn,not_false_eq_true,if_true,P9]
theorem Ak {s:Vs} {L:Nat} (h:Gs s L) (hL:L≤500) (hw:0≤s.work∧s.work≤2305843009213693952) {a:Int} {i:Nat} {now:Int} (hi:i<4) (ha:1≤a) (hn:0≤now∧now≤1125899906842624) :
  Kj s (a,(i:Int)) i now∧Gs (cF s (a,(i:Int)) i now) (L+1):=by
 have hh:=h.AI (a,(i:Int))
 obtain ⟨hf,hs,hm⟩:=h.rk i hi
 have hb:=wi (C:=1125899906842624) (fun p hp=>by have:=h.pos p hp; omega) (by omega) (i:Int) (m:=s.H)
 have hlen:=h.len
 have cw:jI s.H i≤562949953421312000:=by
  have:(s.H.length:Int) * 1125899906842624≤500 * 1125899906842624:=by omega
  omega
 constructor
 ·refine ⟨rfl,by rw [h.tl]; exact hi,by rw [h.rl]; exact hi,by omega,by omega,?_,by omega,?_,hf,fun QO cM=>?_,fun QO C1 l1 D8=>?_⟩
  ·rw [h.QN i hi]; omega
  ·have:=KC (h.rk i hi); omega
  ·exact ⟨(sb hs ((hm (a,hv s.H (a,(i:Int)))).2 ⟨QO,hh.2.2.1 cM⟩)).1,lQ hs _⟩
  ·exact lQ (KE h hi QO l1 D8).1 _
 ·by_cases bB:hv s.H (a,(i:Int))=now
  ·have:cF s (a,(i:Int)) i now=s:=by unfold cF; rw [if_pos bB]
   rw [this]
   exact { h with len:=by omega }
  ·rw [tX s a i now bB]
   have eU:∀p∈c7 s.H (a,(i:Int)) now,1≤p.1.1∧(∃i:Nat,i<4∧p.1.2=(i:Int))∧1≤p.2∧p.2≤1125899906842624:=by
    intro p hp
    have hg:=gu (h.nd.c7 _ _) (k:=p.1) (x:=p.2) hp
    rw [kR h.nd] at hg
    split at hg
    ·rename_i hk
     split at hg
     ·cases hg
     ·injection hg with hg
      rw [←hk,←hg]
      exact ⟨ha,⟨i,hi,rfl⟩,by omega,by omega⟩
    ·exact h.pos p (dW hg)
   have PR:∀j:Nat,j<4→P8 (c7 s.H (a,(i:Int)) now) j ((if 1048576≤a then s.rk else s.rk.set i (false,P9 (s.rk.getD i (true,[])).2 a (hv s.H (a,(i:Int))) now)).getD j (true,[])):=by
    intro j hj
    by_cases C4:j=i
    ·subst C4
     by_cases QO:1048576≤a
     ·rw [if_pos QO]
      refine ⟨hf,hs,fun x=>?_⟩
      rw [hm x,kR h.nd]
      constructor
      ·rintro ⟨h1,h2⟩
       exact ⟨h1,by rw [if_neg (fun he=>by simp only [Prod.mk.injEq] at he; omega)]; exact h2⟩
      ·rintro ⟨h1,h2⟩
       rw [if_neg (fun he=>by simp only [Prod.mk.injEq] at he; omega)] at h2
       exact ⟨h1,h2⟩
     ·rw [if_neg QO,List.getD_eq_getElem?_getD,List.getElem?_set_self (by rw [h.rl]; exact hi)]
      obtain ⟨q1,q2⟩:=KE h hi (a:=a) (by omega) _ rfl
      refine ⟨fun h9=>by simp at h9,?_,fun x=>?_⟩
      ·simp only [Option.getD_some,P9]
       split
       ·exact ta q1 fun h9=>((q2 _).1 h9).2 rfl
       ·exact q1
      ·simp only [Option.getD_some,P9]
       rw [kR h.nd]
       by_cases LA:now=0
       ·subst LA
        simp only [ne_eq,not_true_eq_false,if_false]
        rw [q2 x,hm x]
        constructor
        ·rintro ⟨⟨h1,h2⟩,h3⟩
         exact ⟨h1,by rw [if_neg (fun he=>by simp only [Prod.mk.injEq] at he; omega)]; exact h2⟩
        ·rintro ⟨h1,h2⟩
         by_cases he:a=x.1
         ·rw [if_pos (by rw [he])] at h2; simp at h2
         ·rw [if_neg (fun yx=>by simp only [Prod.mk.injEq] at yx; exact he yx.1)] at h2
          exact ⟨⟨h1,h2⟩,fun h4=>he h4.symm⟩
       ·rw [if_pos LA,Cm,q2 x,hm x,if_neg LA]
        constructor
        ·rintro (h1 | ⟨⟨h1,h2⟩,h3⟩)
         ·subst h1; exact ⟨by simp only; omega,by simp⟩
         ·exact ⟨h1,by rw [if_neg (fun he=>by simp only [Prod.mk.injEq] at he; omega)]; exact h2⟩
        ·rintro ⟨h1,h2⟩
         by_cases he:a=x.1
         ·rw [if_pos (by rw [he])] at h2
          injection h2 with h2
          exact .inl (Prod.ext he.symm h2.symm)
         ·rw [if_neg (fun yx=>by simp only [Prod.mk.injEq] at yx; exact he yx.1)] at h2
          exact .inr ⟨⟨h1,h2⟩,fun h4=>he h4.symm⟩
    ·have hq:(if 1048576≤a then s.rk else s.rk.set i (false,P9 (s.rk.getD i (true,[])).2 a (hv s.H (a,(i:Int))) now)).getD j (true,[])=s.rk.getD j (true,[]):=by
      split
      ·rfl
      ·rw [List.getD_eq_getElem?_getD,List.getElem?_set_ne (fun h9=>C4 h9.symm),←List.getD_eq_getElem?_getD]
     rw [hq]
     obtain ⟨r1,r2,r3⟩:=h.rk j hj
     refine ⟨r1,r2,fun x=>?_⟩
     rw [r3 x,kR h.nd,if_neg (fun he=>by simp only [Prod.mk.injEq] at he; omega)]
   refine ⟨h.nd.c7 _ _,eU,by have:=KB s.H (a,(i:Int)) now; show (c7 s.H (a,(i:Int)) now).length≤_; omega,by simp only [List.length_set]; exact h.tl,?_,PR,fun j hj=>?_⟩
   ·simp only; split
    ·exact h.rl
    ·rw [List.length_set]; exact h.rl
   ·simp only
    rw [HH,List.getD_eq_getElem?_getD]
    by_cases C4:i=j
    ·subst C4
     rw [List.getElem?_set_self (by rw [h.tl]; exact hi),if_pos rfl,←h.QN i hi]; rfl
    ·rw [List.getElem?_set_ne C4,if_neg (by omega),←List.getD_eq_getElem?_getD,h.QN j hj]; omega
end Go.Proofs.YtpbdohkbiklflaaGreatDoor
namespace Go.Proofs.YtpbdohkbiklflaaGreatDoor
open Go.TM
variable [cZ]
theorem Al (s:Vs) (a:Int) (i:Nat) (now:Int):(cF s (a,(i:Int)) i now).H=if hv s.H (a,(i:Int))=now then s.H else c7 s.H (a,(i:Int)) now:=by
 by_cases h:hv s.H (a,(i:Int))=now
 ·unfold cF; rw [if_pos h,if_pos h]
 ·rw [tX s a i now h,if_neg h]
theorem tY {s:Vs} (h:Nk s.H) (a:Int) (i:Nat) (now:Int) (j:Ky):hv (cF s (a,(i:Int)) i now).H j=if (a,(i:Int))=j then now else hv s.H j:=by
 rw [Al]
 by_cases h0:hv s.H (a,(i:Int))=now
 ·rw [if_pos h0]; split
  ·rename_i hk; rw [←hk]; exact h0
  ·rfl
 ·rw [if_neg h0,MQ h]
structure AP (es:HM):Prop where
 nd:Nk es
 pos:∀e∈es,1≤e.1.1∧(∃i:Nat,i<4∧e.1.2=(i:Int))∧0≤e.2∧e.2≤1125899906842624
theorem AP.cons {e:Ky × Int} {r:HM} (h:AP (e::r)):AP r∧e.1 ∉ r.map (·.1):=by
 have:=h.nd
 unfold Nk at this
 rw [List.map_cons,List.nodup_cons] at this
 exact ⟨⟨this.2,fun x hx=>h.pos x (List.mem_cons_of_mem _ hx)⟩,this.1⟩
theorem AP.perm {a b:HM} (h:AP a) (hp:b.Perm a):AP b :=
 ⟨((hp.map (fun p:Ky × Int=>p.1)).nodup_iff).2 (show (a.map fun p=>p.1).Nodup from h.nd),fun e he=>h.pos e (hp.mem_iff.1 he)⟩
theorem gP (s:Vs) (e:Ky × Int) (r:HM):aI s (e::r)=aI (cF s e.1 e.1.2.toNat e.2) r:=rfl
theorem n7:∀{es:HM} {s:Vs} {L:Nat},Gs s L→AP es→L+es.length≤500→(0≤s.work∧s.work+es.length≤2305843009213693952)→Gs (aI s es) (L+es.length)
 | [],s,L,h,_,_,_=>h
 | e::r,s,L,h,he,hL,hw=>by
  obtain ⟨p1,⟨i,hi,p2⟩,p3,p4⟩:=he.pos e List.mem_cons_self
  obtain ⟨⟨a,it⟩,now⟩:=e
  simp only at p1 p2 p3 p4
  subst p2
  simp only [List.length_cons] at hL hw
  have h1:=(Ak h (by omega) (by omega) hi p1 ⟨p3,p4⟩).2
  rw [gP]
  simp only [Int.toNat_natCast]
  have h2:=n5 s (a,(i:Int)) i now
  have h3:=n7 h1 he.cons.1 (by omega) (by omega)
  rw [show L+((((a,(i:Int)),now):Ky × Int)::r).length=L+1+r.length by simp only [List.length_cons]; omega]
  exact h3
theorem lR:∀{es:HM} {s:Vs},Nk s.H→AP es→∀j,hv (aI s es).H j=hold es s.H j
 | [],s,_,_,j=>rfl
 | e::r,s,h,he,j=>by
  obtain ⟨p1,⟨i,hi,p2⟩,p3,p4⟩:=he.pos e List.mem_cons_self
  obtain ⟨⟨a,it⟩,now⟩:=e
  simp only at p1 p2 p3 p4
  subst p2
  rw [gP]
  simp only [Int.toNat_natCast]
  have hn:Nk (cF s (a,(i:Int)) i now).H:=by
   rw [Al]; split
   ·exact h
   ·exact h.c7 _ _
  rw [lR hn he.cons.1 j]
  unfold hold
  rw [tY h]
  simp only [bm]
  by_cases hk:(a,(i:Int))=j
  ·rw [if_pos hk,if_pos hk]
   have:=sd (hk ▸ he.cons.2)
   rw [this]; rfl
  ·rw [if_neg hk,if_neg hk]
theorem EB {s:Vs} (h:Nk s.H) (a:Int) (i:Nat) (now:Int) {k:Ky} (hk:(a,(i:Int)) ≠ k) (x:Int):cu (cF s (a,(i:Int)) i now) k x=cu s k x:=by
 unfold cu; rw [tY h,if_neg hk]
def Oh (s:Vs) (j:Nat):Bool:=(s.rk.getD j (true,[])).1
theorem MR {s:Vs} {L:Nat} (h:Gs s L) (a:Int) (i:Nat) (now:Int) (hi:i<4) (j:Nat):Oh (cF s (a,(i:Int)) i now) j=(Oh s j && !(cu s (a,(i:Int)) now && decide ((i:Int)=j))):=by
 unfold Oh cu
 by_cases h0:hv s.H (a,(i:Int))=now
 ·have:cF s (a,(i:Int)) i now=s:=by unfold cF; rw [if_pos h0]
  rw [this]; simp [h0]
 ·rw [tX s a i now h0]
  by_cases ha:1048576≤a
  ·simp [ha]
  ·simp only [if_neg ha]
   rw [List.getD_eq_getElem?_getD]
   by_cases C4:i=j
   ·subst C4
    rw [List.getElem?_set_self (by rw [h.rl]; exact hi)]
    simp only [Option.getD_some]
    rw [decide_eq_false h0,decide_eq_false ha]; simp
   ·rw [List.getElem?_set_ne C4,←List.getD_eq_getElem?_getD,decide_eq_false (show ¬ (i:Int)=j by omega)]; simp
theorem Am:∀{es:HM} {s:Vs} {L:Nat},Gs s L→AP es→L+es.length≤500→(0≤s.work∧s.work+es.length≤2305843009213693952)→∀j:Nat,Oh (aI s es) j=(Oh s j && !(es.any fun e=>cu s e.1 e.2 && decide (e.1.2=(j:Int))))
 | [],s,L,_,_,_,_,j=>by simp [aI]
 | e::r,s,L,h,he,hL,hw,j=>by
  obtain ⟨p1,⟨i,hi,p2⟩,p3,p4⟩:=he.pos e List.mem_cons_self
  obtain ⟨⟨a,it⟩,now⟩:=e
  simp only at p1 p2 p3 p4
  subst p2
  simp only [List.length_cons] at hL hw
  have h1:=(Ak h (by omega) (by omega) hi p1 ⟨p3,p4⟩).2
  have h2:=n5 s (a,(i:Int)) i now
  rw [gP]
  simp only [Int.toNat_natCast]
  rw [Am h1 he.cons.1 (by omega) (by omega) j,MR h a i now hi j]
  simp only [List.any_cons]
  have:(r.any fun e=>cu (cF s (a,(i:Int)) i now) e.1 e.2 && decide (e.1.2=(j:Int)))=r.any fun e=>cu s e.1 e.2 && decide (e.1.2=(j:Int)):=by
   have hc:=he.cons.2
   clear hw hL h1 h2 he
   induction r with
   | nil=>rfl
   | cons q r ih =>
    simp only [List.map_cons,List.mem_cons,not_or] at hc
    simp only [List.any_cons]
    rw [ih hc.2,EB h.nd a i now hc.1]
  rw [this]
  cases Oh s j <;> simp [Bool.not_or]
theorem HI {s:Vs} (a:Int) (i:Nat) (now:Int):(cF s (a,(i:Int)) i now).work=s.work+(if hv s.H (a,(i:Int))=now then 0 else 1):=by
 by_cases h0:hv s.H (a,(i:Int))=now
 ·have:cF s (a,(i:Int)) i now=s:=by unfold cF; rw [if_pos h0]
  rw [this,if_pos h0]; omega
 ·rw [tX s a i now h0,if_neg h0]
def Gu (H:HM) (e:Ky × Int):Bool:=!decide (hv H e.1=e.2)
theorem kS:∀{es:HM} {s:Vs},Nk s.H→AP es→(aI s es).work=s.work+(es.countP (Gu s.H):Nat)
 | [],s,_,_=>by simp [aI]
 | e::r,s,h,he=>by
  obtain ⟨p1,⟨i,hi,p2⟩,p3,p4⟩:=he.pos e List.mem_cons_self
  obtain ⟨⟨a,it⟩,now⟩:=e
  simp only at p1 p2 p3 p4
  subst p2
  rw [gP]
  simp only [Int.toNat_natCast]
  have hn:Nk (cF s (a,(i:Int)) i now).H:=by
   rw [Al]; split
   ·exact h
   ·exact h.c7 _ _
  rw [kS hn he.cons.1,HI]
  have:r.countP (Gu (cF s (a,(i:Int)) i now).H)=r.countP (Gu s.H):=by
   have hc:=he.cons.2
   clear he
   induction r with
   | nil=>rfl
   | cons q r ih =>
    simp only [List.map_cons,List.mem_cons,not_or] at hc
    rw [List.countP_cons,List.countP_cons,ih hc.2]
    have:Gu (cF s (a,(i:Int)) i now).H q=Gu s.H q:=by
     unfold Gu; rw [tY h,if_neg hc.1]
    rw [this]
  rw [this,List.countP_cons]
  have hc:Gu s.H ((a,(i:Int)),now)=!decide (hv s.H (a,(i:Int))=now):=rfl
  rw [hc]
  by_cases h0:hv s.H (a,(i:Int))=now
  ·simp [h0]
  ·simp [h0]; omega
theorem HJ (s:Vs) (k:Ky) (i:Nat) (now:Int):(cF s k i now).coin=s.coin∧(cF s k i now).ab=s.ab∧(cF s k i now).aC=s.aC∧(cF s k i now).last=s.last:=by
 unfold cF; split
 ·exact ⟨rfl,rfl,rfl,rfl⟩
 ·simp only; split <;> exact ⟨rfl,rfl,rfl,rfl⟩
theorem jJ:∀(es:HM) (s:Vs),(aI s es).coin=s.coin∧(aI s es).ab=s.ab∧(aI s es).aC=s.aC∧(aI s es).last=s.last
 | [],s=>⟨rfl,rfl,rfl,rfl⟩
 | e::r,s=>by
  rw [gP]
  have h1:=jJ r (cF s e.1 e.1.2.toNat e.2)
  have h2:=HJ s e.1 e.1.2.toNat e.2
  exact ⟨h1.1.trans h2.1,h1.2.1.trans h2.2.1,h1.2.2.1.trans h2.2.2.1,h1.2.2.2.trans h2.2.2.2⟩
theorem An {s:Vs} {L:Nat} (h:Gs s L) (k:Ky):bm s.H k=if hv s.H k=0 then none else some (hv s.H k):=by
 have:=h.AI k
 split
 ·rename_i h0; exact this.2.2.2 h0
 ·rename_i h0; exact this.2.2.1 h0
theorem HK {a b:HM} (ha:AP a) (hp:b.Perm a) (H:HM) (k:Ky):hold b H k=hold a H k:=by
 have hb:=ha.perm hp
 have:bm b k=bm a k:=by
  cases hq:bm a k with
  | none =>
   cases gz:bm b k with
   | none=>rfl
   | some x=>have:=gu ha.nd (hp.mem_iff.1 (dW gz)); rw [hq] at this; cases this
  | some x=>exact gu hb.nd (hp.mem_iff.2 (dW hq))
 unfold hold; rw [this]
theorem Oi {α:Type} {l r:List α} (d:α) (hl:l.length=4) (hr:r.length=4) (h:∀i:Nat,i<4→l.getD i d=r.getD i d):l=r:=by
 apply List.ext_getElem (by omega)
 intro i h1 h2
 have:=h i (by omega)
 rw [List.getD_eq_getElem?_getD,List.getD_eq_getElem?_getD,List.getElem?_eq_getElem h1,List.getElem?_eq_getElem h2] at this
 exact this
theorem HL {es done:HM} {s:Vs} {L:Nat} (h:Gs s L) (he:AP es) (hp:done.Perm es) (hL:L+es.length≤500) (hw:0≤s.work∧s.work+es.length≤2305843009213693952) :
  (aI s done).H.Perm (aI s es).H∧aI s done={ aI s es with H:=(aI s done).H }:=by
 have hd:=he.perm hp
 have BY:=hp.length_eq
 have o1:=n7 h he hL hw
 have o2:=n7 h hd (by omega) (by omega)
 have GB:∀k,hv (aI s done).H k=hv (aI s es).H k:=fun k=>by rw [lR h.nd hd,lR h.nd he,HK he hp]
 have S7:∀k,bm (aI s done).H k=bm (aI s es).H k:=fun k=>by rw [An o2,An o1,GB]
 have pL:(aI s done).H.Perm (aI s es).H:=MP o2.nd o1.nd S7
 refine ⟨pL,?_⟩
 have r1:=jJ done s
 have r2:=jJ es s
 have e1:(aI s done).coin=(aI s es).coin:=r1.1.trans r2.1.symm
 have e2:(aI s done).ab=(aI s es).ab:=r1.2.1.trans r2.2.1.symm
 have e3:(aI s done).aC=(aI s es).aC:=r1.2.2.1.trans r2.2.2.1.symm
 have e4:(aI s done).last=(aI s es).last:=r1.2.2.2.trans r2.2.2.2.symm
 have e5:(aI s done).work=(aI s es).work:=by rw [kS h.nd hd,kS h.nd he,hp.countP_eq]
 have e6:(aI s done).dm=(aI s es).dm:=Oi 0 o2.tl o1.tl fun i hi=>by rw [o2.QN i hi,o1.QN i hi,HG pL]
 have e7:(aI s done).rk=(aI s es).rk:=Oi (true,[]) o2.rl o1.rl fun i hi=>by
  have f1:Oh (aI s done) i=Oh (aI s es) i:=by rw [Am h hd (by omega) (by omega),Am h he hL hw,hp.any_eq]
  have g1:=o2.rk i hi
  have g2:=o1.rk i hi
  refine Prod.ext f1 (KA g1.2.1 g2.2.1 fun x=>?_)
  rw [g1.2.2 x,g2.2.2 x,S7]
 have e8:(aI s done).sl=(aI s es).sl:=by rw [nu,nu]
 have e9:(aI s done).bQ=(aI s es).bQ:=by rw [jH,jH]
 generalize aI s done=t1 at *
 generalize aI s es=t2 at *
 obtain ⟨a1,a2,a3,a4,a5,a6,a7,a8,a9,YX⟩:=t1
 obtain ⟨b1,b2,b3,b4,b5,b6,b7,b8,b9,YY⟩:=t2
 simp only at e1 e2 e3 e4 e5 e6 e7 e8 e9
 subst e1 e2 e3 e4 e5 e6 e7 e8 e9
 rfl
end Go.Proofs.YtpbdohkbiklflaaGreatDoor
namespace Go.Proofs.YtpbdohkbiklflaaGreatDoor
open Go.TM
variable [cZ]
theorem se {H:HM}:∀{l:List Mv} {m A:HM},ko H m l=.ok A→∀v∈l,iL v=false
 | [],_,_,_,v,hv=>by cases hv
 | w::r,m,A,h,v,hv=>by
  simp only [ko] at h
  split at h
  ·cases h
  rename_i hb
  have hb:iL w=false:=by simpa using hb
  rcases List.mem_cons.1 hv with rfl | hv
  ·exact hb
  ·split at h
   ·split at h
    ·cases h
    ·exact se h v hv
   ·exact se h v hv
theorem tZ {n:Int} (h:qG n=true):0≤n∧n≤1073741824:=by
 unfold qG at h; simpa using h
structure xj (m:HM) (C:Int):Prop where
 nd:Nk m
 pos:∀e∈m,1≤e.1.1∧(∃i:Nat,i<4∧e.1.2=(i:Int))∧0≤e.2∧e.2≤C
theorem Cn:∀{m:HM} {k:Ky} {x:Int} {p:Ky × Int},p∈bM m k x→p=(k,x) ∨ p∈m
 | [],k,x,p,h=>by simp [bM] at h; exact .inl h
 | q::r,k,x,p,h=>by
  simp only [bM] at h
  split at h
  ·rcases List.mem_cons.1 h with h | h
   ·exact .inl h
   ·exact .inr (List.mem_cons_of_mem _ h)
  ·rcases List.mem_cons.1 h with h | h
   ·exact .inr (h ▸ List.mem_cons_self)
   ·rcases Cn h with h | h
    ·exact .inl h
    ·exact .inr (List.mem_cons_of_mem _ h)
theorem xj.put {m:HM} {C D:Int} (h:xj m C) (X8:C≤D) {a it x:Int} (ha:1≤a) (jS:0≤it∧it<4) (hx:0≤x∧x≤D):xj (bM m (a,it) x) D:=by
 refine ⟨h.nd.bM _ _,fun e he=>?_⟩
 rcases Cn he with rfl | he
 ·exact ⟨ha,⟨it.toNat,by omega,by simp only; omega⟩,hx⟩
 ·have:=h.pos e he; exact ⟨this.1,this.2.1,this.2.2.1,by omega⟩
theorem xj.mono {m:HM} {C D:Int} (h:xj m C) (X8:C≤D):xj m D:=⟨h.nd,fun e he=>by have:=h.pos e he; exact ⟨this.1,this.2.1,this.2.2.1,by omega⟩⟩
theorem EC {H:HM}:∀{l:List Mv} {m A:HM} {C:Int},ko H m l=.ok A→0≤C→xj m C→(∀k,0≤hold m H k∧hold m H k≤C)→xj A (C+l.length * 1099511627776)
 | [],m,A,C,h,_,ho,_=>by simp only [ko] at h; injection h with h; subst h; simpa using ho
 | v::r,m,A,C,h,hC,ho,hb=>by
  simp only [ko] at h
  split at h
  ·cases h
  rename_i GD
  obtain ⟨b1,b2,b3,b4,b5,b6,b7⟩:=qI (v:=v) (by simpa using GD)
  have b5:=tZ b5
  have b6:=tZ b6
  have fin:∀m1:HM,xj m1 C→(∀k,0≤hold m1 H k∧hold m1 H k≤C)→xj (if v.t ≠ 0 then bM m1 (v.t,v.it) (hold m1 H (v.t,v.it)+v.n) else m1) (C+1099511627776)∧∀k,0≤hold (if v.t ≠ 0 then bM m1 (v.t,v.it) (hold m1 H (v.t,v.it)+v.n) else m1) H k∧hold (if v.t ≠ 0 then bM m1 (v.t,v.it) (hold m1 H (v.t,v.it)+v.n) else m1) H k≤C+1099511627776:=by
   intro m1 h1 h2
   have h3:=h2 (v.t,v.it)
   split
   ·exact ⟨h1.put (by omega) (by omega) ⟨b1,b2⟩ ⟨by omega,by omega⟩,Ae h2 ⟨by omega,by omega⟩ (by omega)⟩
   ·exact ⟨h1.mono (by omega),fun k=>by have:=h2 k; omega⟩
  have hlen:C+((v::r).length:Int) * 1099511627776=C+1099511627776+r.length * 1099511627776:=by simp only [List.length_cons]; omega
  rw [hlen]
  split at h
  ·split at h
   ·cases h
   rename_i hs
   have h3:=hb (v.f,v.it)
   obtain ⟨f1,f2⟩:=fin (bM m (v.f,v.it) (hold m H (v.f,v.it) - v.n)) (ho.put (Int.le_refl C) (a:=v.f) (by omega) ⟨b1,b2⟩ (x:=hold m H (v.f,v.it) - v.n) ⟨by omega,by omega⟩) (Ae hb ⟨by omega,by omega⟩ (Int.le_refl C))
   exact EC h (by omega) f1 f2
  ·obtain ⟨f1,f2⟩:=fin _ ho hb
   exact EC h (by omega) f1 f2
theorem ED {coin:Int} {st:St} {it n c:Int} (hb:∀v∈st.mv,iL v=false) (h:bD coin st=(it,n,c,true)):0≤it∧it<4∧1≤n∧n≤1099511627776∧1≤c∧c≤1099511627776:=by
 unfold bD at h
 split at h
 ·simp at h
 ·split at h
  ·rename_i a b hm
   have h1:=qI (hb a (by rw [hm]; simp))
   have h2:=qI (hb b (by rw [hm]; simp))
   split at h <;> (simp only [kN,Prod.mk.injEq] at h; obtain ⟨rfl,rfl,rfl,_⟩:=h; omega)
  ·simp at h
def qN (l:List Sl):Prop:=∀(j:Nat) (x y:Sl),l[j]?=some x→l[j+1]?=some y→y.gn=x.gn+y.n∧y.gr=x.gr+y.c
structure F6 (s:Vs) (S:SS) (N:Nat):Prop where
 bO:nZ s S
 len:S.length≤N
 val:∀p∈S,1≤p.2.n∧p.2.n≤1099511627776∧1≤p.2.c∧p.2.c≤1099511627776∧p.2.n≤p.2.gn∧p.2.gn≤N * 1099511627776∧p.2.c≤p.2.gr∧p.2.gr≤N * 1099511627776
 chain:∀i,qN (ck S i)
 ord:S.Pairwise fun p q=>p.2.tick≤q.2.tick
 le:∀p∈S,p.2.tick≤s.last
def nv (s:Vs) (S:SS) (st:St):SS :=
 let lv:=dw S (st.tick - s.ab)
 let q:=bD s.coin st
 S.drop lv++(bif q.2.2.2 then [(q.1.toNat,⟨st.tick,q.2.1,q.2.2.1,q.2.1+iV (ck (S.drop lv) q.1.toNat),q.2.2.1+iW (ck (S.drop lv) q.1.toNat)⟩)] else [])
theorem MS {S:SS} {i:Nat} {x:Sl} (h:x∈ck S i):(i,x)∈S:=by
 unfold ck at h
 obtain ⟨p,h1,h2⟩:=List.mem_map.1 h
 obtain ⟨h3,h4⟩:=List.mem_filter.1 h1
 obtain ⟨j,y⟩:=p
 simp only [beq_iff_eq] at h4 h2
 subst h4 h2; exact h3
theorem Oj {s:Vs} {S:SS} {N:Nat} (h:F6 s S N) (j i:Nat):0≤iV (ck (S.drop j) i)∧iV (ck (S.drop j) i)≤N * 1099511627776∧0≤iW (ck (S.drop j) i)∧iW (ck (S.drop j) i)≤N * 1099511627776:=by
 unfold iV iW
 rw [List.getD_eq_getElem?_getD]
 cases hq:(ck (S.drop j) i)[(ck (S.drop j) i).length - 1]? with
 | none=>simp only [Option.getD_none]; omega
 | some x =>
  have:=h.val _ (List.mem_of_mem_drop (MS (List.mem_of_getElem? hq)))
  simp only [Option.getD_some]
  simp only at this
  omega
theorem pw (S T:SS) (i:Nat):ck (S++T) i=ck S i++ck T i:=by
 unfold ck; rw [List.filter_append,List.map_append]
theorem px {S:SS} (h:∀i,qN (ck S i)) (j i:Nat):qN (ck (S.drop j) i):=by
 have:ck S i=ck (S.take j) i++ck (S.drop j) i:=by rw [←pw,List.take_append_drop]
 intro k x y hx hy
 refine h i ((ck (S.take j) i).length+k) x y ?_ ?_
 ·rw [this,List.getElem?_append_right (by omega),Nat.add_sub_cancel_left]; exact hx
 ·rw [this,Nat.add_assoc,List.getElem?_append_right (by omega),Nat.add_sub_cancel_left]; exact hy
theorem EE {l:List Sl} (h:qN l) (x:Sl) (h1:x.gn=x.n+iV l) (h2:x.gr=x.c+iW l):qN (l++[x]):=by
 intro j a b ha hb
 by_cases hj:j+1<l.length
 ·rw [List.getElem?_append_left (by omega)] at ha hb
  exact h j a b ha hb
 ·have aJ:=(List.getElem?_eq_some_iff.1 hb).1
  simp only [List.length_append,List.length_singleton] at aJ
  have wW:j+1=l.length:=by omega
  rw [List.getElem?_append_right (by omega),wW,Nat.sub_self] at hb
  rw [List.getElem?_append_left (by omega)] at ha
  simp only [List.getElem?_cons_zero,Option.some.injEq] at hb
  subst hb
  have eT:iV l=a.gn:=by unfold iV; rw [List.getD_eq_getElem?_getD,show l.length - 1=j by omega,ha]; rfl
  have ot:iW l=a.gr:=by unfold iW; rw [List.getD_eq_getElem?_getD,show l.length - 1=j by omega,ha]; rfl
  omega
theorem ua {s s1:Vs} {S:SS} (h:nZ s S) (gY:s1.sl=s.sl) (lv:Nat):∀(i:Nat) (f:Bool) (l:List Sl),(dp s1 S lv)[i]?=some (f,l)→i<4∧l=ck (S.drop lv) i∧(f=true→l=[]):=by
 intro i f l hq
 have hi:i<4:=by have:=(List.getElem?_eq_some_iff.1 hq).1; rw [cl] at this; exact this
 rw [il _ _ _ _ hi] at hq
 simp only [Option.some.injEq,Prod.mk.injEq] at hq
 refine ⟨hi,hq.2.symm,fun hf=>?_⟩
 have hl:i<s.sl.length:=by rw [h.Oc]; exact hi
 have hg:=List.getElem?_eq_getElem hl
 have h1:=hq.1
 rw [gY,List.getD_eq_getElem?_getD,hg] at h1
 generalize s.sl[i]=q at hg h1
 obtain ⟨f0,l0⟩:=q
 have h2:f0=true:=h1.trans hf
 rw [←hq.2]
 refine lO ?_ lv
 rw [←h.sl _ _ _ hg]
 exact h.sf _ _ _ hg h2
theorem KF {s s1:Vs} {S:SS} {N:Nat} (h:F6 s S N) (hN:N<1000) (h1:s1.sl=s.sl) (h2:s1.bQ=s.bQ) {st:St} (ht:s.last≤st.tick∧0≤st.tick∧st.tick≤1099511627776)
  (hb:∀it n c,bD s.coin st=(it,n,c,true)→0≤it∧it<4∧1≤n∧n≤1099511627776∧1≤c∧c≤1099511627776):F6 (cL s S st s1) (nv s S st) (N+1):=by
 unfold cL nv
 simp only
 generalize Tw:dw S (st.tick - s.ab)=lv
 have pj:=h.bO
 cases hq:(bD s.coin st).2.2.2 with
 | false =>
  simp only [cond_false,List.append_nil]
  refine ⟨⟨?_,cl ..,fun p hp=>pj.it p (List.mem_of_mem_drop hp),fun i f l hl=>(ua pj h1 lv i f l hl).2.1,fun i f l hl=>(ua pj h1 lv i f l hl).2.2,?_,fun p hp=>pj.tk p (List.mem_of_mem_drop hp)⟩,?_,fun p hp=>?_,fun i=>px h.chain lv i,h.ord.sublist (List.drop_sublist _ _),fun p hp=>?_⟩
  ·show s1.bQ.drop lv=_
   rw [h2,pj.bQ,List.map_drop]
  ·rw [List.length_drop]; have:=h.len; omega
  ·rw [List.length_drop]; have:=h.len; omega
  ·have:=h.val p (List.mem_of_mem_drop hp); omega
  ·have:=h.le p (List.mem_of_mem_drop hp); show p.2.tick≤st.tick; omega
 | true =>
  simp only [cond_true]
  generalize Gl:bD s.coin st=q0 at *
  obtain ⟨it,n,c,b⟩:=q0
  simp only at hq
  subst hq
  obtain ⟨t1,t2,t3,t4,t5,t6⟩:=hb it n c rfl
  obtain ⟨i5,rfl⟩:∃i5:Nat,it=(i5:Int):=⟨it.toNat,by omega⟩
  simp only [Int.toNat_natCast]
  have YZ:=Oj h lv i5
  have Tx:i5<4:=by omega
  have hg:=il s1 S lv i5 Tx
  refine ⟨⟨?_,?_,fun p hp=>?_,fun i f l hl=>?_,fun i f l hl=>?_,?_,fun p hp=>?_⟩,?_,fun p hp=>?_,fun i=>?_,?_,fun p hp=>?_⟩
  ·show s1.bQ.drop lv++[(i5:Int)]=_
   rw [h2,pj.bQ,List.map_append,List.map_drop]; rfl
  ·show ((dp s1 S lv).set i5 _).length=4
   rw [List.length_set]; exact cl ..
  ·rcases List.mem_append.1 hp with hp | hp
   ·exact pj.it p (List.mem_of_mem_drop hp)
   ·simp only [List.mem_singleton] at hp; subst hp; exact Tx
  ·have hl:((dp s1 S lv).set i5 (false,ck (S.drop lv) i5++[⟨st.tick,n,c,n+iV (ck (S.drop lv) i5),c+iW (ck (S.drop lv) i5)⟩]))[i]?=some (f,l):=hl
   rw [pw]
   by_cases hi:i5=i
   ·subst hi
    rw [List.getElem?_set_self (by rw [cl]; exact Tx)] at hl
    simp only [Option.some.injEq,Prod.mk.injEq] at hl
    rw [←hl.2]; simp [ck]
   ·rw [List.getElem?_set_ne hi] at hl
    rw [(ua pj h1 lv i f l hl).2.1]; simp [ck,hi]
  ·have hl:((dp s1 S lv).set i5 (false,ck (S.drop lv) i5++[⟨st.tick,n,c,n+iV (ck (S.drop lv) i5),c+iW (ck (S.drop lv) i5)⟩]))[i]?=some (f,l):=hl
   by_cases hi:i5=i
   ·subst hi
    rw [List.getElem?_set_self (by rw [cl]; exact Tx)] at hl
    simp only [Option.some.injEq,Prod.mk.injEq] at hl
    rw [←hl.1]; simp
   ·rw [List.getElem?_set_ne hi] at hl
    exact (ua pj h1 lv i f l hl).2.2
  ·rw [List.length_append,List.length_drop,List.length_singleton]; have:=h.len; omega
  ·rcases List.mem_append.1 hp with hp | hp
   ·exact pj.tk p (List.mem_of_mem_drop hp)
   ·simp only [List.mem_singleton] at hp; subst hp; simp only; omega
  ·rw [List.length_append,List.length_drop,List.length_singleton]; have:=h.len; omega
  ·rcases List.mem_append.1 hp with hp | hp
   ·have:=h.val p (List.mem_of_mem_drop hp); omega
   ·simp only [List.mem_singleton] at hp; subst hp; simp only; omega
  ·rw [pw]
   by_cases hi:i5=i
   ·subst hi
    have:ck [(i5,(⟨st.tick,n,c,n+iV (ck (S.drop lv) i5),c+iW (ck (S.drop lv) i5)⟩:Sl))] i5=[⟨st.tick,n,c,n+iV (ck (S.drop lv) i5),c+iW (ck (S.drop lv) i5)⟩]:=by simp [ck]
    rw [this]
    exact EE (px h.chain lv i5) _ rfl rfl
   ·have:ck [(i5,(⟨st.tick,n,c,n+iV (ck (S.drop lv) i5),c+iW (ck (S.drop lv) i5)⟩:Sl))] i=[]:=by simp [ck,hi]
    rw [this,List.append_nil]; exact px h.chain lv i
  ·refine List.pairwise_append.2 ⟨h.ord.sublist (List.drop_sublist _ _),List.pairwise_singleton _ _,fun p hp q hq=>?_⟩
   simp only [List.mem_singleton] at hq; subst hq
   have:=h.le p (List.mem_of_mem_drop hp); simp only; omega
  ·rcases List.mem_append.1 hp with hp | hp
   ·have:=h.le p (List.mem_of_mem_drop hp); show p.2.tick≤st.tick; omega
   ·simp only [List.mem_singleton] at hp; subst hp; show st.tick≤st.tick; omega
end Go.Proofs.YtpbdohkbiklflaaGreatDoor
namespace Go.Proofs.YtpbdohkbiklflaaGreatDoor
open Go.TM
variable [cZ]
structure KG (s:Vs) (S:SS) (L N:Nat):Prop where
 bU:Gs s L
 MT:F6 s S N
 QP:1≤s.ab∧s.ab≤1099511627776
 Sp:0≤s.last
 wk:0≤s.work∧s.work≤N * 1000
 vb:∀p∈s.H,p.2≤N * 4398046511104
theorem HN {a b:HM} (h:AP (a++b)):AP a∧AP b:=by
 have hn:=h.nd
 unfold Nk at hn
 rw [List.map_append] at hn
 have:=List.nodup_append.1 hn
 exact ⟨⟨this.1,fun e he=>h.pos e (List.mem_append_left _ he)⟩,⟨this.2.1,fun e he=>h.pos e (List.mem_append_right _ he)⟩⟩
theorem HO {a:HM} {k:Ky} {x:Int} {r:HM} (h:AP (a++(k,x)::r)):bm a k=none:=by
 refine sd fun hm=>?_
 have hn:=h.nd
 unfold Nk at hn
 rw [List.map_append] at hn
 exact (List.nodup_append.1 hn).2.2 k hm k (by simp) rfl
theorem EF {s:Vs} {S:SS} {L N:Nat} (h:KG s S L N) (k:Ky):0≤hv s.H k∧hv s.H k≤N * 4398046511104:=by
 have h1:=h.bU.AI k
 refine ⟨h1.1,?_⟩
 by_cases h0:hv s.H k=0
 ·rw [h0]; omega
 ·exact h.vb _ (dW (h1.2.2.1 h0))
theorem yz {s:Vs} {S:SS} {L N:Nat} (h:KG s S L N) (hN:N≤100) {st:St} (hm:st.mv.length≤4) {A:HM} (hA:ko s.H [] st.mv=.ok A):AP A∧A.length≤8∧(∀k,hold A s.H k≤(N+1:Nat) * 4398046511104)∧∀e∈A,e.2≤(N+1:Nat) * 4398046511104:=by
 have h1:=EC (C:=N * 4398046511104) hA (by omega) ⟨List.nodup_nil,fun e he=>by cases he⟩ (fun k=>EF h k)
 have h2:=qL hA
 simp only [List.length_nil] at h2
 have h3:∀e∈A,e.2≤(N+1:Nat) * 4398046511104:=fun e he=>by have:=(h1.pos e he).2.2.2; omega
 refine ⟨⟨h1.nd,fun e he=>?_⟩,by omega,fun k=>?_,h3⟩
 ·have:=h1.pos e he
  refine ⟨this.1,this.2.1,this.2.2.1,by omega⟩
 ·unfold hold
  cases hq:bm A k with
  | none=>have:=EF h k; simp only [Option.getD_none]; omega
  | some x=>have:=h3 _ (dW hq); simpa using this
theorem Ao (s:Vs) (S:SS) (st:St) (t:Vs):(cL s S st t).H=t.H∧(cL s S st t).dm=t.dm∧(cL s S st t).rk=t.rk∧(cL s S st t).ab=t.ab∧(cL s S st t).last=st.tick∧(cL s S st t).coin=t.coin∧(cL s S st t).aC=t.aC:=by
 unfold cL MM
 cases (bD s.coin st).2.2.2 <;> exact ⟨rfl,rfl,rfl,rfl,rfl,rfl,rfl⟩
theorem py (s:Vs) (S:SS) (st:St) (t:Vs):(cL s S st t).work=t.work+dw S (st.tick - s.ab)+(bif (bD s.coin st).2.2.2 then 1 else 0):=by
 unfold cL MM
 cases (bD s.coin st).2.2.2
 ·show t.work+_=t.work+_+0; omega
 ·rfl
theorem EG (s:Vs) (S:SS) (st:St) (t:Vs) (H:HM):cL s S st { t with H:=H }={ cL s S st t with H:=H }:=by
 unfold cL MM
 cases (bD s.coin st).2.2.2 <;> rfl
theorem MU (f h g:Bool) (t:Vs) {H:HM} (hp:H.Perm t.H):oD (wV f h g { t with H:=H }) (wV f h g t):=by
 unfold wV
 refine .cons (.refl _) (.cons (.omap _ _ _ (hp.map _)) (.cons (.refl _) (.cons (.refl _) (.cons (.refl _) (.cons (.refl _) .nil)))))
def EH (s:Vs) (S:SS) (st:St):Bool:=decide (0<dw S (st.tick - s.ab)) || (bD s.coin st).2.2.2
theorem si {s:Vs} {S:SS} {L N:Nat} (h:KG s S L N) (hL:L+8≤500) (hN:N≤99) (st:St) (hm:st.mv.length≤4) :
  match eS s S st with
  | .err e=>bl Tryz.prog 21 [.ptr 0 0,Es st] 6 (vK false s) 9 [.dv (I e)] (vK false s)
  | .ok A=>bl Tryz.prog 21 [.ptr 0 0,Es st] 6 (vK false s) 9 [.dv (I 0)] (wV (fC s A) (EH s S st) true (cL s S st (aI s A))):=by
 have hw:=HD s S h.MT.bO st (by omega) (fun k=>by have:=EF h k; omega) (by have:=h.bU.len; omega) h.QP h.Sp (by have:=h.wk; omega) (fun j i=>by have:=Oj h.MT j i; omega)
  (fun A it n c hA hq=>ED (se hA) hq) (fun A hA done k now left hp=>?_)
 ·have qY:∀A,eS s S st=.ok A→ko s.H [] st.mv=.ok A:=by
   intro A hA
   unfold eS at hA
   split at hA
   ·cases hA
   split at hA
   ·cases hA
   ·split at hA
    ·cases hA
    ·rename_i h9 _; rw [h9]; rw [Tu.ok.injEq] at hA; rw [hA]
  cases hq:eS s S st with
  | err e =>
   rw [hq] at hw
   exact hw
  | ok A =>
   rw [hq] at hw
   simp only
   refine D9 ⟨hw.1,fun w G vs qX cB hr=>?_⟩
   refine Calls.mono (hw.2 w G vs qX cB hr) ?_
   rintro e w' ⟨v,r,k,G',rfl,⟨done,hp,rfl,rfl⟩,hc⟩
   refine ⟨v,_,_,G',rfl,⟨rfl,?_⟩,hc⟩
   obtain ⟨a1,a2,a3,a4⟩:=yz h (by omega) hm (qY A hq)
   obtain ⟨p1,p2⟩:=HL h.bU a1 hp (by omega) (by have:=h.wk; omega)
   rw [p2,EG]
   exact MU _ _ _ _ (by rw [(Ao s S st _).1]; exact p1)
 ·obtain ⟨a1,a2,a3,a4⟩:=yz h (by omega) hm hA
  have e1:=a1.perm hp
  have BY:=hp.length_eq
  simp only [List.length_append,List.length_cons] at BY
  obtain ⟨e2,e3⟩:=HN e1
  have ho:=n7 h.bU e2 (by omega) (by have:=h.wk; omega)
  have Sk:=lN s done
  obtain ⟨q1,⟨i,hi,q2⟩,q3,q4⟩:=e3.pos _ List.mem_cons_self
  obtain ⟨a,it⟩:=k
  simp only at q1 q2 q3 q4
  subst q2
  refine ⟨i,(Ak ho (by omega) (by have:=h.wk; omega) hi q1 ⟨q3,q4⟩).1,?_⟩
  unfold cu
  rw [lR h.bU.nd e2]
  unfold hold
  rw [HO e1]; rfl
theorem ub {s:Vs} {S:SS} {L N:Nat} (h:KG s S L N) (hL:L+8≤500) (hN:N≤99) (st:St) (hm:st.mv.length≤4) {A:HM} (hA:eS s S st=.ok A):KG (cL s S st (aI s A)) (nv s S st) (L+8) (N+1)∧ko s.H [] st.mv=.ok A∧(s.last≤st.tick∧st.tick≤1099511627776)∧Kv s S st+iG s.H A≤s.aC:=by
 unfold eS at hA
 split at hA
 ·cases hA
 rename_i hc
 have hc:(bif decide (st.tick<s.last) then true else decide (1099511627776<st.tick))=false:=by simpa using hc
 have Hy:s.last≤st.tick∧st.tick≤1099511627776:=by
  simp only [Bool.cond_true_left,Bool.or_eq_false_iff,decide_eq_false_iff_not] at hc; omega
 split at hA
 ·cases hA
 rename_i A' U1
 split at hA
 ·cases hA
 rename_i aT
 rw [Tu.ok.injEq] at hA
 subst hA
 refine ⟨?_,U1,Hy,by omega⟩
 obtain ⟨a1,a2,a3,a4⟩:=yz h (by omega) hm U1
 have ho:=n7 h.bU a1 (by omega) (by have:=h.wk; omega)
 have Sk:=lN s A'
 obtain ⟨f1,f2,f3,f4,f5,f6,f7⟩:=Ao s S st (aI s A')
 have hr:=jJ A' s
 have U2:=h.Sp
 refine ⟨⟨by rw [f1]; exact ho.nd,by rw [f1]; exact ho.pos,by rw [f1]; have:=ho.len; omega,by rw [f2]; exact ho.tl,by rw [f3]; exact ho.rl,by rw [f1,f3]; exact ho.rk,by rw [f1,f2]; exact ho.QN⟩,
  KF h.MT (by omega) (nu ..) (jH ..) ⟨Hy.1,by omega,Hy.2⟩ (fun it n c hq=>ED (se U1) hq),by rw [f4,hr.2.1]; exact h.QP,by rw [f5]; omega,?_,?_⟩
 ·rw [py]
  have Tw:dw S (st.tick - s.ab)≤N:=Nat.le_trans (by unfold dw; exact (List.takeWhile_sublist _).length_le) h.MT.len
  have:=h.wk
  cases (bD s.coin st).2.2.2 <;> simp only [cond_true,cond_false] <;> omega
 ·rw [f1]
  intro p hp
  have h1:=gu ho.nd (k:=p.1) (x:=p.2) hp
  have h2:=lR h.bU.nd a1 p.1
  unfold hv at h2
  rw [h1] at h2
  simp only [Option.getD_some] at h2
  rw [h2]; exact a3 _
end Go.Proofs.YtpbdohkbiklflaaGreatDoor
