import Derived.Test.YtpbdohkbiklflaaGreatDoorPM25
import Derived.Test.YtpbdohkbiklflaaGreatDoorPM19
set_option linter.unusedVariables false
set_option linter.unusedSimpArgs false
set_option linter.unusedSectionVars false
namespace Go.Proofs.YtpbdohkbiklflaaGreatDoor
open Go.TM
theorem uf (x:Rk):kz x x=false:=by
 unfold kz; simp
theorem EZ {x y z:Rk} (h1:kz x y=true) (h2:kz y z=true):kz x z=true:=by
 unfold kz at *
 simp only [Bool.or_eq_true,Bool.and_eq_true,decide_eq_true_eq,beq_iff_eq] at *
 omega
theorem Ni {x y:Rk} (h1:kz x y=false) (h2:kz y x=false):x=y:=by
 obtain ⟨a,b⟩:=x; obtain ⟨c,d⟩:=y
 unfold kz at *
 simp only [Bool.or_eq_false_iff,Bool.and_eq_false_iff,decide_eq_false_iff_not,beq_eq_false_iff_ne,ne_eq] at *
 have:b=d:=by omega
 subst this
 have:a=c:=by
  rcases h1.2 with h | h
  ·exact absurd rfl h
  ·rcases h2.2 with h' | h'
   ·exact absurd rfl h'
   ·omega
 rw [this]
def j9 (l:List Rk):Prop:=l.Pairwise fun x y=>kz x y=true
theorem lW {y x:Rk} {r:List Rk} (h:kz y x=true):ot (y::r) x=ot r x+1:=by
 unfold ot; rw [List.countP_cons,if_pos h]
theorem qU {x:Rk} {l:List Rk} (h:∀z,z∈l→kz z x=false):ot l x=0:=by
 unfold ot; rw [List.countP_eq_zero]; intro z hz; rw [h z hz]; simp
theorem ug {y x:Rk} {r:List Rk} (hs:j9 (y::r)) (h:kz y x=false):∀z,z∈y::r→kz z x=false:=by
 intro z hz
 rcases List.mem_cons.1 hz with rfl | hz
 ·exact h
 ·have h1:=(List.pairwise_cons.1 hs).1 z hz
  cases hq:kz z x with
  | false=>rfl
  | true=>rw [EZ h1 hq] at h; cases h
theorem lX:∀{l:List Rk} (_:j9 l) (x:Rk),lP l (ot l x) x
 | [],_,x=>⟨Nat.le_refl _,fun i y _ h=>by simp at h,fun i y _ h=>by simp at h⟩
 | y::r,hs,x=>by
  have ih:=lX (l:=r) (List.pairwise_cons.1 hs).2 x
  cases hq:kz y x with
  | true =>
   rw [lW hq]
   refine ⟨by have:=ih.le; simp; omega,fun i z hi hz=>?_,fun i z hi hz=>?_⟩
   ·cases i with
    | zero=>simp at hz; subst hz; exact hq
    | succ i=>exact ih.lo i z (by omega) (by simpa using hz)
   ·cases i with
    | zero=>omega
    | succ i=>exact ih.hi i z (by omega) (by simpa using hz)
  | false =>
   have ha:=ug hs hq
   rw [qU ha]
   exact ⟨by omega,fun i z hi _=>by omega,fun i z _ hz=>ha z (List.mem_of_getElem? hz)⟩
theorem H7 (y x:Rk) (r:List Rk) (hs:j9 (y::r)):si (y::r) x=if kz y x=true then y::si r x else x::y::r:=by
 cases hq:kz y x with
 | true=>unfold si; rw [lW hq]; simp [qL]
 | false=>unfold si; rw [qU (ug hs hq)]; simp [qL]
theorem H8 (y x:Rk) (r:List Rk) (hs:j9 (y::r)):lQ (y::r) x=if kz y x=true then y::lQ r x else r:=by
 cases hq:kz y x with
 | true=>unfold lQ; rw [lW hq]; simp [xB]
 | false=>unfold lQ; rw [qU (ug hs hq)]; simp [xB]
theorem CE {l:List Rk} {x y:Rk}:y∈si l x ↔ y=x ∨ y∈l:=by
 unfold si qL
 rw [List.mem_append,List.mem_cons]
 have:=List.take_append_drop (ot l x) l
 constructor
 ·rintro (h | h | h)
  ·exact .inr (List.mem_of_mem_take h)
  ·exact .inl h
  ·exact .inr (List.mem_of_mem_drop h)
 ·rintro (h | h)
  ·exact .inr (.inl h)
  ·rw [←this,List.mem_append] at h
   rcases h with h | h
   ·exact .inl h
   ·exact .inr (.inr h)
theorem th:∀{l:List Rk} {x:Rk},j9 l→x ∉ l→j9 (si l x)
 | [],x,_,_=>by unfold si qL j9; simp
 | y::r,x,hs,hx=>by
  have hp:=List.pairwise_cons.1 hs
  rw [H7 y x r hs]
  have bD:x ≠ y:=fun h=>hx (by rw [h]; exact List.mem_cons_self)
  cases hq:kz y x with
  | true =>
   rw [if_pos rfl]
   refine List.pairwise_cons.2 ⟨fun z hz=>?_,th hp.2 fun h=>hx (List.mem_cons_of_mem _ h)⟩
   rcases CE.1 hz with rfl | hz
   ·exact hq
   ·exact hp.1 z hz
  | false =>
   rw [if_neg (by simp)]
   have OL:kz x y=true:=by
    cases gC:kz x y with
    | true=>rfl
    | false=>exact absurd (Ni gC hq) bD
   refine List.pairwise_cons.2 ⟨fun z hz=>?_,hs⟩
   rcases List.mem_cons.1 hz with rfl | hz
   ·exact OL
   ·exact EZ OL (hp.1 z hz)
theorem sm:∀{l:List Rk} {x:Rk},j9 l→x∈l→ot l x<l.length∧j9 (lQ l x)∧∀y,y∈lQ l x ↔ y∈l∧y ≠ x
 | [],x,_,h=>by cases h
 | y::r,x,hs,hx=>by
  have hp:=List.pairwise_cons.1 hs
  have VF:∀z,z∈r→z ≠ y:=fun z hz h=>by have:=hp.1 z hz; rw [h,uf] at this; cases this
  rw [H8 y x r hs]
  cases hq:kz y x with
  | true =>
   have bD:x ≠ y:=fun h=>by rw [h,uf] at hq; cases hq
   have YH:x∈r:=by
    rcases List.mem_cons.1 hx with h | h
    ·exact absurd h bD
    ·exact h
   obtain ⟨h1,h2,h3⟩:=sm hp.2 YH
   rw [if_pos rfl,lW hq]
   refine ⟨by simp; exact h1,List.pairwise_cons.2 ⟨fun z hz=>hp.1 z ((h3 z).1 hz).1,h2⟩,fun z=>?_⟩
   rw [List.mem_cons,List.mem_cons,h3 z]
   constructor
   ·rintro (rfl | ⟨a,b⟩)
    ·exact ⟨.inl rfl,fun h=>bD h.symm⟩
    ·exact ⟨.inr a,b⟩
   ·rintro ⟨rfl | a,b⟩
    ·exact .inl rfl
    ·exact .inr ⟨a,b⟩
  | false =>
   have OL:x=y:=by
    rcases List.mem_cons.1 hx with h | h
    ·exact h
    ·have:=hp.1 x h; rw [this] at hq; cases hq
   subst OL
   rw [if_neg (by simp),qU (ug hs hq)]
   refine ⟨by simp,hp.2,fun z=>?_⟩
   rw [List.mem_cons]
   constructor
   ·intro hz; exact ⟨.inr hz,VF z hz⟩
   ·rintro ⟨rfl | a,b⟩
    ·exact absurd rfl b
    ·exact a
theorem pD {l:List Rk} (h:j9 l):l.Nodup:=by
 refine List.Pairwise.imp (fun {a b} sG=>?_) h
 rintro rfl
 rw [uf] at sG; cases sG
theorem K7 {l r:List Rk} (hl:j9 l) (hr:j9 r) (h:∀x,x∈l ↔ x∈r):l=r :=
 List.Perm.eq_of_pairwise (fun a b _ _ h1 h2=>by have:=EZ h1 h2; rw [uf] at this; cases this) hl hr ((List.perm_ext_iff_of_nodup (pD hl) (pD hr)).2 h)
end Go.Proofs.YtpbdohkbiklflaaGreatDoor
namespace Go.Proofs.YtpbdohkbiklflaaGreatDoor
open Go.TM
variable [cP]
def Nk (m:HM):Prop:=(m.map (·.1)).Nodup
theorem dY:∀{m:HM} {k:Ky} {x:Int},bp m k=some x→(k,x)∈m
 | [],_,_,h=>by cases h
 | p::r,k,x,h=>by
  simp only [bp] at h
  split at h
  ·rename_i hk; injection h with h; subst h; subst hk; exact List.mem_cons_self
  ·exact List.mem_cons_of_mem _ (dY h)
theorem gx:∀{m:HM} {k:Ky} {x:Int},Nk m→(k,x)∈m→bp m k=some x
 | [],_,_,_,h=>by cases h
 | p::r,k,x,hn,h=>by
  unfold Nk at hn
  rw [List.map_cons,List.nodup_cons] at hn
  simp only [bp]
  rcases List.mem_cons.1 h with h | h
  ·subst h; simp
  ·rw [if_neg]
   ·exact gx hn.2 h
   ·intro hk
    exact hn.1 (by rw [hk]; exact List.mem_map.2 ⟨_,h,rfl⟩)
theorem sn {m:HM} {k:Ky} (h:k ∉ m.map (·.1)):bp m k=none:=by
 cases hq:bp m k with
 | none=>rfl
 | some x=>exact absurd (List.mem_map.2 ⟨_,dY hq,rfl⟩) h
theorem yK:∀(m:HM) (k:Ky) (x:Int) (j:Ky),j∈(bP m k x).map (·.1) ↔ j=k ∨ j∈m.map (·.1)
 | [],k,x,j=>by simp [bP]
 | p::r,k,x,j=>by
  simp only [bP]
  split
  ·rename_i hk; subst hk; simp
  ·simp only [List.map_cons,List.mem_cons,yK r k x j]
   constructor
   ·rintro (h | h | h)
    ·exact .inr (.inl h)
    ·exact .inl h
    ·exact .inr (.inr h)
   ·rintro (h | h | h)
    ·exact .inr (.inl h)
    ·exact .inl h
    ·exact .inr (.inr h)
theorem Nk.bP:∀{m:HM},Nk m→∀(k:Ky) (x:Int),Nk (bP m k x)
 | [],_,k,x=>by simp [Nk,Proofs.YtpbdohkbiklflaaGreatDoor.bP]
 | p::r,h,k,x=>by
  unfold Nk at h
  rw [List.map_cons,List.nodup_cons] at h
  simp only [Proofs.YtpbdohkbiklflaaGreatDoor.bP]
  split
  ·rename_i hk; subst hk; unfold Nk; rw [List.map_cons,List.nodup_cons]; exact h
  ·rename_i hk
   unfold Nk; rw [List.map_cons,List.nodup_cons]
   refine ⟨fun hm=>?_,Nk.bP (m:=r) h.2 k x⟩
   rcases (yK r k x p.1).1 hm with h1 | h1
   ·exact hk h1
   ·exact h.1 h1
theorem wA:∀(m:HM) (k:Ky),(iF m k).Sublist m
 | [],_=>List.Sublist.refl _
 | p::r,k=>by
  simp only [iF]
  split
  ·exact List.sublist_cons_self _ _
  ·exact (wA r k).cons_cons _
theorem Nk.iF {m:HM} (h:Nk m) (k:Ky):Nk (iF m k):=h.sublist ((wA m k).map _)
theorem yL:∀{m:HM} (_:Nk m) (k j:Ky),bp (iF m k) j=if k=j then none else bp m j
 | [],_,k,j=>by simp [iF,bp]
 | p::r,h,k,j=>by
  unfold Nk at h
  rw [List.map_cons,List.nodup_cons] at h
  simp only [iF]
  split
  ·rename_i hk
   subst hk
   by_cases hj:p.1=j
   ·subst hj; rw [if_pos rfl]; exact sn h.1
   ·rw [if_neg hj]; simp only [bp]; rw [if_neg hj]
  ·rename_i hk
   simp only [bp]
   by_cases hj:p.1=j
   ·rw [if_pos hj,if_pos hj,if_neg (fun h9=>hk (hj.trans h9.symm))]
   ·rw [if_neg hj,if_neg hj]; exact yL (m:=r) h.2 k j
theorem Nj {m r:HM} (hm:Nk m) (hr:Nk r) (h:∀k,bp m k=bp r k):m.Perm r:=by
 have nd:∀{m:HM},Nk m→m.Nodup:=fun {m} hm=>by
  unfold Nk at hm
  exact (List.pairwise_map.1 hm).imp fun {a b} sG he=>sG (by rw [he])
 refine (List.perm_ext_iff_of_nodup (nd hm) (nd hr)).2 fun p=>⟨fun hp=>?_,fun hp=>?_⟩
 ·have:=gx hm (k:=p.1) (x:=p.2) hp; rw [h] at this; exact dY this
 ·have:=gx hr (k:=p.1) (x:=p.2) hp; rw [←h] at this; exact dY this
def jM:HM→Int→Int
 | [],_=>0
 | p::r,i=>(if p.1.2=i then p.2 else 0)+jM r i
theorem GO (p:Ky × Int) (r:HM) (k:Ky):hv (p::r) k=if p.1=k then p.2 else hv r k:=by
 unfold hv; simp only [bp]; split <;> rfl
theorem yM:∀(m:HM) (k:Ky) (x i:Int),jM (bP m k x) i=jM m i+(if k.2=i then x - hv m k else 0)
 | [],k,x,i=>by simp [bP,jM,hv,bp]
 | p::r,k,x,i=>by
  simp only [bP,GO]
  split
  ·rename_i hk; subst hk; simp only [jM]; split <;> omega
  ·simp only [jM,yM r k x i]; omega
theorem yN:∀(m:HM) (k:Ky) (i:Int),jM (iF m k) i=jM m i+(if k.2=i then - hv m k else 0)
 | [],k,i=>by simp [iF,jM,hv,bp]
 | p::r,k,i=>by
  simp only [iF,GO]
  split
  ·rename_i hk; subst hk; simp only [jM]; split <;> omega
  ·simp only [jM,yN r k i]; omega
theorem wB {C:Int}:∀{m:HM} (_:∀p∈m,0≤p.2∧p.2≤C) (_:0≤C) (i:Int),0≤jM m i∧jM m i≤m.length * C
 | [],_,_,i=>by simp [jM]
 | p::r,h,hC,i=>by
  have h1:=h p List.mem_cons_self
  have h2:=wB (fun q hq=>h q (List.mem_cons_of_mem _ hq)) hC i
  simp only [jM,List.length_cons]
  have h3:((r.length+1:Nat):Int) * C=r.length * C+C:=by rw [Int.natCast_add,Int.add_mul]; omega
  rw [h3]
  split <;> omega
theorem H9 {m r:HM} (h:m.Perm r) (i:Int):jM m i=jM r i:=by
 induction h with
 | nil=>rfl
 | cons x _ ih=>simp only [jM,ih]
 | swap x y l=>simp only [jM]; omega
 | trans _ _ a b=>exact a.trans b
def c9 (H:HM) (k:Ky) (now:Int):HM:=if now=0 then iF H k else bP H k now
theorem kY {H:HM} (h:Nk H) (k:Ky) (now:Int) (j:Ky):bp (c9 H k now) j=if k=j then (if now=0 then none else some now) else bp H j:=by
 unfold c9
 by_cases h0:now=0
 ·rw [if_pos h0,if_pos h0,yL h]
 ·rw [if_neg h0,if_neg h0,yE]
theorem Nk.c9 {H:HM} (h:Nk H) (k:Ky) (now:Int):Nk (c9 H k now):=by
 unfold Proofs.YtpbdohkbiklflaaGreatDoor.c9; split
 ·exact h.iF k
 ·exact h.bP k now
theorem Ia (H:HM) (k:Ky) (now i:Int):jM (c9 H k now) i=jM H i+(if k.2=i then now - hv H k else 0):=by
 unfold c9; split
 ·rename_i h0; subst h0; rw [yN]; split <;> omega
 ·rw [yM]
theorem Nl {H:HM} (h:Nk H) (k:Ky) (now:Int) (j:Ky):hv (c9 H k now) j=if k=j then now else hv H j:=by
 unfold hv; rw [kY h]
 by_cases hk:k=j
 ·rw [if_pos hk,if_pos hk]; by_cases h0:now=0
  ·rw [if_pos h0,h0]; rfl
  ·rw [if_neg h0]; rfl
 ·rw [if_neg hk,if_neg hk]
theorem K8 (H:HM) (k:Ky) (now:Int):(c9 H k now).length≤H.length+1:=by
 unfold c9; split
 ·have:=(wA H k).length_le; omega
 ·exact wy ..
def QC (H:HM) (i:Nat) (q:Bool × List Rk):Prop:=(q.1=true→q.2=[])∧j9 q.2∧∀x:Rk,x∈q.2 ↔ x.1<1048576∧bp H (x.1,(i:Int))=some x.2
structure GP (s:Vs) (L:Nat):Prop where
 nd:Nk s.H
 pos:∀p∈s.H,1≤p.1.1∧(∃i:Nat,i<4∧p.1.2=(i:Int))∧1≤p.2∧p.2≤1125899906842624
 len:s.H.length≤L
 tl:s.dp.length=4
 rl:s.rk.length=4
 rk:∀i:Nat,i<4→QC s.H i (s.rk.getD i (true,[]))
 Rn:∀i:Nat,i<4→s.dp.getD i 0=jM s.H i
theorem GP.A7 {s:Vs} {L:Nat} (h:GP s L) (k:Ky):0≤hv s.H k∧hv s.H k≤1125899906842624∧(hv s.H k ≠ 0→bp s.H k=some (hv s.H k))∧(hv s.H k=0→bp s.H k=none):=by
 unfold hv
 cases hq:bp s.H k with
 | none=>simp
 | some x =>
  have:=h.pos _ (dY hq)
  simp only [Option.getD_some]
  simp only at this
  refine ⟨by omega,by omega,fun _=>trivial,fun h0=>?_⟩
  omega
theorem GQ {α β:Type} [BEq β] [LawfulBEq β] (f:α→β):∀{l:List α} {m:List β} (_:l.Nodup) (_:∀x∈l,f x∈m) (_:∀x∈l,∀y∈l,f x=f y→x=y),l.length≤m.length
 | [],m,_,_,_=>by simp
 | x::l,m,hn,hm,hi=>by
  rw [List.nodup_cons] at hn
  have h1:=hm x List.mem_cons_self
  have h2:=GQ f (l:=l) (m:=m.erase (f x)) hn.2 (fun y hy=>by
   refine (List.mem_erase_of_ne fun he=>?_).2 (hm y (List.mem_cons_of_mem _ hy))
   have:=hi y (List.mem_cons_of_mem _ hy) x List.mem_cons_self he
   subst this; exact hn.1 hy) (fun a ha b hb=>hi a (List.mem_cons_of_mem _ ha) b (List.mem_cons_of_mem _ hb))
  rw [List.length_erase_of_mem h1] at h2
  have:0<m.length:=List.length_pos_of_mem h1
  simp only [List.length_cons]; omega
theorem K9 {H:HM} {i:Nat} {q:Bool × List Rk} (h:QC H i q):q.2.length≤H.length :=
 GQ (fun x:Rk=>(((x.1,(i:Int)):Ky),x.2)) (pD h.2.1) (fun x hx=>dY ((h.2.2 x).1 hx).2) (fun x _ y _ he=>by
  simp only [Prod.mk.injEq] at he
  exact Prod.ext he.1.1 he.2)
def QD (l:List Rk) (a before now:Int):List Rk :=
 let l1:=if before ≠ 0 then lQ l (a,before) else l
 if now ≠ 0 then si l1 (a,now) else l1
theorem La {s:Vs} {L:Nat} (h:GP s L) {i:Nat} (hi:i<4) {a:Int} (ha:a<1048576):∀l1,l1=(if hv s.H (a,(i:Int)) ≠ 0 then lQ (s.rk.getD i (true,[])).2 (a,hv s.H (a,(i:Int))) else (s.rk.getD i (true,[])).2)→j9 l1∧∀x,x∈l1 ↔ x∈(s.rk.getD i (true,[])).2∧x.1 ≠ a:=by
 intro l1 Ex
 obtain ⟨_,hs,hm⟩:=h.rk i hi
 have hh:=h.A7 (a,(i:Int))
 by_cases hb:hv s.H (a,(i:Int)) ≠ 0
 ·rw [if_pos hb] at Ex
  have BL:(a,hv s.H (a,(i:Int)))∈(s.rk.getD i (true,[])).2:=(hm _).2 ⟨ha,hh.2.2.1 hb⟩
  obtain ⟨_,h2,h3⟩:=sm hs BL
  rw [Ex]
  refine ⟨h2,fun x=>?_⟩
  rw [h3 x]
  constructor
  ·rintro ⟨h4,h5⟩
   refine ⟨h4,fun h6=>h5 ?_⟩
   have h7:=((hm x).1 h4).2
   rw [h6,hh.2.2.1 hb] at h7
   injection h7 with h7
   exact Prod.ext h6 h7.symm
  ·rintro ⟨h4,h5⟩
   exact ⟨h4,fun h6=>h5 (by rw [h6])⟩
 ·rw [if_neg hb] at Ex
  have hb:hv s.H (a,(i:Int))=0:=by simpa using hb
  rw [Ex]
  refine ⟨hs,fun x=>⟨fun h4=>⟨h4,fun h6=>?_⟩,fun h4=>h4.1⟩⟩
  have h7:=((hm x).1 h4).2
  rw [h6,hh.2.2.2 hb] at h7
  cases h7
theorem uh (s:Vs) (a:Int) (i:Nat) (now:Int) (bD:hv s.H (a,(i:Int)) ≠ now):cG s (a,(i:Int)) i now={ s with work:=s.work+1,dp:=s.dp.set i (s.dp.getD i 0+(now - hv s.H (a,(i:Int)))),H:=c9 s.H (a,(i:Int)) now,rk:=if 1048576≤a then s.rk else s.rk.set i (false,QD (s.rk.getD i (true,[])).2 a (hv s.H (a,(i:Int))) now) }:=by
 unfold cG c9
 rw [if_neg bD]
 by_cases ha:1048576≤a
 ·simp only [if_pos ha]
 ·simp only [if_neg ha]
  by_cases hn:now=0
  ·subst hn
   simp only [ne_eq,not_true_eq_false,if_false,bD,not_false_eq_true,if_true,QD]
  ·simp only [ne_eq,hn,not_false_eq_true,if_true,QD]
theorem AB {s:Vs} {L:Nat} (h:GP s L) (hL:L≤500) (hw:0≤s.work∧s.work≤2305843009213693952) {a:Int} {i:Nat} {now:Int} (hi:i<4) (ha:1≤a) (hn:0≤now∧now≤1125899906842624) :
  KN s (a,(i:Int)) i now∧GP (cG s (a,(i:Int)) i now) (L+1):=by
 have hh:=h.A7 (a,(i:Int))
 obtain ⟨hf,hs,hm⟩:=h.rk i hi
 have hb:=wB (C:=1125899906842624) (fun p hp=>by have:=h.pos p hp; omega) (by omega) (i:Int) (m:=s.H)
 have hlen:=h.len
 have cw:jM s.H i≤562949953421312000:=by
  have:(s.H.length:Int) * 1125899906842624≤500 * 1125899906842624:=by omega
  omega
 constructor
 ·refine ⟨rfl,by rw [h.tl]; exact hi,by rw [h.rl]; exact hi,by omega,by omega,?_,by omega,?_,hf,fun Ro cO=>?_,fun Ro Dq l1 Ex=>?_⟩
  ·rw [h.Rn i hi]; omega
  ·have:=K9 (h.rk i hi); omega
  ·exact ⟨(sm hs ((hm (a,hv s.H (a,(i:Int)))).2 ⟨Ro,hh.2.2.1 cO⟩)).1,lX hs _⟩
  ·exact lX (La h hi Ro l1 Ex).1 _
 ·by_cases bD:hv s.H (a,(i:Int))=now
  ·have:cG s (a,(i:Int)) i now=s:=by unfold cG; rw [if_pos bD]
   rw [this]
   exact { h with len:=by omega }
  ·rw [uh s a i now bD]
   have eJ:∀p∈c9 s.H (a,(i:Int)) now,1≤p.1.1∧(∃i:Nat,i<4∧p.1.2=(i:Int))∧1≤p.2∧p.2≤1125899906842624:=by
    intro p hp
    have hg:=gx (h.nd.c9 _ _) (k:=p.1) (x:=p.2) hp
    rw [kY h.nd] at hg
    split at hg
    ·rename_i hk
     split at hg
     ·cases hg
     ·injection hg with hg
      rw [←hk,←hg]
      exact ⟨ha,⟨i,hi,rfl⟩,by omega,by omega⟩
    ·exact h.pos p (dY hg)
   have Qm:∀j:Nat,j<4→QC (c9 s.H (a,(i:Int)) now) j ((if 1048576≤a then s.rk else s.rk.set i (false,QD (s.rk.getD i (true,[])).2 a (hv s.H (a,(i:Int))) now)).getD j (true,[])):=by
    intro j hj
    by_cases Dt:j=i
    ·subst Dt
     by_cases Ro:1048576≤a
     ·rw [if_pos Ro]
      refine ⟨hf,hs,fun x=>?_⟩
      rw [hm x,kY h.nd]
      constructor
      ·rintro ⟨h1,h2⟩
       exact ⟨h1,by rw [if_neg (fun he=>by simp only [Prod.mk.injEq] at he; omega)]; exact h2⟩
      ·rintro ⟨h1,h2⟩
       rw [if_neg (fun he=>by simp only [Prod.mk.injEq] at he; omega)] at h2
       exact ⟨h1,h2⟩
     ·rw [if_neg Ro,List.getD_eq_getElem?_getD,List.getElem?_set_self (by rw [h.rl]; exact hi)]
      obtain ⟨q1,q2⟩:=La h hi (a:=a) (by omega) _ rfl
      refine ⟨fun h9=>by simp at h9,?_,fun x=>?_⟩
      ·simp only [Option.getD_some,QD]
       split
       ·exact th q1 fun h9=>((q2 _).1 h9).2 rfl
       ·exact q1
      ·simp only [Option.getD_some,QD]
       rw [kY h.nd]
       by_cases L5:now=0
       ·subst L5
        simp only [ne_eq,not_true_eq_false,if_false]
        rw [q2 x,hm x]
        constructor
        ·rintro ⟨⟨h1,h2⟩,h3⟩
         exact ⟨h1,by rw [if_neg (fun he=>by simp only [Prod.mk.injEq] at he; omega)]; exact h2⟩
        ·rintro ⟨h1,h2⟩
         by_cases he:a=x.1
         ·rw [if_pos (by rw [he])] at h2; simp at h2
         ·rw [if_neg (fun yO=>by simp only [Prod.mk.injEq] at yO; exact he yO.1)] at h2
          exact ⟨⟨h1,h2⟩,fun h4=>he h4.symm⟩
       ·rw [if_pos L5,CE,q2 x,hm x,if_neg L5]
        constructor
        ·rintro (h1 | ⟨⟨h1,h2⟩,h3⟩)
         ·subst h1; exact ⟨by simp only; omega,by simp⟩
         ·exact ⟨h1,by rw [if_neg (fun he=>by simp only [Prod.mk.injEq] at he; omega)]; exact h2⟩
        ·rintro ⟨h1,h2⟩
         by_cases he:a=x.1
         ·rw [if_pos (by rw [he])] at h2
          injection h2 with h2
          exact .inl (Prod.ext he.symm h2.symm)
         ·rw [if_neg (fun yO=>by simp only [Prod.mk.injEq] at yO; exact he yO.1)] at h2
          exact .inr ⟨⟨h1,h2⟩,fun h4=>he h4.symm⟩
    ·have hq:(if 1048576≤a then s.rk else s.rk.set i (false,QD (s.rk.getD i (true,[])).2 a (hv s.H (a,(i:Int))) now)).getD j (true,[])=s.rk.getD j (true,[]):=by
      split
      ·rfl
      ·rw [List.getD_eq_getElem?_getD,List.getElem?_set_ne (fun h9=>Dt h9.symm),←List.getD_eq_getElem?_getD]
     rw [hq]
     obtain ⟨r1,r2,r3⟩:=h.rk j hj
     refine ⟨r1,r2,fun x=>?_⟩
     rw [r3 x,kY h.nd,if_neg (fun he=>by simp only [Prod.mk.injEq] at he; omega)]
   refine ⟨h.nd.c9 _ _,eJ,by have:=K8 s.H (a,(i:Int)) now; show (c9 s.H (a,(i:Int)) now).length≤_; omega,by simp only [List.length_set]; exact h.tl,?_,Qm,fun j hj=>?_⟩
   ·simp only; split
    ·exact h.rl
    ·rw [List.length_set]; exact h.rl
   ·simp only
    rw [Ia,List.getD_eq_getElem?_getD]
    by_cases Dt:i=j
    ·subst Dt
     rw [List.getElem?_set_self (by rw [h.tl]; exact hi),if_pos rfl,←h.Rn i hi]; rfl
    ·rw [List.getElem?_set_ne Dt,if_neg (by omega),←List.getD_eq_getElem?_getD,h.Rn j hj]; omega
end Go.Proofs.YtpbdohkbiklflaaGreatDoor
namespace Go.Proofs.YtpbdohkbiklflaaGreatDoor
open Go.TM
variable [cP]
theorem AD (s:Vs) (a:Int) (i:Nat) (now:Int):(cG s (a,(i:Int)) i now).H=if hv s.H (a,(i:Int))=now then s.H else c9 s.H (a,(i:Int)) now:=by
 by_cases h:hv s.H (a,(i:Int))=now
 ·unfold cG; rw [if_pos h,if_pos h]
 ·rw [uh s a i now h,if_neg h]
theorem um {s:Vs} (h:Nk s.H) (a:Int) (i:Nat) (now:Int) (j:Ky):hv (cG s (a,(i:Int)) i now).H j=if (a,(i:Int))=j then now else hv s.H j:=by
 rw [AD]
 by_cases h0:hv s.H (a,(i:Int))=now
 ·rw [if_pos h0]; split
  ·rename_i hk; rw [←hk]; exact h0
  ·rfl
 ·rw [if_neg h0,Nl h]
structure Bc (es:HM):Prop where
 nd:Nk es
 pos:∀e∈es,1≤e.1.1∧(∃i:Nat,i<4∧e.1.2=(i:Int))∧0≤e.2∧e.2≤1125899906842624
theorem Bc.cons {e:Ky × Int} {r:HM} (h:Bc (e::r)):Bc r∧e.1 ∉ r.map (·.1):=by
 have:=h.nd
 unfold Nk at this
 rw [List.map_cons,List.nodup_cons] at this
 exact ⟨⟨this.2,fun x hx=>h.pos x (List.mem_cons_of_mem _ hx)⟩,this.1⟩
theorem Bc.perm {a b:HM} (h:Bc a) (hp:b.Perm a):Bc b :=
 ⟨((hp.map (fun p:Ky × Int=>p.1)).nodup_iff).2 (show (a.map fun p=>p.1).Nodup from h.nd),fun e he=>h.pos e (hp.mem_iff.1 he)⟩
theorem gS (s:Vs) (e:Ky × Int) (r:HM):aI s (e::r)=aI (cG s e.1 e.1.2.toNat e.2) r:=rfl
theorem oc:∀{es:HM} {s:Vs} {L:Nat},GP s L→Bc es→L+es.length≤500→(0≤s.work∧s.work+es.length≤2305843009213693952)→GP (aI s es) (L+es.length)
 | [],s,L,h,_,_,_=>h
 | e::r,s,L,h,he,hL,hw=>by
  obtain ⟨p1,⟨i,hi,p2⟩,p3,p4⟩:=he.pos e List.mem_cons_self
  obtain ⟨⟨a,it⟩,now⟩:=e
  simp only at p1 p2 p3 p4
  subst p2
  simp only [List.length_cons] at hL hw
  have h1:=(AB h (by omega) (by omega) hi p1 ⟨p3,p4⟩).2
  rw [gS]
  simp only [Int.toNat_natCast]
  have h2:=n9 s (a,(i:Int)) i now
  have h3:=oc h1 he.cons.1 (by omega) (by omega)
  rw [show L+((((a,(i:Int)),now):Ky × Int)::r).length=L+1+r.length by simp only [List.length_cons]; omega]
  exact h3
theorem lY:∀{es:HM} {s:Vs},Nk s.H→Bc es→∀j,hv (aI s es).H j=hold es s.H j
 | [],s,_,_,j=>rfl
 | e::r,s,h,he,j=>by
  obtain ⟨p1,⟨i,hi,p2⟩,p3,p4⟩:=he.pos e List.mem_cons_self
  obtain ⟨⟨a,it⟩,now⟩:=e
  simp only at p1 p2 p3 p4
  subst p2
  rw [gS]
  simp only [Int.toNat_natCast]
  have hn:Nk (cG s (a,(i:Int)) i now).H:=by
   rw [AD]; split
   ·exact h
   ·exact h.c9 _ _
  rw [lY hn he.cons.1 j]
  unfold hold
  rw [um h]
  simp only [bp]
  by_cases hk:(a,(i:Int))=j
  ·rw [if_pos hk,if_pos hk]
   have:=sn (hk ▸ he.cons.2)
   rw [this]; rfl
  ·rw [if_neg hk,if_neg hk]
theorem E0 {s:Vs} (h:Nk s.H) (a:Int) (i:Nat) (now:Int) {k:Ky} (hk:(a,(i:Int)) ≠ k) (x:Int):cu (cG s (a,(i:Int)) i now) k x=cu s k x:=by
 unfold cu; rw [um h,if_neg hk]
def OM (s:Vs) (j:Nat):Bool:=(s.rk.getD j (true,[])).1
theorem Nm {s:Vs} {L:Nat} (h:GP s L) (a:Int) (i:Nat) (now:Int) (hi:i<4) (j:Nat):OM (cG s (a,(i:Int)) i now) j=(OM s j && !(cu s (a,(i:Int)) now && decide ((i:Int)=j))):=by
 unfold OM cu
 by_cases h0:hv s.H (a,(i:Int))=now
 ·have:cG s (a,(i:Int)) i now=s:=by unfold cG; rw [if_pos h0]
  rw [this]; simp [h0]
 ·rw [uh s a i now h0]
  by_cases ha:1048576≤a
  ·simp [ha]
  ·simp only [if_neg ha]
   rw [List.getD_eq_getElem?_getD]
   by_cases Dt:i=j
   ·subst Dt
    rw [List.getElem?_set_self (by rw [h.rl]; exact hi)]
    simp only [Option.getD_some]
    rw [decide_eq_false h0,decide_eq_false ha]; simp
   ·rw [List.getElem?_set_ne Dt,←List.getD_eq_getElem?_getD,decide_eq_false (show ¬ (i:Int)=j by omega)]; simp
theorem AE:∀{es:HM} {s:Vs} {L:Nat},GP s L→Bc es→L+es.length≤500→(0≤s.work∧s.work+es.length≤2305843009213693952)→∀j:Nat,OM (aI s es) j=(OM s j && !(es.any fun e=>cu s e.1 e.2 && decide (e.1.2=(j:Int))))
 | [],s,L,_,_,_,_,j=>by simp [aI]
 | e::r,s,L,h,he,hL,hw,j=>by
  obtain ⟨p1,⟨i,hi,p2⟩,p3,p4⟩:=he.pos e List.mem_cons_self
  obtain ⟨⟨a,it⟩,now⟩:=e
  simp only at p1 p2 p3 p4
  subst p2
  simp only [List.length_cons] at hL hw
  have h1:=(AB h (by omega) (by omega) hi p1 ⟨p3,p4⟩).2
  have h2:=n9 s (a,(i:Int)) i now
  rw [gS]
  simp only [Int.toNat_natCast]
  rw [AE h1 he.cons.1 (by omega) (by omega) j,Nm h a i now hi j]
  simp only [List.any_cons]
  have:(r.any fun e=>cu (cG s (a,(i:Int)) i now) e.1 e.2 && decide (e.1.2=(j:Int)))=r.any fun e=>cu s e.1 e.2 && decide (e.1.2=(j:Int)):=by
   have hc:=he.cons.2
   clear hw hL h1 h2 he
   induction r with
   | nil=>rfl
   | cons q r ih =>
    simp only [List.map_cons,List.mem_cons,not_or] at hc
    simp only [List.any_cons]
    rw [ih hc.2,E0 h.nd a i now hc.1]
  rw [this]
  cases OM s j <;> simp [Bool.not_or]
theorem Ib {s:Vs} (a:Int) (i:Nat) (now:Int):(cG s (a,(i:Int)) i now).work=s.work+(if hv s.H (a,(i:Int))=now then 0 else 1):=by
 by_cases h0:hv s.H (a,(i:Int))=now
 ·have:cG s (a,(i:Int)) i now=s:=by unfold cG; rw [if_pos h0]
  rw [this,if_pos h0]; omega
 ·rw [uh s a i now h0,if_neg h0]
def Ic (H:HM) (e:Ky × Int):Bool:=!decide (hv H e.1=e.2)
theorem od:∀{es:HM} {s:Vs},Nk s.H→Bc es→(aI s es).work=s.work+(es.countP (Ic s.H):Nat)
 | [],s,_,_=>by simp [aI]
 | e::r,s,h,he=>by
  obtain ⟨p1,⟨i,hi,p2⟩,p3,p4⟩:=he.pos e List.mem_cons_self
  obtain ⟨⟨a,it⟩,now⟩:=e
  simp only at p1 p2 p3 p4
  subst p2
  rw [gS]
  simp only [Int.toNat_natCast]
  have hn:Nk (cG s (a,(i:Int)) i now).H:=by
   rw [AD]; split
   ·exact h
   ·exact h.c9 _ _
  rw [od hn he.cons.1,Ib]
  have:r.countP (Ic (cG s (a,(i:Int)) i now).H)=r.countP (Ic s.H):=by
   have hc:=he.cons.2
   clear he
   induction r with
   | nil=>rfl
   | cons q r ih =>
    simp only [List.map_cons,List.mem_cons,not_or] at hc
    rw [List.countP_cons,List.countP_cons,ih hc.2]
    have:Ic (cG s (a,(i:Int)) i now).H q=Ic s.H q:=by
     unfold Ic; rw [um h,if_neg hc.1]
    rw [this]
  rw [this,List.countP_cons]
  have hc:Ic s.H ((a,(i:Int)),now)=!decide (hv s.H (a,(i:Int))=now):=rfl
  rw [hc]
  by_cases h0:hv s.H (a,(i:Int))=now
  ·simp [h0]
  ·simp [h0]; omega
theorem Ie (s:Vs) (k:Ky) (i:Nat) (now:Int):(cG s k i now).coin=s.coin∧(cG s k i now).ab=s.ab∧(cG s k i now).aD=s.aD∧(cG s k i now).last=s.last:=by
 unfold cG; split
 ·exact ⟨rfl,rfl,rfl,rfl⟩
 ·simp only; split <;> exact ⟨rfl,rfl,rfl,rfl⟩
theorem jN:∀(es:HM) (s:Vs),(aI s es).coin=s.coin∧(aI s es).ab=s.ab∧(aI s es).aD=s.aD∧(aI s es).last=s.last
 | [],s=>⟨rfl,rfl,rfl,rfl⟩
 | e::r,s=>by
  rw [gS]
  have h1:=jN r (cG s e.1 e.1.2.toNat e.2)
  have h2:=Ie s e.1 e.1.2.toNat e.2
  exact ⟨h1.1.trans h2.1,h1.2.1.trans h2.2.1,h1.2.2.1.trans h2.2.2.1,h1.2.2.2.trans h2.2.2.2⟩
theorem AF {s:Vs} {L:Nat} (h:GP s L) (k:Ky):bp s.H k=if hv s.H k=0 then none else some (hv s.H k):=by
 have:=h.A7 k
 split
 ·rename_i h0; exact this.2.2.2 h0
 ·rename_i h0; exact this.2.2.1 h0
theorem Ig {a b:HM} (ha:Bc a) (hp:b.Perm a) (H:HM) (k:Ky):hold b H k=hold a H k:=by
 have hb:=ha.perm hp
 have:bp b k=bp a k:=by
  cases hq:bp a k with
  | none =>
   cases gC:bp b k with
   | none=>rfl
   | some x=>have:=gx ha.nd (hp.mem_iff.1 (dY gC)); rw [hq] at this; cases this
  | some x=>exact gx hb.nd (hp.mem_iff.2 (dY hq))
 unfold hold; rw [this]
theorem ON {α:Type} {l r:List α} (d:α) (hl:l.length=4) (hr:r.length=4) (h:∀i:Nat,i<4→l.getD i d=r.getD i d):l=r:=by
 apply List.ext_getElem (by omega)
 intro i h1 h2
 have:=h i (by omega)
 rw [List.getD_eq_getElem?_getD,List.getD_eq_getElem?_getD,List.getElem?_eq_getElem h1,List.getElem?_eq_getElem h2] at this
 exact this
theorem Ih {es done:HM} {s:Vs} {L:Nat} (h:GP s L) (he:Bc es) (hp:done.Perm es) (hL:L+es.length≤500) (hw:0≤s.work∧s.work+es.length≤2305843009213693952) :
  (aI s done).H.Perm (aI s es).H∧aI s done={ aI s es with H:=(aI s done).H }:=by
 have hd:=he.perm hp
 have Ch:=hp.length_eq
 have o1:=oc h he hL hw
 have o2:=oc h hd (by omega) (by omega)
 have G5:∀k,hv (aI s done).H k=hv (aI s es).H k:=fun k=>by rw [lY h.nd hd,lY h.nd he,Ig he hp]
 have TK:∀k,bp (aI s done).H k=bp (aI s es).H k:=fun k=>by rw [AF o2,AF o1,G5]
 have pU:(aI s done).H.Perm (aI s es).H:=Nj o2.nd o1.nd TK
 refine ⟨pU,?_⟩
 have r1:=jN done s
 have r2:=jN es s
 have e1:(aI s done).coin=(aI s es).coin:=r1.1.trans r2.1.symm
 have e2:(aI s done).ab=(aI s es).ab:=r1.2.1.trans r2.2.1.symm
 have e3:(aI s done).aD=(aI s es).aD:=r1.2.2.1.trans r2.2.2.1.symm
 have e4:(aI s done).last=(aI s es).last:=r1.2.2.2.trans r2.2.2.2.symm
 have e5:(aI s done).work=(aI s es).work:=by rw [od h.nd hd,od h.nd he,hp.countP_eq]
 have e6:(aI s done).dp=(aI s es).dp:=ON 0 o2.tl o1.tl fun i hi=>by rw [o2.Rn i hi,o1.Rn i hi,H9 pU]
 have e7:(aI s done).rk=(aI s es).rk:=ON (true,[]) o2.rl o1.rl fun i hi=>by
  have f1:OM (aI s done) i=OM (aI s es) i:=by rw [AE h hd (by omega) (by omega),AE h he hL hw,hp.any_eq]
  have g1:=o2.rk i hi
  have g2:=o1.rk i hi
  refine Prod.ext f1 (K7 g1.2.1 g2.2.1 fun x=>?_)
  rw [g1.2.2 x,g2.2.2 x,TK]
 have e8:(aI s done).sl=(aI s es).sl:=by rw [nA,nA]
 have e9:(aI s done).bS=(aI s es).bS:=by rw [jL,jL]
 generalize aI s done=t1 at *
 generalize aI s es=t2 at *
 obtain ⟨a1,a2,a3,a4,a5,a6,a7,a8,a9,Zz⟩:=t1
 obtain ⟨b1,b2,b3,b4,b5,b6,b7,b8,b9,ZA⟩:=t2
 simp only at e1 e2 e3 e4 e5 e6 e7 e8 e9
 subst e1 e2 e3 e4 e5 e6 e7 e8 e9
 rfl
end Go.Proofs.YtpbdohkbiklflaaGreatDoor
namespace Go.Proofs.YtpbdohkbiklflaaGreatDoor
open Go.TM
variable [cP]
theorem so {H:HM}:∀{l:List Mv} {m A:HM},kB H m l=.ok A→∀v∈l,iO v=false
 | [],_,_,_,v,hv=>by cases hv
 | w::r,m,A,h,v,hv=>by
  simp only [kB] at h
  split at h
  ·cases h
  rename_i hb
  have hb:iO w=false:=by simpa using hb
  rcases List.mem_cons.1 hv with rfl | hv
  ·exact hb
  ·split at h
   ·split at h
    ·cases h
    ·exact so h v hv
   ·exact so h v hv
theorem uo {n:Int} (h:qP n=true):0≤n∧n≤1073741824:=by
 unfold qP at h; simpa using h
structure xC (m:HM) (C:Int):Prop where
 nd:Nk m
 pos:∀e∈m,1≤e.1.1∧(∃i:Nat,i<4∧e.1.2=(i:Int))∧0≤e.2∧e.2≤C
theorem CF:∀{m:HM} {k:Ky} {x:Int} {p:Ky × Int},p∈bP m k x→p=(k,x) ∨ p∈m
 | [],k,x,p,h=>by simp [bP] at h; exact .inl h
 | q::r,k,x,p,h=>by
  simp only [bP] at h
  split at h
  ·rcases List.mem_cons.1 h with h | h
   ·exact .inl h
   ·exact .inr (List.mem_cons_of_mem _ h)
  ·rcases List.mem_cons.1 h with h | h
   ·exact .inr (h ▸ List.mem_cons_self)
   ·rcases CF h with h | h
    ·exact .inl h
    ·exact .inr (List.mem_cons_of_mem _ h)
theorem xC.put {m:HM} {C D:Int} (h:xC m C) (YI:C≤D) {a it x:Int} (ha:1≤a) (jX:0≤it∧it<4) (hx:0≤x∧x≤D):xC (bP m (a,it) x) D:=by
 refine ⟨h.nd.bP _ _,fun e he=>?_⟩
 rcases CF he with rfl | he
 ·exact ⟨ha,⟨it.toNat,by omega,by simp only; omega⟩,hx⟩
 ·have:=h.pos e he; exact ⟨this.1,this.2.1,this.2.2.1,by omega⟩
theorem xC.mono {m:HM} {C D:Int} (h:xC m C) (YI:C≤D):xC m D:=⟨h.nd,fun e he=>by have:=h.pos e he; exact ⟨this.1,this.2.1,this.2.2.1,by omega⟩⟩
theorem E1 {H:HM}:∀{l:List Mv} {m A:HM} {C:Int},kB H m l=.ok A→0≤C→xC m C→(∀k,0≤hold m H k∧hold m H k≤C)→xC A (C+l.length * 1099511627776)
 | [],m,A,C,h,_,ho,_=>by simp only [kB] at h; injection h with h; subst h; simpa using ho
 | v::r,m,A,C,h,hC,ho,hb=>by
  simp only [kB] at h
  split at h
  ·cases h
  rename_i G7
  obtain ⟨b1,b2,b3,b4,b5,b6,b7⟩:=qR (v:=v) (by simpa using G7)
  have b5:=uo b5
  have b6:=uo b6
  have fin:∀m1:HM,xC m1 C→(∀k,0≤hold m1 H k∧hold m1 H k≤C)→xC (if v.t ≠ 0 then bP m1 (v.t,v.it) (hold m1 H (v.t,v.it)+v.n) else m1) (C+1099511627776)∧∀k,0≤hold (if v.t ≠ 0 then bP m1 (v.t,v.it) (hold m1 H (v.t,v.it)+v.n) else m1) H k∧hold (if v.t ≠ 0 then bP m1 (v.t,v.it) (hold m1 H (v.t,v.it)+v.n) else m1) H k≤C+1099511627776:=by
   intro m1 h1 h2
   have h3:=h2 (v.t,v.it)
   split
   ·exact ⟨h1.put (by omega) (by omega) ⟨b1,b2⟩ ⟨by omega,by omega⟩,Av h2 ⟨by omega,by omega⟩ (by omega)⟩
   ·exact ⟨h1.mono (by omega),fun k=>by have:=h2 k; omega⟩
  have hlen:C+((v::r).length:Int) * 1099511627776=C+1099511627776+r.length * 1099511627776:=by simp only [List.length_cons]; omega
  rw [hlen]
  split at h
  ·split at h
   ·cases h
   rename_i hs
   have h3:=hb (v.f,v.it)
   obtain ⟨f1,f2⟩:=fin (bP m (v.f,v.it) (hold m H (v.f,v.it) - v.n)) (ho.put (Int.le_refl C) (a:=v.f) (by omega) ⟨b1,b2⟩ (x:=hold m H (v.f,v.it) - v.n) ⟨by omega,by omega⟩) (Av hb ⟨by omega,by omega⟩ (Int.le_refl C))
   exact E1 h (by omega) f1 f2
  ·obtain ⟨f1,f2⟩:=fin _ ho hb
   exact E1 h (by omega) f1 f2
theorem wC {coin:Int} {st:St} {it n c:Int} (hb:∀v∈st.mv,iO v=false) (h:aZ coin st=(it,n,c,true)):0≤it∧it<4∧1≤n∧n≤1099511627776∧1≤c∧c≤1099511627776:=by
 unfold aZ at h
 split at h
 ·simp at h
 ·split at h
  ·rename_i a b hm
   have h1:=qR (hb a (by rw [hm]; simp))
   have h2:=qR (hb b (by rw [hm]; simp))
   split at h <;> (simp only [kU,Prod.mk.injEq] at h; obtain ⟨rfl,rfl,rfl,_⟩:=h; omega)
  ·simp at h
def ka (l:List Sl):Prop:=∀(j:Nat) (x y:Sl),l[j]?=some x→l[j+1]?=some y→y.bN=x.bN+y.n∧y.cz=x.cz+y.c
structure Gu (s:Vs) (S:SS) (N:Nat):Prop where
 GR:n8 s S
 len:S.length≤N
 val:∀p∈S,1≤p.2.n∧p.2.n≤1099511627776∧1≤p.2.c∧p.2.c≤1099511627776∧p.2.n≤p.2.bN∧p.2.bN≤N * 1099511627776∧p.2.c≤p.2.cz∧p.2.cz≤N * 1099511627776
 chain:∀i,ka (bC S i)
 ord:S.Pairwise fun p q=>p.2.tick≤q.2.tick
 le:∀p∈S,p.2.tick≤s.last
def oM (s:Vs) (S:SS) (st:St):SS :=
 let lv:=dx S (st.tick - s.ab)
 let q:=aZ s.coin st
 S.drop lv++(bif q.2.2.2 then [(q.1.toNat,⟨st.tick,q.2.1,q.2.2.1,q.2.1+iZ (bC (S.drop lv) q.1.toNat),q.2.2.1+ja (bC (S.drop lv) q.1.toNat)⟩)] else [])
theorem AG {S:SS} {i:Nat} {x:Sl} (h:x∈bC S i):(i,x)∈S:=by
 unfold bC at h
 obtain ⟨p,h1,h2⟩:=List.mem_map.1 h
 obtain ⟨h3,h4⟩:=List.mem_filter.1 h1
 obtain ⟨j,y⟩:=p
 simp only [beq_iff_eq] at h4 h2
 subst h4 h2; exact h3
theorem OO {s:Vs} {S:SS} {N:Nat} (h:Gu s S N) (j i:Nat):0≤iZ (bC (S.drop j) i)∧iZ (bC (S.drop j) i)≤N * 1099511627776∧0≤ja (bC (S.drop j) i)∧ja (bC (S.drop j) i)≤N * 1099511627776:=by
 unfold iZ ja
 rw [List.getD_eq_getElem?_getD]
 cases hq:(bC (S.drop j) i)[(bC (S.drop j) i).length - 1]? with
 | none=>simp only [Option.getD_none]; omega
 | some x =>
  have:=h.val _ (List.mem_of_mem_drop (AG (List.mem_of_getElem? hq)))
  simp only [Option.getD_some]
  simp only at this
  omega
theorem pE (S T:SS) (i:Nat):bC (S++T) i=bC S i++bC T i:=by
 unfold bC; rw [List.filter_append,List.map_append]
theorem pF {S:SS} (h:∀i,ka (bC S i)) (j i:Nat):ka (bC (S.drop j) i):=by
 have:bC S i=bC (S.take j) i++bC (S.drop j) i:=by rw [←pE,List.take_append_drop]
 intro k x y hx hy
 refine h i ((bC (S.take j) i).length+k) x y ?_ ?_
 ·rw [this,List.getElem?_append_right (by omega),Nat.add_sub_cancel_left]; exact hx
 ·rw [this,Nat.add_assoc,List.getElem?_append_right (by omega),Nat.add_sub_cancel_left]; exact hy
theorem E2 {l:List Sl} (h:ka l) (x:Sl) (h1:x.bN=x.n+iZ l) (h2:x.cz=x.c+ja l):ka (l++[x]):=by
 intro j a b ha hb
 by_cases hj:j+1<l.length
 ·rw [List.getElem?_append_left (by omega)] at ha hb
  exact h j a b ha hb
 ·have aJ:=(List.getElem?_eq_some_iff.1 hb).1
  simp only [List.length_append,List.length_singleton] at aJ
  have xc:j+1=l.length:=by omega
  rw [List.getElem?_append_right (by omega),xc,Nat.sub_self] at hb
  rw [List.getElem?_append_left (by omega)] at ha
  simp only [List.getElem?_cons_zero,Option.some.injEq] at hb
  subst hb
  have fb:iZ l=a.bN:=by unfold iZ; rw [List.getD_eq_getElem?_getD,show l.length - 1=j by omega,ha]; rfl
  have oC:ja l=a.cz:=by unfold ja; rw [List.getD_eq_getElem?_getD,show l.length - 1=j by omega,ha]; rfl
  omega
theorem uq {s s1:Vs} {S:SS} (h:n8 s S) (iJ:s1.sl=s.sl) (lv:Nat):∀(i:Nat) (f:Bool) (l:List Sl),(dq s1 S lv)[i]?=some (f,l)→i<4∧l=bC (S.drop lv) i∧(f=true→l=[]):=by
 intro i f l hq
 have hi:i<4:=by have:=(List.getElem?_eq_some_iff.1 hq).1; rw [cl] at this; exact this
 rw [ir _ _ _ _ hi] at hq
 simp only [Option.some.injEq,Prod.mk.injEq] at hq
 refine ⟨hi,hq.2.symm,fun hf=>?_⟩
 have hl:i<s.sl.length:=by rw [h.KT]; exact hi
 have hg:=List.getElem?_eq_getElem hl
 have h1:=hq.1
 rw [iJ,List.getD_eq_getElem?_getD,hg] at h1
 generalize s.sl[i]=q at hg h1
 obtain ⟨f0,l0⟩:=q
 have h2:f0=true:=h1.trans hf
 rw [←hq.2]
 refine lV ?_ lv
 rw [←h.sl _ _ _ hg]
 exact h.sf _ _ _ hg h2
theorem Lb {s s1:Vs} {S:SS} {N:Nat} (h:Gu s S N) (hN:N<1000) (h1:s1.sl=s.sl) (h2:s1.bS=s.bS) {st:St} (ht:s.last≤st.tick∧0≤st.tick∧st.tick≤1099511627776)
  (hb:∀it n c,aZ s.coin st=(it,n,c,true)→0≤it∧it<4∧1≤n∧n≤1099511627776∧1≤c∧c≤1099511627776):Gu (cN s S st s1) (oM s S st) (N+1):=by
 unfold cN oM
 simp only
 generalize Ub:dx S (st.tick - s.ab)=lv
 have ou:=h.GR
 cases hq:(aZ s.coin st).2.2.2 with
 | false =>
  simp only [cond_false,List.append_nil]
  refine ⟨⟨?_,cl ..,fun p hp=>ou.it p (List.mem_of_mem_drop hp),fun i f l hl=>(uq ou h1 lv i f l hl).2.1,fun i f l hl=>(uq ou h1 lv i f l hl).2.2,?_,fun p hp=>ou.tk p (List.mem_of_mem_drop hp)⟩,?_,fun p hp=>?_,fun i=>pF h.chain lv i,h.ord.sublist (List.drop_sublist _ _),fun p hp=>?_⟩
  ·show s1.bS.drop lv=_
   rw [h2,ou.bS,List.map_drop]
  ·rw [List.length_drop]; have:=h.len; omega
  ·rw [List.length_drop]; have:=h.len; omega
  ·have:=h.val p (List.mem_of_mem_drop hp); omega
  ·have:=h.le p (List.mem_of_mem_drop hp); show p.2.tick≤st.tick; omega
 | true =>
  simp only [cond_true]
  generalize GJ:aZ s.coin st=q0 at *
  obtain ⟨it,n,c,b⟩:=q0
  simp only at hq
  subst hq
  obtain ⟨t1,t2,t3,t4,t5,t6⟩:=hb it n c rfl
  obtain ⟨i5,rfl⟩:∃i5:Nat,it=(i5:Int):=⟨it.toNat,by omega⟩
  simp only [Int.toNat_natCast]
  have Uc:=OO h lv i5
  have Ud:i5<4:=by omega
  have hg:=ir s1 S lv i5 Ud
  refine ⟨⟨?_,?_,fun p hp=>?_,fun i f l hl=>?_,fun i f l hl=>?_,?_,fun p hp=>?_⟩,?_,fun p hp=>?_,fun i=>?_,?_,fun p hp=>?_⟩
  ·show s1.bS.drop lv++[(i5:Int)]=_
   rw [h2,ou.bS,List.map_append,List.map_drop]; rfl
  ·show ((dq s1 S lv).set i5 _).length=4
   rw [List.length_set]; exact cl ..
  ·rcases List.mem_append.1 hp with hp | hp
   ·exact ou.it p (List.mem_of_mem_drop hp)
   ·simp only [List.mem_singleton] at hp; subst hp; exact Ud
  ·have hl:((dq s1 S lv).set i5 (false,bC (S.drop lv) i5++[⟨st.tick,n,c,n+iZ (bC (S.drop lv) i5),c+ja (bC (S.drop lv) i5)⟩]))[i]?=some (f,l):=hl
   rw [pE]
   by_cases hi:i5=i
   ·subst hi
    rw [List.getElem?_set_self (by rw [cl]; exact Ud)] at hl
    simp only [Option.some.injEq,Prod.mk.injEq] at hl
    rw [←hl.2]; simp [bC]
   ·rw [List.getElem?_set_ne hi] at hl
    rw [(uq ou h1 lv i f l hl).2.1]; simp [bC,hi]
  ·have hl:((dq s1 S lv).set i5 (false,bC (S.drop lv) i5++[⟨st.tick,n,c,n+iZ (bC (S.drop lv) i5),c+ja (bC (S.drop lv) i5)⟩]))[i]?=some (f,l):=hl
   by_cases hi:i5=i
   ·subst hi
    rw [List.getElem?_set_self (by rw [cl]; exact Ud)] at hl
    simp only [Option.some.injEq,Prod.mk.injEq] at hl
    rw [←hl.1]; simp
   ·rw [List.getElem?_set_ne hi] at hl
    exact (uq ou h1 lv i f l hl).2.2
  ·rw [List.length_append,List.length_drop,List.length_singleton]; have:=h.len; omega
  ·rcases List.mem_append.1 hp with hp | hp
   ·exact ou.tk p (List.mem_of_mem_drop hp)
   ·simp only [List.mem_singleton] at hp; subst hp; simp only; omega
  ·rw [List.length_append,List.length_drop,List.length_singleton]; have:=h.len; omega
  ·rcases List.mem_append.1 hp with hp | hp
   ·have:=h.val p (List.mem_of_mem_drop hp); omega
   ·simp only [List.mem_singleton] at hp; subst hp; simp only; omega
  ·rw [pE]
   by_cases hi:i5=i
   ·subst hi
    have:bC [(i5,(⟨st.tick,n,c,n+iZ (bC (S.drop lv) i5),c+ja (bC (S.drop lv) i5)⟩:Sl))] i5=[⟨st.tick,n,c,n+iZ (bC (S.drop lv) i5),c+ja (bC (S.drop lv) i5)⟩]:=by simp [bC]
    rw [this]
    exact E2 (pF h.chain lv i5) _ rfl rfl
   ·have:bC [(i5,(⟨st.tick,n,c,n+iZ (bC (S.drop lv) i5),c+ja (bC (S.drop lv) i5)⟩:Sl))] i=[]:=by simp [bC,hi]
    rw [this,List.append_nil]; exact pF h.chain lv i
  ·refine List.pairwise_append.2 ⟨h.ord.sublist (List.drop_sublist _ _),List.pairwise_singleton _ _,fun p hp q hq=>?_⟩
   simp only [List.mem_singleton] at hq; subst hq
   have:=h.le p (List.mem_of_mem_drop hp); simp only; omega
  ·rcases List.mem_append.1 hp with hp | hp
   ·have:=h.le p (List.mem_of_mem_drop hp); show p.2.tick≤st.tick; omega
   ·simp only [List.mem_singleton] at hp; subst hp; show st.tick≤st.tick; omega
end Go.Proofs.YtpbdohkbiklflaaGreatDoor
namespace Go.Proofs.YtpbdohkbiklflaaGreatDoor
open Go.TM
variable [cP]
structure IK (s:Vs) (S:SS) (L N:Nat):Prop where
 bY:GP s L
 IL:Gu s S N
 SX:1≤s.ab∧s.ab≤1099511627776
 SY:0≤s.last
 wk:0≤s.work∧s.work≤N * 1000
 vb:∀p∈s.H,p.2≤N * 4398046511104
theorem Ii {a b:HM} (h:Bc (a++b)):Bc a∧Bc b:=by
 have hn:=h.nd
 unfold Nk at hn
 rw [List.map_append] at hn
 have:=List.nodup_append.1 hn
 exact ⟨⟨this.1,fun e he=>h.pos e (List.mem_append_left _ he)⟩,⟨this.2.1,fun e he=>h.pos e (List.mem_append_right _ he)⟩⟩
theorem Ij {a:HM} {k:Ky} {x:Int} {r:HM} (h:Bc (a++(k,x)::r)):bp a k=none:=by
 refine sn fun hm=>?_
 have hn:=h.nd
 unfold Nk at hn
 rw [List.map_append] at hn
 exact (List.nodup_append.1 hn).2.2 k hm k (by simp) rfl
theorem E3 {s:Vs} {S:SS} {L N:Nat} (h:IK s S L N) (k:Ky):0≤hv s.H k∧hv s.H k≤N * 4398046511104:=by
 have h1:=h.bY.A7 k
 refine ⟨h1.1,?_⟩
 by_cases h0:hv s.H k=0
 ·rw [h0]; omega
 ·exact h.vb _ (dY (h1.2.2.1 h0))
theorem CG {s:Vs} {S:SS} {L N:Nat} (h:IK s S L N) (hN:N≤100) {st:St} (hm:st.mv.length≤4) {A:HM} (hA:kB s.H [] st.mv=.ok A):Bc A∧A.length≤8∧(∀k,hold A s.H k≤(N+1:Nat) * 4398046511104)∧∀e∈A,e.2≤(N+1:Nat) * 4398046511104:=by
 have h1:=E1 (C:=N * 4398046511104) hA (by omega) ⟨List.nodup_nil,fun e he=>by cases he⟩ (fun k=>E3 h k)
 have h2:=uc hA
 simp only [List.length_nil] at h2
 have h3:∀e∈A,e.2≤(N+1:Nat) * 4398046511104:=fun e he=>by have:=(h1.pos e he).2.2.2; omega
 refine ⟨⟨h1.nd,fun e he=>?_⟩,by omega,fun k=>?_,h3⟩
 ·have:=h1.pos e he
  refine ⟨this.1,this.2.1,this.2.2.1,by omega⟩
 ·unfold hold
  cases hq:bp A k with
  | none=>have:=E3 h k; simp only [Option.getD_none]; omega
  | some x=>have:=h3 _ (dY hq); simpa using this
theorem AH (s:Vs) (S:SS) (st:St) (t:Vs):(cN s S st t).H=t.H∧(cN s S st t).dp=t.dp∧(cN s S st t).rk=t.rk∧(cN s S st t).ab=t.ab∧(cN s S st t).last=st.tick∧(cN s S st t).coin=t.coin∧(cN s S st t).aD=t.aD:=by
 unfold cN Ng
 cases (aZ s.coin st).2.2.2 <;> exact ⟨rfl,rfl,rfl,rfl,rfl,rfl,rfl⟩
theorem wD (s:Vs) (S:SS) (st:St) (t:Vs):(cN s S st t).work=t.work+dx S (st.tick - s.ab)+(bif (aZ s.coin st).2.2.2 then 1 else 0):=by
 unfold cN Ng
 cases (aZ s.coin st).2.2.2
 ·show t.work+_=t.work+_+0; omega
 ·rfl
theorem E4 (s:Vs) (S:SS) (st:St) (t:Vs) (H:HM):cN s S st { t with H:=H }={ cN s S st t with H:=H }:=by
 unfold cN Ng
 cases (aZ s.coin st).2.2.2 <;> rfl
theorem Nn (f h g:Bool) (t:Vs) {H:HM} (hp:H.Perm t.H):oK (xb f h g { t with H:=H }) (xb f h g t):=by
 unfold xb
 refine .cons (.refl _) (.cons (.omap _ _ _ (hp.map _)) (.cons (.refl _) (.cons (.refl _) (.cons (.refl _) (.cons (.refl _) .nil)))))
def E5 (s:Vs) (S:SS) (st:St):Bool:=decide (0<dx S (st.tick - s.ab)) || (aZ s.coin st).2.2.2
theorem sq {s:Vs} {S:SS} {L N:Nat} (h:IK s S L N) (hL:L+8≤500) (hN:N≤99) (st:St) (hm:st.mv.length≤4) :
  match eM s S st with
  | .err e=>bj Tryz.prog 21 [.ptr 0 0,ES st] 6 (vK false s) 9 [.dv (I e)] (vK false s)
  | .ok A=>bj Tryz.prog 21 [.ptr 0 0,ES st] 6 (vK false s) 9 [.dv (I 0)] (xb (fG s A) (E5 s S st) true (cN s S st (aI s A))):=by
 have hw:=H5 s S h.IL.GR st (by omega) (fun k=>by have:=E3 h k; omega) (by have:=h.bY.len; omega) h.SX h.SY (by have:=h.wk; omega) (fun j i=>by have:=OO h.IL j i; omega)
  (fun A it n c hA hq=>wC (so hA) hq) (fun A hA done k now left hp=>?_)
 ·have rh:∀A,eM s S st=.ok A→kB s.H [] st.mv=.ok A:=by
   intro A hA
   unfold eM at hA
   split at hA
   ·cases hA
   split at hA
   ·cases hA
   ·split at hA
    ·cases hA
    ·rename_i h9 _; rw [h9]; rw [T9.ok.injEq] at hA; rw [hA]
  cases hq:eM s S st with
  | err e =>
   rw [hq] at hw
   exact hw
  | ok A =>
   rw [hq] at hw
   simp only
   refine Ey ⟨hw.1,fun w G vs pP cC hr=>?_⟩
   refine Calls.mono (hw.2 w G vs pP cC hr) ?_
   rintro e w' ⟨v,r,k,G',rfl,⟨done,hp,rfl,rfl⟩,hc⟩
   refine ⟨v,_,_,G',rfl,⟨rfl,?_⟩,hc⟩
   obtain ⟨a1,a2,a3,a4⟩:=CG h (by omega) hm (rh A hq)
   obtain ⟨p1,p2⟩:=Ih h.bY a1 hp (by omega) (by have:=h.wk; omega)
   rw [p2,E4]
   exact Nn _ _ _ _ (by rw [(AH s S st _).1]; exact p1)
 ·obtain ⟨a1,a2,a3,a4⟩:=CG h (by omega) hm hA
  have e1:=a1.perm hp
  have Ch:=hp.length_eq
  simp only [List.length_append,List.length_cons] at Ch
  obtain ⟨e2,e3⟩:=Ii e1
  have ho:=oc h.bY e2 (by omega) (by have:=h.wk; omega)
  have SR:=lU s done
  obtain ⟨q1,⟨i,hi,q2⟩,q3,q4⟩:=e3.pos _ List.mem_cons_self
  obtain ⟨a,it⟩:=k
  simp only at q1 q2 q3 q4
  subst q2
  refine ⟨i,(AB ho (by omega) (by have:=h.wk; omega) hi q1 ⟨q3,q4⟩).1,?_⟩
  unfold cu
  rw [lY h.bY.nd e2]
  unfold hold
  rw [Ij e1]; rfl
theorem AI {s:Vs} {S:SS} {L N:Nat} (h:IK s S L N) (hL:L+8≤500) (hN:N≤99) (st:St) (hm:st.mv.length≤4) {A:HM} (hA:eM s S st=.ok A):IK (cN s S st (aI s A)) (oM s S st) (L+8) (N+1)∧kB s.H [] st.mv=.ok A∧(s.last≤st.tick∧st.tick≤1099511627776)∧K4 s S st+iH s.H A≤s.aD:=by
 unfold eM at hA
 split at hA
 ·cases hA
 rename_i hc
 have hc:(bif decide (st.tick<s.last) then true else decide (1099511627776<st.tick))=false:=by simpa using hc
 have HY:s.last≤st.tick∧st.tick≤1099511627776:=by
  simp only [Bool.cond_true_left,Bool.or_eq_false_iff,decide_eq_false_iff_not] at hc; omega
 split at hA
 ·cases hA
 rename_i A' VG
 split at hA
 ·cases hA
 rename_i aT
 rw [T9.ok.injEq] at hA
 subst hA
 refine ⟨?_,VG,HY,by omega⟩
 obtain ⟨a1,a2,a3,a4⟩:=CG h (by omega) hm VG
 have ho:=oc h.bY a1 (by omega) (by have:=h.wk; omega)
 have SR:=lU s A'
 obtain ⟨f1,f2,f3,f4,f5,f6,f7⟩:=AH s S st (aI s A')
 have hr:=jN A' s
 have QE:=h.SY
 refine ⟨⟨by rw [f1]; exact ho.nd,by rw [f1]; exact ho.pos,by rw [f1]; have:=ho.len; omega,by rw [f2]; exact ho.tl,by rw [f3]; exact ho.rl,by rw [f1,f3]; exact ho.rk,by rw [f1,f2]; exact ho.Rn⟩,
  Lb h.IL (by omega) (nA ..) (jL ..) ⟨HY.1,by omega,HY.2⟩ (fun it n c hq=>wC (so VG) hq),by rw [f4,hr.2.1]; exact h.SX,by rw [f5]; omega,?_,?_⟩
 ·rw [wD]
  have Ub:dx S (st.tick - s.ab)≤N:=Nat.le_trans (by unfold dx; exact (List.takeWhile_sublist _).length_le) h.IL.len
  have:=h.wk
  cases (aZ s.coin st).2.2.2 <;> simp only [cond_true,cond_false] <;> omega
 ·rw [f1]
  intro p hp
  have h1:=gx ho.nd (k:=p.1) (x:=p.2) hp
  have h2:=lY h.bY.nd a1 p.1
  unfold hv at h2
  rw [h1] at h2
  simp only [Option.getD_some] at h2
  rw [h2]; exact a3 _
end Go.Proofs.YtpbdohkbiklflaaGreatDoor
