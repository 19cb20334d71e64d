import Derived.Test.YtpbdohkbiklflaaGreatDoorSM24
import Derived.Test.YtpbdohkbiklflaaGreatDoorSM19
import Derived.Test.YtpbdohkbiklflaaGreatDoorSM23
import Derived.Test.YtpbdohkbiklflaaGreatDoorSM21
set_option linter.unusedVariables false
set_option linter.unusedSimpArgs false
set_option linter.unusedSectionVars false
namespace Go.Proofs.YtpbdohkbiklflaaGreatDoor
open Go.TM
theorem sW (x:Rk):jW x x=false:=by
 unfold jW; simp
theorem De {x y z:Rk} (h1:jW x y=true) (h2:jW y z=true):jW x z=true:=by
 unfold jW at *
 simp only [Bool.or_eq_true,Bool.and_eq_true,decide_eq_true_eq,beq_iff_eq] at *
 omega
theorem Lf {x y:Rk} (h1:jW x y=false) (h2:jW y x=false):x=y:=by
 obtain ⟨a,b⟩:=x; obtain ⟨c,d⟩:=y
 unfold jW at *
 simp only [Bool.or_eq_false_iff,Bool.and_eq_false_iff,decide_eq_false_iff_not,beq_eq_false_iff_ne,ne_eq] at *
 have:b=d:=by omega
 subst this
 have:a=c:=by
  rcases h1.2 with h | h
  ·exact absurd rfl h
  ·rcases h2.2 with h' | h'
   ·exact absurd rfl h'
   ·omega
 rw [this]
def jG (l:List Rk):Prop:=l.Pairwise fun x y=>jW x y=true
theorem lr {y x:Rk} {r:List Rk} (h:jW y x=true):nH (y::r) x=nH r x+1:=by
 unfold nH; rw [List.countP_cons,if_pos h]
theorem qa {x:Rk} {l:List Rk} (h:∀z,z∈l→jW z x=false):nH l x=0:=by
 unfold nH; rw [List.countP_eq_zero]; intro z hz; rw [h z hz]; simp
theorem sX {y x:Rk} {r:List Rk} (hs:jG (y::r)) (h:jW y x=false):∀z,z∈y::r→jW z x=false:=by
 intro z hz
 rcases List.mem_cons.1 hz with rfl | hz
 ·exact h
 ·have h1:=(List.pairwise_cons.1 hs).1 z hz
  cases hq:jW z x with
  | false=>rfl
  | true=>rw [De h1 hq] at h; cases h
theorem lu:∀{l:List Rk} (_:jG l) (x:Rk),lg l (nH l x) x
 | [],_,x=>⟨Nat.le_refl _,fun i y _ h=>by simp at h,fun i y _ h=>by simp at h⟩
 | y::r,hs,x=>by
  have ih:=lu (l:=r) (List.pairwise_cons.1 hs).2 x
  cases hq:jW y x with
  | true =>
   rw [lr hq]
   refine ⟨by have:=ih.le; simp; omega,fun i z hi hz=>?_,fun i z hi hz=>?_⟩
   ·cases i with
    | zero=>simp at hz; subst hz; exact hq
    | succ i=>exact ih.lo i z (by omega) (by simpa using hz)
   ·cases i with
    | zero=>omega
    | succ i=>exact ih.hi i z (by omega) (by simpa using hz)
  | false =>
   have ha:=sX hs hq
   rw [qa ha]
   exact ⟨by omega,fun i z hi _=>by omega,fun i z _ hz=>ha z (List.mem_of_getElem? hz)⟩
theorem F6 (y x:Rk) (r:List Rk) (hs:jG (y::r)):q6 (y::r) x=if jW y x=true then y::q6 r x else x::y::r:=by
 cases hq:jW y x with
 | true=>unfold q6; rw [lr hq]; simp [pY]
 | false=>unfold q6; rw [qa (sX hs hq)]; simp [pY]
theorem F7 (y x:Rk) (r:List Rk) (hs:jG (y::r)):lh (y::r) x=if jW y x=true then y::lh r x else r:=by
 cases hq:jW y x with
 | true=>unfold lh; rw [lr hq]; simp [wv]
 | false=>unfold lh; rw [qa (sX hs hq)]; simp [wv]
theorem Bg {l:List Rk} {x y:Rk}:y∈q6 l x ↔ y=x ∨ y∈l:=by
 unfold q6 pY
 rw [List.mem_append,List.mem_cons]
 have:=List.take_append_drop (nH l x) l
 constructor
 ·rintro (h | h | h)
  ·exact .inr (List.mem_of_mem_take h)
  ·exact .inl h
  ·exact .inr (List.mem_of_mem_drop h)
 ·rintro (h | h)
  ·exact .inr (.inl h)
  ·rw [←this,List.mem_append] at h
   rcases h with h | h
   ·exact .inl h
   ·exact .inr (.inr h)
theorem sk:∀{l:List Rk} {x:Rk},jG l→x ∉ l→jG (q6 l x)
 | [],x,_,_=>by unfold q6 pY jG; simp
 | y::r,x,hs,hx=>by
  have hp:=List.pairwise_cons.1 hs
  rw [F6 y x r hs]
  have bA:x ≠ y:=fun h=>hx (by rw [h]; exact List.mem_cons_self)
  cases hq:jW y x with
  | true =>
   rw [if_pos rfl]
   refine List.pairwise_cons.2 ⟨fun z hz=>?_,sk hp.2 fun h=>hx (List.mem_cons_of_mem _ h)⟩
   rcases Bg.1 hz with rfl | hz
   ·exact hq
   ·exact hp.1 z hz
  | false =>
   rw [if_neg (by simp)]
   have O5:jW x y=true:=by
    cases fL:jW x y with
    | true=>rfl
    | false=>exact absurd (Lf fL hq) bA
   refine List.pairwise_cons.2 ⟨fun z hz=>?_,hs⟩
   rcases List.mem_cons.1 hz with rfl | hz
   ·exact O5
   ·exact De O5 (hp.1 z hz)
theorem q9:∀{l:List Rk} {x:Rk},jG l→x∈l→nH l x<l.length∧jG (lh l x)∧∀y,y∈lh l x ↔ y∈l∧y ≠ x
 | [],x,_,h=>by cases h
 | y::r,x,hs,hx=>by
  have hp:=List.pairwise_cons.1 hs
  have Tb:∀z,z∈r→z ≠ y:=fun z hz h=>by have:=hp.1 z hz; rw [h,sW] at this; cases this
  rw [F7 y x r hs]
  cases hq:jW y x with
  | true =>
   have bA:x ≠ y:=fun h=>by rw [h,sW] at hq; cases hq
   have V3:x∈r:=by
    rcases List.mem_cons.1 hx with h | h
    ·exact absurd h bA
    ·exact h
   obtain ⟨h1,h2,h3⟩:=q9 hp.2 V3
   rw [if_pos rfl,lr hq]
   refine ⟨by simp; exact h1,List.pairwise_cons.2 ⟨fun z hz=>hp.1 z ((h3 z).1 hz).1,h2⟩,fun z=>?_⟩
   rw [List.mem_cons,List.mem_cons,h3 z]
   constructor
   ·rintro (rfl | ⟨a,b⟩)
    ·exact ⟨.inl rfl,fun h=>bA h.symm⟩
    ·exact ⟨.inr a,b⟩
   ·rintro ⟨rfl | a,b⟩
    ·exact .inl rfl
    ·exact .inr ⟨a,b⟩
  | false =>
   have O5:x=y:=by
    rcases List.mem_cons.1 hx with h | h
    ·exact h
    ·have:=hp.1 x h; rw [this] at hq; cases hq
   subst O5
   rw [if_neg (by simp),qa (sX hs hq)]
   refine ⟨by simp,hp.2,fun z=>?_⟩
   rw [List.mem_cons]
   constructor
   ·intro hz; exact ⟨.inr hz,Tb z hz⟩
   ·rintro ⟨rfl | a,b⟩
    ·exact absurd rfl b
    ·exact a
theorem oO {l:List Rk} (h:jG l):l.Nodup:=by
 refine List.Pairwise.imp (fun {a b} rF=>?_) h
 rintro rfl
 rw [sW] at rF; cases rF
theorem Jd {l r:List Rk} (hl:jG l) (hr:jG r) (h:∀x,x∈l ↔ x∈r):l=r :=
 List.Perm.eq_of_pairwise (fun a b _ _ h1 h2=>by have:=De h1 h2; rw [sW] at this; cases this) hl hr ((List.perm_ext_iff_of_nodup (oO hl) (oO hr)).2 h)
end Go.Proofs.YtpbdohkbiklflaaGreatDoor
namespace Go.Proofs.YtpbdohkbiklflaaGreatDoor
open Go.TM
variable [cQ]
def Nk (m:HM):Prop:=(m.map (·.1)).Nodup
theorem eI:∀{m:HM} {k:Ky} {x:Int},bs m k=some x→(k,x)∈m
 | [],_,_,h=>by cases h
 | p::r,k,x,h=>by
  simp only [bs] at h
  split at h
  ·rename_i hk; injection h with h; subst h; subst hk; exact List.mem_cons_self
  ·exact List.mem_cons_of_mem _ (eI h)
theorem jk:∀{m:HM} {k:Ky} {x:Int},Nk m→(k,x)∈m→bs m k=some x
 | [],_,_,_,h=>by cases h
 | p::r,k,x,hn,h=>by
  unfold Nk at hn
  rw [List.map_cons,List.nodup_cons] at hn
  simp only [bs]
  rcases List.mem_cons.1 h with h | h
  ·subst h; simp
  ·rw [if_neg]
   ·exact jk hn.2 h
   ·intro hk
    exact hn.1 (by rw [hk]; exact List.mem_map.2 ⟨_,h,rfl⟩)
theorem ra {m:HM} {k:Ky} (h:k ∉ m.map (·.1)):bs m k=none:=by
 cases hq:bs m k with
 | none=>rfl
 | some x=>exact absurd (List.mem_map.2 ⟨_,eI hq,rfl⟩) h
theorem xz:∀(m:HM) (k:Ky) (x:Int) (j:Ky),j∈(bS m k x).map (·.1) ↔ j=k ∨ j∈m.map (·.1)
 | [],k,x,j=>by simp [bS]
 | p::r,k,x,j=>by
  simp only [bS]
  split
  ·rename_i hk; subst hk; simp
  ·simp only [List.map_cons,List.mem_cons,xz r k x j]
   constructor
   ·rintro (h | h | h)
    ·exact .inr (.inl h)
    ·exact .inl h
    ·exact .inr (.inr h)
   ·rintro (h | h | h)
    ·exact .inr (.inl h)
    ·exact .inl h
    ·exact .inr (.inr h)
theorem Nk.bS:∀{m:HM},Nk m→∀(k:Ky) (x:Int),Nk (bS m k x)
 | [],_,k,x=>by simp [Nk,Proofs.YtpbdohkbiklflaaGreatDoor.bS]
 | p::r,h,k,x=>by
  unfold Nk at h
  rw [List.map_cons,List.nodup_cons] at h
  simp only [Proofs.YtpbdohkbiklflaaGreatDoor.bS]
  split
  ·rename_i hk; subst hk; unfold Nk; rw [List.map_cons,List.nodup_cons]; exact h
  ·rename_i hk
   unfold Nk; rw [List.map_cons,List.nodup_cons]
   refine ⟨fun hm=>?_,Nk.bS (m:=r) h.2 k x⟩
   rcases (xz r k x p.1).1 hm with h1 | h1
   ·exact hk h1
   ·exact h.1 h1
theorem vd:∀(m:HM) (k:Ky),(jx m k).Sublist m
 | [],_=>List.Sublist.refl _
 | p::r,k=>by
  simp only [jx]
  split
  ·exact List.sublist_cons_self _ _
  ·exact (vd r k).cons_cons _
theorem Nk.jx {m:HM} (h:Nk m) (k:Ky):Nk (jx m k):=h.sublist ((vd m k).map _)
theorem xA:∀{m:HM} (_:Nk m) (k j:Ky),bs (jx m k) j=if k=j then none else bs m j
 | [],_,k,j=>by simp [jx,bs]
 | p::r,h,k,j=>by
  unfold Nk at h
  rw [List.map_cons,List.nodup_cons] at h
  simp only [jx]
  split
  ·rename_i hk
   subst hk
   by_cases hj:p.1=j
   ·subst hj; rw [if_pos rfl]; exact ra h.1
   ·rw [if_neg hj]; simp only [bs]; rw [if_neg hj]
  ·rename_i hk
   simp only [bs]
   by_cases hj:p.1=j
   ·rw [if_pos hj,if_pos hj,if_neg (fun h9=>hk (hj.trans h9.symm))]
   ·rw [if_neg hj,if_neg hj]; exact xA (m:=r) h.2 k j
theorem Lg {m r:HM} (hm:Nk m) (hr:Nk r) (h:∀k,bs m k=bs r k):m.Perm r:=by
 have nd:∀{m:HM},Nk m→m.Nodup:=fun {m} hm=>by
  unfold Nk at hm
  exact (List.pairwise_map.1 hm).imp fun {a b} rF he=>rF (by rw [he])
 refine (List.perm_ext_iff_of_nodup (nd hm) (nd hr)).2 fun p=>⟨fun hp=>?_,fun hp=>?_⟩
 ·have:=jk hm (k:=p.1) (x:=p.2) hp; rw [h] at this; exact eI this
 ·have:=jk hr (k:=p.1) (x:=p.2) hp; rw [←h] at this; exact eI this
def jl:HM→Int→Int
 | [],_=>0
 | p::r,i=>(if p.1.2=i then p.2 else 0)+jl r i
theorem EU (p:Ky × Int) (r:HM) (k:Ky):hv (p::r) k=if p.1=k then p.2 else hv r k:=by
 unfold hv; simp only [bs]; split <;> rfl
theorem xB:∀(m:HM) (k:Ky) (x i:Int),jl (bS m k x) i=jl m i+(if k.2=i then x - hv m k else 0)
 | [],k,x,i=>by simp [bS,jl,hv,bs]
 | p::r,k,x,i=>by
  simp only [bS,EU]
  split
  ·rename_i hk; subst hk; simp only [jl]; split <;> omega
  ·simp only [jl,xB r k x i]; omega
theorem xC:∀(m:HM) (k:Ky) (i:Int),jl (jx m k) i=jl m i+(if k.2=i then - hv m k else 0)
 | [],k,i=>by simp [jx,jl,hv,bs]
 | p::r,k,i=>by
  simp only [jx,EU]
  split
  ·rename_i hk; subst hk; simp only [jl]; split <;> omega
  ·simp only [jl,xC r k i]; omega
theorem vf {C:Int}:∀{m:HM} (_:∀p∈m,0≤p.2∧p.2≤C) (_:0≤C) (i:Int),0≤jl m i∧jl m i≤m.length * C
 | [],_,_,i=>by simp [jl]
 | p::r,h,hC,i=>by
  have h1:=h p List.mem_cons_self
  have h2:=vf (fun q hq=>h q (List.mem_cons_of_mem _ hq)) hC i
  simp only [jl,List.length_cons]
  have h3:((r.length+1:Nat):Int) * C=r.length * C+C:=by rw [Int.natCast_add,Int.add_mul]; omega
  rw [h3]
  split <;> omega
theorem F8 {m r:HM} (h:m.Perm r) (i:Int):jl m i=jl r i:=by
 induction h with
 | nil=>rfl
 | cons x _ ih=>simp only [jl,ih]
 | swap x y l=>simp only [jl]; omega
 | trans _ _ a b=>exact a.trans b
def cX (H:HM) (k:Ky) (now:Int):HM:=if now=0 then jx H k else bS H k now
theorem ko {H:HM} (h:Nk H) (k:Ky) (now:Int) (j:Ky):bs (cX H k now) j=if k=j then (if now=0 then none else some now) else bs H j:=by
 unfold cX
 by_cases h0:now=0
 ·rw [if_pos h0,if_pos h0,xA h]
 ·rw [if_neg h0,if_neg h0,xw]
theorem Nk.cX {H:HM} (h:Nk H) (k:Ky) (now:Int):Nk (cX H k now):=by
 unfold Proofs.YtpbdohkbiklflaaGreatDoor.cX; split
 ·exact h.jx k
 ·exact h.bS k now
theorem F9 (H:HM) (k:Ky) (now i:Int):jl (cX H k now) i=jl H i+(if k.2=i then now - hv H k else 0):=by
 unfold cX; split
 ·rename_i h0; subst h0; rw [xC]; split <;> omega
 ·rw [xB]
theorem Lh {H:HM} (h:Nk H) (k:Ky) (now:Int) (j:Ky):hv (cX H k now) j=if k=j then now else hv H j:=by
 unfold hv; rw [ko h]
 by_cases hk:k=j
 ·rw [if_pos hk,if_pos hk]; by_cases h0:now=0
  ·rw [if_pos h0,h0]; rfl
  ·rw [if_neg h0]; rfl
 ·rw [if_neg hk,if_neg hk]
theorem Je (H:HM) (k:Ky) (now:Int):(cX H k now).length≤H.length+1:=by
 unfold cX; split
 ·have:=(vd H k).length_le; omega
 ·exact u7 ..
def Oh (H:HM) (i:Nat) (q:Bool × List Rk):Prop:=(q.1=true→q.2=[])∧jG q.2∧∀x:Rk,x∈q.2 ↔ x.1<1048576∧bs H (x.1,(i:Int))=some x.2
structure GL (s:Vs) (L:Nat):Prop where
 nd:Nk s.H
 pos:∀p∈s.H,1≤p.1.1∧(∃i:Nat,i<4∧p.1.2=(i:Int))∧1≤p.2∧p.2≤1125899906842624
 len:s.H.length≤L
 tl:s.cF.length=4
 rl:s.rk.length=4
 rk:∀i:Nat,i<4→Oh s.H i (s.rk.getD i (true,[]))
 O6:∀i:Nat,i<4→s.cF.getD i 0=jl s.H i
theorem GL.zB {s:Vs} {L:Nat} (h:GL s L) (k:Ky):0≤hv s.H k∧hv s.H k≤1125899906842624∧(hv s.H k ≠ 0→bs s.H k=some (hv s.H k))∧(hv s.H k=0→bs s.H k=none):=by
 unfold hv
 cases hq:bs s.H k with
 | none=>simp
 | some x =>
  have:=h.pos _ (eI hq)
  simp only [Option.getD_some]
  simp only at this
  refine ⟨by omega,by omega,fun _=>trivial,fun h0=>?_⟩
  omega
theorem EV {α β:Type} [BEq β] [LawfulBEq β] (f:α→β):∀{l:List α} {m:List β} (_:l.Nodup) (_:∀x∈l,f x∈m) (_:∀x∈l,∀y∈l,f x=f y→x=y),l.length≤m.length
 | [],m,_,_,_=>by simp
 | x::l,m,hn,hm,hi=>by
  rw [List.nodup_cons] at hn
  have h1:=hm x List.mem_cons_self
  have h2:=EV f (l:=l) (m:=m.erase (f x)) hn.2 (fun y hy=>by
   refine (List.mem_erase_of_ne fun he=>?_).2 (hm y (List.mem_cons_of_mem _ hy))
   have:=hi y (List.mem_cons_of_mem _ hy) x List.mem_cons_self he
   subst this; exact hn.1 hy) (fun a ha b hb=>hi a (List.mem_cons_of_mem _ ha) b (List.mem_cons_of_mem _ hb))
  rw [List.length_erase_of_mem h1] at h2
  have:0<m.length:=List.length_pos_of_mem h1
  simp only [List.length_cons]; omega
theorem Df {H:HM} {i:Nat} {q:Bool × List Rk} (h:Oh H i q):q.2.length≤H.length :=
 EV (fun x:Rk=>(((x.1,(i:Int)):Ky),x.2)) (oO h.2.1) (fun x hx=>eI ((h.2.2 x).1 hx).2) (fun x _ y _ he=>by
  simp only [Prod.mk.injEq] at he
  exact Prod.ext he.1.1 he.2)
def Oi (l:List Rk) (a before now:Int):List Rk :=
 let l1:=if before ≠ 0 then lh l (a,before) else l
 if now ≠ 0 then q6 l1 (a,now) else l1
theorem Jf {s:Vs} {L:Nat} (h:GL s L) {i:Nat} (hi:i<4) {a:Int} (ha:a<1048576):∀l1,l1=(if hv s.H (a,(i:Int)) ≠ 0 then lh (s.rk.getD i (true,[])).2 (a,hv s.H (a,(i:Int))) else (s.rk.getD i (true,[])).2)→jG l1∧∀x,x∈l1 ↔ x∈(s.rk.getD i (true,[])).2∧x.1 ≠ a:=by
 intro l1 GG
 obtain ⟨_,hs,hm⟩:=h.rk i hi
 have hh:=h.zB (a,(i:Int))
 by_cases hb:hv s.H (a,(i:Int)) ≠ 0
 ·rw [if_pos hb] at GG
  have Am:(a,hv s.H (a,(i:Int)))∈(s.rk.getD i (true,[])).2:=(hm _).2 ⟨ha,hh.2.2.1 hb⟩
  obtain ⟨_,h2,h3⟩:=q9 hs Am
  rw [GG]
  refine ⟨h2,fun x=>?_⟩
  rw [h3 x]
  constructor
  ·rintro ⟨h4,h5⟩
   refine ⟨h4,fun h6=>h5 ?_⟩
   have h7:=((hm x).1 h4).2
   rw [h6,hh.2.2.1 hb] at h7
   injection h7 with h7
   exact Prod.ext h6 h7.symm
  ·rintro ⟨h4,h5⟩
   exact ⟨h4,fun h6=>h5 (by rw [h6])⟩
 ·rw [if_neg hb] at GG
  have hb:hv s.H (a,(i:Int))=0:=by simpa using hb
  rw [GG]
  refine ⟨hs,fun x=>⟨fun h4=>⟨h4,fun h6=>?_⟩,fun h4=>h4.1⟩⟩
  have h7:=((hm x).1 h4).2
  rw [h6,hh.2.2.2 hb] at h7
  cases h7
theorem sY (s:Vs) (a:Int) (i:Nat) (now:Int) (bA:hv s.H (a,(i:Int)) ≠ now):cu s (a,(i:Int)) i now={ s with work:=s.work+1,cF:=s.cF.set i (s.cF.getD i 0+(now - hv s.H (a,(i:Int)))),H:=cX s.H (a,(i:Int)) now,rk:=if 1048576≤a then s.rk else s.rk.set i (false,Oi (s.rk.getD i (true,[])).2 a (hv s.H (a,(i:Int))) now) }:=by
 unfold cu cX
 rw [if_neg bA]
 by_cases ha:1048576≤a
 ·simp only [if_pos ha]
 ·simp only [if_neg ha]
  by_cases hn:now=0
  ·subst hn
   simp only [ne_eq,not_true_eq_false,if_false,bA,not_false_eq_true,if_true,Oi]
  ·simp only [ne_eq,hn,not_false_eq_true,if_true,Oi]
theorem Dg {s:Vs} {L:Nat} (h:GL s L) (hL:L≤500) (hw:0≤s.work∧s.work≤2305843009213693952) {a:Int} {i:Nat} {now:Int} (hi:i<4) (ha:1≤a) (hn:0≤now∧now≤1125899906842624) :
  I0 s (a,(i:Int)) i now∧GL (cu s (a,(i:Int)) i now) (L+1):=by
 have hh:=h.zB (a,(i:Int))
 obtain ⟨hf,hs,hm⟩:=h.rk i hi
 have hb:=vf (C:=1125899906842624) (fun p hp=>by have:=h.pos p hp; omega) (by omega) (i:Int) (m:=s.H)
 have hlen:=h.len
 have cl:jl s.H i≤562949953421312000:=by
  have:(s.H.length:Int) * 1125899906842624≤500 * 1125899906842624:=by omega
  omega
 constructor
 ·refine ⟨rfl,by rw [h.tl]; exact hi,by rw [h.rl]; exact hi,by omega,by omega,?_,by omega,?_,hf,fun O7 cE=>?_,fun O7 BP l1 GG=>?_⟩
  ·rw [h.O6 i hi]; omega
  ·have:=Df (h.rk i hi); omega
  ·exact ⟨(q9 hs ((hm (a,hv s.H (a,(i:Int)))).2 ⟨O7,hh.2.2.1 cE⟩)).1,lu hs _⟩
  ·exact lu (Jf h hi O7 l1 GG).1 _
 ·by_cases bA:hv s.H (a,(i:Int))=now
  ·have:cu s (a,(i:Int)) i now=s:=by unfold cu; rw [if_pos bA]
   rw [this]
   exact { h with len:=by omega }
  ·rw [sY s a i now bA]
   have eK:∀p∈cX s.H (a,(i:Int)) now,1≤p.1.1∧(∃i:Nat,i<4∧p.1.2=(i:Int))∧1≤p.2∧p.2≤1125899906842624:=by
    intro p hp
    have hg:=jk (h.nd.cX _ _) (k:=p.1) (x:=p.2) hp
    rw [ko h.nd] at hg
    split at hg
    ·rename_i hk
     split at hg
     ·cases hg
     ·injection hg with hg
      rw [←hk,←hg]
      exact ⟨ha,⟨i,hi,rfl⟩,by omega,by omega⟩
    ·exact h.pos p (eI hg)
   have F1:∀j:Nat,j<4→Oh (cX s.H (a,(i:Int)) now) j ((if 1048576≤a then s.rk else s.rk.set i (false,Oi (s.rk.getD i (true,[])).2 a (hv s.H (a,(i:Int))) now)).getD j (true,[])):=by
    intro j hj
    by_cases BS:j=i
    ·subst BS
     by_cases O7:1048576≤a
     ·rw [if_pos O7]
      refine ⟨hf,hs,fun x=>?_⟩
      rw [hm x,ko h.nd]
      constructor
      ·rintro ⟨h1,h2⟩
       exact ⟨h1,by rw [if_neg (fun he=>by simp only [Prod.mk.injEq] at he; omega)]; exact h2⟩
      ·rintro ⟨h1,h2⟩
       rw [if_neg (fun he=>by simp only [Prod.mk.injEq] at he; omega)] at h2
       exact ⟨h1,h2⟩
     ·rw [if_neg O7,List.getD_eq_getElem?_getD,List.getElem?_set_self (by rw [h.rl]; exact hi)]
      obtain ⟨q1,q2⟩:=Jf h hi (a:=a) (by omega) _ rfl
      refine ⟨fun h9=>by simp at h9,?_,fun x=>?_⟩
      ·simp only [Option.getD_some,Oi]
       split
       ·exact sk q1 fun h9=>((q2 _).1 h9).2 rfl
       ·exact q1
      ·simp only [Option.getD_some,Oi]
       rw [ko h.nd]
       by_cases KP:now=0
       ·subst KP
        simp only [ne_eq,not_true_eq_false,if_false]
        rw [q2 x,hm x]
        constructor
        ·rintro ⟨⟨h1,h2⟩,h3⟩
         exact ⟨h1,by rw [if_neg (fun he=>by simp only [Prod.mk.injEq] at he; omega)]; exact h2⟩
        ·rintro ⟨h1,h2⟩
         by_cases he:a=x.1
         ·rw [if_pos (by rw [he])] at h2; simp at h2
         ·rw [if_neg (fun xD=>by simp only [Prod.mk.injEq] at xD; exact he xD.1)] at h2
          exact ⟨⟨h1,h2⟩,fun h4=>he h4.symm⟩
       ·rw [if_pos KP,Bg,q2 x,hm x,if_neg KP]
        constructor
        ·rintro (h1 | ⟨⟨h1,h2⟩,h3⟩)
         ·subst h1; exact ⟨by simp only; omega,by simp⟩
         ·exact ⟨h1,by rw [if_neg (fun he=>by simp only [Prod.mk.injEq] at he; omega)]; exact h2⟩
        ·rintro ⟨h1,h2⟩
         by_cases he:a=x.1
         ·rw [if_pos (by rw [he])] at h2
          injection h2 with h2
          exact .inl (Prod.ext he.symm h2.symm)
         ·rw [if_neg (fun xD=>by simp only [Prod.mk.injEq] at xD; exact he xD.1)] at h2
          exact .inr ⟨⟨h1,h2⟩,fun h4=>he h4.symm⟩
    ·have hq:(if 1048576≤a then s.rk else s.rk.set i (false,Oi (s.rk.getD i (true,[])).2 a (hv s.H (a,(i:Int))) now)).getD j (true,[])=s.rk.getD j (true,[]):=by
      split
      ·rfl
      ·rw [List.getD_eq_getElem?_getD,List.getElem?_set_ne (fun h9=>BS h9.symm),←List.getD_eq_getElem?_getD]
     rw [hq]
     obtain ⟨r1,r2,r3⟩:=h.rk j hj
     refine ⟨r1,r2,fun x=>?_⟩
     rw [r3 x,ko h.nd,if_neg (fun he=>by simp only [Prod.mk.injEq] at he; omega)]
   refine ⟨h.nd.cX _ _,eK,by have:=Je s.H (a,(i:Int)) now; show (cX s.H (a,(i:Int)) now).length≤_; omega,by simp only [List.length_set]; exact h.tl,?_,F1,fun j hj=>?_⟩
   ·simp only; split
    ·exact h.rl
    ·rw [List.length_set]; exact h.rl
   ·simp only
    rw [F9,List.getD_eq_getElem?_getD]
    by_cases BS:i=j
    ·subst BS
     rw [List.getElem?_set_self (by rw [h.tl]; exact hi),if_pos rfl,←h.O6 i hi]; rfl
    ·rw [List.getElem?_set_ne BS,if_neg (by omega),←List.getD_eq_getElem?_getD,h.O6 j hj]; omega
end Go.Proofs.YtpbdohkbiklflaaGreatDoor
namespace Go.Proofs.YtpbdohkbiklflaaGreatDoor
open Go.TM
variable [cQ]
theorem Dh (s:Vs) (a:Int) (i:Nat) (now:Int):(cu s (a,(i:Int)) i now).H=if hv s.H (a,(i:Int))=now then s.H else cX s.H (a,(i:Int)) now:=by
 by_cases h:hv s.H (a,(i:Int))=now
 ·unfold cu; rw [if_pos h,if_pos h]
 ·rw [sY s a i now h,if_neg h]
theorem y8 {s:Vs} (h:Nk s.H) (a:Int) (i:Nat) (now:Int) (j:Ky):hv (cu s (a,(i:Int)) i now).H j=if (a,(i:Int))=j then now else hv s.H j:=by
 rw [Dh]
 by_cases h0:hv s.H (a,(i:Int))=now
 ·rw [if_pos h0]; split
  ·rename_i hk; rw [←hk]; exact h0
  ·rfl
 ·rw [if_neg h0,Lh h]
structure Bh (es:HM):Prop where
 nd:Nk es
 pos:∀e∈es,1≤e.1.1∧(∃i:Nat,i<4∧e.1.2=(i:Int))∧0≤e.2∧e.2≤1125899906842624
theorem Bh.cons {e:Ky × Int} {r:HM} (h:Bh (e::r)):Bh r∧e.1 ∉ r.map (·.1):=by
 have:=h.nd
 unfold Nk at this
 rw [List.map_cons,List.nodup_cons] at this
 exact ⟨⟨this.2,fun x hx=>h.pos x (List.mem_cons_of_mem _ hx)⟩,this.1⟩
theorem Bh.perm {a b:HM} (h:Bh a) (hp:b.Perm a):Bh b :=
 ⟨((hp.map (fun p:Ky × Int=>p.1)).nodup_iff).2 (show (a.map fun p=>p.1).Nodup from h.nd),fun e he=>h.pos e (hp.mem_iff.1 he)⟩
theorem fo (s:Vs) (e:Ky × Int) (r:HM):aF s (e::r)=aF (cu s e.1 e.1.2.toNat e.2) r:=rfl
theorem qb:∀{es:HM} {s:Vs} {L:Nat},GL s L→Bh es→L+es.length≤500→(0≤s.work∧s.work+es.length≤2305843009213693952)→GL (aF s es) (L+es.length)
 | [],s,L,h,_,_,_=>h
 | e::r,s,L,h,he,hL,hw=>by
  obtain ⟨p1,⟨i,hi,p2⟩,p3,p4⟩:=he.pos e List.mem_cons_self
  obtain ⟨⟨a,it⟩,now⟩:=e
  simp only at p1 p2 p3 p4
  subst p2
  simp only [List.length_cons] at hL hw
  have h1:=(Dg h (by omega) (by omega) hi p1 ⟨p3,p4⟩).2
  rw [fo]
  simp only [Int.toNat_natCast]
  have h2:=q7 s (a,(i:Int)) i now
  have h3:=qb h1 he.cons.1 (by omega) (by omega)
  rw [show L+((((a,(i:Int)),now):Ky × Int)::r).length=L+1+r.length by simp only [List.length_cons]; omega]
  exact h3
theorem qc:∀{es:HM} {s:Vs},Nk s.H→Bh es→∀j,hv (aF s es).H j=hold es s.H j
 | [],s,_,_,j=>rfl
 | e::r,s,h,he,j=>by
  obtain ⟨p1,⟨i,hi,p2⟩,p3,p4⟩:=he.pos e List.mem_cons_self
  obtain ⟨⟨a,it⟩,now⟩:=e
  simp only at p1 p2 p3 p4
  subst p2
  rw [fo]
  simp only [Int.toNat_natCast]
  have hn:Nk (cu s (a,(i:Int)) i now).H:=by
   rw [Dh]; split
   ·exact h
   ·exact h.cX _ _
  rw [qc hn he.cons.1 j]
  unfold hold
  rw [y8 h]
  simp only [bs]
  by_cases hk:(a,(i:Int))=j
  ·rw [if_pos hk,if_pos hk]
   have:=ra (hk ▸ he.cons.2)
   rw [this]; rfl
  ·rw [if_neg hk,if_neg hk]
theorem Di {s:Vs} (h:Nk s.H) (a:Int) (i:Nat) (now:Int) {k:Ky} (hk:(a,(i:Int)) ≠ k) (x:Int):ck (cu s (a,(i:Int)) i now) k x=ck s k x:=by
 unfold ck; rw [y8 h,if_neg hk]
def MB (s:Vs) (j:Nat):Bool:=(s.rk.getD j (true,[])).1
theorem Li {s:Vs} {L:Nat} (h:GL s L) (a:Int) (i:Nat) (now:Int) (hi:i<4) (j:Nat):MB (cu s (a,(i:Int)) i now) j=(MB s j && !(ck s (a,(i:Int)) now && decide ((i:Int)=j))):=by
 unfold MB ck
 by_cases h0:hv s.H (a,(i:Int))=now
 ·have:cu s (a,(i:Int)) i now=s:=by unfold cu; rw [if_pos h0]
  rw [this]; simp [h0]
 ·rw [sY s a i now h0]
  by_cases ha:1048576≤a
  ·simp [ha]
  ·simp only [if_neg ha]
   rw [List.getD_eq_getElem?_getD]
   by_cases BS:i=j
   ·subst BS
    rw [List.getElem?_set_self (by rw [h.rl]; exact hi)]
    simp only [Option.getD_some]
    rw [decide_eq_false h0,decide_eq_false ha]; simp
   ·rw [List.getElem?_set_ne BS,←List.getD_eq_getElem?_getD,decide_eq_false (show ¬ (i:Int)=j by omega)]; simp
theorem y9:∀{es:HM} {s:Vs} {L:Nat},GL s L→Bh es→L+es.length≤500→(0≤s.work∧s.work+es.length≤2305843009213693952)→∀j:Nat,MB (aF s es) j=(MB s j && !(es.any fun e=>ck s e.1 e.2 && decide (e.1.2=(j:Int))))
 | [],s,L,_,_,_,_,j=>by simp [aF]
 | e::r,s,L,h,he,hL,hw,j=>by
  obtain ⟨p1,⟨i,hi,p2⟩,p3,p4⟩:=he.pos e List.mem_cons_self
  obtain ⟨⟨a,it⟩,now⟩:=e
  simp only at p1 p2 p3 p4
  subst p2
  simp only [List.length_cons] at hL hw
  have h1:=(Dg h (by omega) (by omega) hi p1 ⟨p3,p4⟩).2
  have h2:=q7 s (a,(i:Int)) i now
  rw [fo]
  simp only [Int.toNat_natCast]
  rw [y9 h1 he.cons.1 (by omega) (by omega) j,Li h a i now hi j]
  simp only [List.any_cons]
  have:(r.any fun e=>ck (cu s (a,(i:Int)) i now) e.1 e.2 && decide (e.1.2=(j:Int)))=r.any fun e=>ck s e.1 e.2 && decide (e.1.2=(j:Int)):=by
   have hc:=he.cons.2
   clear hw hL h1 h2 he
   induction r with
   | nil=>rfl
   | cons q r ih =>
    simp only [List.map_cons,List.mem_cons,not_or] at hc
    simp only [List.any_cons]
    rw [ih hc.2,Di h.nd a i now hc.1]
  rw [this]
  cases MB s j <;> simp [Bool.not_or]
theorem Ga {s:Vs} (a:Int) (i:Nat) (now:Int):(cu s (a,(i:Int)) i now).work=s.work+(if hv s.H (a,(i:Int))=now then 0 else 1):=by
 by_cases h0:hv s.H (a,(i:Int))=now
 ·have:cu s (a,(i:Int)) i now=s:=by unfold cu; rw [if_pos h0]
  rw [this,if_pos h0]; omega
 ·rw [sY s a i now h0,if_neg h0]
def Oj (H:HM) (e:Ky × Int):Bool:=!decide (hv H e.1=e.2)
theorem rb:∀{es:HM} {s:Vs},Nk s.H→Bh es→(aF s es).work=s.work+(es.countP (Oj s.H):Nat)
 | [],s,_,_=>by simp [aF]
 | e::r,s,h,he=>by
  obtain ⟨p1,⟨i,hi,p2⟩,p3,p4⟩:=he.pos e List.mem_cons_self
  obtain ⟨⟨a,it⟩,now⟩:=e
  simp only at p1 p2 p3 p4
  subst p2
  rw [fo]
  simp only [Int.toNat_natCast]
  have hn:Nk (cu s (a,(i:Int)) i now).H:=by
   rw [Dh]; split
   ·exact h
   ·exact h.cX _ _
  rw [rb hn he.cons.1,Ga]
  have:r.countP (Oj (cu s (a,(i:Int)) i now).H)=r.countP (Oj s.H):=by
   have hc:=he.cons.2
   clear he
   induction r with
   | nil=>rfl
   | cons q r ih =>
    simp only [List.map_cons,List.mem_cons,not_or] at hc
    rw [List.countP_cons,List.countP_cons,ih hc.2]
    have:Oj (cu s (a,(i:Int)) i now).H q=Oj s.H q:=by
     unfold Oj; rw [y8 h,if_neg hc.1]
    rw [this]
  rw [this,List.countP_cons]
  have hc:Oj s.H ((a,(i:Int)),now)=!decide (hv s.H (a,(i:Int))=now):=rfl
  rw [hc]
  by_cases h0:hv s.H (a,(i:Int))=now
  ·simp [h0]
  ·simp [h0]; omega
theorem Gb (s:Vs) (k:Ky) (i:Nat) (now:Int):(cu s k i now).aZ=s.aZ∧(cu s k i now).au=s.au∧(cu s k i now).aU=s.aU∧(cu s k i now).last=s.last:=by
 unfold cu; split
 ·exact ⟨rfl,rfl,rfl,rfl⟩
 ·simp only; split <;> exact ⟨rfl,rfl,rfl,rfl⟩
theorem jm:∀(es:HM) (s:Vs),(aF s es).aZ=s.aZ∧(aF s es).au=s.au∧(aF s es).aU=s.aU∧(aF s es).last=s.last
 | [],s=>⟨rfl,rfl,rfl,rfl⟩
 | e::r,s=>by
  rw [fo]
  have h1:=jm r (cu s e.1 e.1.2.toNat e.2)
  have h2:=Gb s e.1 e.1.2.toNat e.2
  exact ⟨h1.1.trans h2.1,h1.2.1.trans h2.2.1,h1.2.2.1.trans h2.2.2.1,h1.2.2.2.trans h2.2.2.2⟩
theorem EW {s:Vs} {L:Nat} (h:GL s L) (k:Ky):bs s.H k=if hv s.H k=0 then none else some (hv s.H k):=by
 have:=h.zB k
 split
 ·rename_i h0; exact this.2.2.2 h0
 ·rename_i h0; exact this.2.2.1 h0
theorem Gc {a b:HM} (ha:Bh a) (hp:b.Perm a) (H:HM) (k:Ky):hold b H k=hold a H k:=by
 have hb:=ha.perm hp
 have:bs b k=bs a k:=by
  cases hq:bs a k with
  | none =>
   cases fL:bs b k with
   | none=>rfl
   | some x=>have:=jk ha.nd (hp.mem_iff.1 (eI fL)); rw [hq] at this; cases this
  | some x=>exact jk hb.nd (hp.mem_iff.2 (eI hq))
 unfold hold; rw [this]
theorem MC {α:Type} {l r:List α} (d:α) (hl:l.length=4) (hr:r.length=4) (h:∀i:Nat,i<4→l.getD i d=r.getD i d):l=r:=by
 apply List.ext_getElem (by omega)
 intro i h1 h2
 have:=h i (by omega)
 rw [List.getD_eq_getElem?_getD,List.getD_eq_getElem?_getD,List.getElem?_eq_getElem h1,List.getElem?_eq_getElem h2] at this
 exact this
theorem Gd {es done:HM} {s:Vs} {L:Nat} (h:GL s L) (he:Bh es) (hp:done.Perm es) (hL:L+es.length≤500) (hw:0≤s.work∧s.work+es.length≤2305843009213693952) :
  (aF s done).H.Perm (aF s es).H∧aF s done={ aF s es with H:=(aF s done).H }:=by
 have hd:=he.perm hp
 have AS:=hp.length_eq
 have o1:=qb h he hL hw
 have o2:=qb h hd (by omega) (by omega)
 have E6:∀k,hv (aF s done).H k=hv (aF s es).H k:=fun k=>by rw [qc h.nd hd,qc h.nd he,Gc he hp]
 have Ra:∀k,bs (aF s done).H k=bs (aF s es).H k:=fun k=>by rw [EW o2,EW o1,E6]
 have o5:(aF s done).H.Perm (aF s es).H:=Lg o2.nd o1.nd Ra
 refine ⟨o5,?_⟩
 have r1:=jm done s
 have r2:=jm es s
 have e1:(aF s done).aZ=(aF s es).aZ:=r1.1.trans r2.1.symm
 have e2:(aF s done).au=(aF s es).au:=r1.2.1.trans r2.2.1.symm
 have e3:(aF s done).aU=(aF s es).aU:=r1.2.2.1.trans r2.2.2.1.symm
 have e4:(aF s done).last=(aF s es).last:=r1.2.2.2.trans r2.2.2.2.symm
 have e5:(aF s done).work=(aF s es).work:=by rw [rb h.nd hd,rb h.nd he,hp.countP_eq]
 have e6:(aF s done).cF=(aF s es).cF:=MC 0 o2.tl o1.tl fun i hi=>by rw [o2.O6 i hi,o1.O6 i hi,F8 o5]
 have e7:(aF s done).rk=(aF s es).rk:=MC (true,[]) o2.rl o1.rl fun i hi=>by
  have f1:MB (aF s done) i=MB (aF s es) i:=by rw [y9 h hd (by omega) (by omega),y9 h he hL hw,hp.any_eq]
  have g1:=o2.rk i hi
  have g2:=o1.rk i hi
  refine Prod.ext f1 (Jd g1.2.1 g2.2.1 fun x=>?_)
  rw [g1.2.2 x,g2.2.2 x,Ra]
 have e8:(aF s done).sl=(aF s es).sl:=by rw [mN,mN]
 have e9:(aF s done).bD=(aF s es).bD:=by rw [ji,ji]
 generalize aF s done=t1 at *
 generalize aF s es=t2 at *
 obtain ⟨a1,a2,a3,a4,a5,a6,a7,a8,a9,WV⟩:=t1
 obtain ⟨b1,b2,b3,b4,b5,b6,b7,b8,b9,WW⟩:=t2
 simp only at e1 e2 e3 e4 e5 e6 e7 e8 e9
 subst e1 e2 e3 e4 e5 e6 e7 e8 e9
 rfl
end Go.Proofs.YtpbdohkbiklflaaGreatDoor
namespace Go.Proofs.YtpbdohkbiklflaaGreatDoor
open Go.TM
variable [cQ]
theorem za {H:HM}:∀{l:List Mv} {m A:HM},kC H m l=.ok A→∀v∈l,sj v=false
 | [],_,_,_,v,hv=>by cases hv
 | w::r,m,A,h,v,hv=>by
  simp only [kC] at h
  split at h
  ·cases h
  rename_i hb
  have hb:sj w=false:=by simpa using hb
  rcases List.mem_cons.1 hv with rfl | hv
  ·exact hb
  ·split at h
   ·split at h
    ·cases h
    ·exact za h v hv
   ·exact za h v hv
theorem EX {n:Int} (h:se n=true):0≤n∧n≤1073741824:=by
 unfold se at h; simpa using h
structure wx (m:HM) (C:Int):Prop where
 nd:Nk m
 pos:∀e∈m,1≤e.1.1∧(∃i:Nat,i<4∧e.1.2=(i:Int))∧0≤e.2∧e.2≤C
theorem Bi:∀{m:HM} {k:Ky} {x:Int} {p:Ky × Int},p∈bS m k x→p=(k,x) ∨ p∈m
 | [],k,x,p,h=>by simp [bS] at h; exact .inl h
 | q::r,k,x,p,h=>by
  simp only [bS] at h
  split at h
  ·rcases List.mem_cons.1 h with h | h
   ·exact .inl h
   ·exact .inr (List.mem_cons_of_mem _ h)
  ·rcases List.mem_cons.1 h with h | h
   ·exact .inr (h ▸ List.mem_cons_self)
   ·rcases Bi h with h | h
    ·exact .inl h
    ·exact .inr (List.mem_cons_of_mem _ h)
theorem wx.put {m:HM} {C D:Int} (h:wx m C) (V4:C≤D) {a it x:Int} (ha:1≤a) (jw:0≤it∧it<4) (hx:0≤x∧x≤D):wx (bS m (a,it) x) D:=by
 refine ⟨h.nd.bS _ _,fun e he=>?_⟩
 rcases Bi he with rfl | he
 ·exact ⟨ha,⟨it.toNat,by omega,by simp only; omega⟩,hx⟩
 ·have:=h.pos e he; exact ⟨this.1,this.2.1,this.2.2.1,by omega⟩
theorem wx.mono {m:HM} {C D:Int} (h:wx m C) (V4:C≤D):wx m D:=⟨h.nd,fun e he=>by have:=h.pos e he; exact ⟨this.1,this.2.1,this.2.2.1,by omega⟩⟩
theorem Dj {H:HM}:∀{l:List Mv} {m A:HM} {C:Int},kC H m l=.ok A→0≤C→wx m C→(∀k,0≤hold m H k∧hold m H k≤C)→wx A (C+l.length * 1099511627776)
 | [],m,A,C,h,_,ho,_=>by simp only [kC] at h; injection h with h; subst h; simpa using ho
 | v::r,m,A,C,h,hC,ho,hb=>by
  simp only [kC] at h
  split at h
  ·cases h
  rename_i JY
  obtain ⟨b1,b2,b3,b4,b5,b6,b7⟩:=ES (v:=v) (by simpa using JY)
  have b5:=EX b5
  have b6:=EX b6
  have fin:∀m1:HM,wx m1 C→(∀k,0≤hold m1 H k∧hold m1 H k≤C)→wx (if v.t ≠ 0 then bS m1 (v.t,v.it) (hold m1 H (v.t,v.it)+v.n) else m1) (C+1099511627776)∧∀k,0≤hold (if v.t ≠ 0 then bS m1 (v.t,v.it) (hold m1 H (v.t,v.it)+v.n) else m1) H k∧hold (if v.t ≠ 0 then bS m1 (v.t,v.it) (hold m1 H (v.t,v.it)+v.n) else m1) H k≤C+1099511627776:=by
   intro m1 h1 h2
   have h3:=h2 (v.t,v.it)
   split
   ·exact ⟨h1.put (by omega) (by omega) ⟨b1,b2⟩ ⟨by omega,by omega⟩,y6 h2 ⟨by omega,by omega⟩ (by omega)⟩
   ·exact ⟨h1.mono (by omega),fun k=>by have:=h2 k; omega⟩
  have hlen:C+((v::r).length:Int) * 1099511627776=C+1099511627776+r.length * 1099511627776:=by simp only [List.length_cons]; omega
  rw [hlen]
  split at h
  ·split at h
   ·cases h
   rename_i hs
   have h3:=hb (v.f,v.it)
   obtain ⟨f1,f2⟩:=fin (bS m (v.f,v.it) (hold m H (v.f,v.it) - v.n)) (ho.put (Int.le_refl C) (a:=v.f) (by omega) ⟨b1,b2⟩ (x:=hold m H (v.f,v.it) - v.n) ⟨by omega,by omega⟩) (y6 hb ⟨by omega,by omega⟩ (Int.le_refl C))
   exact Dj h (by omega) f1 f2
  ·obtain ⟨f1,f2⟩:=fin _ ho hb
   exact Dj h (by omega) f1 f2
theorem Jg {aZ:Int} {st:St} {it n c:Int} (hb:∀v∈st.mv,sj v=false) (h:dw aZ st=(it,n,c,true)):0≤it∧it<4∧1≤n∧n≤1099511627776∧1≤c∧c≤1099511627776:=by
 unfold dw at h
 split at h
 ·simp at h
 ·split at h
  ·rename_i a b hm
   have h1:=ES (hb a (by rw [hm]; simp))
   have h2:=ES (hb b (by rw [hm]; simp))
   split at h <;> (simp only [A9,Prod.mk.injEq] at h; obtain ⟨rfl,rfl,rfl,_⟩:=h; omega)
  ·simp at h
def qd (l:List Sl):Prop:=∀(j:Nat) (x y:Sl),l[j]?=some x→l[j+1]?=some y→y.gi=x.gi+y.n∧y.gj=x.gj+y.c
structure ED (s:Vs) (S:SS) (N:Nat):Prop where
 vg:nv s S
 len:S.length≤N
 val:∀p∈S,1≤p.2.n∧p.2.n≤1099511627776∧1≤p.2.c∧p.2.c≤1099511627776∧p.2.n≤p.2.gi∧p.2.gi≤N * 1099511627776∧p.2.c≤p.2.gj∧p.2.gj≤N * 1099511627776
 chain:∀i,qd (bL S i)
 ord:S.Pairwise fun p q=>p.2.tick≤q.2.tick
 le:∀p∈S,p.2.tick≤s.last
def xE (s:Vs) (S:SS) (st:St):SS :=
 let lv:=fE S (st.tick - s.au)
 let q:=dw s.aZ st
 S.drop lv++(bif q.2.2.2 then [(q.1.toNat,⟨st.tick,q.2.1,q.2.2.1,q.2.1+iC (bL (S.drop lv) q.1.toNat),q.2.2.1+iD (bL (S.drop lv) q.1.toNat)⟩)] else [])
theorem EY {S:SS} {i:Nat} {x:Sl} (h:x∈bL S i):(i,x)∈S:=by
 unfold bL at h
 obtain ⟨p,h1,h2⟩:=List.mem_map.1 h
 obtain ⟨h3,h4⟩:=List.mem_filter.1 h1
 obtain ⟨j,y⟩:=p
 simp only [beq_iff_eq] at h4 h2
 subst h4 h2; exact h3
theorem MD {s:Vs} {S:SS} {N:Nat} (h:ED s S N) (j i:Nat):0≤iC (bL (S.drop j) i)∧iC (bL (S.drop j) i)≤N * 1099511627776∧0≤iD (bL (S.drop j) i)∧iD (bL (S.drop j) i)≤N * 1099511627776:=by
 unfold iC iD
 rw [List.getD_eq_getElem?_getD]
 cases hq:(bL (S.drop j) i)[(bL (S.drop j) i).length - 1]? with
 | none=>simp only [Option.getD_none]; omega
 | some x =>
  have:=h.val _ (List.mem_of_mem_drop (EY (List.mem_of_getElem? hq)))
  simp only [Option.getD_some]
  simp only at this
  omega
theorem oP (S T:SS) (i:Nat):bL (S++T) i=bL S i++bL T i:=by
 unfold bL; rw [List.filter_append,List.map_append]
theorem oQ {S:SS} (h:∀i,qd (bL S i)) (j i:Nat):qd (bL (S.drop j) i):=by
 have:bL S i=bL (S.take j) i++bL (S.drop j) i:=by rw [←oP,List.take_append_drop]
 intro k x y hx hy
 refine h i ((bL (S.take j) i).length+k) x y ?_ ?_
 ·rw [this,List.getElem?_append_right (by omega),Nat.add_sub_cancel_left]; exact hx
 ·rw [this,Nat.add_assoc,List.getElem?_append_right (by omega),Nat.add_sub_cancel_left]; exact hy
theorem Dk {l:List Sl} (h:qd l) (x:Sl) (h1:x.gi=x.n+iC l) (h2:x.gj=x.c+iD l):qd (l++[x]):=by
 intro j a b ha hb
 by_cases hj:j+1<l.length
 ·rw [List.getElem?_append_left (by omega)] at ha hb
  exact h j a b ha hb
 ·have aK:=(List.getElem?_eq_some_iff.1 hb).1
  simp only [List.length_append,List.length_singleton] at aK
  have vT:j+1=l.length:=by omega
  rw [List.getElem?_append_right (by omega),vT,Nat.sub_self] at hb
  rw [List.getElem?_append_left (by omega)] at ha
  simp only [List.getElem?_cons_zero,Option.some.injEq] at hb
  subst hb
  have eT:iC l=a.gi:=by unfold iC; rw [List.getD_eq_getElem?_getD,show l.length - 1=j by omega,ha]; rfl
  have n8:iD l=a.gj:=by unfold iD; rw [List.getD_eq_getElem?_getD,show l.length - 1=j by omega,ha]; rfl
  omega
theorem sZ {s s1:Vs} {S:SS} (h:nv s S) (im:s1.sl=s.sl) (lv:Nat):∀(i:Nat) (f:Bool) (l:List Sl),(c7 s1 S lv)[i]?=some (f,l)→i<4∧l=bL (S.drop lv) i∧(f=true→l=[]):=by
 intro i f l hq
 have hi:i<4:=by have:=(List.getElem?_eq_some_iff.1 hq).1; rw [cd] at this; exact this
 rw [gY _ _ _ _ hi] at hq
 simp only [Option.some.injEq,Prod.mk.injEq] at hq
 refine ⟨hi,hq.2.symm,fun hf=>?_⟩
 have hl:i<s.sl.length:=by rw [h.I4]; exact hi
 have hg:=List.getElem?_eq_getElem hl
 have h1:=hq.1
 rw [im,List.getD_eq_getElem?_getD,hg] at h1
 generalize s.sl[i]=q at hg h1
 obtain ⟨f0,l0⟩:=q
 have h2:f0=true:=h1.trans hf
 rw [←hq.2]
 refine lq ?_ lv
 rw [←h.sl _ _ _ hg]
 exact h.sf _ _ _ hg h2
theorem Jh {s s1:Vs} {S:SS} {N:Nat} (h:ED s S N) (hN:N<1000) (h1:s1.sl=s.sl) (h2:s1.bD=s.bD) {st:St} (ht:s.last≤st.tick∧0≤st.tick∧st.tick≤1099511627776)
  (hb:∀it n c,dw s.aZ st=(it,n,c,true)→0≤it∧it<4∧1≤n∧n≤1099511627776∧1≤c∧c≤1099511627776):ED (cn s S st s1) (xE s S st) (N+1):=by
 unfold cn xE
 simp only
 generalize RD:fE S (st.tick - s.au)=lv
 have si:=h.vg
 cases hq:(dw s.aZ st).2.2.2 with
 | false =>
  simp only [cond_false,List.append_nil]
  refine ⟨⟨?_,cd ..,fun p hp=>si.it p (List.mem_of_mem_drop hp),fun i f l hl=>(sZ si h1 lv i f l hl).2.1,fun i f l hl=>(sZ si h1 lv i f l hl).2.2,?_,fun p hp=>si.tk p (List.mem_of_mem_drop hp)⟩,?_,fun p hp=>?_,fun i=>oQ h.chain lv i,h.ord.sublist (List.drop_sublist _ _),fun p hp=>?_⟩
  ·show s1.bD.drop lv=_
   rw [h2,si.bD,List.map_drop]
  ·rw [List.length_drop]; have:=h.len; omega
  ·rw [List.length_drop]; have:=h.len; omega
  ·have:=h.val p (List.mem_of_mem_drop hp); omega
  ·have:=h.le p (List.mem_of_mem_drop hp); show p.2.tick≤st.tick; omega
 | true =>
  simp only [cond_true]
  generalize Qr:dw s.aZ st=q0 at *
  obtain ⟨it,n,c,b⟩:=q0
  simp only at hq
  subst hq
  obtain ⟨t1,t2,t3,t4,t5,t6⟩:=hb it n c rfl
  obtain ⟨i5,rfl⟩:∃i5:Nat,it=(i5:Int):=⟨it.toNat,by omega⟩
  simp only [Int.toNat_natCast]
  have WX:=MD h lv i5
  have RE:i5<4:=by omega
  have hg:=gY s1 S lv i5 RE
  refine ⟨⟨?_,?_,fun p hp=>?_,fun i f l hl=>?_,fun i f l hl=>?_,?_,fun p hp=>?_⟩,?_,fun p hp=>?_,fun i=>?_,?_,fun p hp=>?_⟩
  ·show s1.bD.drop lv++[(i5:Int)]=_
   rw [h2,si.bD,List.map_append,List.map_drop]; rfl
  ·show ((c7 s1 S lv).set i5 _).length=4
   rw [List.length_set]; exact cd ..
  ·rcases List.mem_append.1 hp with hp | hp
   ·exact si.it p (List.mem_of_mem_drop hp)
   ·simp only [List.mem_singleton] at hp; subst hp; exact RE
  ·have hl:((c7 s1 S lv).set i5 (false,bL (S.drop lv) i5++[⟨st.tick,n,c,n+iC (bL (S.drop lv) i5),c+iD (bL (S.drop lv) i5)⟩]))[i]?=some (f,l):=hl
   rw [oP]
   by_cases hi:i5=i
   ·subst hi
    rw [List.getElem?_set_self (by rw [cd]; exact RE)] at hl
    simp only [Option.some.injEq,Prod.mk.injEq] at hl
    rw [←hl.2]; simp [bL]
   ·rw [List.getElem?_set_ne hi] at hl
    rw [(sZ si h1 lv i f l hl).2.1]; simp [bL,hi]
  ·have hl:((c7 s1 S lv).set i5 (false,bL (S.drop lv) i5++[⟨st.tick,n,c,n+iC (bL (S.drop lv) i5),c+iD (bL (S.drop lv) i5)⟩]))[i]?=some (f,l):=hl
   by_cases hi:i5=i
   ·subst hi
    rw [List.getElem?_set_self (by rw [cd]; exact RE)] at hl
    simp only [Option.some.injEq,Prod.mk.injEq] at hl
    rw [←hl.1]; simp
   ·rw [List.getElem?_set_ne hi] at hl
    exact (sZ si h1 lv i f l hl).2.2
  ·rw [List.length_append,List.length_drop,List.length_singleton]; have:=h.len; omega
  ·rcases List.mem_append.1 hp with hp | hp
   ·exact si.tk p (List.mem_of_mem_drop hp)
   ·simp only [List.mem_singleton] at hp; subst hp; simp only; omega
  ·rw [List.length_append,List.length_drop,List.length_singleton]; have:=h.len; omega
  ·rcases List.mem_append.1 hp with hp | hp
   ·have:=h.val p (List.mem_of_mem_drop hp); omega
   ·simp only [List.mem_singleton] at hp; subst hp; simp only; omega
  ·rw [oP]
   by_cases hi:i5=i
   ·subst hi
    have:bL [(i5,(⟨st.tick,n,c,n+iC (bL (S.drop lv) i5),c+iD (bL (S.drop lv) i5)⟩:Sl))] i5=[⟨st.tick,n,c,n+iC (bL (S.drop lv) i5),c+iD (bL (S.drop lv) i5)⟩]:=by simp [bL]
    rw [this]
    exact Dk (oQ h.chain lv i5) _ rfl rfl
   ·have:bL [(i5,(⟨st.tick,n,c,n+iC (bL (S.drop lv) i5),c+iD (bL (S.drop lv) i5)⟩:Sl))] i=[]:=by simp [bL,hi]
    rw [this,List.append_nil]; exact oQ h.chain lv i
  ·refine List.pairwise_append.2 ⟨h.ord.sublist (List.drop_sublist _ _),List.pairwise_singleton _ _,fun p hp q hq=>?_⟩
   simp only [List.mem_singleton] at hq; subst hq
   have:=h.le p (List.mem_of_mem_drop hp); simp only; omega
  ·rcases List.mem_append.1 hp with hp | hp
   ·have:=h.le p (List.mem_of_mem_drop hp); show p.2.tick≤st.tick; omega
   ·simp only [List.mem_singleton] at hp; subst hp; show st.tick≤st.tick; omega
end Go.Proofs.YtpbdohkbiklflaaGreatDoor
namespace Go.Proofs.YtpbdohkbiklflaaGreatDoor
open Go.TM
variable [cQ]
structure EZ (s:Vs) (S:SS) (L N:Nat):Prop where
 bK:GL s L
 Dl:ED s S N
 O8:1≤s.au∧s.au≤1099511627776
 O9:0≤s.last
 wk:0≤s.work∧s.work≤N * 1000
 vb:∀p∈s.H,p.2≤N * 4398046511104
theorem Ge {a b:HM} (h:Bh (a++b)):Bh a∧Bh b:=by
 have hn:=h.nd
 unfold Nk at hn
 rw [List.map_append] at hn
 have:=List.nodup_append.1 hn
 exact ⟨⟨this.1,fun e he=>h.pos e (List.mem_append_left _ he)⟩,⟨this.2.1,fun e he=>h.pos e (List.mem_append_right _ he)⟩⟩
theorem Gf {a:HM} {k:Ky} {x:Int} {r:HM} (h:Bh (a++(k,x)::r)):bs a k=none:=by
 refine ra fun hm=>?_
 have hn:=h.nd
 unfold Nk at hn
 rw [List.map_append] at hn
 exact (List.nodup_append.1 hn).2.2 k hm k (by simp) rfl
theorem Dm {s:Vs} {S:SS} {L N:Nat} (h:EZ s S L N) (k:Ky):0≤hv s.H k∧hv s.H k≤N * 4398046511104:=by
 have h1:=h.bK.zB k
 refine ⟨h1.1,?_⟩
 by_cases h0:hv s.H k=0
 ·rw [h0]; omega
 ·exact h.vb _ (eI (h1.2.2.1 h0))
theorem Ji {s:Vs} {S:SS} {L N:Nat} (h:EZ s S L N) (hN:N≤100) {st:St} (hm:st.mv.length≤4) {A:HM} (hA:kC s.H [] st.mv=.ok A):Bh A∧A.length≤8∧(∀k,hold A s.H k≤(N+1:Nat) * 4398046511104)∧∀e∈A,e.2≤(N+1:Nat) * 4398046511104:=by
 have h1:=Dj (C:=N * 4398046511104) hA (by omega) ⟨List.nodup_nil,fun e he=>by cases he⟩ (fun k=>Dm h k)
 have h2:=sV hA
 simp only [List.length_nil] at h2
 have h3:∀e∈A,e.2≤(N+1:Nat) * 4398046511104:=fun e he=>by have:=(h1.pos e he).2.2.2; omega
 refine ⟨⟨h1.nd,fun e he=>?_⟩,by omega,fun k=>?_,h3⟩
 ·have:=h1.pos e he
  refine ⟨this.1,this.2.1,this.2.2.1,by omega⟩
 ·unfold hold
  cases hq:bs A k with
  | none=>have:=Dm h k; simp only [Option.getD_none]; omega
  | some x=>have:=h3 _ (eI hq); simpa using this
theorem zb (s:Vs) (S:SS) (st:St) (t:Vs):(cn s S st t).H=t.H∧(cn s S st t).cF=t.cF∧(cn s S st t).rk=t.rk∧(cn s S st t).au=t.au∧(cn s S st t).last=st.tick∧(cn s S st t).aZ=t.aZ∧(cn s S st t).aU=t.aU:=by
 unfold cn I9
 cases (dw s.aZ st).2.2.2 <;> exact ⟨rfl,rfl,rfl,rfl,rfl,rfl,rfl⟩
theorem Dn (s:Vs) (S:SS) (st:St) (t:Vs):(cn s S st t).work=t.work+fE S (st.tick - s.au)+(bif (dw s.aZ st).2.2.2 then 1 else 0):=by
 unfold cn I9
 cases (dw s.aZ st).2.2.2
 ·show t.work+_=t.work+_+0; omega
 ·rfl
theorem Dp (s:Vs) (S:SS) (st:St) (t:Vs) (H:HM):cn s S st { t with H:=H }={ cn s S st t with H:=H }:=by
 unfold cn I9
 cases (dw s.aZ st).2.2.2 <;> rfl
theorem Lj (f h g:Bool) (t:Vs) {H:HM} (hp:H.Perm t.H):nT (vS f h g { t with H:=H }) (vS f h g t):=by
 unfold vS
 refine .cons (.refl _) (.cons (.omap _ _ _ (hp.map _)) (.cons (.refl _) (.cons (.refl _) (.cons (.refl _) (.cons (.refl _) .nil)))))
def Dq (s:Vs) (S:SS) (st:St):Bool:=decide (0<fE S (st.tick - s.au)) || (dw s.aZ st).2.2.2
theorem rh {s:Vs} {S:SS} {L N:Nat} (h:EZ s S L N) (hL:L+8≤500) (hN:N≤99) (st:St) (hm:st.mv.length≤4) :
  match eP s S st with
  | .err e=>bg Tryz.prog 21 [.ptr 0 0,F2 st] 6 (vK false s) 9 [.dv (I e)] (vK false s)
  | .ok A=>bg Tryz.prog 21 [.ptr 0 0,F2 st] 6 (vK false s) 9 [.dv (I 0)] (vS (fm s A) (Dq s S st) true (cn s S st (aF s A))):=by
 have hw:=F5 s S h.Dl.vg st (by omega) (fun k=>by have:=Dm h k; omega) (by have:=h.bK.len; omega) h.O8 h.O9 (by have:=h.wk; omega) (fun j i=>by have:=MD h.Dl j i; omega)
  (fun A it n c hA hq=>Jg (za hA) hq) (fun A hA done k now left hp=>?_)
 ·have Be:∀A,eP s S st=.ok A→kC s.H [] st.mv=.ok A:=by
   intro A hA
   unfold eP at hA
   split at hA
   ·cases hA
   split at hA
   ·cases hA
   ·split at hA
    ·cases hA
    ·rename_i h9 _; rw [h9]; rw [RA.ok.injEq] at hA; rw [hA]
  cases hq:eP s S st with
  | err e =>
   rw [hq] at hw
   exact hw
  | ok A =>
   rw [hq] at hw
   simp only
   refine CU ⟨hw.1,fun w G vs rU cC hr=>?_⟩
   refine Calls.mono (hw.2 w G vs rU cC hr) ?_
   rintro e w' ⟨v,r,k,G',rfl,⟨done,hp,rfl,rfl⟩,hc⟩
   refine ⟨v,_,_,G',rfl,⟨rfl,?_⟩,hc⟩
   obtain ⟨a1,a2,a3,a4⟩:=Ji h (by omega) hm (Be A hq)
   obtain ⟨p1,p2⟩:=Gd h.bK a1 hp (by omega) (by have:=h.wk; omega)
   rw [p2,Dp]
   exact Lj _ _ _ _ (by rw [(zb s S st _).1]; exact p1)
 ·obtain ⟨a1,a2,a3,a4⟩:=Ji h (by omega) hm hA
  have e1:=a1.perm hp
  have AS:=hp.length_eq
  simp only [List.length_append,List.length_cons] at AS
  obtain ⟨e2,e3⟩:=Ge e1
  have ho:=qb h.bK e2 (by omega) (by have:=h.wk; omega)
  have Um:=lp s done
  obtain ⟨q1,⟨i,hi,q2⟩,q3,q4⟩:=e3.pos _ List.mem_cons_self
  obtain ⟨a,it⟩:=k
  simp only at q1 q2 q3 q4
  subst q2
  refine ⟨i,(Dg ho (by omega) (by have:=h.wk; omega) hi q1 ⟨q3,q4⟩).1,?_⟩
  unfold ck
  rw [qc h.bK.nd e2]
  unfold hold
  rw [Gf e1]; rfl
theorem zd {s:Vs} {S:SS} {L N:Nat} (h:EZ s S L N) (hL:L+8≤500) (hN:N≤99) (st:St) (hm:st.mv.length≤4) {A:HM} (hA:eP s S st=.ok A):EZ (cn s S st (aF s A)) (xE s S st) (L+8) (N+1)∧kC s.H [] st.mv=.ok A∧(s.last≤st.tick∧st.tick≤1099511627776)∧Lc s S st+mM s.H A≤s.aU:=by
 unfold eP at hA
 split at hA
 ·cases hA
 rename_i hc
 have hc:(bif decide (st.tick<s.last) then true else decide (1099511627776<st.tick))=false:=by simpa using hc
 have O3:s.last≤st.tick∧st.tick≤1099511627776:=by
  simp only [Bool.cond_true_left,Bool.or_eq_false_iff,decide_eq_false_iff_not] at hc; omega
 split at hA
 ·cases hA
 rename_i A' Qz
 split at hA
 ·cases hA
 rename_i aN
 rw [RA.ok.injEq] at hA
 subst hA
 refine ⟨?_,Qz,O3,by omega⟩
 obtain ⟨a1,a2,a3,a4⟩:=Ji h (by omega) hm Qz
 have ho:=qb h.bK a1 (by omega) (by have:=h.wk; omega)
 have Um:=lp s A'
 obtain ⟨f1,f2,f3,f4,f5,f6,f7⟩:=zb s S st (aF s A')
 have hr:=jm A' s
 have Ok:=h.O9
 refine ⟨⟨by rw [f1]; exact ho.nd,by rw [f1]; exact ho.pos,by rw [f1]; have:=ho.len; omega,by rw [f2]; exact ho.tl,by rw [f3]; exact ho.rl,by rw [f1,f3]; exact ho.rk,by rw [f1,f2]; exact ho.O6⟩,
  Jh h.Dl (by omega) (mN ..) (ji ..) ⟨O3.1,by omega,O3.2⟩ (fun it n c hq=>Jg (za Qz) hq),by rw [f4,hr.2.1]; exact h.O8,by rw [f5]; omega,?_,?_⟩
 ·rw [Dn]
  have RD:fE S (st.tick - s.au)≤N:=Nat.le_trans (by unfold fE; exact (List.takeWhile_sublist _).length_le) h.Dl.len
  have:=h.wk
  cases (dw s.aZ st).2.2.2 <;> simp only [cond_true,cond_false] <;> omega
 ·rw [f1]
  intro p hp
  have h1:=jk ho.nd (k:=p.1) (x:=p.2) hp
  have h2:=qc h.bK.nd a1 p.1
  unfold hv at h2
  rw [h1] at h2
  simp only [Option.getD_some] at h2
  rw [h2]; exact a3 _
end Go.Proofs.YtpbdohkbiklflaaGreatDoor
namespace Go.Proofs.YtpbdohkbiklflaaGreatDoor
open Go.TM
variable [cQ]
end Go.Proofs.YtpbdohkbiklflaaGreatDoor
namespace Go.Proofs.YtpbdohkbiklflaaGreatDoor
open Go.TM
variable [cQ]
theorem vh:eh Tryz.prog 9 [] [FR gV]:=xg (pol:=FT) (fuel:=1000) aW mixed AT (by kernel_rfl)
theorem Dr:eh Tryz.prog 13 [FR gV] [I 0]:=xg (pol:=FT) (fuel:=1000) aW mixed AT (by kernel_rfl)
end Go.Proofs.YtpbdohkbiklflaaGreatDoor
