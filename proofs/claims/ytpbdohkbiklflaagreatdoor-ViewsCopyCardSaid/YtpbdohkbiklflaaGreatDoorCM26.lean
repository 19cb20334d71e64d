import Derived.Test.YtpbdohkbiklflaaGreatDoorCM25
import Derived.Test.YtpbdohkbiklflaaGreatDoorCM19
set_option linter.unusedVariables false
set_option linter.unusedSimpArgs false
set_option linter.unusedSectionVars false
namespace Go.Proofs.YtpbdohkbiklflaaGreatDoor
open Go.TM
theorem u9 (x:Rk):kh x x=false:=by
 unfold kh; simp
theorem Gi {x y z:Rk} (h1:kh x y=true) (h2:kh y z=true):kh x z=true:=by
 unfold kh at *
 simp only [Bool.or_eq_true,Bool.and_eq_true,decide_eq_true_eq,beq_iff_eq] at *
 omega
theorem O9 {x y:Rk} (h1:kh x y=false) (h2:kh y x=false):x=y:=by
 obtain ⟨a,b⟩:=x; obtain ⟨c,d⟩:=y
 unfold kh at *
 simp only [Bool.or_eq_false_iff,Bool.and_eq_false_iff,decide_eq_false_iff_not,beq_eq_false_iff_ne,ne_eq] at *
 have:b=d:=by omega
 subst this
 have:a=c:=by
  rcases h1.2 with h | h
  ·exact absurd rfl h
  ·rcases h2.2 with h' | h'
   ·exact absurd rfl h'
   ·omega
 rw [this]
def gl (l:List Rk):Prop:=l.Pairwise fun x y=>kh x y=true
theorem mu {y x:Rk} {r:List Rk} (h:kh y x=true):pb (y::r) x=pb r x+1:=by
 unfold pb; rw [List.countP_cons,if_pos h]
theorem rR {x:Rk} {l:List Rk} (h:∀z,z∈l→kh z x=false):pb l x=0:=by
 unfold pb; rw [List.countP_eq_zero]; intro z hz; rw [h z hz]; simp
theorem vd {y x:Rk} {r:List Rk} (hs:gl (y::r)) (h:kh y x=false):∀z,z∈y::r→kh z x=false:=by
 intro z hz
 rcases List.mem_cons.1 hz with rfl | hz
 ·exact h
 ·have h1:=(List.pairwise_cons.1 hs).1 z hz
  cases hq:kh z x with
  | false=>rfl
  | true=>rw [Gi h1 hq] at h; cases h
theorem mw:∀{l:List Rk} (_:gl l) (x:Rk),mg l (pb l x) x
 | [],_,x=>⟨Nat.le_refl _,fun i y _ h=>by simp at h,fun i y _ h=>by simp at h⟩
 | y::r,hs,x=>by
  have ih:=mw (l:=r) (List.pairwise_cons.1 hs).2 x
  cases hq:kh y x with
  | true =>
   rw [mu hq]
   refine ⟨by have:=ih.le; simp; omega,fun i z hi hz=>?_,fun i z hi hz=>?_⟩
   ·cases i with
    | zero=>simp at hz; subst hz; exact hq
    | succ i=>exact ih.lo i z (by omega) (by simpa using hz)
   ·cases i with
    | zero=>omega
    | succ i=>exact ih.hi i z (by omega) (by simpa using hz)
  | false =>
   have ha:=vd hs hq
   rw [rR ha]
   exact ⟨by omega,fun i z hi _=>by omega,fun i z _ hz=>ha z (List.mem_of_getElem? hz)⟩
theorem JP (y x:Rk) (r:List Rk) (hs:gl (y::r)):s5 (y::r) x=if kh y x=true then y::s5 r x else x::y::r:=by
 cases hq:kh y x with
 | true=>unfold s5; rw [mu hq]; simp [rK]
 | false=>unfold s5; rw [rR (vd hs hq)]; simp [rK]
theorem JQ (y x:Rk) (r:List Rk) (hs:gl (y::r)):mi (y::r) x=if kh y x=true then y::mi r x else r:=by
 cases hq:kh y x with
 | true=>unfold mi; rw [mu hq]; simp [yx]
 | false=>unfold mi; rw [rR (vd hs hq)]; simp [yx]
theorem DN {l:List Rk} {x y:Rk}:y∈s5 l x ↔ y=x ∨ y∈l:=by
 unfold s5 rK
 rw [List.mem_append,List.mem_cons]
 have:=List.take_append_drop (pb l x) l
 constructor
 ·rintro (h | h | h)
  ·exact .inr (List.mem_of_mem_take h)
  ·exact .inl h
  ·exact .inr (List.mem_of_mem_drop h)
 ·rintro (h | h)
  ·exact .inr (.inl h)
  ·rw [←this,List.mem_append] at h
   rcases h with h | h
   ·exact .inl h
   ·exact .inr (.inr h)
theorem ua:∀{l:List Rk} {x:Rk},gl l→x ∉ l→gl (s5 l x)
 | [],x,_,_=>by unfold s5 rK gl; simp
 | y::r,x,hs,hx=>by
  have hp:=List.pairwise_cons.1 hs
  rw [JP y x r hs]
  have bJ:x ≠ y:=fun h=>hx (by rw [h]; exact List.mem_cons_self)
  cases hq:kh y x with
  | true =>
   rw [if_pos rfl]
   refine List.pairwise_cons.2 ⟨fun z hz=>?_,ua hp.2 fun h=>hx (List.mem_cons_of_mem _ h)⟩
   rcases DN.1 hz with rfl | hz
   ·exact hq
   ·exact hp.1 z hz
  | false =>
   rw [if_neg (by simp)]
   have QI:kh x y=true:=by
    cases gR:kh x y with
    | true=>rfl
    | false=>exact absurd (O9 gR hq) bJ
   refine List.pairwise_cons.2 ⟨fun z hz=>?_,hs⟩
   rcases List.mem_cons.1 hz with rfl | hz
   ·exact QI
   ·exact Gi QI (hp.1 z hz)
theorem s8:∀{l:List Rk} {x:Rk},gl l→x∈l→pb l x<l.length∧gl (mi l x)∧∀y,y∈mi l x ↔ y∈l∧y ≠ x
 | [],x,_,h=>by cases h
 | y::r,x,hs,hx=>by
  have hp:=List.pairwise_cons.1 hs
  have XM:∀z,z∈r→z ≠ y:=fun z hz h=>by have:=hp.1 z hz; rw [h,u9] at this; cases this
  rw [JQ y x r hs]
  cases hq:kh y x with
  | true =>
   have bJ:x ≠ y:=fun h=>by rw [h,u9] at hq; cases hq
   have hxr:x∈r:=by
    rcases List.mem_cons.1 hx with h | h
    ·exact absurd h bJ
    ·exact h
   obtain ⟨h1,h2,h3⟩:=s8 hp.2 hxr
   rw [if_pos rfl,mu hq]
   refine ⟨by simp; exact h1,List.pairwise_cons.2 ⟨fun z hz=>hp.1 z ((h3 z).1 hz).1,h2⟩,fun z=>?_⟩
   rw [List.mem_cons,List.mem_cons,h3 z]
   constructor
   ·rintro (rfl | ⟨a,b⟩)
    ·exact ⟨.inl rfl,fun h=>bJ h.symm⟩
    ·exact ⟨.inr a,b⟩
   ·rintro ⟨rfl | a,b⟩
    ·exact .inl rfl
    ·exact .inr ⟨a,b⟩
  | false =>
   have QI:x=y:=by
    rcases List.mem_cons.1 hx with h | h
    ·exact h
    ·have:=hp.1 x h; rw [this] at hq; cases hq
   subst QI
   rw [if_neg (by simp),rR (vd hs hq)]
   refine ⟨by simp,hp.2,fun z=>?_⟩
   rw [List.mem_cons]
   constructor
   ·intro hz; exact ⟨.inr hz,XM z hz⟩
   ·rintro ⟨rfl | a,b⟩
    ·exact absurd rfl b
    ·exact a
theorem qs {l:List Rk} (h:gl l):l.Nodup:=by
 refine List.Pairwise.imp (fun {a b} tA=>?_) h
 rintro rfl
 rw [u9] at tA; cases tA
theorem DO {l r:List Rk} (hl:gl l) (hr:gl r) (h:∀x,x∈l ↔ x∈r):l=r :=
 List.Perm.eq_of_pairwise (fun a b _ _ h1 h2=>by have:=Gi h1 h2; rw [u9] at this; cases this) hl hr ((List.perm_ext_iff_of_nodup (qs hl) (qs hr)).2 h)
end Go.Proofs.YtpbdohkbiklflaaGreatDoor
namespace Go.Proofs.YtpbdohkbiklflaaGreatDoor
open Go.TM
variable [cG]
def Nk (m:HM):Prop:=(m.map (·.1)).Nodup
theorem dM:∀{m:HM} {k:Ky} {x:Int},bt m k=some x→(k,x)∈m
 | [],_,_,h=>by cases h
 | p::r,k,x,h=>by
  simp only [bt] at h
  split at h
  ·rename_i hk; injection h with h; subst h; subst hk; exact List.mem_cons_self
  ·exact List.mem_cons_of_mem _ (dM h)
theorem fI:∀{m:HM} {k:Ky} {x:Int},Nk m→(k,x)∈m→bt m k=some x
 | [],_,_,_,h=>by cases h
 | p::r,k,x,hn,h=>by
  unfold Nk at hn
  rw [List.map_cons,List.nodup_cons] at hn
  simp only [bt]
  rcases List.mem_cons.1 h with h | h
  ·subst h; simp
  ·rw [if_neg]
   ·exact fI hn.2 h
   ·intro hk
    exact hn.1 (by rw [hk]; exact List.mem_map.2 ⟨_,h,rfl⟩)
theorem lA {m:HM} {k:Ky} (h:k ∉ m.map (·.1)):bt m k=none:=by
 cases hq:bt m k with
 | none=>rfl
 | some x=>exact absurd (List.mem_map.2 ⟨_,dM hq,rfl⟩) h
theorem zH:∀(m:HM) (k:Ky) (x:Int) (j:Ky),j∈(bT m k x).map (·.1) ↔ j=k ∨ j∈m.map (·.1)
 | [],k,x,j=>by simp [bT]
 | p::r,k,x,j=>by
  simp only [bT]
  split
  ·rename_i hk; subst hk; simp
  ·simp only [List.map_cons,List.mem_cons,zH r k x j]
   constructor
   ·rintro (h | h | h)
    ·exact .inr (.inl h)
    ·exact .inl h
    ·exact .inr (.inr h)
   ·rintro (h | h | h)
    ·exact .inr (.inl h)
    ·exact .inl h
    ·exact .inr (.inr h)
theorem Nk.bT:∀{m:HM},Nk m→∀(k:Ky) (x:Int),Nk (bT m k x)
 | [],_,k,x=>by simp [Nk,Proofs.YtpbdohkbiklflaaGreatDoor.bT]
 | p::r,h,k,x=>by
  unfold Nk at h
  rw [List.map_cons,List.nodup_cons] at h
  simp only [Proofs.YtpbdohkbiklflaaGreatDoor.bT]
  split
  ·rename_i hk; subst hk; unfold Nk; rw [List.map_cons,List.nodup_cons]; exact h
  ·rename_i hk
   unfold Nk; rw [List.map_cons,List.nodup_cons]
   refine ⟨fun hm=>?_,Nk.bT (m:=r) h.2 k x⟩
   rcases (zH r k x p.1).1 hm with h1 | h1
   ·exact hk h1
   ·exact h.1 h1
theorem xt:∀(m:HM) (k:Ky),(iY m k).Sublist m
 | [],_=>List.Sublist.refl _
 | p::r,k=>by
  simp only [iY]
  split
  ·exact List.sublist_cons_self _ _
  ·exact (xt r k).cons_cons _
theorem Nk.iY {m:HM} (h:Nk m) (k:Ky):Nk (iY m k):=h.sublist ((xt m k).map _)
theorem zI:∀{m:HM} (_:Nk m) (k j:Ky),bt (iY m k) j=if k=j then none else bt m j
 | [],_,k,j=>by simp [iY,bt]
 | p::r,h,k,j=>by
  unfold Nk at h
  rw [List.map_cons,List.nodup_cons] at h
  simp only [iY]
  split
  ·rename_i hk
   subst hk
   by_cases hj:p.1=j
   ·subst hj; rw [if_pos rfl]; exact lA h.1
   ·rw [if_neg hj]; simp only [bt]; rw [if_neg hj]
  ·rename_i hk
   simp only [bt]
   by_cases hj:p.1=j
   ·rw [if_pos hj,if_pos hj,if_neg (fun h9=>hk (hj.trans h9.symm))]
   ·rw [if_neg hj,if_neg hj]; exact zI (m:=r) h.2 k j
theorem Pb {m r:HM} (hm:Nk m) (hr:Nk r) (h:∀k,bt m k=bt r k):m.Perm r:=by
 have nd:∀{m:HM},Nk m→m.Nodup:=fun {m} hm=>by
  unfold Nk at hm
  exact (List.pairwise_map.1 hm).imp fun {a b} tA he=>tA (by rw [he])
 refine (List.perm_ext_iff_of_nodup (nd hm) (nd hr)).2 fun p=>⟨fun hp=>?_,fun hp=>?_⟩
 ·have:=fI hm (k:=p.1) (x:=p.2) hp; rw [h] at this; exact dM this
 ·have:=fI hr (k:=p.1) (x:=p.2) hp; rw [←h] at this; exact dM this
def iO:HM→Int→Int
 | [],_=>0
 | p::r,i=>(if p.1.2=i then p.2 else 0)+iO r i
theorem vf (p:Ky × Int) (r:HM) (k:Ky):hv (p::r) k=if p.1=k then p.2 else hv r k:=by
 unfold hv; simp only [bt]; split <;> rfl
theorem zJ:∀(m:HM) (k:Ky) (x i:Int),iO (bT m k x) i=iO m i+(if k.2=i then x - hv m k else 0)
 | [],k,x,i=>by simp [bT,iO,hv,bt]
 | p::r,k,x,i=>by
  simp only [bT,vf]
  split
  ·rename_i hk; subst hk; simp only [iO]; split <;> omega
  ·simp only [iO,zJ r k x i]; omega
theorem zK:∀(m:HM) (k:Ky) (i:Int),iO (iY m k) i=iO m i+(if k.2=i then - hv m k else 0)
 | [],k,i=>by simp [iY,iO,hv,bt]
 | p::r,k,i=>by
  simp only [iY,vf]
  split
  ·rename_i hk; subst hk; simp only [iO]; split <;> omega
  ·simp only [iO,zK r k i]; omega
theorem xu {C:Int}:∀{m:HM} (_:∀p∈m,0≤p.2∧p.2≤C) (_:0≤C) (i:Int),0≤iO m i∧iO m i≤m.length * C
 | [],_,_,i=>by simp [iO]
 | p::r,h,hC,i=>by
  have h1:=h p List.mem_cons_self
  have h2:=xu (fun q hq=>h q (List.mem_cons_of_mem _ hq)) hC i
  simp only [iO,List.length_cons]
  have h3:((r.length+1:Nat):Int) * C=r.length * C+C:=by rw [Int.natCast_add,Int.add_mul]; omega
  rw [h3]
  split <;> omega
theorem JR {m r:HM} (h:m.Perm r) (i:Int):iO m i=iO r i:=by
 induction h with
 | nil=>rfl
 | cons x _ ih=>simp only [iO,ih]
 | swap x y l=>simp only [iO]; omega
 | trans _ _ a b=>exact a.trans b
def df (H:HM) (k:Ky) (now:Int):HM:=if now=0 then iY H k else bT H k now
theorem lB {H:HM} (h:Nk H) (k:Ky) (now:Int) (j:Ky):bt (df H k now) j=if k=j then (if now=0 then none else some now) else bt H j:=by
 unfold df
 by_cases h0:now=0
 ·rw [if_pos h0,if_pos h0,zI h]
 ·rw [if_neg h0,if_neg h0,zD]
theorem Nk.df {H:HM} (h:Nk H) (k:Ky) (now:Int):Nk (df H k now):=by
 unfold Proofs.YtpbdohkbiklflaaGreatDoor.df; split
 ·exact h.iY k
 ·exact h.bT k now
theorem JS (H:HM) (k:Ky) (now i:Int):iO (df H k now) i=iO H i+(if k.2=i then now - hv H k else 0):=by
 unfold df; split
 ·rename_i h0; subst h0; rw [zK]; split <;> omega
 ·rw [zJ]
theorem Pc {H:HM} (h:Nk H) (k:Ky) (now:Int) (j:Ky):hv (df H k now) j=if k=j then now else hv H j:=by
 unfold hv; rw [lB h]
 by_cases hk:k=j
 ·rw [if_pos hk,if_pos hk]; by_cases h0:now=0
  ·rw [if_pos h0,h0]; rfl
  ·rw [if_neg h0]; rfl
 ·rw [if_neg hk,if_neg hk]
theorem MR (H:HM) (k:Ky) (now:Int):(df H k now).length≤H.length+1:=by
 unfold df; split
 ·have:=(xt H k).length_le; omega
 ·exact xp ..
def Pd (H:HM) (i:Nat) (q:Bool × List Rk):Prop:=(q.1=true→q.2=[])∧gl q.2∧∀x:Rk,x∈q.2 ↔ x.1<1048576∧bt H (x.1,(i:Int))=some x.2
structure Io (s:Vs) (L:Nat):Prop where
 nd:Nk s.H
 pos:∀p∈s.H,1≤p.1.1∧(∃i:Nat,i<4∧p.1.2=(i:Int))∧1≤p.2∧p.2≤1125899906842624
 len:s.H.length≤L
 tl:s.cI.length=4
 rl:s.rk.length=4
 rk:∀i:Nat,i<4→Pd s.H i (s.rk.getD i (true,[]))
 SH:∀i:Nat,i<4→s.cI.getD i 0=iO s.H i
theorem Io.Ah {s:Vs} {L:Nat} (h:Io s L) (k:Ky):0≤hv s.H k∧hv s.H k≤1125899906842624∧(hv s.H k ≠ 0→bt s.H k=some (hv s.H k))∧(hv s.H k=0→bt s.H k=none):=by
 unfold hv
 cases hq:bt s.H k with
 | none=>simp
 | some x =>
  have:=h.pos _ (dM hq)
  simp only [Option.getD_some]
  simp only at this
  refine ⟨by omega,by omega,fun _=>trivial,fun h0=>?_⟩
  omega
theorem Ip {α β:Type} [BEq β] [LawfulBEq β] (f:α→β):∀{l:List α} {m:List β} (_:l.Nodup) (_:∀x∈l,f x∈m) (_:∀x∈l,∀y∈l,f x=f y→x=y),l.length≤m.length
 | [],m,_,_,_=>by simp
 | x::l,m,hn,hm,hi=>by
  rw [List.nodup_cons] at hn
  have h1:=hm x List.mem_cons_self
  have h2:=Ip f (l:=l) (m:=m.erase (f x)) hn.2 (fun y hy=>by
   refine (List.mem_erase_of_ne fun he=>?_).2 (hm y (List.mem_cons_of_mem _ hy))
   have:=hi y (List.mem_cons_of_mem _ hy) x List.mem_cons_self he
   subst this; exact hn.1 hy) (fun a ha b hb=>hi a (List.mem_cons_of_mem _ ha) b (List.mem_cons_of_mem _ hb))
  rw [List.length_erase_of_mem h1] at h2
  have:0<m.length:=List.length_pos_of_mem h1
  simp only [List.length_cons]; omega
theorem BC {H:HM} {i:Nat} {q:Bool × List Rk} (h:Pd H i q):q.2.length≤H.length :=
 Ip (fun x:Rk=>(((x.1,(i:Int)):Ky),x.2)) (qs h.2.1) (fun x hx=>dM ((h.2.2 x).1 hx).2) (fun x _ y _ he=>by
  simp only [Prod.mk.injEq] at he
  exact Prod.ext he.1.1 he.2)
def SI (l:List Rk) (a before now:Int):List Rk :=
 let l1:=if before ≠ 0 then mi l (a,before) else l
 if now ≠ 0 then s5 l1 (a,now) else l1
theorem MS {s:Vs} {L:Nat} (h:Io s L) {i:Nat} (hi:i<4) {a:Int} (ha:a<1048576):∀l1,l1=(if hv s.H (a,(i:Int)) ≠ 0 then mi (s.rk.getD i (true,[])).2 (a,hv s.H (a,(i:Int))) else (s.rk.getD i (true,[])).2)→gl l1∧∀x,x∈l1 ↔ x∈(s.rk.getD i (true,[])).2∧x.1 ≠ a:=by
 intro l1 FN
 obtain ⟨_,hs,hm⟩:=h.rk i hi
 have hh:=h.Ah (a,(i:Int))
 by_cases hb:hv s.H (a,(i:Int)) ≠ 0
 ·rw [if_pos hb] at FN
  have yl:(a,hv s.H (a,(i:Int)))∈(s.rk.getD i (true,[])).2:=(hm _).2 ⟨ha,hh.2.2.1 hb⟩
  obtain ⟨_,h2,h3⟩:=s8 hs yl
  rw [FN]
  refine ⟨h2,fun x=>?_⟩
  rw [h3 x]
  constructor
  ·rintro ⟨h4,h5⟩
   refine ⟨h4,fun h6=>h5 ?_⟩
   have h7:=((hm x).1 h4).2
   rw [h6,hh.2.2.1 hb] at h7
   injection h7 with h7
   exact Prod.ext h6 h7.symm
  ·rintro ⟨h4,h5⟩
   exact ⟨h4,fun h6=>h5 (by rw [h6])⟩
 ·rw [if_neg hb] at FN
  have hb:hv s.H (a,(i:Int))=0:=by simpa using hb
  rw [FN]
  refine ⟨hs,fun x=>⟨fun h4=>⟨h4,fun h6=>?_⟩,fun h4=>h4.1⟩⟩
  have h7:=((hm x).1 h4).2
  rw [h6,hh.2.2.2 hb] at h7
  cases h7
theorem vg (s:Vs) (a:Int) (i:Nat) (now:Int) (bJ:hv s.H (a,(i:Int)) ≠ now):cQ s (a,(i:Int)) i now={ s with work:=s.work+1,cI:=s.cI.set i (s.cI.getD i 0+(now - hv s.H (a,(i:Int)))),H:=df s.H (a,(i:Int)) now,rk:=if 1048576≤a then s.rk else s.rk.set i (false,SI (s.rk.getD i (true,[])).2 a (hv s.H (a,(i:Int))) now) }:=by
 unfold cQ df
 rw [if_neg bJ]
 by_cases ha:1048576≤a
 ·simp only [if_pos ha]
 ·simp only [if_neg ha]
  by_cases hn:now=0
  ·subst hn
   simp only [ne_eq,not_true_eq_false,if_false,bJ,not_false_eq_true,if_true,SI]
  ·simp only [ne_eq,hn,not_false_eq_true,if_true,SI]
theorem BD {s:Vs} {L:Nat} (h:Io s L) (hL:L≤500) (hw:0≤s.work∧s.work≤2305843009213693952) {a:Int} {i:Nat} {now:Int} (hi:i<4) (ha:1≤a) (hn:0≤now∧now≤1125899906842624) :
  MA s (a,(i:Int)) i now∧Io (cQ s (a,(i:Int)) i now) (L+1):=by
 have hh:=h.Ah (a,(i:Int))
 obtain ⟨hf,hs,hm⟩:=h.rk i hi
 have hb:=xu (C:=1125899906842624) (fun p hp=>by have:=h.pos p hp; omega) (by omega) (i:Int) (m:=s.H)
 have hlen:=h.len
 have cy:iO s.H i≤562949953421312000:=by
  have:(s.H.length:Int) * 1125899906842624≤500 * 1125899906842624:=by omega
  omega
 constructor
 ·refine ⟨rfl,by rw [h.tl]; exact hi,by rw [h.rl]; exact hi,by omega,by omega,?_,by omega,?_,hf,fun Tz cL=>?_,fun Tz yN l1 FN=>?_⟩
  ·rw [h.SH i hi]; omega
  ·have:=BC (h.rk i hi); omega
  ·exact ⟨(s8 hs ((hm (a,hv s.H (a,(i:Int)))).2 ⟨Tz,hh.2.2.1 cL⟩)).1,mw hs _⟩
  ·exact mw (MS h hi Tz l1 FN).1 _
 ·by_cases bJ:hv s.H (a,(i:Int))=now
  ·have:cQ s (a,(i:Int)) i now=s:=by unfold cQ; rw [if_pos bJ]
   rw [this]
   exact { h with len:=by omega }
  ·rw [vg s a i now bJ]
   have eQ:∀p∈df s.H (a,(i:Int)) now,1≤p.1.1∧(∃i:Nat,i<4∧p.1.2=(i:Int))∧1≤p.2∧p.2≤1125899906842624:=by
    intro p hp
    have hg:=fI (h.nd.df _ _) (k:=p.1) (x:=p.2) hp
    rw [lB h.nd] at hg
    split at hg
    ·rename_i hk
     split at hg
     ·cases hg
     ·injection hg with hg
      rw [←hk,←hg]
      exact ⟨ha,⟨i,hi,rfl⟩,by omega,by omega⟩
    ·exact h.pos p (dM hg)
   have JE:∀j:Nat,j<4→Pd (df s.H (a,(i:Int)) now) j ((if 1048576≤a then s.rk else s.rk.set i (false,SI (s.rk.getD i (true,[])).2 a (hv s.H (a,(i:Int))) now)).getD j (true,[])):=by
    intro j hj
    by_cases EF:j=i
    ·subst EF
     by_cases Tz:1048576≤a
     ·rw [if_pos Tz]
      refine ⟨hf,hs,fun x=>?_⟩
      rw [hm x,lB h.nd]
      constructor
      ·rintro ⟨h1,h2⟩
       exact ⟨h1,by rw [if_neg (fun he=>by simp only [Prod.mk.injEq] at he; omega)]; exact h2⟩
      ·rintro ⟨h1,h2⟩
       rw [if_neg (fun he=>by simp only [Prod.mk.injEq] at he; omega)] at h2
       exact ⟨h1,h2⟩
     ·rw [if_neg Tz,List.getD_eq_getElem?_getD,List.getElem?_set_self (by rw [h.rl]; exact hi)]
      obtain ⟨q1,q2⟩:=MS h hi (a:=a) (by omega) _ rfl
      refine ⟨fun h9=>by simp at h9,?_,fun x=>?_⟩
      ·simp only [Option.getD_some,SI]
       split
       ·exact ua q1 fun h9=>((q2 _).1 h9).2 rfl
       ·exact q1
      ·simp only [Option.getD_some,SI]
       rw [lB h.nd]
       by_cases NW:now=0
       ·subst NW
        simp only [ne_eq,not_true_eq_false,if_false]
        rw [q2 x,hm x]
        constructor
        ·rintro ⟨⟨h1,h2⟩,h3⟩
         exact ⟨h1,by rw [if_neg (fun he=>by simp only [Prod.mk.injEq] at he; omega)]; exact h2⟩
        ·rintro ⟨h1,h2⟩
         by_cases he:a=x.1
         ·rw [if_pos (by rw [he])] at h2; simp at h2
         ·rw [if_neg (fun zL=>by simp only [Prod.mk.injEq] at zL; exact he zL.1)] at h2
          exact ⟨⟨h1,h2⟩,fun h4=>he h4.symm⟩
       ·rw [if_pos NW,DN,q2 x,hm x,if_neg NW]
        constructor
        ·rintro (h1 | ⟨⟨h1,h2⟩,h3⟩)
         ·subst h1; exact ⟨by simp only; omega,by simp⟩
         ·exact ⟨h1,by rw [if_neg (fun he=>by simp only [Prod.mk.injEq] at he; omega)]; exact h2⟩
        ·rintro ⟨h1,h2⟩
         by_cases he:a=x.1
         ·rw [if_pos (by rw [he])] at h2
          injection h2 with h2
          exact .inl (Prod.ext he.symm h2.symm)
         ·rw [if_neg (fun zL=>by simp only [Prod.mk.injEq] at zL; exact he zL.1)] at h2
          exact .inr ⟨⟨h1,h2⟩,fun h4=>he h4.symm⟩
    ·have hq:(if 1048576≤a then s.rk else s.rk.set i (false,SI (s.rk.getD i (true,[])).2 a (hv s.H (a,(i:Int))) now)).getD j (true,[])=s.rk.getD j (true,[]):=by
      split
      ·rfl
      ·rw [List.getD_eq_getElem?_getD,List.getElem?_set_ne (fun h9=>EF h9.symm),←List.getD_eq_getElem?_getD]
     rw [hq]
     obtain ⟨r1,r2,r3⟩:=h.rk j hj
     refine ⟨r1,r2,fun x=>?_⟩
     rw [r3 x,lB h.nd,if_neg (fun he=>by simp only [Prod.mk.injEq] at he; omega)]
   refine ⟨h.nd.df _ _,eQ,by have:=MR s.H (a,(i:Int)) now; show (df s.H (a,(i:Int)) now).length≤_; omega,by simp only [List.length_set]; exact h.tl,?_,JE,fun j hj=>?_⟩
   ·simp only; split
    ·exact h.rl
    ·rw [List.length_set]; exact h.rl
   ·simp only
    rw [JS,List.getD_eq_getElem?_getD]
    by_cases EF:i=j
    ·subst EF
     rw [List.getElem?_set_self (by rw [h.tl]; exact hi),if_pos rfl,←h.SH i hi]; rfl
    ·rw [List.getElem?_set_ne EF,if_neg (by omega),←List.getD_eq_getElem?_getD,h.SH j hj]; omega
end Go.Proofs.YtpbdohkbiklflaaGreatDoor
namespace Go.Proofs.YtpbdohkbiklflaaGreatDoor
open Go.TM
variable [cG]
theorem BE (s:Vs) (a:Int) (i:Nat) (now:Int):(cQ s (a,(i:Int)) i now).H=if hv s.H (a,(i:Int))=now then s.H else df s.H (a,(i:Int)) now:=by
 by_cases h:hv s.H (a,(i:Int))=now
 ·unfold cQ; rw [if_pos h,if_pos h]
 ·rw [vg s a i now h,if_neg h]
theorem vh {s:Vs} (h:Nk s.H) (a:Int) (i:Nat) (now:Int) (j:Ky):hv (cQ s (a,(i:Int)) i now).H j=if (a,(i:Int))=j then now else hv s.H j:=by
 rw [BE]
 by_cases h0:hv s.H (a,(i:Int))=now
 ·rw [if_pos h0]; split
  ·rename_i hk; rw [←hk]; exact h0
  ·rfl
 ·rw [if_neg h0,Pc h]
structure Cf (es:HM):Prop where
 nd:Nk es
 pos:∀e∈es,1≤e.1.1∧(∃i:Nat,i<4∧e.1.2=(i:Int))∧0≤e.2∧e.2≤1125899906842624
theorem Cf.cons {e:Ky × Int} {r:HM} (h:Cf (e::r)):Cf r∧e.1 ∉ r.map (·.1):=by
 have:=h.nd
 unfold Nk at this
 rw [List.map_cons,List.nodup_cons] at this
 exact ⟨⟨this.2,fun x hx=>h.pos x (List.mem_cons_of_mem _ hx)⟩,this.1⟩
theorem Cf.perm {a b:HM} (h:Cf a) (hp:b.Perm a):Cf b :=
 ⟨((hp.map (fun p:Ky × Int=>p.1)).nodup_iff).2 (show (a.map fun p=>p.1).Nodup from h.nd),fun e he=>h.pos e (hp.mem_iff.1 he)⟩
theorem ij (s:Vs) (e:Ky × Int) (r:HM):aL s (e::r)=aL (cQ s e.1 e.1.2.toNat e.2) r:=rfl
theorem oX:∀{es:HM} {s:Vs} {L:Nat},Io s L→Cf es→L+es.length≤500→(0≤s.work∧s.work+es.length≤2305843009213693952)→Io (aL s es) (L+es.length)
 | [],s,L,h,_,_,_=>h
 | e::r,s,L,h,he,hL,hw=>by
  obtain ⟨p1,⟨i,hi,p2⟩,p3,p4⟩:=he.pos e List.mem_cons_self
  obtain ⟨⟨a,it⟩,now⟩:=e
  simp only at p1 p2 p3 p4
  subst p2
  simp only [List.length_cons] at hL hw
  have h1:=(BD h (by omega) (by omega) hi p1 ⟨p3,p4⟩).2
  rw [ij]
  simp only [Int.toNat_natCast]
  have h2:=oV s (a,(i:Int)) i now
  have h3:=oX h1 he.cons.1 (by omega) (by omega)
  rw [show L+((((a,(i:Int)),now):Ky × Int)::r).length=L+1+r.length by simp only [List.length_cons]; omega]
  exact h3
theorem my:∀{es:HM} {s:Vs},Nk s.H→Cf es→∀j,hv (aL s es).H j=hold es s.H j
 | [],s,_,_,j=>rfl
 | e::r,s,h,he,j=>by
  obtain ⟨p1,⟨i,hi,p2⟩,p3,p4⟩:=he.pos e List.mem_cons_self
  obtain ⟨⟨a,it⟩,now⟩:=e
  simp only at p1 p2 p3 p4
  subst p2
  rw [ij]
  simp only [Int.toNat_natCast]
  have hn:Nk (cQ s (a,(i:Int)) i now).H:=by
   rw [BE]; split
   ·exact h
   ·exact h.df _ _
  rw [my hn he.cons.1 j]
  unfold hold
  rw [vh h]
  simp only [bt]
  by_cases hk:(a,(i:Int))=j
  ·rw [if_pos hk,if_pos hk]
   have:=lA (hk ▸ he.cons.2)
   rw [this]; rfl
  ·rw [if_neg hk,if_neg hk]
theorem Gj {s:Vs} (h:Nk s.H) (a:Int) (i:Nat) (now:Int) {k:Ky} (hk:(a,(i:Int)) ≠ k) (x:Int):cA (cQ s (a,(i:Int)) i now) k x=cA s k x:=by
 unfold cA; rw [vh h,if_neg hk]
def QJ (s:Vs) (j:Nat):Bool:=(s.rk.getD j (true,[])).1
theorem Pe {s:Vs} {L:Nat} (h:Io s L) (a:Int) (i:Nat) (now:Int) (hi:i<4) (j:Nat):QJ (cQ s (a,(i:Int)) i now) j=(QJ s j && !(cA s (a,(i:Int)) now && decide ((i:Int)=j))):=by
 unfold QJ cA
 by_cases h0:hv s.H (a,(i:Int))=now
 ·have:cQ s (a,(i:Int)) i now=s:=by unfold cQ; rw [if_pos h0]
  rw [this]; simp [h0]
 ·rw [vg s a i now h0]
  by_cases ha:1048576≤a
  ·simp [ha]
  ·simp only [if_neg ha]
   rw [List.getD_eq_getElem?_getD]
   by_cases EF:i=j
   ·subst EF
    rw [List.getElem?_set_self (by rw [h.rl]; exact hi)]
    simp only [Option.getD_some]
    rw [decide_eq_false h0,decide_eq_false ha]; simp
   ·rw [List.getElem?_set_ne EF,←List.getD_eq_getElem?_getD,decide_eq_false (show ¬ (i:Int)=j by omega)]; simp
theorem BF:∀{es:HM} {s:Vs} {L:Nat},Io s L→Cf es→L+es.length≤500→(0≤s.work∧s.work+es.length≤2305843009213693952)→∀j:Nat,QJ (aL s es) j=(QJ s j && !(es.any fun e=>cA s e.1 e.2 && decide (e.1.2=(j:Int))))
 | [],s,L,_,_,_,_,j=>by simp [aL]
 | e::r,s,L,h,he,hL,hw,j=>by
  obtain ⟨p1,⟨i,hi,p2⟩,p3,p4⟩:=he.pos e List.mem_cons_self
  obtain ⟨⟨a,it⟩,now⟩:=e
  simp only at p1 p2 p3 p4
  subst p2
  simp only [List.length_cons] at hL hw
  have h1:=(BD h (by omega) (by omega) hi p1 ⟨p3,p4⟩).2
  have h2:=oV s (a,(i:Int)) i now
  rw [ij]
  simp only [Int.toNat_natCast]
  rw [BF h1 he.cons.1 (by omega) (by omega) j,Pe h a i now hi j]
  simp only [List.any_cons]
  have:(r.any fun e=>cA (cQ s (a,(i:Int)) i now) e.1 e.2 && decide (e.1.2=(j:Int)))=r.any fun e=>cA s e.1 e.2 && decide (e.1.2=(j:Int)):=by
   have hc:=he.cons.2
   clear hw hL h1 h2 he
   induction r with
   | nil=>rfl
   | cons q r ih =>
    simp only [List.map_cons,List.mem_cons,not_or] at hc
    simp only [List.any_cons]
    rw [ih hc.2,Gj h.nd a i now hc.1]
  rw [this]
  cases QJ s j <;> simp [Bool.not_or]
theorem JT {s:Vs} (a:Int) (i:Nat) (now:Int):(cQ s (a,(i:Int)) i now).work=s.work+(if hv s.H (a,(i:Int))=now then 0 else 1):=by
 by_cases h0:hv s.H (a,(i:Int))=now
 ·have:cQ s (a,(i:Int)) i now=s:=by unfold cQ; rw [if_pos h0]
  rw [this,if_pos h0]; omega
 ·rw [vg s a i now h0,if_neg h0]
def JU (H:HM) (e:Ky × Int):Bool:=!decide (hv H e.1=e.2)
theorem oY:∀{es:HM} {s:Vs},Nk s.H→Cf es→(aL s es).work=s.work+(es.countP (JU s.H):Nat)
 | [],s,_,_=>by simp [aL]
 | e::r,s,h,he=>by
  obtain ⟨p1,⟨i,hi,p2⟩,p3,p4⟩:=he.pos e List.mem_cons_self
  obtain ⟨⟨a,it⟩,now⟩:=e
  simp only at p1 p2 p3 p4
  subst p2
  rw [ij]
  simp only [Int.toNat_natCast]
  have hn:Nk (cQ s (a,(i:Int)) i now).H:=by
   rw [BE]; split
   ·exact h
   ·exact h.df _ _
  rw [oY hn he.cons.1,JT]
  have:r.countP (JU (cQ s (a,(i:Int)) i now).H)=r.countP (JU s.H):=by
   have hc:=he.cons.2
   clear he
   induction r with
   | nil=>rfl
   | cons q r ih =>
    simp only [List.map_cons,List.mem_cons,not_or] at hc
    rw [List.countP_cons,List.countP_cons,ih hc.2]
    have:JU (cQ s (a,(i:Int)) i now).H q=JU s.H q:=by
     unfold JU; rw [vh h,if_neg hc.1]
    rw [this]
  rw [this,List.countP_cons]
  have hc:JU s.H ((a,(i:Int)),now)=!decide (hv s.H (a,(i:Int))=now):=rfl
  rw [hc]
  by_cases h0:hv s.H (a,(i:Int))=now
  ·simp [h0]
  ·simp [h0]; omega
theorem JV (s:Vs) (k:Ky) (i:Nat) (now:Int):(cQ s k i now).coin=s.coin∧(cQ s k i now).ab=s.ab∧(cQ s k i now).aE=s.aE∧(cQ s k i now).last=s.last:=by
 unfold cQ; split
 ·exact ⟨rfl,rfl,rfl,rfl⟩
 ·simp only; split <;> exact ⟨rfl,rfl,rfl,rfl⟩
theorem j7:∀(es:HM) (s:Vs),(aL s es).coin=s.coin∧(aL s es).ab=s.ab∧(aL s es).aE=s.aE∧(aL s es).last=s.last
 | [],s=>⟨rfl,rfl,rfl,rfl⟩
 | e::r,s=>by
  rw [ij]
  have h1:=j7 r (cQ s e.1 e.1.2.toNat e.2)
  have h2:=JV s e.1 e.1.2.toNat e.2
  exact ⟨h1.1.trans h2.1,h1.2.1.trans h2.2.1,h1.2.2.1.trans h2.2.2.1,h1.2.2.2.trans h2.2.2.2⟩
theorem BG {s:Vs} {L:Nat} (h:Io s L) (k:Ky):bt s.H k=if hv s.H k=0 then none else some (hv s.H k):=by
 have:=h.Ah k
 split
 ·rename_i h0; exact this.2.2.2 h0
 ·rename_i h0; exact this.2.2.1 h0
theorem JW {a b:HM} (ha:Cf a) (hp:b.Perm a) (H:HM) (k:Ky):hold b H k=hold a H k:=by
 have hb:=ha.perm hp
 have:bt b k=bt a k:=by
  cases hq:bt a k with
  | none =>
   cases gR:bt b k with
   | none=>rfl
   | some x=>have:=fI ha.nd (hp.mem_iff.1 (dM gR)); rw [hq] at this; cases this
  | some x=>exact fI hb.nd (hp.mem_iff.2 (dM hq))
 unfold hold; rw [this]
theorem QK {α:Type} {l r:List α} (d:α) (hl:l.length=4) (hr:r.length=4) (h:∀i:Nat,i<4→l.getD i d=r.getD i d):l=r:=by
 apply List.ext_getElem (by omega)
 intro i h1 h2
 have:=h i (by omega)
 rw [List.getD_eq_getElem?_getD,List.getD_eq_getElem?_getD,List.getElem?_eq_getElem h1,List.getElem?_eq_getElem h2] at this
 exact this
theorem JX {es done:HM} {s:Vs} {L:Nat} (h:Io s L) (he:Cf es) (hp:done.Perm es) (hL:L+es.length≤500) (hw:0≤s.work∧s.work+es.length≤2305843009213693952) :
  (aL s done).H.Perm (aL s es).H∧aL s done={ aL s es with H:=(aL s done).H }:=by
 have hd:=he.perm hp
 have Dk:=hp.length_eq
 have o1:=oX h he hL hw
 have o2:=oX h hd (by omega) (by omega)
 have IL:∀k,hv (aL s done).H k=hv (aL s es).H k:=fun k=>by rw [my h.nd hd,my h.nd he,JW he hp]
 have VS:∀k,bt (aL s done).H k=bt (aL s es).H k:=fun k=>by rw [BG o2,BG o1,IL]
 have pf:(aL s done).H.Perm (aL s es).H:=Pb o2.nd o1.nd VS
 refine ⟨pf,?_⟩
 have r1:=j7 done s
 have r2:=j7 es s
 have e1:(aL s done).coin=(aL s es).coin:=r1.1.trans r2.1.symm
 have e2:(aL s done).ab=(aL s es).ab:=r1.2.1.trans r2.2.1.symm
 have e3:(aL s done).aE=(aL s es).aE:=r1.2.2.1.trans r2.2.2.1.symm
 have e4:(aL s done).last=(aL s es).last:=r1.2.2.2.trans r2.2.2.2.symm
 have e5:(aL s done).work=(aL s es).work:=by rw [oY h.nd hd,oY h.nd he,hp.countP_eq]
 have e6:(aL s done).cI=(aL s es).cI:=QK 0 o2.tl o1.tl fun i hi=>by rw [o2.SH i hi,o1.SH i hi,JR pf]
 have e7:(aL s done).rk=(aL s es).rk:=QK (true,[]) o2.rl o1.rl fun i hi=>by
  have f1:QJ (aL s done) i=QJ (aL s es) i:=by rw [BF h hd (by omega) (by omega),BF h he hL hw,hp.any_eq]
  have g1:=o2.rk i hi
  have g2:=o1.rk i hi
  refine Prod.ext f1 (DO g1.2.1 g2.2.1 fun x=>?_)
  rw [g1.2.2 x,g2.2.2 x,VS]
 have e8:(aL s done).sl=(aL s es).sl:=by rw [nZ,nZ]
 have e9:(aL s done).bH=(aL s es).bH:=by rw [j6,j6]
 generalize aL s done=t1 at *
 generalize aL s es=t2 at *
 obtain ⟨a1,a2,a3,a4,a5,a6,a7,a8,a9,a10⟩:=t1
 obtain ⟨b1,b2,b3,b4,b5,b6,b7,b8,b9,b10⟩:=t2
 simp only at e1 e2 e3 e4 e5 e6 e7 e8 e9
 subst e1 e2 e3 e4 e5 e6 e7 e8 e9
 rfl
end Go.Proofs.YtpbdohkbiklflaaGreatDoor
namespace Go.Proofs.YtpbdohkbiklflaaGreatDoor
open Go.TM
variable [cG]
theorem s9 {H:HM}:∀{l:List Mv} {m A:HM},kR H m l=.ok A→∀v∈l,jf v=false
 | [],_,_,_,v,hv=>by cases hv
 | w::r,m,A,h,v,hv=>by
  simp only [kR] at h
  split at h
  ·cases h
  rename_i hb
  have hb:jf w=false:=by simpa using hb
  rcases List.mem_cons.1 hv with rfl | hv
  ·exact hb
  ·split at h
   ·split at h
    ·cases h
    ·exact s9 h v hv
   ·exact s9 h v hv
theorem vj {n:Int} (h:rM n=true):0≤n∧n≤1073741824:=by
 unfold rM at h; simpa using h
structure yz (m:HM) (C:Int):Prop where
 nd:Nk m
 pos:∀e∈m,1≤e.1.1∧(∃i:Nat,i<4∧e.1.2=(i:Int))∧0≤e.2∧e.2≤C
theorem DP:∀{m:HM} {k:Ky} {x:Int} {p:Ky × Int},p∈bT m k x→p=(k,x) ∨ p∈m
 | [],k,x,p,h=>by simp [bT] at h; exact .inl h
 | q::r,k,x,p,h=>by
  simp only [bT] at h
  split at h
  ·rcases List.mem_cons.1 h with h | h
   ·exact .inl h
   ·exact .inr (List.mem_cons_of_mem _ h)
  ·rcases List.mem_cons.1 h with h | h
   ·exact .inr (h ▸ List.mem_cons_self)
   ·rcases DP h with h | h
    ·exact .inl h
    ·exact .inr (List.mem_cons_of_mem _ h)
theorem yz.put {m:HM} {C D:Int} (h:yz m C) (hCD:C≤D) {a it x:Int} (ha:1≤a) (jR:0≤it∧it<4) (hx:0≤x∧x≤D):yz (bT m (a,it) x) D:=by
 refine ⟨h.nd.bT _ _,fun e he=>?_⟩
 rcases DP he with rfl | he
 ·exact ⟨ha,⟨it.toNat,by omega,by simp only; omega⟩,hx⟩
 ·have:=h.pos e he; exact ⟨this.1,this.2.1,this.2.2.1,by omega⟩
theorem yz.mono {m:HM} {C D:Int} (h:yz m C) (hCD:C≤D):yz m D:=⟨h.nd,fun e he=>by have:=h.pos e he; exact ⟨this.1,this.2.1,this.2.2.1,by omega⟩⟩
theorem Gk {H:HM}:∀{l:List Mv} {m A:HM} {C:Int},kR H m l=.ok A→0≤C→yz m C→(∀k,0≤hold m H k∧hold m H k≤C)→yz A (C+l.length * 1099511627776)
 | [],m,A,C,h,_,ho,_=>by simp only [kR] at h; injection h with h; subst h; simpa using ho
 | v::r,m,A,C,h,hC,ho,hb=>by
  simp only [kR] at h
  split at h
  ·cases h
  rename_i IP
  obtain ⟨b1,b2,b3,b4,b5,b6,b7⟩:=pB (v:=v) (by simpa using IP)
  have b5:=vj b5
  have b6:=vj b6
  have fin:∀m1:HM,yz m1 C→(∀k,0≤hold m1 H k∧hold m1 H k≤C)→yz (if v.t ≠ 0 then bT m1 (v.t,v.it) (hold m1 H (v.t,v.it)+v.n) else m1) (C+1099511627776)∧∀k,0≤hold (if v.t ≠ 0 then bT m1 (v.t,v.it) (hold m1 H (v.t,v.it)+v.n) else m1) H k∧hold (if v.t ≠ 0 then bT m1 (v.t,v.it) (hold m1 H (v.t,v.it)+v.n) else m1) H k≤C+1099511627776:=by
   intro m1 h1 h2
   have h3:=h2 (v.t,v.it)
   split
   ·exact ⟨h1.put (by omega) (by omega) ⟨b1,b2⟩ ⟨by omega,by omega⟩,Bv h2 ⟨by omega,by omega⟩ (by omega)⟩
   ·exact ⟨h1.mono (by omega),fun k=>by have:=h2 k; omega⟩
  have hlen:C+((v::r).length:Int) * 1099511627776=C+1099511627776+r.length * 1099511627776:=by simp only [List.length_cons]; omega
  rw [hlen]
  split at h
  ·split at h
   ·cases h
   rename_i hs
   have h3:=hb (v.f,v.it)
   obtain ⟨f1,f2⟩:=fin (bT m (v.f,v.it) (hold m H (v.f,v.it) - v.n)) (ho.put (Int.le_refl C) (a:=v.f) (by omega) ⟨b1,b2⟩ (x:=hold m H (v.f,v.it) - v.n) ⟨by omega,by omega⟩) (Bv hb ⟨by omega,by omega⟩ (Int.le_refl C))
   exact Gk h (by omega) f1 f2
  ·obtain ⟨f1,f2⟩:=fin _ ho hb
   exact Gk h (by omega) f1 f2
theorem xw {coin:Int} {st:St} {it n c:Int} (hb:∀v∈st.mv,jf v=false) (h:bh coin st=(it,n,c,true)):0≤it∧it<4∧1≤n∧n≤1099511627776∧1≤c∧c≤1099511627776:=by
 unfold bh at h
 split at h
 ·simp at h
 ·split at h
  ·rename_i a b hm
   have h1:=pB (hb a (by rw [hm]; simp))
   have h2:=pB (hb b (by rw [hm]; simp))
   split at h <;> (simp only [lu,Prod.mk.injEq] at h; obtain ⟨rfl,rfl,rfl,_⟩:=h; omega)
  ·simp at h
def ku (l:List Sl):Prop:=∀(j:Nat) (x y:Sl),l[j]?=some x→l[j+1]?=some y→y.bS=x.bS+y.n∧y.cH=x.cH+y.c
structure H6 (s:Vs) (S:SS) (N:Nat):Prop where
 n3:oS s S
 len:S.length≤N
 val:∀p∈S,1≤p.2.n∧p.2.n≤1099511627776∧1≤p.2.c∧p.2.c≤1099511627776∧p.2.n≤p.2.bS∧p.2.bS≤N * 1099511627776∧p.2.c≤p.2.cH∧p.2.cH≤N * 1099511627776
 chain:∀i,ku (bI S i)
 ord:S.Pairwise fun p q=>p.2.tick≤q.2.tick
 le:∀p∈S,p.2.tick≤s.last
def n5 (s:Vs) (S:SS) (st:St):SS :=
 let lv:=dC S (st.tick - s.ab)
 let q:=bh s.coin st
 S.drop lv++(bif q.2.2.2 then [(q.1.toNat,⟨st.tick,q.2.1,q.2.2.1,q.2.1+js (bI (S.drop lv) q.1.toNat),q.2.2.1+jt (bI (S.drop lv) q.1.toNat)⟩)] else [])
theorem BH {S:SS} {i:Nat} {x:Sl} (h:x∈bI S i):(i,x)∈S:=by
 unfold bI at h
 obtain ⟨p,h1,h2⟩:=List.mem_map.1 h
 obtain ⟨h3,h4⟩:=List.mem_filter.1 h1
 obtain ⟨j,y⟩:=p
 simp only [beq_iff_eq] at h4 h2
 subst h4 h2; exact h3
theorem QL {s:Vs} {S:SS} {N:Nat} (h:H6 s S N) (j i:Nat):0≤js (bI (S.drop j) i)∧js (bI (S.drop j) i)≤N * 1099511627776∧0≤jt (bI (S.drop j) i)∧jt (bI (S.drop j) i)≤N * 1099511627776:=by
 unfold js jt
 rw [List.getD_eq_getElem?_getD]
 cases hq:(bI (S.drop j) i)[(bI (S.drop j) i).length - 1]? with
 | none=>simp only [Option.getD_none]; omega
 | some x =>
  have:=h.val _ (List.mem_of_mem_drop (BH (List.mem_of_getElem? hq)))
  simp only [Option.getD_some]
  simp only at this
  omega
theorem qu (S T:SS) (i:Nat):bI (S++T) i=bI S i++bI T i:=by
 unfold bI; rw [List.filter_append,List.map_append]
theorem qv {S:SS} (h:∀i,ku (bI S i)) (j i:Nat):ku (bI (S.drop j) i):=by
 have:bI S i=bI (S.take j) i++bI (S.drop j) i:=by rw [←qu,List.take_append_drop]
 intro k x y hx hy
 refine h i ((bI (S.take j) i).length+k) x y ?_ ?_
 ·rw [this,List.getElem?_append_right (by omega),Nat.add_sub_cancel_left]; exact hx
 ·rw [this,Nat.add_assoc,List.getElem?_append_right (by omega),Nat.add_sub_cancel_left]; exact hy
theorem Gl {l:List Sl} (h:ku l) (x:Sl) (h1:x.bS=x.n+js l) (h2:x.cH=x.c+jt l):ku (l++[x]):=by
 intro j a b ha hb
 by_cases hj:j+1<l.length
 ·rw [List.getElem?_append_left (by omega)] at ha hb
  exact h j a b ha hb
 ·have aK:=(List.getElem?_eq_some_iff.1 hb).1
  simp only [List.length_append,List.length_singleton] at aK
  have uA:j+1=l.length:=by omega
  rw [List.getElem?_append_right (by omega),uA,Nat.sub_self] at hb
  rw [List.getElem?_append_left (by omega)] at ha
  simp only [List.getElem?_cons_zero,Option.some.injEq] at hb
  subst hb
  have fh:js l=a.bS:=by unfold js; rw [List.getD_eq_getElem?_getD,show l.length - 1=j by omega,ha]; rfl
  have ph:jt l=a.cH:=by unfold jt; rw [List.getD_eq_getElem?_getD,show l.length - 1=j by omega,ha]; rfl
  omega
theorem vk {s s1:Vs} {S:SS} (h:oS s S) (gX:s1.sl=s.sl) (lv:Nat):∀(i:Nat) (f:Bool) (l:List Sl),(dz s1 S lv)[i]?=some (f,l)→i<4∧l=bI (S.drop lv) i∧(f=true→l=[]):=by
 intro i f l hq
 have hi:i<4:=by have:=(List.getElem?_eq_some_iff.1 hq).1; rw [ct] at this; exact this
 rw [iN _ _ _ _ hi] at hq
 simp only [Option.some.injEq,Prod.mk.injEq] at hq
 refine ⟨hi,hq.2.symm,fun hf=>?_⟩
 have hl:i<s.sl.length:=by rw [h.Kp]; exact hi
 have hg:=List.getElem?_eq_getElem hl
 have h1:=hq.1
 rw [gX,List.getD_eq_getElem?_getD,hg] at h1
 generalize s.sl[i]=q at hg h1
 obtain ⟨f0,l0⟩:=q
 have h2:f0=true:=h1.trans hf
 rw [←hq.2]
 refine mr ?_ lv
 rw [←h.sl _ _ _ hg]
 exact h.sf _ _ _ hg h2
theorem MT {s s1:Vs} {S:SS} {N:Nat} (h:H6 s S N) (hN:N<1000) (h1:s1.sl=s.sl) (h2:s1.bH=s.bH) {st:St} (ht:s.last≤st.tick∧0≤st.tick∧st.tick≤1099511627776)
  (hb:∀it n c,bh s.coin st=(it,n,c,true)→0≤it∧it<4∧1≤n∧n≤1099511627776∧1≤c∧c≤1099511627776):H6 (cN s S st s1) (n5 s S st) (N+1):=by
 unfold cN n5
 simp only
 generalize Wg:dC S (st.tick - s.ab)=lv
 have oT:=h.n3
 cases hq:(bh s.coin st).2.2.2 with
 | false =>
  simp only [cond_false,List.append_nil]
  refine ⟨⟨?_,ct ..,fun p hp=>oT.it p (List.mem_of_mem_drop hp),fun i f l hl=>(vk oT h1 lv i f l hl).2.1,fun i f l hl=>(vk oT h1 lv i f l hl).2.2,?_,fun p hp=>oT.tk p (List.mem_of_mem_drop hp)⟩,?_,fun p hp=>?_,fun i=>qv h.chain lv i,h.ord.sublist (List.drop_sublist _ _),fun p hp=>?_⟩
  ·show s1.bH.drop lv=_
   rw [h2,oT.bH,List.map_drop]
  ·rw [List.length_drop]; have:=h.len; omega
  ·rw [List.length_drop]; have:=h.len; omega
  ·have:=h.val p (List.mem_of_mem_drop hp); omega
  ·have:=h.le p (List.mem_of_mem_drop hp); show p.2.tick≤st.tick; omega
 | true =>
  simp only [cond_true]
  generalize EP:bh s.coin st=q0 at *
  obtain ⟨it,n,c,b⟩:=q0
  simp only at hq
  subst hq
  obtain ⟨t1,t2,t3,t4,t5,t6⟩:=hb it n c rfl
  obtain ⟨i5,rfl⟩:∃i5:Nat,it=(i5:Int):=⟨it.toNat,by omega⟩
  simp only [Int.toNat_natCast]
  have Wh:=QL h lv i5
  have Wi:i5<4:=by omega
  have hg:=iN s1 S lv i5 Wi
  refine ⟨⟨?_,?_,fun p hp=>?_,fun i f l hl=>?_,fun i f l hl=>?_,?_,fun p hp=>?_⟩,?_,fun p hp=>?_,fun i=>?_,?_,fun p hp=>?_⟩
  ·show s1.bH.drop lv++[(i5:Int)]=_
   rw [h2,oT.bH,List.map_append,List.map_drop]; rfl
  ·show ((dz s1 S lv).set i5 _).length=4
   rw [List.length_set]; exact ct ..
  ·rcases List.mem_append.1 hp with hp | hp
   ·exact oT.it p (List.mem_of_mem_drop hp)
   ·simp only [List.mem_singleton] at hp; subst hp; exact Wi
  ·have hl:((dz s1 S lv).set i5 (false,bI (S.drop lv) i5++[⟨st.tick,n,c,n+js (bI (S.drop lv) i5),c+jt (bI (S.drop lv) i5)⟩]))[i]?=some (f,l):=hl
   rw [qu]
   by_cases hi:i5=i
   ·subst hi
    rw [List.getElem?_set_self (by rw [ct]; exact Wi)] at hl
    simp only [Option.some.injEq,Prod.mk.injEq] at hl
    rw [←hl.2]; simp [bI]
   ·rw [List.getElem?_set_ne hi] at hl
    rw [(vk oT h1 lv i f l hl).2.1]; simp [bI,hi]
  ·have hl:((dz s1 S lv).set i5 (false,bI (S.drop lv) i5++[⟨st.tick,n,c,n+js (bI (S.drop lv) i5),c+jt (bI (S.drop lv) i5)⟩]))[i]?=some (f,l):=hl
   by_cases hi:i5=i
   ·subst hi
    rw [List.getElem?_set_self (by rw [ct]; exact Wi)] at hl
    simp only [Option.some.injEq,Prod.mk.injEq] at hl
    rw [←hl.1]; simp
   ·rw [List.getElem?_set_ne hi] at hl
    exact (vk oT h1 lv i f l hl).2.2
  ·rw [List.length_append,List.length_drop,List.length_singleton]; have:=h.len; omega
  ·rcases List.mem_append.1 hp with hp | hp
   ·exact oT.tk p (List.mem_of_mem_drop hp)
   ·simp only [List.mem_singleton] at hp; subst hp; simp only; omega
  ·rw [List.length_append,List.length_drop,List.length_singleton]; have:=h.len; omega
  ·rcases List.mem_append.1 hp with hp | hp
   ·have:=h.val p (List.mem_of_mem_drop hp); omega
   ·simp only [List.mem_singleton] at hp; subst hp; simp only; omega
  ·rw [qu]
   by_cases hi:i5=i
   ·subst hi
    have:bI [(i5,(⟨st.tick,n,c,n+js (bI (S.drop lv) i5),c+jt (bI (S.drop lv) i5)⟩:Sl))] i5=[⟨st.tick,n,c,n+js (bI (S.drop lv) i5),c+jt (bI (S.drop lv) i5)⟩]:=by simp [bI]
    rw [this]
    exact Gl (qv h.chain lv i5) _ rfl rfl
   ·have:bI [(i5,(⟨st.tick,n,c,n+js (bI (S.drop lv) i5),c+jt (bI (S.drop lv) i5)⟩:Sl))] i=[]:=by simp [bI,hi]
    rw [this,List.append_nil]; exact qv h.chain lv i
  ·refine List.pairwise_append.2 ⟨h.ord.sublist (List.drop_sublist _ _),List.pairwise_singleton _ _,fun p hp q hq=>?_⟩
   simp only [List.mem_singleton] at hq; subst hq
   have:=h.le p (List.mem_of_mem_drop hp); simp only; omega
  ·rcases List.mem_append.1 hp with hp | hp
   ·have:=h.le p (List.mem_of_mem_drop hp); show p.2.tick≤st.tick; omega
   ·simp only [List.mem_singleton] at hp; subst hp; show st.tick≤st.tick; omega
end Go.Proofs.YtpbdohkbiklflaaGreatDoor
namespace Go.Proofs.YtpbdohkbiklflaaGreatDoor
open Go.TM
variable [cG]
structure Kq (s:Vs) (S:SS) (L N:Nat):Prop where
 bK:Io s L
 xx:H6 s S N
 Pf:1≤s.ab∧s.ab≤1099511627776
 Pg:0≤s.last
 wk:0≤s.work∧s.work≤N * 1000
 vb:∀p∈s.H,p.2≤N * 4398046511104
theorem JY {a b:HM} (h:Cf (a++b)):Cf a∧Cf b:=by
 have hn:=h.nd
 unfold Nk at hn
 rw [List.map_append] at hn
 have:=List.nodup_append.1 hn
 exact ⟨⟨this.1,fun e he=>h.pos e (List.mem_append_left _ he)⟩,⟨this.2.1,fun e he=>h.pos e (List.mem_append_right _ he)⟩⟩
theorem JZ {a:HM} {k:Ky} {x:Int} {r:HM} (h:Cf (a++(k,x)::r)):bt a k=none:=by
 refine lA fun hm=>?_
 have hn:=h.nd
 unfold Nk at hn
 rw [List.map_append] at hn
 exact (List.nodup_append.1 hn).2.2 k hm k (by simp) rfl
theorem Gm {s:Vs} {S:SS} {L N:Nat} (h:Kq s S L N) (k:Ky):0≤hv s.H k∧hv s.H k≤N * 4398046511104:=by
 have h1:=h.bK.Ah k
 refine ⟨h1.1,?_⟩
 by_cases h0:hv s.H k=0
 ·rw [h0]; omega
 ·exact h.vb _ (dM (h1.2.2.1 h0))
theorem DQ {s:Vs} {S:SS} {L N:Nat} (h:Kq s S L N) (hN:N≤100) {st:St} (hm:st.mv.length≤4) {A:HM} (hA:kR s.H [] st.mv=.ok A):Cf A∧A.length≤8∧(∀k,hold A s.H k≤(N+1:Nat) * 4398046511104)∧∀e∈A,e.2≤(N+1:Nat) * 4398046511104:=by
 have h1:=Gk (C:=N * 4398046511104) hA (by omega) ⟨List.nodup_nil,fun e he=>by cases he⟩ (fun k=>Gm h k)
 have h2:=u7 hA
 simp only [List.length_nil] at h2
 have h3:∀e∈A,e.2≤(N+1:Nat) * 4398046511104:=fun e he=>by have:=(h1.pos e he).2.2.2; omega
 refine ⟨⟨h1.nd,fun e he=>?_⟩,by omega,fun k=>?_,h3⟩
 ·have:=h1.pos e he
  refine ⟨this.1,this.2.1,this.2.2.1,by omega⟩
 ·unfold hold
  cases hq:bt A k with
  | none=>have:=Gm h k; simp only [Option.getD_none]; omega
  | some x=>have:=h3 _ (dM hq); simpa using this
theorem BI (s:Vs) (S:SS) (st:St) (t:Vs):(cN s S st t).H=t.H∧(cN s S st t).cI=t.cI∧(cN s S st t).rk=t.rk∧(cN s S st t).ab=t.ab∧(cN s S st t).last=st.tick∧(cN s S st t).coin=t.coin∧(cN s S st t).aE=t.aE:=by
 unfold cN O7
 cases (bh s.coin st).2.2.2 <;> exact ⟨rfl,rfl,rfl,rfl,rfl,rfl,rfl⟩
theorem xy (s:Vs) (S:SS) (st:St) (t:Vs):(cN s S st t).work=t.work+dC S (st.tick - s.ab)+(bif (bh s.coin st).2.2.2 then 1 else 0):=by
 unfold cN O7
 cases (bh s.coin st).2.2.2
 ·show t.work+_=t.work+_+0; omega
 ·rfl
theorem Gn (s:Vs) (S:SS) (st:St) (t:Vs) (H:HM):cN s S st { t with H:=H }={ cN s S st t with H:=H }:=by
 unfold cN O7
 cases (bh s.coin st).2.2.2 <;> rfl
theorem Ph (f h g:Bool) (t:Vs) {H:HM} (hp:H.Perm t.H):px (x9 f h g { t with H:=H }) (x9 f h g t):=by
 unfold x9
 refine .cons (.refl _) (.cons (.omap _ _ _ (hp.map _)) (.cons (.refl _) (.cons (.refl _) (.cons (.refl _) (.cons (.refl _) .nil)))))
def Gp (s:Vs) (S:SS) (st:St):Bool:=decide (0<dC S (st.tick - s.ab)) || (bh s.coin st).2.2.2
theorem ta {s:Vs} {S:SS} {L N:Nat} (h:Kq s S L N) (hL:L+8≤500) (hN:N≤99) (st:St) (hm:st.mv.length≤4) :
  match ez s S st with
  | .err e=>aO Tryz.prog 21 [.ptr 0 0,zC st] 6 (vK false s) 9 [.dv (I e)] (vK false s)
  | .ok A=>aO Tryz.prog 21 [.ptr 0 0,zC st] 6 (vK false s) 9 [.dv (I 0)] (x9 (fU s A) (Gp s S st) true (cN s S st (aL s A))):=by
 have hw:=JO s S h.xx.n3 st (by omega) (fun k=>by have:=Gm h k; omega) (by have:=h.bK.len; omega) h.Pf h.Pg (by have:=h.wk; omega) (fun j i=>by have:=QL h.xx j i; omega)
  (fun A it n c hA hq=>xw (s9 hA) hq) (fun A hA done k now left hp=>?_)
 ·have r9:∀A,ez s S st=.ok A→kR s.H [] st.mv=.ok A:=by
   intro A hA
   unfold ez at hA
   split at hA
   ·cases hA
   split at hA
   ·cases hA
   ·split at hA
    ·cases hA
    ·rename_i h9 _; rw [h9]; rw [We.ok.injEq] at hA; rw [hA]
  cases hq:ez s S st with
  | err e =>
   rw [hq] at hw
   exact hw
  | ok A =>
   rw [hq] at hw
   simp only
   refine FO ⟨hw.1,fun w G vs oH ck hr=>?_⟩
   refine Calls.mono (hw.2 w G vs oH ck hr) ?_
   rintro e w' ⟨v,r,k,G',rfl,⟨done,hp,rfl,rfl⟩,hc⟩
   refine ⟨v,_,_,G',rfl,⟨rfl,?_⟩,hc⟩
   obtain ⟨a1,a2,a3,a4⟩:=DQ h (by omega) hm (r9 A hq)
   obtain ⟨p1,p2⟩:=JX h.bK a1 hp (by omega) (by have:=h.wk; omega)
   rw [p2,Gn]
   exact Ph _ _ _ _ (by rw [(BI s S st _).1]; exact p1)
 ·obtain ⟨a1,a2,a3,a4⟩:=DQ h (by omega) hm hA
  have e1:=a1.perm hp
  have Dk:=hp.length_eq
  simp only [List.length_append,List.length_cons] at Dk
  obtain ⟨e2,e3⟩:=JY e1
  have ho:=oX h.bK e2 (by omega) (by have:=h.wk; omega)
  have SG:=mq s done
  obtain ⟨q1,⟨i,hi,q2⟩,q3,q4⟩:=e3.pos _ List.mem_cons_self
  obtain ⟨a,it⟩:=k
  simp only at q1 q2 q3 q4
  subst q2
  refine ⟨i,(BD ho (by omega) (by have:=h.wk; omega) hi q1 ⟨q3,q4⟩).1,?_⟩
  unfold cA
  rw [my h.bK.nd e2]
  unfold hold
  rw [JZ e1]; rfl
theorem BJ {s:Vs} {S:SS} {L N:Nat} (h:Kq s S L N) (hL:L+8≤500) (hN:N≤99) (st:St) (hm:st.mv.length≤4) {A:HM} (hA:ez s S st=.ok A):Kq (cN s S st (aL s A)) (n5 s S st) (L+8) (N+1)∧kR s.H [] st.mv=.ok A∧(s.last≤st.tick∧st.tick≤1099511627776)∧MN s S st+ja s.H A≤s.aE:=by
 unfold ez at hA
 split at hA
 ·cases hA
 rename_i hc
 have hc:(bif decide (st.tick<s.last) then true else decide (1099511627776<st.tick))=false:=by simpa using hc
 have JG:s.last≤st.tick∧st.tick≤1099511627776:=by
  simp only [Bool.cond_true_left,Bool.or_eq_false_iff,decide_eq_false_iff_not] at hc; omega
 split at hA
 ·cases hA
 rename_i A' XO
 split at hA
 ·cases hA
 rename_i aU
 rw [We.ok.injEq] at hA
 subst hA
 refine ⟨?_,XO,JG,by omega⟩
 obtain ⟨a1,a2,a3,a4⟩:=DQ h (by omega) hm XO
 have ho:=oX h.bK a1 (by omega) (by have:=h.wk; omega)
 have SG:=mq s A'
 obtain ⟨f1,f2,f3,f4,f5,f6,f7⟩:=BI s S st (aL s A')
 have hr:=j7 A' s
 have Pj:=h.Pg
 refine ⟨⟨by rw [f1]; exact ho.nd,by rw [f1]; exact ho.pos,by rw [f1]; have:=ho.len; omega,by rw [f2]; exact ho.tl,by rw [f3]; exact ho.rl,by rw [f1,f3]; exact ho.rk,by rw [f1,f2]; exact ho.SH⟩,
  MT h.xx (by omega) (nZ ..) (j6 ..) ⟨JG.1,by omega,JG.2⟩ (fun it n c hq=>xw (s9 XO) hq),by rw [f4,hr.2.1]; exact h.Pf,by rw [f5]; omega,?_,?_⟩
 ·rw [xy]
  have Wg:dC S (st.tick - s.ab)≤N:=Nat.le_trans (by unfold dC; exact (List.takeWhile_sublist _).length_le) h.xx.len
  have:=h.wk
  cases (bh s.coin st).2.2.2 <;> simp only [cond_true,cond_false] <;> omega
 ·rw [f1]
  intro p hp
  have h1:=fI ho.nd (k:=p.1) (x:=p.2) hp
  have h2:=my h.bK.nd a1 p.1
  unfold hv at h2
  rw [h1] at h2
  simp only [Option.getD_some] at h2
  rw [h2]; exact a3 _
end Go.Proofs.YtpbdohkbiklflaaGreatDoor
