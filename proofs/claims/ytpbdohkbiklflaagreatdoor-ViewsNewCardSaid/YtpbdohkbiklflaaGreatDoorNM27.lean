import Derived.Test.YtpbdohkbiklflaaGreatDoorNM26
import Derived.Test.YtpbdohkbiklflaaGreatDoorNM19
import Derived.Test.YtpbdohkbiklflaaGreatDoorNM24
set_option linter.unusedVariables false
set_option linter.unusedSimpArgs false
set_option linter.unusedSectionVars false
namespace Go.Proofs.YtpbdohkbiklflaaGreatDoor
open Go.TM
theorem bef_irr (x:Rk):bef x x=false:=by
 unfold bef; simp
theorem bef_tr {x y z:Rk} (h1:bef x y=true) (h2:bef y z=true):bef x z=true:=by
 unfold bef at *
 simp only [Bool.or_eq_true,Bool.and_eq_true,decide_eq_true_eq,beq_iff_eq] at *
 omega
theorem bef_tot {x y:Rk} (h1:bef x y=false) (h2:bef y x=false):x=y:=by
 obtain ⟨a,b⟩:=x; obtain ⟨c,d⟩:=y
 unfold bef at *
 simp only [Bool.or_eq_false_iff,Bool.and_eq_false_iff,decide_eq_false_iff_not,beq_eq_false_iff_ne,ne_eq] at *
 have:b=d:=by omega
 subst this
 have:a=c:=by
  rcases h1.2 with h | h
  ·exact absurd rfl h
  ·rcases h2.2 with h' | h'
   ·exact absurd rfl h'
   ·omega
 rw [this]
def SortR (l:List Rk):Prop:=l.Pairwise fun x y=>bef x y=true
theorem pos_cons_t {y x:Rk} {r:List Rk} (h:bef y x=true):posR (y::r) x=posR r x+1:=by
 unfold posR; rw [List.countP_cons,if_pos h]
theorem pos_zero {x:Rk} {l:List Rk} (h:∀z,z∈l→bef z x=false):posR l x=0:=by
 unfold posR; rw [List.countP_eq_zero]; intro z hz; rw [h z hz]; simp
theorem after_f {y x:Rk} {r:List Rk} (hs:SortR (y::r)) (h:bef y x=false):∀z,z∈y::r→bef z x=false:=by
 intro z hz
 rcases List.mem_cons.1 hz with rfl | hz
 ·exact h
 ·have h1:=(List.pairwise_cons.1 hs).1 z hz
  cases hq:bef z x with
  | false=>rfl
  | true=>rw [bef_tr h1 hq] at h; cases h
theorem place_sorted:∀{l:List Rk} (_:SortR l) (x:Rk),PlaceAt l (posR l x) x
 | [],_,x=>⟨Nat.le_refl _,fun i y _ h=>by simp at h,fun i y _ h=>by simp at h⟩
 | y::r,hs,x=>by
  have ih:=place_sorted (l:=r) (List.pairwise_cons.1 hs).2 x
  cases hq:bef y x with
  | true =>
   rw [pos_cons_t hq]
   refine ⟨by have:=ih.le; simp; omega,fun i z hi hz=>?_,fun i z hi hz=>?_⟩
   ·cases i with
    | zero=>simp at hz; subst hz; exact hq
    | succ i=>exact ih.lo i z (by omega) (by simpa using hz)
   ·cases i with
    | zero=>omega
    | succ i=>exact ih.hi i z (by omega) (by simpa using hz)
  | false =>
   have ha:=after_f hs hq
   rw [pos_zero ha]
   exact ⟨by omega,fun i z hi _=>by omega,fun i z _ hz=>ha z (List.mem_of_getElem? hz)⟩
theorem insL_cons (y x:Rk) (r:List Rk) (hs:SortR (y::r)):insL (y::r) x=if bef y x=true then y::insL r x else x::y::r:=by
 cases hq:bef y x with
 | true=>unfold insL; rw [pos_cons_t hq]; simp [insR]
 | false=>unfold insL; rw [pos_zero (after_f hs hq)]; simp [insR]
theorem remL_cons (y x:Rk) (r:List Rk) (hs:SortR (y::r)):remL (y::r) x=if bef y x=true then y::remL r x else r:=by
 cases hq:bef y x with
 | true=>unfold remL; rw [pos_cons_t hq]; simp [delR]
 | false=>unfold remL; rw [pos_zero (after_f hs hq)]; simp [delR]
theorem insL_mem {l:List Rk} {x y:Rk}:y∈insL l x ↔ y=x ∨ y∈l:=by
 unfold insL insR
 rw [List.mem_append,List.mem_cons]
 have:=List.take_append_drop (posR l x) l
 constructor
 ·rintro (h | h | h)
  ·exact .inr (List.mem_of_mem_take h)
  ·exact .inl h
  ·exact .inr (List.mem_of_mem_drop h)
 ·rintro (h | h)
  ·exact .inr (.inl h)
  ·rw [←this,List.mem_append] at h
   rcases h with h | h
   ·exact .inl h
   ·exact .inr (.inr h)
theorem insL_sorted:∀{l:List Rk} {x:Rk},SortR l→x ∉ l→SortR (insL l x)
 | [],x,_,_=>by unfold insL insR SortR; simp
 | y::r,x,hs,hx=>by
  have hp:=List.pairwise_cons.1 hs
  rw [insL_cons y x r hs]
  have hne:x ≠ y:=fun h=>hx (by rw [h]; exact List.mem_cons_self)
  cases hq:bef y x with
  | true =>
   rw [if_pos rfl]
   refine List.pairwise_cons.2 ⟨fun z hz=>?_,insL_sorted hp.2 fun h=>hx (List.mem_cons_of_mem _ h)⟩
   rcases insL_mem.1 hz with rfl | hz
   ·exact hq
   ·exact hp.1 z hz
  | false =>
   rw [if_neg (by simp)]
   have hxy:bef x y=true:=by
    cases hq2:bef x y with
    | true=>rfl
    | false=>exact absurd (bef_tot hq2 hq) hne
   refine List.pairwise_cons.2 ⟨fun z hz=>?_,hs⟩
   rcases List.mem_cons.1 hz with rfl | hz
   ·exact hxy
   ·exact bef_tr hxy (hp.1 z hz)
theorem remL_spec:∀{l:List Rk} {x:Rk},SortR l→x∈l→posR l x<l.length∧SortR (remL l x)∧∀y,y∈remL l x ↔ y∈l∧y ≠ x
 | [],x,_,h=>by cases h
 | y::r,x,hs,hx=>by
  have hp:=List.pairwise_cons.1 hs
  have hirr:∀z,z∈r→z ≠ y:=fun z hz h=>by have:=hp.1 z hz; rw [h,bef_irr] at this; cases this
  rw [remL_cons y x r hs]
  cases hq:bef y x with
  | true =>
   have hne:x ≠ y:=fun h=>by rw [h,bef_irr] at hq; cases hq
   have hxr:x∈r:=by
    rcases List.mem_cons.1 hx with h | h
    ·exact absurd h hne
    ·exact h
   obtain ⟨h1,h2,h3⟩:=remL_spec hp.2 hxr
   rw [if_pos rfl,pos_cons_t hq]
   refine ⟨by simp; exact h1,List.pairwise_cons.2 ⟨fun z hz=>hp.1 z ((h3 z).1 hz).1,h2⟩,fun z=>?_⟩
   rw [List.mem_cons,List.mem_cons,h3 z]
   constructor
   ·rintro (rfl | ⟨a,b⟩)
    ·exact ⟨.inl rfl,fun h=>hne h.symm⟩
    ·exact ⟨.inr a,b⟩
   ·rintro ⟨rfl | a,b⟩
    ·exact .inl rfl
    ·exact .inr ⟨a,b⟩
  | false =>
   have hxy:x=y:=by
    rcases List.mem_cons.1 hx with h | h
    ·exact h
    ·have:=hp.1 x h; rw [this] at hq; cases hq
   subst hxy
   rw [if_neg (by simp),pos_zero (after_f hs hq)]
   refine ⟨by simp,hp.2,fun z=>?_⟩
   rw [List.mem_cons]
   constructor
   ·intro hz; exact ⟨.inr hz,hirr z hz⟩
   ·rintro ⟨rfl | a,b⟩
    ·exact absurd rfl b
    ·exact a
theorem sort_nodup {l:List Rk} (h:SortR l):l.Nodup:=by
 refine List.Pairwise.imp (fun {a b} hab=>?_) h
 rintro rfl
 rw [bef_irr] at hab; cases hab
theorem sort_ext {l r:List Rk} (hl:SortR l) (hr:SortR r) (h:∀x,x∈l ↔ x∈r):l=r :=
 List.Perm.eq_of_pairwise (fun a b _ _ h1 h2=>by have:=bef_tr h1 h2; rw [bef_irr] at this; cases this) hl hr ((List.perm_ext_iff_of_nodup (sort_nodup hl) (sort_nodup hr)).2 h)
end Go.Proofs.YtpbdohkbiklflaaGreatDoor
namespace Go.Proofs.YtpbdohkbiklflaaGreatDoor
open Go.TM
variable [KObj]
def Nk (m:HM):Prop:=(m.map (·.1)).Nodup
theorem hget_mem:∀{m:HM} {k:Ky} {x:Int},hget m k=some x→(k,x)∈m
 | [],_,_,h=>by cases h
 | p::r,k,x,h=>by
  simp only [hget] at h
  split at h
  ·rename_i hk; injection h with h; subst h; subst hk; exact List.mem_cons_self
  ·exact List.mem_cons_of_mem _ (hget_mem h)
theorem mem_hget:∀{m:HM} {k:Ky} {x:Int},Nk m→(k,x)∈m→hget m k=some x
 | [],_,_,_,h=>by cases h
 | p::r,k,x,hn,h=>by
  unfold Nk at hn
  rw [List.map_cons,List.nodup_cons] at hn
  simp only [hget]
  rcases List.mem_cons.1 h with h | h
  ·subst h; simp
  ·rw [if_neg]
   ·exact mem_hget hn.2 h
   ·intro hk
    exact hn.1 (by rw [hk]; exact List.mem_map.2 ⟨_,h,rfl⟩)
theorem hget_none {m:HM} {k:Ky} (h:k ∉ m.map (·.1)):hget m k=none:=by
 cases hq:hget m k with
 | none=>rfl
 | some x=>exact absurd (List.mem_map.2 ⟨_,hget_mem hq,rfl⟩) h
theorem hput_keys:∀(m:HM) (k:Ky) (x:Int) (j:Ky),j∈(hput m k x).map (·.1) ↔ j=k ∨ j∈m.map (·.1)
 | [],k,x,j=>by simp [hput]
 | p::r,k,x,j=>by
  simp only [hput]
  split
  ·rename_i hk; subst hk; simp
  ·simp only [List.map_cons,List.mem_cons,hput_keys r k x j]
   constructor
   ·rintro (h | h | h)
    ·exact .inr (.inl h)
    ·exact .inl h
    ·exact .inr (.inr h)
   ·rintro (h | h | h)
    ·exact .inr (.inl h)
    ·exact .inl h
    ·exact .inr (.inr h)
theorem Nk.hput:∀{m:HM},Nk m→∀(k:Ky) (x:Int),Nk (hput m k x)
 | [],_,k,x=>by simp [Nk,Proofs.YtpbdohkbiklflaaGreatDoor.hput]
 | p::r,h,k,x=>by
  unfold Nk at h
  rw [List.map_cons,List.nodup_cons] at h
  simp only [Proofs.YtpbdohkbiklflaaGreatDoor.hput]
  split
  ·rename_i hk; subst hk; unfold Nk; rw [List.map_cons,List.nodup_cons]; exact h
  ·rename_i hk
   unfold Nk; rw [List.map_cons,List.nodup_cons]
   refine ⟨fun hm=>?_,Nk.hput (m:=r) h.2 k x⟩
   rcases (hput_keys r k x p.1).1 hm with h1 | h1
   ·exact hk h1
   ·exact h.1 h1
theorem hdel_sub:∀(m:HM) (k:Ky),(hdel m k).Sublist m
 | [],_=>List.Sublist.refl _
 | p::r,k=>by
  simp only [hdel]
  split
  ·exact List.sublist_cons_self _ _
  ·exact (hdel_sub r k).cons_cons _
theorem Nk.hdel {m:HM} (h:Nk m) (k:Ky):Nk (hdel m k):=h.sublist ((hdel_sub m k).map _)
theorem hget_hdel:∀{m:HM} (_:Nk m) (k j:Ky),hget (hdel m k) j=if k=j then none else hget m j
 | [],_,k,j=>by simp [hdel,hget]
 | p::r,h,k,j=>by
  unfold Nk at h
  rw [List.map_cons,List.nodup_cons] at h
  simp only [hdel]
  split
  ·rename_i hk
   subst hk
   by_cases hj:p.1=j
   ·subst hj; rw [if_pos rfl]; exact hget_none h.1
   ·rw [if_neg hj]; simp only [hget]; rw [if_neg hj]
  ·rename_i hk
   simp only [hget]
   by_cases hj:p.1=j
   ·rw [if_pos hj,if_pos hj,if_neg (fun h9=>hk (hj.trans h9.symm))]
   ·rw [if_neg hj,if_neg hj]; exact hget_hdel (m:=r) h.2 k j
theorem hm_perm {m r:HM} (hm:Nk m) (hr:Nk r) (h:∀k,hget m k=hget r k):m.Perm r:=by
 have nd:∀{m:HM},Nk m→m.Nodup:=fun {m} hm=>by
  unfold Nk at hm
  exact (List.pairwise_map.1 hm).imp fun {a b} hab he=>hab (by rw [he])
 refine (List.perm_ext_iff_of_nodup (nd hm) (nd hr)).2 fun p=>⟨fun hp=>?_,fun hp=>?_⟩
 ·have:=mem_hget hm (k:=p.1) (x:=p.2) hp; rw [h] at this; exact hget_mem this
 ·have:=mem_hget hr (k:=p.1) (x:=p.2) hp; rw [←h] at this; exact hget_mem this
def totH:HM→Int→Int
 | [],_=>0
 | p::r,i=>(if p.1.2=i then p.2 else 0)+totH r i
theorem hv_cons (p:Ky × Int) (r:HM) (k:Ky):hv (p::r) k=if p.1=k then p.2 else hv r k:=by
 unfold hv; simp only [hget]; split <;> rfl
theorem totH_hput:∀(m:HM) (k:Ky) (x i:Int),totH (hput m k x) i=totH m i+(if k.2=i then x - hv m k else 0)
 | [],k,x,i=>by simp [hput,totH,hv,hget]
 | p::r,k,x,i=>by
  simp only [hput,hv_cons]
  split
  ·rename_i hk; subst hk; simp only [totH]; split <;> omega
  ·simp only [totH,totH_hput r k x i]; omega
theorem totH_hdel:∀(m:HM) (k:Ky) (i:Int),totH (hdel m k) i=totH m i+(if k.2=i then - hv m k else 0)
 | [],k,i=>by simp [hdel,totH,hv,hget]
 | p::r,k,i=>by
  simp only [hdel,hv_cons]
  split
  ·rename_i hk; subst hk; simp only [totH]; split <;> omega
  ·simp only [totH,totH_hdel r k i]; omega
theorem totH_bound {C:Int}:∀{m:HM} (_:∀p∈m,0≤p.2∧p.2≤C) (_:0≤C) (i:Int),0≤totH m i∧totH m i≤m.length * C
 | [],_,_,i=>by simp [totH]
 | p::r,h,hC,i=>by
  have h1:=h p List.mem_cons_self
  have h2:=totH_bound (fun q hq=>h q (List.mem_cons_of_mem _ hq)) hC i
  simp only [totH,List.length_cons]
  have h3:((r.length+1:Nat):Int) * C=r.length * C+C:=by rw [Int.natCast_add,Int.add_mul]; omega
  rw [h3]
  split <;> omega
theorem totH_perm {m r:HM} (h:m.Perm r) (i:Int):totH m i=totH r i:=by
 induction h with
 | nil=>rfl
 | cons x _ ih=>simp only [totH,ih]
 | swap x y l=>simp only [totH]; omega
 | trans _ _ a b=>exact a.trans b
def updH (H:HM) (k:Ky) (now:Int):HM:=if now=0 then hdel H k else hput H k now
theorem hget_updH {H:HM} (h:Nk H) (k:Ky) (now:Int) (j:Ky):hget (updH H k now) j=if k=j then (if now=0 then none else some now) else hget H j:=by
 unfold updH
 by_cases h0:now=0
 ·rw [if_pos h0,if_pos h0,hget_hdel h]
 ·rw [if_neg h0,if_neg h0,hget_hput]
theorem Nk.updH {H:HM} (h:Nk H) (k:Ky) (now:Int):Nk (updH H k now):=by
 unfold Proofs.YtpbdohkbiklflaaGreatDoor.updH; split
 ·exact h.hdel k
 ·exact h.hput k now
theorem totH_updH (H:HM) (k:Ky) (now i:Int):totH (updH H k now) i=totH H i+(if k.2=i then now - hv H k else 0):=by
 unfold updH; split
 ·rename_i h0; subst h0; rw [totH_hdel]; split <;> omega
 ·rw [totH_hput]
theorem hv_updH {H:HM} (h:Nk H) (k:Ky) (now:Int) (j:Ky):hv (updH H k now) j=if k=j then now else hv H j:=by
 unfold hv; rw [hget_updH h]
 by_cases hk:k=j
 ·rw [if_pos hk,if_pos hk]; by_cases h0:now=0
  ·rw [if_pos h0,h0]; rfl
  ·rw [if_neg h0]; rfl
 ·rw [if_neg hk,if_neg hk]
theorem updH_len (H:HM) (k:Ky) (now:Int):(updH H k now).length≤H.length+1:=by
 unfold updH; split
 ·have:=(hdel_sub H k).length_le; omega
 ·exact hput_len ..
def RkOk (H:HM) (i:Nat) (q:Bool × List Rk):Prop:=(q.1=true→q.2=[])∧SortR q.2∧∀x:Rk,x∈q.2 ↔ x.1<1048576∧hget H (x.1,(i:Int))=some x.2
structure HOk (s:Vs) (L:Nat):Prop where
 nd:Nk s.H
 pos:∀p∈s.H,1≤p.1.1∧(∃i:Nat,i<4∧p.1.2=(i:Int))∧1≤p.2∧p.2≤1125899906842624
 len:s.H.length≤L
 tl:s.tots.length=4
 rl:s.rk.length=4
 rk:∀i:Nat,i<4→RkOk s.H i (s.rk.getD i (true,[]))
 tot:∀i:Nat,i<4→s.tots.getD i 0=totH s.H i
theorem HOk.hv0 {s:Vs} {L:Nat} (h:HOk s L) (k:Ky):0≤hv s.H k∧hv s.H k≤1125899906842624∧(hv s.H k ≠ 0→hget s.H k=some (hv s.H k))∧(hv s.H k=0→hget s.H k=none):=by
 unfold hv
 cases hq:hget s.H k with
 | none=>simp
 | some x =>
  have:=h.pos _ (hget_mem hq)
  simp only [Option.getD_some]
  simp only at this
  refine ⟨by omega,by omega,fun _=>trivial,fun h0=>?_⟩
  omega
theorem inj_len {α β:Type} [BEq β] [LawfulBEq β] (f:α→β):∀{l:List α} {m:List β} (_:l.Nodup) (_:∀x∈l,f x∈m) (_:∀x∈l,∀y∈l,f x=f y→x=y),l.length≤m.length
 | [],m,_,_,_=>by simp
 | x::l,m,hn,hm,hi=>by
  rw [List.nodup_cons] at hn
  have h1:=hm x List.mem_cons_self
  have h2:=inj_len f (l:=l) (m:=m.erase (f x)) hn.2 (fun y hy=>by
   refine (List.mem_erase_of_ne fun he=>?_).2 (hm y (List.mem_cons_of_mem _ hy))
   have:=hi y (List.mem_cons_of_mem _ hy) x List.mem_cons_self he
   subst this; exact hn.1 hy) (fun a ha b hb=>hi a (List.mem_cons_of_mem _ ha) b (List.mem_cons_of_mem _ hb))
  rw [List.length_erase_of_mem h1] at h2
  have:0<m.length:=List.length_pos_of_mem h1
  simp only [List.length_cons]; omega
theorem rk_len {H:HM} {i:Nat} {q:Bool × List Rk} (h:RkOk H i q):q.2.length≤H.length :=
 inj_len (fun x:Rk=>(((x.1,(i:Int)):Ky),x.2)) (sort_nodup h.2.1) (fun x hx=>hget_mem ((h.2.2 x).1 hx).2) (fun x _ y _ he=>by
  simp only [Prod.mk.injEq] at he
  exact Prod.ext he.1.1 he.2)
def rkU (l:List Rk) (a before now:Int):List Rk :=
 let l1:=if before ≠ 0 then remL l (a,before) else l
 if now ≠ 0 then insL l1 (a,now) else l1
theorem rk1_ok {s:Vs} {L:Nat} (h:HOk s L) {i:Nat} (hi:i<4) {a:Int} (ha:a<1048576):∀l1,l1=(if hv s.H (a,(i:Int)) ≠ 0 then remL (s.rk.getD i (true,[])).2 (a,hv s.H (a,(i:Int))) else (s.rk.getD i (true,[])).2)→SortR l1∧∀x,x∈l1 ↔ x∈(s.rk.getD i (true,[])).2∧x.1 ≠ a:=by
 intro l1 hl1
 obtain ⟨_,hs,hm⟩:=h.rk i hi
 have hh:=h.hv0 (a,(i:Int))
 by_cases hb:hv s.H (a,(i:Int)) ≠ 0
 ·rw [if_pos hb] at hl1
  have hmem:(a,hv s.H (a,(i:Int)))∈(s.rk.getD i (true,[])).2:=(hm _).2 ⟨ha,hh.2.2.1 hb⟩
  obtain ⟨_,h2,h3⟩:=remL_spec hs hmem
  rw [hl1]
  refine ⟨h2,fun x=>?_⟩
  rw [h3 x]
  constructor
  ·rintro ⟨h4,h5⟩
   refine ⟨h4,fun h6=>h5 ?_⟩
   have h7:=((hm x).1 h4).2
   rw [h6,hh.2.2.1 hb] at h7
   injection h7 with h7
   exact Prod.ext h6 h7.symm
  ·rintro ⟨h4,h5⟩
   exact ⟨h4,fun h6=>h5 (by rw [h6])⟩
 ·rw [if_neg hb] at hl1
  have hb:hv s.H (a,(i:Int))=0:=by simpa using hb
  rw [hl1]
  refine ⟨hs,fun x=>⟨fun h4=>⟨h4,fun h6=>?_⟩,fun h4=>h4.1⟩⟩
  have h7:=((hm x).1 h4).2
  rw [h6,hh.2.2.2 hb] at h7
  cases h7
theorem setM_eq (s:Vs) (a:Int) (i:Nat) (now:Int) (hne:hv s.H (a,(i:Int)) ≠ now):setM s (a,(i:Int)) i now={ s with work:=s.work+1,tots:=s.tots.set i (s.tots.getD i 0+(now - hv s.H (a,(i:Int)))),H:=updH s.H (a,(i:Int)) now,rk:=if 1048576≤a then s.rk else s.rk.set i (false,rkU (s.rk.getD i (true,[])).2 a (hv s.H (a,(i:Int))) now) }:=by
 unfold setM updH
 rw [if_neg hne]
 by_cases ha:1048576≤a
 ·simp only [if_pos ha]
 ·simp only [if_neg ha]
  by_cases hn:now=0
  ·subst hn
   simp only [ne_eq,not_true_eq_false,if_false,hne,not_false_eq_true,if_true,rkU]
  ·simp only [ne_eq,hn,not_false_eq_true,if_true,rkU]
theorem set_ok {s:Vs} {L:Nat} (h:HOk s L) (hL:L≤500) (hw:0≤s.work∧s.work≤2305843009213693952) {a:Int} {i:Nat} {now:Int} (hi:i<4) (ha:1≤a) (hn:0≤now∧now≤1125899906842624) :
  SetOk s (a,(i:Int)) i now∧HOk (setM s (a,(i:Int)) i now) (L+1):=by
 have hh:=h.hv0 (a,(i:Int))
 obtain ⟨hf,hs,hm⟩:=h.rk i hi
 have hb:=totH_bound (C:=1125899906842624) (fun p hp=>by have:=h.pos p hp; omega) (by omega) (i:Int) (m:=s.H)
 have hlen:=h.len
 have hb2:totH s.H i≤562949953421312000:=by
  have:(s.H.length:Int) * 1125899906842624≤500 * 1125899906842624:=by omega
  omega
 constructor
 ·refine ⟨rfl,by rw [h.tl]; exact hi,by rw [h.rl]; exact hi,by omega,by omega,?_,by omega,?_,hf,fun ha' hb'=>?_,fun ha' hn' l1 hl1=>?_⟩
  ·rw [h.tot i hi]; omega
  ·have:=rk_len (h.rk i hi); omega
  ·exact ⟨(remL_spec hs ((hm (a,hv s.H (a,(i:Int)))).2 ⟨ha',hh.2.2.1 hb'⟩)).1,place_sorted hs _⟩
  ·exact place_sorted (rk1_ok h hi ha' l1 hl1).1 _
 ·by_cases hne:hv s.H (a,(i:Int))=now
  ·have:setM s (a,(i:Int)) i now=s:=by unfold setM; rw [if_pos hne]
   rw [this]
   exact { h with len:=by omega }
  ·rw [setM_eq s a i now hne]
   have hpos:∀p∈updH s.H (a,(i:Int)) now,1≤p.1.1∧(∃i:Nat,i<4∧p.1.2=(i:Int))∧1≤p.2∧p.2≤1125899906842624:=by
    intro p hp
    have hg:=mem_hget (h.nd.updH _ _) (k:=p.1) (x:=p.2) hp
    rw [hget_updH h.nd] at hg
    split at hg
    ·rename_i hk
     split at hg
     ·cases hg
     ·injection hg with hg
      rw [←hk,←hg]
      exact ⟨ha,⟨i,hi,rfl⟩,by omega,by omega⟩
    ·exact h.pos p (hget_mem hg)
   have hrk:∀j:Nat,j<4→RkOk (updH s.H (a,(i:Int)) now) j ((if 1048576≤a then s.rk else s.rk.set i (false,rkU (s.rk.getD i (true,[])).2 a (hv s.H (a,(i:Int))) now)).getD j (true,[])):=by
    intro j hj
    by_cases hji:j=i
    ·subst hji
     by_cases ha':1048576≤a
     ·rw [if_pos ha']
      refine ⟨hf,hs,fun x=>?_⟩
      rw [hm x,hget_updH h.nd]
      constructor
      ·rintro ⟨h1,h2⟩
       exact ⟨h1,by rw [if_neg (fun he=>by simp only [Prod.mk.injEq] at he; omega)]; exact h2⟩
      ·rintro ⟨h1,h2⟩
       rw [if_neg (fun he=>by simp only [Prod.mk.injEq] at he; omega)] at h2
       exact ⟨h1,h2⟩
     ·rw [if_neg ha',List.getD_eq_getElem?_getD,List.getElem?_set_self (by rw [h.rl]; exact hi)]
      obtain ⟨q1,q2⟩:=rk1_ok h hi (a:=a) (by omega) _ rfl
      refine ⟨fun h9=>by simp at h9,?_,fun x=>?_⟩
      ·simp only [Option.getD_some,rkU]
       split
       ·exact insL_sorted q1 fun h9=>((q2 _).1 h9).2 rfl
       ·exact q1
      ·simp only [Option.getD_some,rkU]
       rw [hget_updH h.nd]
       by_cases hn0:now=0
       ·subst hn0
        simp only [ne_eq,not_true_eq_false,if_false]
        rw [q2 x,hm x]
        constructor
        ·rintro ⟨⟨h1,h2⟩,h3⟩
         exact ⟨h1,by rw [if_neg (fun he=>by simp only [Prod.mk.injEq] at he; omega)]; exact h2⟩
        ·rintro ⟨h1,h2⟩
         by_cases he:a=x.1
         ·rw [if_pos (by rw [he])] at h2; simp at h2
         ·rw [if_neg (fun he'=>by simp only [Prod.mk.injEq] at he'; exact he he'.1)] at h2
          exact ⟨⟨h1,h2⟩,fun h4=>he h4.symm⟩
       ·rw [if_pos hn0,insL_mem,q2 x,hm x,if_neg hn0]
        constructor
        ·rintro (h1 | ⟨⟨h1,h2⟩,h3⟩)
         ·subst h1; exact ⟨by simp only; omega,by simp⟩
         ·exact ⟨h1,by rw [if_neg (fun he=>by simp only [Prod.mk.injEq] at he; omega)]; exact h2⟩
        ·rintro ⟨h1,h2⟩
         by_cases he:a=x.1
         ·rw [if_pos (by rw [he])] at h2
          injection h2 with h2
          exact .inl (Prod.ext he.symm h2.symm)
         ·rw [if_neg (fun he'=>by simp only [Prod.mk.injEq] at he'; exact he he'.1)] at h2
          exact .inr ⟨⟨h1,h2⟩,fun h4=>he h4.symm⟩
    ·have hq:(if 1048576≤a then s.rk else s.rk.set i (false,rkU (s.rk.getD i (true,[])).2 a (hv s.H (a,(i:Int))) now)).getD j (true,[])=s.rk.getD j (true,[]):=by
      split
      ·rfl
      ·rw [List.getD_eq_getElem?_getD,List.getElem?_set_ne (fun h9=>hji h9.symm),←List.getD_eq_getElem?_getD]
     rw [hq]
     obtain ⟨r1,r2,r3⟩:=h.rk j hj
     refine ⟨r1,r2,fun x=>?_⟩
     rw [r3 x,hget_updH h.nd,if_neg (fun he=>by simp only [Prod.mk.injEq] at he; omega)]
   refine ⟨h.nd.updH _ _,hpos,by have:=updH_len s.H (a,(i:Int)) now; show (updH s.H (a,(i:Int)) now).length≤_; omega,by simp only [List.length_set]; exact h.tl,?_,hrk,fun j hj=>?_⟩
   ·simp only; split
    ·exact h.rl
    ·rw [List.length_set]; exact h.rl
   ·simp only
    rw [totH_updH,List.getD_eq_getElem?_getD]
    by_cases hji:i=j
    ·subst hji
     rw [List.getElem?_set_self (by rw [h.tl]; exact hi),if_pos rfl,←h.tot i hi]; rfl
    ·rw [List.getElem?_set_ne hji,if_neg (by omega),←List.getD_eq_getElem?_getD,h.tot j hj]; omega
end Go.Proofs.YtpbdohkbiklflaaGreatDoor
namespace Go.Proofs.YtpbdohkbiklflaaGreatDoor
open Go.TM
variable [KObj]
theorem setM_H (s:Vs) (a:Int) (i:Nat) (now:Int):(setM s (a,(i:Int)) i now).H=if hv s.H (a,(i:Int))=now then s.H else updH s.H (a,(i:Int)) now:=by
 by_cases h:hv s.H (a,(i:Int))=now
 ·unfold setM; rw [if_pos h,if_pos h]
 ·rw [setM_eq s a i now h,if_neg h]
theorem hv_setM {s:Vs} (h:Nk s.H) (a:Int) (i:Nat) (now:Int) (j:Ky):hv (setM s (a,(i:Int)) i now).H j=if (a,(i:Int))=j then now else hv s.H j:=by
 rw [setM_H]
 by_cases h0:hv s.H (a,(i:Int))=now
 ·rw [if_pos h0]; split
  ·rename_i hk; rw [←hk]; exact h0
  ·rfl
 ·rw [if_neg h0,hv_updH h]
structure EOk (es:HM):Prop where
 nd:Nk es
 pos:∀e∈es,1≤e.1.1∧(∃i:Nat,i<4∧e.1.2=(i:Int))∧0≤e.2∧e.2≤1125899906842624
theorem EOk.cons {e:Ky × Int} {r:HM} (h:EOk (e::r)):EOk r∧e.1 ∉ r.map (·.1):=by
 have:=h.nd
 unfold Nk at this
 rw [List.map_cons,List.nodup_cons] at this
 exact ⟨⟨this.2,fun x hx=>h.pos x (List.mem_cons_of_mem _ hx)⟩,this.1⟩
theorem EOk.perm {a b:HM} (h:EOk a) (hp:b.Perm a):EOk b :=
 ⟨((hp.map (fun p:Ky × Int=>p.1)).nodup_iff).2 (show (a.map fun p=>p.1).Nodup from h.nd),fun e he=>h.pos e (hp.mem_iff.1 he)⟩
theorem setsM_cons (s:Vs) (e:Ky × Int) (r:HM):setsM s (e::r)=setsM (setM s e.1 e.1.2.toNat e.2) r:=rfl
theorem sets_ok:∀{es:HM} {s:Vs} {L:Nat},HOk s L→EOk es→L+es.length≤500→(0≤s.work∧s.work+es.length≤2305843009213693952)→HOk (setsM s es) (L+es.length)
 | [],s,L,h,_,_,_=>h
 | e::r,s,L,h,he,hL,hw=>by
  obtain ⟨p1,⟨i,hi,p2⟩,p3,p4⟩:=he.pos e List.mem_cons_self
  obtain ⟨⟨a,it⟩,now⟩:=e
  simp only at p1 p2 p3 p4
  subst p2
  simp only [List.length_cons] at hL hw
  have h1:=(set_ok h (by omega) (by omega) hi p1 ⟨p3,p4⟩).2
  rw [setsM_cons]
  simp only [Int.toNat_natCast]
  have h2:=setM_work s (a,(i:Int)) i now
  have h3:=sets_ok h1 he.cons.1 (by omega) (by omega)
  rw [show L+((((a,(i:Int)),now):Ky × Int)::r).length=L+1+r.length by simp only [List.length_cons]; omega]
  exact h3
theorem hv_sets:∀{es:HM} {s:Vs},Nk s.H→EOk es→∀j,hv (setsM s es).H j=hold es s.H j
 | [],s,_,_,j=>rfl
 | e::r,s,h,he,j=>by
  obtain ⟨p1,⟨i,hi,p2⟩,p3,p4⟩:=he.pos e List.mem_cons_self
  obtain ⟨⟨a,it⟩,now⟩:=e
  simp only at p1 p2 p3 p4
  subst p2
  rw [setsM_cons]
  simp only [Int.toNat_natCast]
  have hn:Nk (setM s (a,(i:Int)) i now).H:=by
   rw [setM_H]; split
   ·exact h
   ·exact h.updH _ _
  rw [hv_sets hn he.cons.1 j]
  unfold hold
  rw [hv_setM h]
  simp only [hget]
  by_cases hk:(a,(i:Int))=j
  ·rw [if_pos hk,if_pos hk]
   have:=hget_none (hk ▸ he.cons.2)
   rw [this]; rfl
  ·rw [if_neg hk,if_neg hk]
theorem touch_setM {s:Vs} (h:Nk s.H) (a:Int) (i:Nat) (now:Int) {k:Ky} (hk:(a,(i:Int)) ≠ k) (x:Int):touchM (setM s (a,(i:Int)) i now) k x=touchM s k x:=by
 unfold touchM; rw [hv_setM h,if_neg hk]
def flR (s:Vs) (j:Nat):Bool:=(s.rk.getD j (true,[])).1
theorem fl_setM {s:Vs} {L:Nat} (h:HOk s L) (a:Int) (i:Nat) (now:Int) (hi:i<4) (j:Nat):flR (setM s (a,(i:Int)) i now) j=(flR s j && !(touchM s (a,(i:Int)) now && decide ((i:Int)=j))):=by
 unfold flR touchM
 by_cases h0:hv s.H (a,(i:Int))=now
 ·have:setM s (a,(i:Int)) i now=s:=by unfold setM; rw [if_pos h0]
  rw [this]; simp [h0]
 ·rw [setM_eq s a i now h0]
  by_cases ha:1048576≤a
  ·simp [ha]
  ·simp only [if_neg ha]
   rw [List.getD_eq_getElem?_getD]
   by_cases hji:i=j
   ·subst hji
    rw [List.getElem?_set_self (by rw [h.rl]; exact hi)]
    simp only [Option.getD_some]
    rw [decide_eq_false h0,decide_eq_false ha]; simp
   ·rw [List.getElem?_set_ne hji,←List.getD_eq_getElem?_getD,decide_eq_false (show ¬ (i:Int)=j by omega)]; simp
theorem fl_sets:∀{es:HM} {s:Vs} {L:Nat},HOk s L→EOk es→L+es.length≤500→(0≤s.work∧s.work+es.length≤2305843009213693952)→∀j:Nat,flR (setsM s es) j=(flR s j && !(es.any fun e=>touchM s e.1 e.2 && decide (e.1.2=(j:Int))))
 | [],s,L,_,_,_,_,j=>by simp [setsM]
 | e::r,s,L,h,he,hL,hw,j=>by
  obtain ⟨p1,⟨i,hi,p2⟩,p3,p4⟩:=he.pos e List.mem_cons_self
  obtain ⟨⟨a,it⟩,now⟩:=e
  simp only at p1 p2 p3 p4
  subst p2
  simp only [List.length_cons] at hL hw
  have h1:=(set_ok h (by omega) (by omega) hi p1 ⟨p3,p4⟩).2
  have h2:=setM_work s (a,(i:Int)) i now
  rw [setsM_cons]
  simp only [Int.toNat_natCast]
  rw [fl_sets h1 he.cons.1 (by omega) (by omega) j,fl_setM h a i now hi j]
  simp only [List.any_cons]
  have:(r.any fun e=>touchM (setM s (a,(i:Int)) i now) e.1 e.2 && decide (e.1.2=(j:Int)))=r.any fun e=>touchM s e.1 e.2 && decide (e.1.2=(j:Int)):=by
   have hc:=he.cons.2
   clear hw hL h1 h2 he
   induction r with
   | nil=>rfl
   | cons q r ih =>
    simp only [List.map_cons,List.mem_cons,not_or] at hc
    simp only [List.any_cons]
    rw [ih hc.2,touch_setM h.nd a i now hc.1]
  rw [this]
  cases flR s j <;> simp [Bool.not_or]
theorem work_setM {s:Vs} (a:Int) (i:Nat) (now:Int):(setM s (a,(i:Int)) i now).work=s.work+(if hv s.H (a,(i:Int))=now then 0 else 1):=by
 by_cases h0:hv s.H (a,(i:Int))=now
 ·have:setM s (a,(i:Int)) i now=s:=by unfold setM; rw [if_pos h0]
  rw [this,if_pos h0]; omega
 ·rw [setM_eq s a i now h0,if_neg h0]
def chg (H:HM) (e:Ky × Int):Bool:=!decide (hv H e.1=e.2)
theorem work_sets:∀{es:HM} {s:Vs},Nk s.H→EOk es→(setsM s es).work=s.work+(es.countP (chg s.H):Nat)
 | [],s,_,_=>by simp [setsM]
 | e::r,s,h,he=>by
  obtain ⟨p1,⟨i,hi,p2⟩,p3,p4⟩:=he.pos e List.mem_cons_self
  obtain ⟨⟨a,it⟩,now⟩:=e
  simp only at p1 p2 p3 p4
  subst p2
  rw [setsM_cons]
  simp only [Int.toNat_natCast]
  have hn:Nk (setM s (a,(i:Int)) i now).H:=by
   rw [setM_H]; split
   ·exact h
   ·exact h.updH _ _
  rw [work_sets hn he.cons.1,work_setM]
  have:r.countP (chg (setM s (a,(i:Int)) i now).H)=r.countP (chg s.H):=by
   have hc:=he.cons.2
   clear he
   induction r with
   | nil=>rfl
   | cons q r ih =>
    simp only [List.map_cons,List.mem_cons,not_or] at hc
    rw [List.countP_cons,List.countP_cons,ih hc.2]
    have:chg (setM s (a,(i:Int)) i now).H q=chg s.H q:=by
     unfold chg; rw [hv_setM h,if_neg hc.1]
    rw [this]
  rw [this,List.countP_cons]
  have hc:chg s.H ((a,(i:Int)),now)=!decide (hv s.H (a,(i:Int))=now):=rfl
  rw [hc]
  by_cases h0:hv s.H (a,(i:Int))=now
  ·simp [h0]
  ·simp [h0]; omega
theorem setM_rest (s:Vs) (k:Ky) (i:Nat) (now:Int):(setM s k i now).coin=s.coin∧(setM s k i now).window=s.window∧(setM s k i now).budget=s.budget∧(setM s k i now).last=s.last:=by
 unfold setM; split
 ·exact ⟨rfl,rfl,rfl,rfl⟩
 ·simp only; split <;> exact ⟨rfl,rfl,rfl,rfl⟩
theorem setsM_rest:∀(es:HM) (s:Vs),(setsM s es).coin=s.coin∧(setsM s es).window=s.window∧(setsM s es).budget=s.budget∧(setsM s es).last=s.last
 | [],s=>⟨rfl,rfl,rfl,rfl⟩
 | e::r,s=>by
  rw [setsM_cons]
  have h1:=setsM_rest r (setM s e.1 e.1.2.toNat e.2)
  have h2:=setM_rest s e.1 e.1.2.toNat e.2
  exact ⟨h1.1.trans h2.1,h1.2.1.trans h2.2.1,h1.2.2.1.trans h2.2.2.1,h1.2.2.2.trans h2.2.2.2⟩
theorem hget_hv {s:Vs} {L:Nat} (h:HOk s L) (k:Ky):hget s.H k=if hv s.H k=0 then none else some (hv s.H k):=by
 have:=h.hv0 k
 split
 ·rename_i h0; exact this.2.2.2 h0
 ·rename_i h0; exact this.2.2.1 h0
theorem hold_perm {a b:HM} (ha:EOk a) (hp:b.Perm a) (H:HM) (k:Ky):hold b H k=hold a H k:=by
 have hb:=ha.perm hp
 have:hget b k=hget a k:=by
  cases hq:hget a k with
  | none =>
   cases hq2:hget b k with
   | none=>rfl
   | some x=>have:=mem_hget ha.nd (hp.mem_iff.1 (hget_mem hq2)); rw [hq] at this; cases this
  | some x=>exact mem_hget hb.nd (hp.mem_iff.2 (hget_mem hq))
 unfold hold; rw [this]
theorem list4 {α:Type} {l r:List α} (d:α) (hl:l.length=4) (hr:r.length=4) (h:∀i:Nat,i<4→l.getD i d=r.getD i d):l=r:=by
 apply List.ext_getElem (by omega)
 intro i h1 h2
 have:=h i (by omega)
 rw [List.getD_eq_getElem?_getD,List.getD_eq_getElem?_getD,List.getElem?_eq_getElem h1,List.getElem?_eq_getElem h2] at this
 exact this
theorem sets_perm {es done:HM} {s:Vs} {L:Nat} (h:HOk s L) (he:EOk es) (hp:done.Perm es) (hL:L+es.length≤500) (hw:0≤s.work∧s.work+es.length≤2305843009213693952) :
  (setsM s done).H.Perm (setsM s es).H∧setsM s done={ setsM s es with H:=(setsM s done).H }:=by
 have hd:=he.perm hp
 have hln:=hp.length_eq
 have o1:=sets_ok h he hL hw
 have o2:=sets_ok h hd (by omega) (by omega)
 have hvs:∀k,hv (setsM s done).H k=hv (setsM s es).H k:=fun k=>by rw [hv_sets h.nd hd,hv_sets h.nd he,hold_perm he hp]
 have hgs:∀k,hget (setsM s done).H k=hget (setsM s es).H k:=fun k=>by rw [hget_hv o2,hget_hv o1,hvs]
 have hpm:(setsM s done).H.Perm (setsM s es).H:=hm_perm o2.nd o1.nd hgs
 refine ⟨hpm,?_⟩
 have r1:=setsM_rest done s
 have r2:=setsM_rest es s
 have e1:(setsM s done).coin=(setsM s es).coin:=r1.1.trans r2.1.symm
 have e2:(setsM s done).window=(setsM s es).window:=r1.2.1.trans r2.2.1.symm
 have e3:(setsM s done).budget=(setsM s es).budget:=r1.2.2.1.trans r2.2.2.1.symm
 have e4:(setsM s done).last=(setsM s es).last:=r1.2.2.2.trans r2.2.2.2.symm
 have e5:(setsM s done).work=(setsM s es).work:=by rw [work_sets h.nd hd,work_sets h.nd he,hp.countP_eq]
 have e6:(setsM s done).tots=(setsM s es).tots:=list4 0 o2.tl o1.tl fun i hi=>by rw [o2.tot i hi,o1.tot i hi,totH_perm hpm]
 have e7:(setsM s done).rk=(setsM s es).rk:=list4 (true,[]) o2.rl o1.rl fun i hi=>by
  have f1:flR (setsM s done) i=flR (setsM s es) i:=by rw [fl_sets h hd (by omega) (by omega),fl_sets h he hL hw,hp.any_eq]
  have g1:=o2.rk i hi
  have g2:=o1.rk i hi
  refine Prod.ext f1 (sort_ext g1.2.1 g2.2.1 fun x=>?_)
  rw [g1.2.2 x,g2.2.2 x,hgs]
 have e8:(setsM s done).sl=(setsM s es).sl:=by rw [setsM_sl,setsM_sl]
 have e9:(setsM s done).sold=(setsM s es).sold:=by rw [setsM_sold,setsM_sold]
 generalize setsM s done=t1 at *
 generalize setsM s es=t2 at *
 obtain ⟨a1,a2,a3,a4,a5,a6,a7,a8,a9,a10⟩:=t1
 obtain ⟨b1,b2,b3,b4,b5,b6,b7,b8,b9,b10⟩:=t2
 simp only at e1 e2 e3 e4 e5 e6 e7 e8 e9
 subst e1 e2 e3 e4 e5 e6 e7 e8 e9
 rfl
end Go.Proofs.YtpbdohkbiklflaaGreatDoor
namespace Go.Proofs.YtpbdohkbiklflaaGreatDoor
open Go.TM
variable [KObj]
theorem haM_mv {H:HM}:∀{l:List Mv} {m A:HM},haM H m l=.ok A→∀v∈l,badMv v=false
 | [],_,_,_,v,hv=>by cases hv
 | w::r,m,A,h,v,hv=>by
  simp only [haM] at h
  split at h
  ·cases h
  rename_i hb
  have hb:badMv w=false:=by simpa using hb
  rcases List.mem_cons.1 hv with rfl | hv
  ·exact hb
  ·split at h
   ·split at h
    ·cases h
    ·exact haM_mv h v hv
   ·exact haM_mv h v hv
theorem isAcc_b {n:Int} (h:isAcc n=true):0≤n∧n≤1073741824:=by
 unfold isAcc at h; simpa using h
structure HaOk (m:HM) (C:Int):Prop where
 nd:Nk m
 pos:∀e∈m,1≤e.1.1∧(∃i:Nat,i<4∧e.1.2=(i:Int))∧0≤e.2∧e.2≤C
theorem hput_mem:∀{m:HM} {k:Ky} {x:Int} {p:Ky × Int},p∈hput m k x→p=(k,x) ∨ p∈m
 | [],k,x,p,h=>by simp [hput] at h; exact .inl h
 | q::r,k,x,p,h=>by
  simp only [hput] at h
  split at h
  ·rcases List.mem_cons.1 h with h | h
   ·exact .inl h
   ·exact .inr (List.mem_cons_of_mem _ h)
  ·rcases List.mem_cons.1 h with h | h
   ·exact .inr (h ▸ List.mem_cons_self)
   ·rcases hput_mem h with h | h
    ·exact .inl h
    ·exact .inr (List.mem_cons_of_mem _ h)
theorem HaOk.put {m:HM} {C D:Int} (h:HaOk m C) (hCD:C≤D) {a it x:Int} (ha:1≤a) (hit:0≤it∧it<4) (hx:0≤x∧x≤D):HaOk (hput m (a,it) x) D:=by
 refine ⟨h.nd.hput _ _,fun e he=>?_⟩
 rcases hput_mem he with rfl | he
 ·exact ⟨ha,⟨it.toNat,by omega,by simp only; omega⟩,hx⟩
 ·have:=h.pos e he; exact ⟨this.1,this.2.1,this.2.2.1,by omega⟩
theorem HaOk.mono {m:HM} {C D:Int} (h:HaOk m C) (hCD:C≤D):HaOk m D:=⟨h.nd,fun e he=>by have:=h.pos e he; exact ⟨this.1,this.2.1,this.2.2.1,by omega⟩⟩
theorem haM_ok {H:HM}:∀{l:List Mv} {m A:HM} {C:Int},haM H m l=.ok A→0≤C→HaOk m C→(∀k,0≤hold m H k∧hold m H k≤C)→HaOk A (C+l.length * 1099511627776)
 | [],m,A,C,h,_,ho,_=>by simp only [haM] at h; injection h with h; subst h; simpa using ho
 | v::r,m,A,C,h,hC,ho,hb=>by
  simp only [haM] at h
  split at h
  ·cases h
  rename_i hbd
  obtain ⟨b1,b2,b3,b4,b5,b6,b7⟩:=bad_f (v:=v) (by simpa using hbd)
  have b5:=isAcc_b b5
  have b6:=isAcc_b b6
  have fin:∀m1:HM,HaOk m1 C→(∀k,0≤hold m1 H k∧hold m1 H k≤C)→HaOk (if v.t ≠ 0 then hput m1 (v.t,v.it) (hold m1 H (v.t,v.it)+v.n) else m1) (C+1099511627776)∧∀k,0≤hold (if v.t ≠ 0 then hput m1 (v.t,v.it) (hold m1 H (v.t,v.it)+v.n) else m1) H k∧hold (if v.t ≠ 0 then hput m1 (v.t,v.it) (hold m1 H (v.t,v.it)+v.n) else m1) H k≤C+1099511627776:=by
   intro m1 h1 h2
   have h3:=h2 (v.t,v.it)
   split
   ·exact ⟨h1.put (by omega) (by omega) ⟨b1,b2⟩ ⟨by omega,by omega⟩,hb_put h2 ⟨by omega,by omega⟩ (by omega)⟩
   ·exact ⟨h1.mono (by omega),fun k=>by have:=h2 k; omega⟩
  have hlen:C+((v::r).length:Int) * 1099511627776=C+1099511627776+r.length * 1099511627776:=by simp only [List.length_cons]; omega
  rw [hlen]
  split at h
  ·split at h
   ·cases h
   rename_i hs
   have h3:=hb (v.f,v.it)
   obtain ⟨f1,f2⟩:=fin (hput m (v.f,v.it) (hold m H (v.f,v.it) - v.n)) (ho.put (Int.le_refl C) (a:=v.f) (by omega) ⟨b1,b2⟩ (x:=hold m H (v.f,v.it) - v.n) ⟨by omega,by omega⟩) (hb_put hb ⟨by omega,by omega⟩ (Int.le_refl C))
   exact haM_ok h (by omega) f1 f2
  ·obtain ⟨f1,f2⟩:=fin _ ho hb
   exact haM_ok h (by omega) f1 f2
theorem sale_b {coin:Int} {st:St} {it n c:Int} (hb:∀v∈st.mv,badMv v=false) (h:saleM coin st=(it,n,c,true)):0≤it∧it<4∧1≤n∧n≤1099511627776∧1≤c∧c≤1099511627776:=by
 unfold saleM at h
 split at h
 ·simp at h
 ·split at h
  ·rename_i a b hm
   have h1:=bad_f (hb a (by rw [hm]; simp))
   have h2:=bad_f (hb b (by rw [hm]; simp))
   split at h <;> (simp only [sale2,Prod.mk.injEq] at h; obtain ⟨rfl,rfl,rfl,_⟩:=h; omega)
  ·simp at h
def ChainOk (l:List Sl):Prop:=∀(j:Nat) (x y:Sl),l[j]?=some x→l[j+1]?=some y→y.units=x.units+y.n∧y.coins=x.coins+y.c
structure SOk (s:Vs) (S:SS) (N:Nat):Prop where
 sales:SalesOk s S
 len:S.length≤N
 val:∀p∈S,1≤p.2.n∧p.2.n≤1099511627776∧1≤p.2.c∧p.2.c≤1099511627776∧p.2.n≤p.2.units∧p.2.units≤N * 1099511627776∧p.2.c≤p.2.coins∧p.2.coins≤N * 1099511627776
 chain:∀i,ChainOk (ofI S i)
 ord:S.Pairwise fun p q=>p.2.tick≤q.2.tick
 le:∀p∈S,p.2.tick≤s.last
def feedS (s:Vs) (S:SS) (st:St):SS :=
 let lv:=leavN S (st.tick - s.window)
 let q:=saleM s.coin st
 S.drop lv++(bif q.2.2.2 then [(q.1.toNat,⟨st.tick,q.2.1,q.2.2.1,q.2.1+sum1 (ofI (S.drop lv) q.1.toNat),q.2.2.1+sum2 (ofI (S.drop lv) q.1.toNat)⟩)] else [])
theorem ofI_mem {S:SS} {i:Nat} {x:Sl} (h:x∈ofI S i):(i,x)∈S:=by
 unfold ofI at h
 obtain ⟨p,h1,h2⟩:=List.mem_map.1 h
 obtain ⟨h3,h4⟩:=List.mem_filter.1 h1
 obtain ⟨j,y⟩:=p
 simp only [beq_iff_eq] at h4 h2
 subst h4 h2; exact h3
theorem sum_b {s:Vs} {S:SS} {N:Nat} (h:SOk s S N) (j i:Nat):0≤sum1 (ofI (S.drop j) i)∧sum1 (ofI (S.drop j) i)≤N * 1099511627776∧0≤sum2 (ofI (S.drop j) i)∧sum2 (ofI (S.drop j) i)≤N * 1099511627776:=by
 unfold sum1 sum2
 rw [List.getD_eq_getElem?_getD]
 cases hq:(ofI (S.drop j) i)[(ofI (S.drop j) i).length - 1]? with
 | none=>simp only [Option.getD_none]; omega
 | some x =>
  have:=h.val _ (List.mem_of_mem_drop (ofI_mem (List.mem_of_getElem? hq)))
  simp only [Option.getD_some]
  simp only at this
  omega
theorem ofI_append (S T:SS) (i:Nat):ofI (S++T) i=ofI S i++ofI T i:=by
 unfold ofI; rw [List.filter_append,List.map_append]
theorem chain_drop {S:SS} (h:∀i,ChainOk (ofI S i)) (j i:Nat):ChainOk (ofI (S.drop j) i):=by
 have:ofI S i=ofI (S.take j) i++ofI (S.drop j) i:=by rw [←ofI_append,List.take_append_drop]
 intro k x y hx hy
 refine h i ((ofI (S.take j) i).length+k) x y ?_ ?_
 ·rw [this,List.getElem?_append_right (by omega),Nat.add_sub_cancel_left]; exact hx
 ·rw [this,Nat.add_assoc,List.getElem?_append_right (by omega),Nat.add_sub_cancel_left]; exact hy
theorem chain_snoc {l:List Sl} (h:ChainOk l) (x:Sl) (h1:x.units=x.n+sum1 l) (h2:x.coins=x.c+sum2 l):ChainOk (l++[x]):=by
 intro j a b ha hb
 by_cases hj:j+1<l.length
 ·rw [List.getElem?_append_left (by omega)] at ha hb
  exact h j a b ha hb
 ·have hlt:=(List.getElem?_eq_some_iff.1 hb).1
  simp only [List.length_append,List.length_singleton] at hlt
  have hjl:j+1=l.length:=by omega
  rw [List.getElem?_append_right (by omega),hjl,Nat.sub_self] at hb
  rw [List.getElem?_append_left (by omega)] at ha
  simp only [List.getElem?_cons_zero,Option.some.injEq] at hb
  subst hb
  have hs1:sum1 l=a.units:=by unfold sum1; rw [List.getD_eq_getElem?_getD,show l.length - 1=j by omega,ha]; rfl
  have hs2:sum2 l=a.coins:=by unfold sum2; rw [List.getD_eq_getElem?_getD,show l.length - 1=j by omega,ha]; rfl
  omega
theorem slAt_ok {s s1:Vs} {S:SS} (h:SalesOk s S) (hsl:s1.sl=s.sl) (lv:Nat):∀(i:Nat) (f:Bool) (l:List Sl),(slAt s1 S lv)[i]?=some (f,l)→i<4∧l=ofI (S.drop lv) i∧(f=true→l=[]):=by
 intro i f l hq
 have hi:i<4:=by have:=(List.getElem?_eq_some_iff.1 hq).1; rw [slAt_len] at this; exact this
 rw [slAt_get _ _ _ _ hi] at hq
 simp only [Option.some.injEq,Prod.mk.injEq] at hq
 refine ⟨hi,hq.2.symm,fun hf=>?_⟩
 have hl:i<s.sl.length:=by rw [h.sll]; exact hi
 have hg:=List.getElem?_eq_getElem hl
 have h1:=hq.1
 rw [hsl,List.getD_eq_getElem?_getD,hg] at h1
 generalize s.sl[i]=q at hg h1
 obtain ⟨f0,l0⟩:=q
 have h2:f0=true:=h1.trans hf
 rw [←hq.2]
 refine ofI_drop_nil ?_ lv
 rw [←h.sl _ _ _ hg]
 exact h.sf _ _ _ hg h2
theorem feedS_ok {s s1:Vs} {S:SS} {N:Nat} (h:SOk s S N) (hN:N<1000) (h1:s1.sl=s.sl) (h2:s1.sold=s.sold) {st:St} (ht:s.last≤st.tick∧0≤st.tick∧st.tick≤1099511627776)
  (hb:∀it n c,saleM s.coin st=(it,n,c,true)→0≤it∧it<4∧1≤n∧n≤1099511627776∧1≤c∧c≤1099511627776):SOk (feedF s S st s1) (feedS s S st) (N+1):=by
 unfold feedF feedS
 simp only
 generalize hlv:leavN S (st.tick - s.window)=lv
 have hso:=h.sales
 cases hq:(saleM s.coin st).2.2.2 with
 | false =>
  simp only [cond_false,List.append_nil]
  refine ⟨⟨?_,slAt_len ..,fun p hp=>hso.it p (List.mem_of_mem_drop hp),fun i f l hl=>(slAt_ok hso h1 lv i f l hl).2.1,fun i f l hl=>(slAt_ok hso h1 lv i f l hl).2.2,?_,fun p hp=>hso.tk p (List.mem_of_mem_drop hp)⟩,?_,fun p hp=>?_,fun i=>chain_drop h.chain lv i,h.ord.sublist (List.drop_sublist _ _),fun p hp=>?_⟩
  ·show s1.sold.drop lv=_
   rw [h2,hso.sold,List.map_drop]
  ·rw [List.length_drop]; have:=h.len; omega
  ·rw [List.length_drop]; have:=h.len; omega
  ·have:=h.val p (List.mem_of_mem_drop hp); omega
  ·have:=h.le p (List.mem_of_mem_drop hp); show p.2.tick≤st.tick; omega
 | true =>
  simp only [cond_true]
  generalize hsm:saleM s.coin st=q0 at *
  obtain ⟨it,n,c,b⟩:=q0
  simp only at hq
  subst hq
  obtain ⟨t1,t2,t3,t4,t5,t6⟩:=hb it n c rfl
  obtain ⟨i5,rfl⟩:∃i5:Nat,it=(i5:Int):=⟨it.toNat,by omega⟩
  simp only [Int.toNat_natCast]
  have hsb:=sum_b h lv i5
  have hi5:i5<4:=by omega
  have hg:=slAt_get s1 S lv i5 hi5
  refine ⟨⟨?_,?_,fun p hp=>?_,fun i f l hl=>?_,fun i f l hl=>?_,?_,fun p hp=>?_⟩,?_,fun p hp=>?_,fun i=>?_,?_,fun p hp=>?_⟩
  ·show s1.sold.drop lv++[(i5:Int)]=_
   rw [h2,hso.sold,List.map_append,List.map_drop]; rfl
  ·show ((slAt s1 S lv).set i5 _).length=4
   rw [List.length_set]; exact slAt_len ..
  ·rcases List.mem_append.1 hp with hp | hp
   ·exact hso.it p (List.mem_of_mem_drop hp)
   ·simp only [List.mem_singleton] at hp; subst hp; exact hi5
  ·have hl:((slAt s1 S lv).set i5 (false,ofI (S.drop lv) i5++[⟨st.tick,n,c,n+sum1 (ofI (S.drop lv) i5),c+sum2 (ofI (S.drop lv) i5)⟩]))[i]?=some (f,l):=hl
   rw [ofI_append]
   by_cases hi:i5=i
   ·subst hi
    rw [List.getElem?_set_self (by rw [slAt_len]; exact hi5)] at hl
    simp only [Option.some.injEq,Prod.mk.injEq] at hl
    rw [←hl.2]; simp [ofI]
   ·rw [List.getElem?_set_ne hi] at hl
    rw [(slAt_ok hso h1 lv i f l hl).2.1]; simp [ofI,hi]
  ·have hl:((slAt s1 S lv).set i5 (false,ofI (S.drop lv) i5++[⟨st.tick,n,c,n+sum1 (ofI (S.drop lv) i5),c+sum2 (ofI (S.drop lv) i5)⟩]))[i]?=some (f,l):=hl
   by_cases hi:i5=i
   ·subst hi
    rw [List.getElem?_set_self (by rw [slAt_len]; exact hi5)] at hl
    simp only [Option.some.injEq,Prod.mk.injEq] at hl
    rw [←hl.1]; simp
   ·rw [List.getElem?_set_ne hi] at hl
    exact (slAt_ok hso h1 lv i f l hl).2.2
  ·rw [List.length_append,List.length_drop,List.length_singleton]; have:=h.len; omega
  ·rcases List.mem_append.1 hp with hp | hp
   ·exact hso.tk p (List.mem_of_mem_drop hp)
   ·simp only [List.mem_singleton] at hp; subst hp; simp only; omega
  ·rw [List.length_append,List.length_drop,List.length_singleton]; have:=h.len; omega
  ·rcases List.mem_append.1 hp with hp | hp
   ·have:=h.val p (List.mem_of_mem_drop hp); omega
   ·simp only [List.mem_singleton] at hp; subst hp; simp only; omega
  ·rw [ofI_append]
   by_cases hi:i5=i
   ·subst hi
    have:ofI [(i5,(⟨st.tick,n,c,n+sum1 (ofI (S.drop lv) i5),c+sum2 (ofI (S.drop lv) i5)⟩:Sl))] i5=[⟨st.tick,n,c,n+sum1 (ofI (S.drop lv) i5),c+sum2 (ofI (S.drop lv) i5)⟩]:=by simp [ofI]
    rw [this]
    exact chain_snoc (chain_drop h.chain lv i5) _ rfl rfl
   ·have:ofI [(i5,(⟨st.tick,n,c,n+sum1 (ofI (S.drop lv) i5),c+sum2 (ofI (S.drop lv) i5)⟩:Sl))] i=[]:=by simp [ofI,hi]
    rw [this,List.append_nil]; exact chain_drop h.chain lv i
  ·refine List.pairwise_append.2 ⟨h.ord.sublist (List.drop_sublist _ _),List.pairwise_singleton _ _,fun p hp q hq=>?_⟩
   simp only [List.mem_singleton] at hq; subst hq
   have:=h.le p (List.mem_of_mem_drop hp); simp only; omega
  ·rcases List.mem_append.1 hp with hp | hp
   ·have:=h.le p (List.mem_of_mem_drop hp); show p.2.tick≤st.tick; omega
   ·simp only [List.mem_singleton] at hp; subst hp; show st.tick≤st.tick; omega
end Go.Proofs.YtpbdohkbiklflaaGreatDoor
namespace Go.Proofs.YtpbdohkbiklflaaGreatDoor
open Go.TM
variable [KObj]
structure VOk (s:Vs) (S:SS) (L N:Nat):Prop where
 hok:HOk s L
 sok:SOk s S N
 win:1≤s.window∧s.window≤1099511627776
 lst:0≤s.last
 wk:0≤s.work∧s.work≤N * 1000
 vb:∀p∈s.H,p.2≤N * 4398046511104
theorem eok_split {a b:HM} (h:EOk (a++b)):EOk a∧EOk b:=by
 have hn:=h.nd
 unfold Nk at hn
 rw [List.map_append] at hn
 have:=List.nodup_append.1 hn
 exact ⟨⟨this.1,fun e he=>h.pos e (List.mem_append_left _ he)⟩,⟨this.2.1,fun e he=>h.pos e (List.mem_append_right _ he)⟩⟩
theorem eok_fresh {a:HM} {k:Ky} {x:Int} {r:HM} (h:EOk (a++(k,x)::r)):hget a k=none:=by
 refine hget_none fun hm=>?_
 have hn:=h.nd
 unfold Nk at hn
 rw [List.map_append] at hn
 exact (List.nodup_append.1 hn).2.2 k hm k (by simp) rfl
theorem vok_hv {s:Vs} {S:SS} {L N:Nat} (h:VOk s S L N) (k:Ky):0≤hv s.H k∧hv s.H k≤N * 4398046511104:=by
 have h1:=h.hok.hv0 k
 refine ⟨h1.1,?_⟩
 by_cases h0:hv s.H k=0
 ·rw [h0]; omega
 ·exact h.vb _ (hget_mem (h1.2.2.1 h0))
theorem vok_A {s:Vs} {S:SS} {L N:Nat} (h:VOk s S L N) (hN:N≤100) {st:St} (hm:st.mv.length≤4) {A:HM} (hA:haM s.H [] st.mv=.ok A):EOk A∧A.length≤8∧(∀k,hold A s.H k≤(N+1:Nat) * 4398046511104)∧∀e∈A,e.2≤(N+1:Nat) * 4398046511104:=by
 have h1:=haM_ok (C:=N * 4398046511104) hA (by omega) ⟨List.nodup_nil,fun e he=>by cases he⟩ (fun k=>vok_hv h k)
 have h2:=haM_len hA
 simp only [List.length_nil] at h2
 have h3:∀e∈A,e.2≤(N+1:Nat) * 4398046511104:=fun e he=>by have:=(h1.pos e he).2.2.2; omega
 refine ⟨⟨h1.nd,fun e he=>?_⟩,by omega,fun k=>?_,h3⟩
 ·have:=h1.pos e he
  refine ⟨this.1,this.2.1,this.2.2.1,by omega⟩
 ·unfold hold
  cases hq:hget A k with
  | none=>have:=vok_hv h k; simp only [Option.getD_none]; omega
  | some x=>have:=h3 _ (hget_mem hq); simpa using this
theorem feedF_H (s:Vs) (S:SS) (st:St) (t:Vs):(feedF s S st t).H=t.H∧(feedF s S st t).tots=t.tots∧(feedF s S st t).rk=t.rk∧(feedF s S st t).window=t.window∧(feedF s S st t).last=st.tick∧(feedF s S st t).coin=t.coin∧(feedF s S st t).budget=t.budget:=by
 unfold feedF finM
 cases (saleM s.coin st).2.2.2 <;> exact ⟨rfl,rfl,rfl,rfl,rfl,rfl,rfl⟩
theorem feedF_work (s:Vs) (S:SS) (st:St) (t:Vs):(feedF s S st t).work=t.work+leavN S (st.tick - s.window)+(bif (saleM s.coin st).2.2.2 then 1 else 0):=by
 unfold feedF finM
 cases (saleM s.coin st).2.2.2
 ·show t.work+_=t.work+_+0; omega
 ·rfl
theorem feedF_setH (s:Vs) (S:SS) (st:St) (t:Vs) (H:HM):feedF s S st { t with H:=H }={ feedF s S st t with H:=H }:=by
 unfold feedF finM
 cases (saleM s.coin st).2.2.2 <;> rfl
theorem perm_vK (f h g:Bool) (t:Vs) {H:HM} (hp:H.Perm t.H):PermK (vKg f h g { t with H:=H }) (vKg f h g t):=by
 unfold vKg
 refine .cons (.refl _) (.cons (.omap _ _ _ (hp.map _)) (.cons (.refl _) (.cons (.refl _) (.cons (.refl _) (.cons (.refl _) .nil)))))
def feedFl (s:Vs) (S:SS) (st:St):Bool:=decide (0<leavN S (st.tick - s.window)) || (saleM s.coin st).2.2.2
theorem feed_spec {s:Vs} {S:SS} {L N:Nat} (h:VOk s S L N) (hL:L+8≤500) (hN:N≤99) (st:St) (hm:st.mv.length≤4) :
  match feedC s S st with
  | .err e=>CSpec Tryz.prog 21 [.ptr 0 0,aSt st] 6 (vK false s) 9 [.dv (I e)] (vK false s)
  | .ok A=>CSpec Tryz.prog 21 [.ptr 0 0,aSt st] 6 (vK false s) 9 [.dv (I 0)] (vKg (touchA s A) (feedFl s S st) true (feedF s S st (setsM s A))):=by
 have hw:=feed_walk s S h.sok.sales st (by omega) (fun k=>by have:=vok_hv h k; omega) (by have:=h.hok.len; omega) h.win h.lst (by have:=h.wk; omega) (fun j i=>by have:=sum_b h.sok j i; omega)
  (fun A it n c hA hq=>sale_b (haM_mv hA) hq) (fun A hA done k now left hp=>?_)
 ·have hfc:∀A,feedC s S st=.ok A→haM s.H [] st.mv=.ok A:=by
   intro A hA
   unfold feedC at hA
   split at hA
   ·cases hA
   split at hA
   ·cases hA
   ·split at hA
    ·cases hA
    ·rename_i h9 _; rw [h9]; rw [FdR.ok.injEq] at hA; rw [hA]
  cases hq:feedC s S st with
  | err e =>
   rw [hq] at hw
   exact hw
  | ok A =>
   rw [hq] at hw
   simp only
   refine cspec_perm ⟨hw.1,fun w G vs hgl hfit hr=>?_⟩
   refine Calls.mono (hw.2 w G vs hgl hfit hr) ?_
   rintro e w' ⟨v,r,k,G',rfl,⟨done,hp,rfl,rfl⟩,hc⟩
   refine ⟨v,_,_,G',rfl,⟨rfl,?_⟩,hc⟩
   obtain ⟨a1,a2,a3,a4⟩:=vok_A h (by omega) hm (hfc A hq)
   obtain ⟨p1,p2⟩:=sets_perm h.hok a1 hp (by omega) (by have:=h.wk; omega)
   rw [p2,feedF_setH]
   exact perm_vK _ _ _ _ (by rw [(feedF_H s S st _).1]; exact p1)
 ·obtain ⟨a1,a2,a3,a4⟩:=vok_A h (by omega) hm hA
  have e1:=a1.perm hp
  have hln:=hp.length_eq
  simp only [List.length_append,List.length_cons] at hln
  obtain ⟨e2,e3⟩:=eok_split e1
  have ho:=sets_ok h.hok e2 (by omega) (by have:=h.wk; omega)
  have hwk:=setsM_work s done
  obtain ⟨q1,⟨i,hi,q2⟩,q3,q4⟩:=e3.pos _ List.mem_cons_self
  obtain ⟨a,it⟩:=k
  simp only at q1 q2 q3 q4
  subst q2
  refine ⟨i,(set_ok ho (by omega) (by have:=h.wk; omega) hi q1 ⟨q3,q4⟩).1,?_⟩
  unfold touchM
  rw [hv_sets h.hok.nd e2]
  unfold hold
  rw [eok_fresh e1]; rfl
theorem feed_ok {s:Vs} {S:SS} {L N:Nat} (h:VOk s S L N) (hL:L+8≤500) (hN:N≤99) (st:St) (hm:st.mv.length≤4) {A:HM} (hA:feedC s S st=.ok A):VOk (feedF s S st (setsM s A)) (feedS s S st) (L+8) (N+1)∧haM s.H [] st.mv=.ok A∧(s.last≤st.tick∧st.tick≤1099511627776)∧szF s S st+dlts s.H A≤s.budget:=by
 unfold feedC at hA
 split at hA
 ·cases hA
 rename_i hc
 have hc:(bif decide (st.tick<s.last) then true else decide (1099511627776<st.tick))=false:=by simpa using hc
 have htk:s.last≤st.tick∧st.tick≤1099511627776:=by
  simp only [Bool.cond_true_left,Bool.or_eq_false_iff,decide_eq_false_iff_not] at hc; omega
 split at hA
 ·cases hA
 rename_i A' hA'
 split at hA
 ·cases hA
 rename_i hsz
 rw [FdR.ok.injEq] at hA
 subst hA
 refine ⟨?_,hA',htk,by omega⟩
 obtain ⟨a1,a2,a3,a4⟩:=vok_A h (by omega) hm hA'
 have ho:=sets_ok h.hok a1 (by omega) (by have:=h.wk; omega)
 have hwk:=setsM_work s A'
 obtain ⟨f1,f2,f3,f4,f5,f6,f7⟩:=feedF_H s S st (setsM s A')
 have hr:=setsM_rest A' s
 have hlst:=h.lst
 refine ⟨⟨by rw [f1]; exact ho.nd,by rw [f1]; exact ho.pos,by rw [f1]; have:=ho.len; omega,by rw [f2]; exact ho.tl,by rw [f3]; exact ho.rl,by rw [f1,f3]; exact ho.rk,by rw [f1,f2]; exact ho.tot⟩,
  feedS_ok h.sok (by omega) (setsM_sl ..) (setsM_sold ..) ⟨htk.1,by omega,htk.2⟩ (fun it n c hq=>sale_b (haM_mv hA') hq),by rw [f4,hr.2.1]; exact h.win,by rw [f5]; omega,?_,?_⟩
 ·rw [feedF_work]
  have hlv:leavN S (st.tick - s.window)≤N:=Nat.le_trans (by unfold leavN; exact (List.takeWhile_sublist _).length_le) h.sok.len
  have:=h.wk
  cases (saleM s.coin st).2.2.2 <;> simp only [cond_true,cond_false] <;> omega
 ·rw [f1]
  intro p hp
  have h1:=mem_hget ho.nd (k:=p.1) (x:=p.2) hp
  have h2:=hv_sets h.hok.nd a1 p.1
  unfold hv at h2
  rw [h1] at h2
  simp only [Option.getD_some] at h2
  rw [h2]; exact a3 _
end Go.Proofs.YtpbdohkbiklflaaGreatDoor
namespace Go.Proofs.YtpbdohkbiklflaaGreatDoor
open Go.TM
variable [KObj]
set_option maxRecDepth 100000
def kPr (s:Vs) (it:Nat) (tick:Int):Boxes:=vK false s++[(6,.cells [.ptr 0 0]),(7,.cells [.dv (I tick)]),(8,.cells [.own 4 0 0 [.el it 0]])]
theorem pc_spec (s:Vs) (it:Nat) (tick:Int) (l:List Sl) (hs:(s.sl.map eSs)[it]?=some (.osl 5 (l.map eSl))) (i:Nat) (x:Sl) (hi:l[i]?=some x) (hb:-9223372036854775808≤tick - s.window∧tick - s.window≤9223372036854775807) :
  CSpec Tryz.prog 41 [.dv (I i),.ptr 8 0,.ptr 7 0,.ptr 6 0] 9 (kPr s it tick) 0 [.dv (B (decide (tick - s.window<x.tick)))] (kPr s it tick):=by
 have hlt:i<l.length:=(List.getElem?_eq_some_iff.1 hi).1
 refine cspec_of tab_ok mixed (calls_snd _) (range_snd _) Tryz.func41 rfl rfl (by kernel_rfl) ?_
 refine ⟨.osl 5 (l.map eSl),fun _=>hs,?_⟩
 refine ⟨fun _=>⟨by omega,by rw [List.length_map]; omega⟩,?_⟩
 refine ⟨.osl 5 (l.map eSl),fun _=>hs,?_⟩
 refine ⟨eSl x,fun _=>by rw [List.getElem?_map,Int.toNat_natCast,hi]; rfl,?_⟩
 refine ⟨fun _=>⟨by omega,by omega⟩,?_⟩
 exact ⟨by kernel_rfl,_,_,⟨rfl,rfl⟩,by kernel_rfl,⟨rf,tv⟩,⟨rf,rf,rf,rf,rf,rf,rfl,rfl,rfl,rfl,rfl,tv⟩,⟨rfl,rfl⟩,⟨rfl,rfl⟩,⟨rfl,rfl⟩,⟨rfl,rfl⟩,⟨rfl,rfl⟩,⟨rfl,tv⟩,⟨rf,tv⟩,⟨rfl,tv⟩,tv⟩
theorem search3_spec (s:Vs) (it:Nat) (tick:Int) (l:List Sl) (hs:(s.sl.map eSs)[it]?=some (.osl 5 (l.map eSl))) (k:Nat) (hk:k≤l.length) (hl:l.length≤1000) (hb:-9223372036854775808≤tick - s.window∧tick - s.window≤9223372036854775807)
  (h1:∀i y,i<k→l[i]?=some y→¬ tick - s.window<y.tick) (h2:∀i y,k≤i→l[i]?=some y→tick - s.window<y.tick) :
  CSpec Tryz.prog 40 [.dv (I l.length),.fn 41 [.ptr 8 0,.ptr 7 0,.ptr 6 0]] 9 (kPr s it tick) 0 [.dv (I k)] (kPr s it tick):=by
 refine cspec_of tab_ok mixed (calls_snd _) (range_snd _) Tryz.func40 rfl rfl (by kernel_rfl) ?_
 refine ⟨SeI,seInv 41 [.ptr 8 0,.ptr 7 0,.ptr 6 0] 9 (kPr s it tick),fun q=>q.i≤k∧k≤q.j∧q.j≤l.length,fun q=>q.j - q.i,⟨0,l.length⟩,fun _=>rfl,⟨⟨⟨rfl,rfl,rfl,rfl,tv⟩,rf,rf,tv⟩,⟨⟨rf,rf,rf,rf,rf,rf,rfl,rfl,rfl,rfl,rfl,tv⟩,⟨rfl,rfl⟩,⟨rfl,rfl⟩,⟨rfl,rfl⟩,⟨rfl,rfl⟩,⟨rfl,rfl⟩,⟨rfl,tv⟩,⟨rf,tv⟩,⟨rfl,tv⟩,tv⟩,rfl,rfl⟩,⟨Nat.zero_le _,hk,Nat.le_refl _⟩,?_⟩
 rintro q ⟨p1,p2,p3⟩
 refine ⟨fun hlt=>?_,fun hge=>?_⟩
 ·have hlt:q.i<q.j:=by have:=of_decide_eq_true hlt; simp only [Int.ofNat_lt] at this; exact this
  refine ⟨fun _=>⟨by omega,by omega⟩,?_⟩
  refine ⟨fun _=>by omega,?_⟩
  have hlen:(q.i+q.j) / 2<l.length:=by omega
  have hget:=List.getElem?_eq_getElem hlen
  refine .inr ⟨[0,1,2,3,4,5,6,7,8],[.dv (I ((q.i+q.j) / 2:Nat)),.ptr 8 0,.ptr 7 0,.ptr 6 0],kPr s it tick,0,_,_,pc_spec s it tick l hs ((q.i+q.j) / 2) _ hget hb,by kernel_rfl,by kernel_rfl,⟨?_,rfl,rfl,rfl,tv⟩,⟨⟨rf,rf,rf,rf,rf,rf,rfl,rfl,rfl,rfl,rfl,tv⟩,⟨rfl,rfl⟩,⟨rfl,rfl⟩,⟨rfl,rfl⟩,⟨rfl,rfl⟩,⟨rfl,rfl⟩,⟨rfl,tv⟩,⟨rf,tv⟩,⟨rfl,tv⟩,tv⟩,?_⟩
  ·rw [mid_eq (by omega)]; exact rf
  ·refine ⟨fun hb=>?_,fun hb=>?_⟩
   ·have hb':¬ tick - s.window<l[(q.i+q.j) / 2].tick:=by simpa using hb
    have hlt2:(q.i+q.j) / 2<k:=by
     rcases Nat.lt_or_ge ((q.i+q.j) / 2) k with h | h
     ·exact h
     ·exact absurd (h2 _ _ h hget) hb'
    rw [mid_eq (by omega)]
    refine ⟨fun _=>⟨by omega,by omega⟩,?_⟩
    exact ⟨⟨(q.i+q.j) / 2+1,q.j⟩,⟨⟨⟨rfl,rfl,rfl,rfl,tv⟩,le_int (by simp),rf,tv⟩,⟨⟨rf,rf,rf,rf,rf,rf,rfl,rfl,rfl,rfl,rfl,tv⟩,⟨rfl,rfl⟩,⟨rfl,rfl⟩,⟨rfl,rfl⟩,⟨rfl,rfl⟩,⟨rfl,rfl⟩,⟨rfl,tv⟩,⟨rf,tv⟩,⟨rfl,tv⟩,tv⟩,rfl,rfl⟩,⟨hlt2,p2,p3⟩,by simp only; omega⟩
   ·have hb':tick - s.window<l[(q.i+q.j) / 2].tick:=by simpa using hb
    have hge2:k≤(q.i+q.j) / 2:=by
     rcases Nat.lt_or_ge ((q.i+q.j) / 2) k with h | h
     ·exact absurd hb' (h1 _ _ h hget)
     ·exact h
    rw [mid_eq (by omega)]
    exact ⟨⟨q.i,(q.i+q.j) / 2⟩,⟨⟨⟨rfl,rfl,rfl,rfl,tv⟩,rf,rf,tv⟩,⟨⟨rf,rf,rf,rf,rf,rf,rfl,rfl,rfl,rfl,rfl,tv⟩,⟨rfl,rfl⟩,⟨rfl,rfl⟩,⟨rfl,rfl⟩,⟨rfl,rfl⟩,⟨rfl,rfl⟩,⟨rfl,tv⟩,⟨rf,tv⟩,⟨rfl,tv⟩,tv⟩,rfl,rfl⟩,⟨p1,hge2,by simp only; omega⟩,by simp only; omega⟩
 ·have hge:¬ q.i<q.j:=by have:=of_decide_eq_false hge; omega
  have hik:q.i=k:=by omega
  exact ⟨_,_,⟨rfl,rfl⟩,by kernel_rfl,⟨le_int (by rw [hik]),tv⟩,⟨rf,rf,rf,rf,rf,rf,rfl,rfl,rfl,rfl,rfl,tv⟩,⟨rfl,rfl⟩,⟨rfl,rfl⟩,⟨rfl,rfl⟩,⟨rfl,rfl⟩,⟨rfl,rfl⟩,⟨rfl,tv⟩,⟨rf,tv⟩,⟨rfl,tv⟩,tv⟩
theorem price_c (s:Vs) (it tick:Int):(bif bif decide (it<0) then true else decide (4≤it) then true else decide (tick<s.last))=decide (it<0 ∨ 4≤it ∨ tick<s.last):=by by_cases h1:it<0 <;> by_cases h2:4≤it <;> simp [h1,h2]
def Sl.zero:Sl:=⟨0,0,0,0,0⟩
def priceL (s:Vs) (it:Nat) (l:List Sl) (k:Nat):List Int × Bool :=
 if k=l.length then ([0,0,0,0,0],false) else
 ([(it:Int),s.coin,(l.getD (l.length - 1) Sl.zero).units - ((l.getD k Sl.zero).units - (l.getD k Sl.zero).n),(l.getD (l.length - 1) Sl.zero).coins - ((l.getD k Sl.zero).coins - (l.getD k Sl.zero).c),(l.getD (l.length - 1) Sl.zero).c.tdiv (l.getD (l.length - 1) Sl.zero).n],true)
def ints5 (l:List Int):AV:=.agg (l.map fun n=>.dv (I n))
set_option maxHeartbeats 4000000 in
theorem priceB_spec (s:Vs) (it:Nat) (tick:Int) (h4:it<4) (hl:s.sl.length=4) (ht:s.last≤tick) (l:List Sl) (hs:s.sl[it]?=some (false,l)) (k:Nat) (hk:k≤l.length) (hll:l.length≤1000) (hb:-9223372036854775808≤tick - s.window∧tick - s.window≤9223372036854775807)
  (h1:∀i y,i<k→l[i]?=some y→¬ tick - s.window<y.tick) (h2:∀i y,k≤i→l[i]?=some y→tick - s.window<y.tick)
  (hn:∀y,y∈l→1≤y.n∧y.n≤1152921504606846976∧1≤y.c∧y.c≤1152921504606846976∧0≤y.units∧y.units≤1152921504606846976∧0≤y.coins∧y.coins≤1152921504606846976) :
  CSpec Tryz.prog 17 [.ptr 0 0,.dv (I it),.dv (I tick)] 6 (vK false s) 0 [ints5 (priceL s it l k).1,.dv (B (priceL s it l k).2)] (vK false s):=by
 have hse:(s.sl.map eSs)[it]?=some (.osl 5 (l.map eSl)):=by rw [List.getElem?_map,hs]; rfl
 have hsp:=search3_spec s it tick l hse k hk hll hb h1 h2
 refine cspec_of tab_ok mixed (calls_snd _) (range_snd _) Tryz.func17 rfl rfl (by kernel_rfl) ?_
 repeat first | refine ⟨id,?_⟩ | refine ⟨fun _ h=>bw_f h,?_⟩ | refine ⟨fun _ h=>bw_t h,?_⟩ | refine ⟨fun h=>⟨h,fun h2=>bw_and h h2⟩,?_⟩ | refine ⟨fun h=>⟨h,fun h2=>bw_andf h h2⟩,?_⟩
 refine ⟨by kernel_rfl,fun h'=>?_,fun _=>?_⟩
 ·have:=of_decide_eq_true ((price_c s it tick).symm.trans h'); omega
 refine ⟨fun _=>⟨by omega,by rw [List.length_map]; omega⟩,.osl 5 (l.map eSl),fun _=>hse,?_⟩
 refine ⟨.osl 5 (l.map eSl),fun _=>hse,?_⟩
 refine .inr ⟨[0,1,2,3,4,5,6,7,9],[.dv (I l.length),.fn 41 [.ptr 8 0,.ptr 7 0,.ptr 6 0]],kPr s it tick,0,_,_,hsp,by kernel_rfl,by kernel_rfl,⟨le_int (by rw [List.length_map]),⟨rfl,rfl,rfl,rfl,tv⟩,tv⟩,⟨⟨rf,rf,rf,rf,rf,rf,rfl,rfl,rfl,rfl,rfl,tv⟩,⟨rfl,rfl⟩,⟨rfl,rfl⟩,⟨rfl,rfl⟩,⟨rfl,rfl⟩,⟨rfl,rfl⟩,⟨rfl,tv⟩,⟨rf,tv⟩,⟨rfl,tv⟩,tv⟩,?_⟩
 refine ⟨.osl 5 (l.map eSl),fun _=>hse,?_⟩
 refine ⟨fun h'=>?_,fun h'=>?_⟩
 ·have hkl:k=l.length:=by
   rw [List.length_map] at h'
   have h9:(k:Int)=(l.length:Int):=by simpa using h'
   omega
  rw [show priceL s it l k=([0,0,0,0,0],false) from if_pos hkl]
  exact ⟨_,_,⟨rfl,rfl⟩,by kernel_rfl,⟨⟨rf,rf,rf,rf,rf,tv⟩,rf,tv⟩,⟨rf,rf,rf,rf,rf,rf,rfl,rfl,rfl,rfl,rfl,tv⟩,⟨rfl,rfl⟩,⟨rfl,rfl⟩,⟨rfl,rfl⟩,⟨rfl,rfl⟩,⟨rfl,rfl⟩,tv⟩
 have hkl:k<l.length:=by
  rw [List.length_map] at h'
  have h9:¬ (k:Int)=(l.length:Int):=by simpa using h'
  omega
 have hxk0:l[k]?=some (l.getD k Sl.zero):=by rw [List.getD_eq_getElem?_getD,List.getElem?_eq_getElem hkl]; rfl
 have hyl0:l[l.length - 1]?=some (l.getD (l.length - 1) Sl.zero):=by rw [List.getD_eq_getElem?_getD,List.getElem?_eq_getElem (by omega)]; rfl
 have hxb:=hn _ (List.mem_of_getElem? hxk0)
 have hyb:=hn _ (List.mem_of_getElem? hyl0)
 have hpl:priceL s it l k=([(it:Int),s.coin,(l.getD (l.length - 1) Sl.zero).units - ((l.getD k Sl.zero).units - (l.getD k Sl.zero).n),(l.getD (l.length - 1) Sl.zero).coins - ((l.getD k Sl.zero).coins - (l.getD k Sl.zero).c),(l.getD (l.length - 1) Sl.zero).c.tdiv (l.getD (l.length - 1) Sl.zero).n],true):=if_neg (by omega)
 rw [hpl]
 generalize l.getD k Sl.zero=xk at *
 generalize l.getD (l.length - 1) Sl.zero=y at *
 have hxk:(l.map eSl)[((k:Int)).toNat]?=some (eSl xk):=by rw [Int.toNat_natCast,List.getElem?_map,hxk0]; rfl
 have hlm:(l.map eSl).length=l.length:=List.length_map ..
 have hyl:(l.map eSl)[((((l.map eSl).length:Nat):Int) - 1).toNat]?=some (eSl y):=by
  rw [hlm,show ((l.length:Int) - 1).toNat=l.length - 1 by omega,List.getElem?_map,hyl0]; rfl
 repeat first | refine ⟨.osl 5 (l.map eSl),fun _=>hse,?_⟩ | refine ⟨eSl xk,fun _=>hxk,?_⟩ | refine ⟨eSl y,fun _=>hyl,?_⟩ | refine ⟨by kernel_rfl,?_⟩ | refine ⟨fun _=>⟨by omega,by omega⟩,?_⟩
 have hd0:0≤y.c.tdiv y.n:=Int.tdiv_nonneg (by omega) (by omega)
 have hd1:y.c.tdiv y.n≤y.c:=Int.tdiv_le_self y.n (by omega)
 refine ⟨fun _ h=>by omega,?_⟩
 repeat first | refine ⟨.osl 5 (l.map eSl),fun _=>hse,?_⟩ | refine ⟨eSl xk,fun _=>hxk,?_⟩ | refine ⟨eSl y,fun _=>hyl,?_⟩ | refine ⟨by kernel_rfl,?_⟩ | refine ⟨fun _=>⟨by omega,by omega⟩,?_⟩
 exact ⟨_,_,⟨rfl,rfl⟩,by kernel_rfl,⟨⟨rf,rf,rf,rf,rf,tv⟩,rf,tv⟩,⟨rf,rf,rf,rf,rf,rf,rfl,rfl,rfl,rfl,rfl,tv⟩,⟨rfl,rfl⟩,⟨rfl,rfl⟩,⟨rfl,rfl⟩,⟨rfl,rfl⟩,⟨rfl,rfl⟩,tv⟩
end Go.Proofs.YtpbdohkbiklflaaGreatDoor
