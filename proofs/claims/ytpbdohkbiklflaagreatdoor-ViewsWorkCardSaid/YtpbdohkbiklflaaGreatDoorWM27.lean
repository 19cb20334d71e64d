import Derived.Test.YtpbdohkbiklflaaGreatDoorWM26
import Derived.Test.YtpbdohkbiklflaaGreatDoorWM23
import Derived.Test.YtpbdohkbiklflaaGreatDoorWM21
set_option linter.unusedVariables false
set_option linter.unusedSimpArgs false
set_option linter.unusedSectionVars false
namespace Go.Proofs.YtpbdohkbiklflaaGreatDoor
open Go.TM
variable [cZ]
theorem Ap {H:HM} {steps:List St}:∀(r b:List Mv) (m:HM),(∀a it,1≤a→hold m H (a,it)=ij a it (bg a it steps) b) →
  match ko H m r with
  | .err e=>oj steps b r=e∧e ≠ 0
  | .ok A=>oj steps b r=0∧∀a it,1≤a→hold A H (a,it)=ij a it (bg a it steps) (b++r)
 | [],b,m,h=>by
  rw [List.append_nil]
  exact ⟨rfl,h⟩
 | v::r,b,m,h=>by
  by_cases hb:iL v=true
  ·rw [ko,if_pos hb]
   simp only
   rw [oj,if_pos hb]
   exact ⟨rfl,by decide⟩
  ·obtain ⟨b1,b2,b3,b4,b5,b6,b7⟩:=qI (by simpa using hb)
   have hf:=tZ b5
   have ht:=tZ b6
   have Wi:bg v.f v.it (steps++[⟨0,0,0,0,0,0,b⟩])=ij v.f v.it (bg v.f v.it steps) b:=pn ..
   have key:∀m1:HM,(∀a it,1≤a→hold m1 H (a,it)=if v.it=it∧v.f=a then hold m H (a,it) - v.n else hold m H (a,it)) →
     ∀a it,1≤a→hold (if v.t ≠ 0 then bM m1 (v.t,v.it) (hold m1 H (v.t,v.it)+v.n) else m1) H (a,it)=ij a it (bg a it steps) (b++[v]):=by
    intro m1 h1 a it ha
    rw [yn,←h a it ha]
    unfold Gn
    by_cases U3:v.it=it∧v.t=a
    ·obtain ⟨h2,h3⟩:=U3
     have U4:v.t ≠ 0:=by omega
     rw [if_pos U4,kO,if_pos (by rw [h2,h3]),h1 _ _ (by omega),if_neg (fun h9=>b7 h9.2),if_neg (fun h9=>b7 (h9.2.trans h3.symm)),if_pos ⟨h2,h3⟩,h2,h3]
    ·rw [if_neg U3]
     have:hold (if v.t ≠ 0 then bM m1 (v.t,v.it) (hold m1 H (v.t,v.it)+v.n) else m1) H (a,it)=hold m1 H (a,it):=by
      split
      ·rw [kO,if_neg]
       intro h9
       injection h9 with h9 Gd
       exact U3 ⟨Gd,h9⟩
      ·rfl
     rw [this,h1 _ _ ha]
   rw [ko,oj,if_neg hb,if_neg hb]
   by_cases h0:v.f=0
   ·rw [if_neg (show ¬ v.f ≠ 0 by simpa using h0),if_neg (show ¬ (v.f ≠ 0∧bg v.f v.it (steps++[⟨0,0,0,0,0,0,b⟩])<v.n) by rintro ⟨h9,_⟩; exact h9 h0)]
    have:=Ap r (b++[v]) _ (key m fun a it ha=>by rw [if_neg]; rintro ⟨_,h9⟩; omega)
    rw [List.append_assoc] at this
    exact this
   ·rw [if_pos h0]
    have hh:=h v.f v.it (by omega)
    by_cases hs:hold m H (v.f,v.it)<v.n
    ·rw [if_pos hs,if_pos ⟨h0,by rw [Wi,←hh]; exact hs⟩]
     exact ⟨rfl,by decide⟩
    ·rw [if_neg hs,if_neg (by rintro ⟨_,h9⟩; rw [Wi,←hh] at h9; exact hs h9)]
     have:=Ap r (b++[v]) _ (key (bM m (v.f,v.it) (hold m H (v.f,v.it) - v.n)) fun a it ha=>by
      rw [kO]
      by_cases h9:v.it=it∧v.f=a
      ·rw [if_pos h9,if_pos (by rw [h9.1,h9.2]),h9.1,h9.2]
      ·rw [if_neg h9,if_neg]
       intro Gd; injection Gd with Gd B3; exact h9 ⟨B3,Gd⟩)
     rw [List.append_assoc] at this
     exact this
def HP (p:Nat × Sl):Int × Int × Int × Int:=((p.1:Int),p.2.tick,p.2.n,p.2.c)
def Ty (coin:Int) (x:St):Int × Int × Int × Int:=((bD coin x).1,x.tick,(bD coin x).2.1,(bD coin x).2.2.1)
def nw (coin X9:Int) (l:List St):List (Int × Int × Int × Int):=(l.filter fun x=>bh coin x && decide (X9<x.tick)).map (Ty coin)
theorem Co (coin:Int) {t u:Int} (h:t≤u) (l:List St):(nw coin t l).filter (fun q=>decide (u<q.2.1))=nw coin u l:=by
 unfold nw
 rw [List.filter_map,List.filter_filter]
 congr 1
 refine List.filter_congr fun x _=>?_
 simp only [Function.comp,Ty]
 by_cases h1:u<x.tick
 ·simp [h1,show t<x.tick by omega]
 ·simp [h1]
theorem yA (coin u:Int) (l:List St) (s:St):nw coin u (l++[s])=nw coin u l++(if bh coin s=true∧u<s.tick then [Ty coin s] else []):=by
 unfold nw
 rw [List.filter_append,List.map_append]
 congr 1
 by_cases h:bh coin s=true∧u<s.tick
 ·rw [if_pos h]; simp [h.1,h.2]
 ·rw [if_neg h]
  cases h1:bh coin s with
  | false=>simp [h1]
  | true=>simp [h1] at h; simp [h1]; omega
theorem wj {coin ab tick:Int} {l:List St} (h:∀x∈l,x.tick≤tick):bq coin ab l tick=(nw coin (tick - ab) l).length:=by
 unfold bq nw
 rw [List.length_map,List.countP_eq_length_filter]
 congr 1
 refine List.filter_congr fun x hx=>?_
 unfold Sb
 have:=h x hx
 cases bh coin x <;> simp [this]
theorem yB:∀{S:SS} (_:S.Pairwise fun p q=>p.2.tick≤q.2.tick) (lim:Int),S.drop (dw S lim)=S.filter fun p=>decide (lim<p.2.tick)
 | [],_,_=>rfl
 | p::r,h,lim=>by
  rw [List.pairwise_cons] at h
  by_cases hp:p.2.tick≤lim
  ·have:dw (p::r) lim=dw r lim+1:=by unfold dw; rw [List.takeWhile_cons_of_pos (by simpa using hp)]; rfl
   rw [this,List.drop_succ_cons,yB h.2,List.filter_cons_of_neg (by simp; omega)]
  ·have:dw (p::r) lim=0:=by unfold dw; rw [List.takeWhile_cons_of_neg (by simpa using hp)]; rfl
   rw [this,List.drop_zero]
   rw [List.filter_eq_self.2]
   intro q hq
   rcases List.mem_cons.1 hq with rfl | hq
   ·simp; omega
   ·have:=h.1 q hq; simp; omega
def Ij (l:List Int):Prop:=l.Pairwise (· < ·)
theorem Cp {l:List Int} {n x:Int}:x∈kQ l n ↔ x∈l ∨ (x=n∧0<n):=by
 unfold kQ
 split
 ·rename_i h
  constructor
  ·exact .inl
  ·rintro (h1 | ⟨rfl,h1⟩)
   ·exact h1
   ·rcases h with h | h
    ·omega
    ·exact h
 ·rename_i h
  rw [not_or] at h
  have e:=List.takeWhile_append_dropWhile (p:=fun x=>decide (x<n)) (l:=l)
  have:x∈l ↔ x∈l.takeWhile (fun x=>decide (x<n)) ∨ x∈l.dropWhile (fun x=>decide (x<n)):=by
   rw [←List.mem_append,e]
  rw [List.mem_append,List.mem_cons,this]
  constructor
  ·rintro (h1 | h1 | h1)
   ·exact .inl (.inl h1)
   ·exact .inr ⟨h1,by omega⟩
   ·exact .inl (.inr h1)
  ·rintro ((h1 | h1) | ⟨h1,_⟩)
   ·exact .inl h1
   ·exact .inr (.inr h1)
   ·exact .inr (.inl h1)
theorem Cq:∀{l:List Int} {n:Int},Ij l→∀x∈l.dropWhile (fun x=>decide (x<n)),n≤x
 | [],_,_,x,hx=>by cases hx
 | y::r,n,h,x,hx=>by
  unfold Ij at h
  rw [List.pairwise_cons] at h
  by_cases hy:y<n
  ·rw [List.dropWhile_cons_of_pos (by simpa using hy)] at hx
   exact Cq h.2 x hx
  ·rw [List.dropWhile_cons_of_neg (by simpa using hy)] at hx
   rcases List.mem_cons.1 hx with rfl | hx
   ·omega
   ·have:=h.1 x hx; omega
theorem Cr:∀{l:List Int} {n:Int},∀x∈l.takeWhile (fun x=>decide (x<n)),x<n
 | [],_,x,hx=>by cases hx
 | y::r,n,x,hx=>by
  by_cases hy:y<n
  ·rw [List.takeWhile_cons_of_pos (by simpa using hy)] at hx
   rcases List.mem_cons.1 hx with rfl | hx
   ·exact hy
   ·exact Cr x hx
  ·rw [List.takeWhile_cons_of_neg (by simpa using hy)] at hx; cases hx
theorem Cs {l:List Int} (h:Ij l) (n:Int):Ij (kQ l n):=by
 unfold kQ
 split
 ·exact h
 ·rename_i h0
  rw [not_or] at h0
  have e:=List.takeWhile_append_dropWhile (p:=fun x=>decide (x<n)) (l:=l)
  unfold Ij at h ⊢
  rw [←e] at h
  rw [List.pairwise_append] at h ⊢
  refine ⟨h.1,?_,?_⟩
  ·rw [List.pairwise_cons]
   refine ⟨fun x hx=>?_,h.2.1⟩
   have h1:=Cq (l:=l) (by unfold Ij; rw [←e,List.pairwise_append]; exact h) x hx
   have h2:x∈l:=by rw [←e]; exact List.mem_append_right _ hx
   have:x ≠ n:=fun h9=>h0.2 (h9 ▸ h2)
   omega
  ·intro x hx y hy
   rcases List.mem_cons.1 hy with rfl | hy
   ·exact Cr x hx
   ·exact h.2.2 x hx y hy
theorem yC:∀(l:List Mv) (o:List Int),Ij o→Ij (l.foldl fm o)∧∀x,x∈l.foldl fm o ↔ x∈o ∨ (0<x∧∃m∈l,m.f=x ∨ m.t=x)
 | [],o,h=>⟨h,fun x=>by simp⟩
 | m::r,o,h=>by
  obtain ⟨h1,h2⟩:=yC r (fm o m) (Cs (Cs h _) _)
  refine ⟨h1,fun x=>?_⟩
  rw [List.foldl_cons,h2]
  unfold fm
  rw [Cp,Cp]
  constructor
  ·rintro (((h3 | ⟨rfl,h3⟩) | ⟨rfl,h3⟩) | ⟨h3,y,hy,h4⟩)
   ·exact .inl h3
   ·exact .inr ⟨h3,m,List.mem_cons_self,.inl rfl⟩
   ·exact .inr ⟨h3,m,List.mem_cons_self,.inr rfl⟩
   ·exact .inr ⟨h3,y,List.mem_cons_of_mem _ hy,h4⟩
  ·rintro (h3 | ⟨h3,y,hy,h4⟩)
   ·exact .inl (.inl (.inl h3))
   ·rcases List.mem_cons.1 hy with rfl | hy
    ·rcases h4 with rfl | rfl
     ·exact .inl (.inl (.inr ⟨rfl,h3⟩))
     ·exact .inl (.inr ⟨rfl,h3⟩)
    ·exact .inr ⟨h3,y,hy,h4⟩
theorem pz:∀(l:List St) (o:List Int),Ij o→Ij (l.foldl (fun o s=>s.mv.foldl fm o) o)∧∀x,x∈l.foldl (fun o s=>s.mv.foldl fm o) o ↔ x∈o ∨ (0<x∧∃s∈l,∃m∈s.mv,m.f=x ∨ m.t=x)
 | [],o,h=>⟨h,fun x=>by simp⟩
 | s::r,o,h=>by
  obtain ⟨h1,h2⟩:=yC s.mv o h
  obtain ⟨h3,h4⟩:=pz r _ h1
  refine ⟨h3,fun x=>?_⟩
  rw [List.foldl_cons,h4,h2]
  constructor
  ·rintro ((h5 | ⟨h5,h6⟩) | ⟨h5,y,hy,h6⟩)
   ·exact .inl h5
   ·exact .inr ⟨h5,s,List.mem_cons_self,h6⟩
   ·exact .inr ⟨h5,y,List.mem_cons_of_mem _ hy,h6⟩
  ·rintro (h5 | ⟨h5,y,hy,h6⟩)
   ·exact .inl (.inl h5)
   ·rcases List.mem_cons.1 hy with rfl | hy
    ·exact .inl (.inr ⟨h5,h6⟩)
    ·exact .inr ⟨h5,y,hy,h6⟩
theorem Ct (l:List St):Ij (cn l):=(pz l [] List.Pairwise.nil).1
theorem qO (l:List St) (x:Int):x∈cn l ↔ 0<x∧∃s∈l,∃m∈s.mv,m.f=x ∨ m.t=x:=by
 rw [show cn l=l.foldl (fun o s=>s.mv.foldl fm o) [] from rfl,(pz l [] List.Pairwise.nil).2]; simp
theorem Gv (a it n:Int):∀l:List Mv,(∀m∈l,m.f ≠ a∧m.t ≠ a)→ij a it n l=n
 | [],_=>rfl
 | m::r,h=>by
  have h1:=h m List.mem_cons_self
  have:Gn a it n m=n:=by unfold Gn; rw [if_neg (fun h9=>h1.1 h9.2),if_neg (fun h9=>h1.2 h9.2)]
  show ij a it (Gn a it n m) r=n
  rw [this]
  exact Gv a it n r fun x hx=>h x (List.mem_cons_of_mem _ hx)
theorem qP {a it:Int}:∀{l:List St} (n:Int),(∀s∈l,∀n,ij a it n s.mv=n)→l.foldl (fun n s=>ij a it n s.mv) n=n
 | [],_,_=>rfl
 | s::r,n,h=>by
  rw [List.foldl_cons,h s List.mem_cons_self]
  exact qP n fun x hx=>h x (List.mem_cons_of_mem _ hx)
theorem wm {a:Int} {l:List St} (ha:0<a) (h:a ∉ cn l) (it:Int):bg a it l=0:=by
 refine qP 0 fun s hs n=>Gv a it n s.mv fun m hm=>?_
 rw [qO] at h
 refine ⟨fun h1=>h ⟨ha,s,hs,m,hm,.inl h1⟩,fun h1=>h ⟨ha,s,hs,m,hm,.inr h1⟩⟩
def pA (q:Int→Nat→Bool) (xs:List Int):List Ky:=xs.flatMap fun a=>((List.range 4).filter (q a)).map fun k=>(a,((k:Nat):Int))
theorem sj (q:Int→Nat→Bool):∀xs:List Int,(pA q xs).length=(xs.map fun a=>(List.range 4).countP (q a)).sum
 | []=>rfl
 | a::r=>by
  unfold pA
  rw [List.flatMap_cons,List.length_append,List.length_map,List.map_cons,List.sum_cons,List.countP_eq_length_filter]
  have:=sj q r
  unfold pA at this
  rw [this]
theorem yD (q:Int→Nat→Bool) (xs:List Int) (k:Ky):k∈pA q xs ↔ k.1∈xs∧∃i:Nat,i<4∧k.2=(i:Int)∧q k.1 i=true:=by
 unfold pA
 rw [List.mem_flatMap]
 constructor
 ·rintro ⟨a,ha,h⟩
  obtain ⟨i,hi,rfl⟩:=List.mem_map.1 h
  obtain ⟨h1,h2⟩:=List.mem_filter.1 hi
  exact ⟨ha,i,List.mem_range.1 h1,rfl,h2⟩
 ·rintro ⟨ha,i,hi,h1,h2⟩
  refine ⟨k.1,ha,List.mem_map.2 ⟨i,List.mem_filter.2 ⟨List.mem_range.2 hi,h2⟩,?_⟩⟩
  obtain ⟨a,b⟩:=k
  simp only at h1 ⊢; rw [h1]
theorem ny (q:Int→Nat→Bool):∀{xs:List Int},xs.Nodup→(pA q xs).Nodup
 | [],_=>List.nodup_nil
 | a::r,h=>by
  rw [List.nodup_cons] at h
  unfold pA
  rw [List.flatMap_cons,List.nodup_append]
  refine ⟨?_,ny q h.2,?_⟩
  ·have h1:((List.range 4).filter (q a)).Nodup:=List.nodup_range.filter _
   unfold List.Nodup at h1 ⊢
   rw [List.pairwise_map]
   refine h1.imp fun bB h9=>bB ?_
   injection h9 with _ h9
   exact Int.ofNat.inj h9
  ·intro x hx y hy Og
   subst Og
   obtain ⟨i,_,rfl⟩:=List.mem_map.1 hx
   obtain ⟨b,hb,h2⟩:=List.mem_flatMap.1 hy
   obtain ⟨j,_,h3⟩:=List.mem_map.1 h2
   injection h3 with h3 _
   subst h3
   exact h.1 hb
theorem yE {l:List Int} (h:Ij l):l.Nodup:=by
 unfold List.Nodup
 exact h.imp fun h1=>by omega
theorem yF {α:Type} {l r:List α} (h1:l.Nodup) (h2:r.Nodup) (h:∀x,x∈l ↔ x∈r):l.length=r.length:=by
 exact ((List.perm_ext_iff_of_nodup h1 h2).2 h).length_eq
theorem MV {H:HM} {l:List St} (hn:Nk H) (hp:∀p∈H,1≤p.1.1∧(∃i:Nat,i<4∧p.1.2=(i:Int))∧p.2 ≠ 0) (hh:∀a it,1≤a→hv H (a,it)=bg a it l):nr l (cn l)=H.length:=by
 unfold nr MG
 rw [←sj (fun a k=>!decide (bg a (k:Nat) l=0)) (cn l),show H.length=(H.map fun p=>p.1).length from (List.length_map ..).symm]
 refine yF (ny _ (yE (Ct l))) hn fun k=>?_
 rw [yD]
 obtain ⟨a,it⟩:=k
 simp only
 constructor
 ·rintro ⟨h1,i,hi,rfl,h2⟩
  have h3:bg a (i:Nat) l ≠ 0:=by simpa using h2
  have ha:=((qO l a).1 h1).1
  rw [←hh a _ (by omega)] at h3
  unfold hv at h3
  cases hq:bm H (a,(i:Int)) with
  | none=>rw [hq] at h3; simp at h3
  | some x=>exact List.mem_map.2 ⟨_,dW hq,rfl⟩
 ·intro h
  obtain ⟨p,h1,h2⟩:=List.mem_map.1 h
  obtain ⟨p1,⟨i,hi,p2⟩,p3⟩:=hp p h1
  have hx:hv H p.1=p.2:=by unfold hv; rw [gu hn (k:=p.1) (x:=p.2) h1]; rfl
  rw [h2] at hx p1 p2
  simp only at p1 p2
  subst p2
  have h4:=hh a (i:Int) p1
  refine ⟨?_,i,hi,rfl,by simp; rw [←h4,hx]; exact p3⟩
  apply Classical.byContradiction
  intro h9
  have:=wm (by omega) h9 (i:Int)
  rw [←h4,hx] at this
  exact p3 this
theorem MW {H A:HM} {l r:List St} {st:St} (hl:l=r++[st]) (hA:Nk A) (hp:∀p∈A,1≤p.1.1∧(∃i:Nat,i<4∧p.1.2=(i:Int))) (hh:∀a it,1≤a→hv H (a,it)=bg a it r) (ha:∀a it,1≤a→hold A H (a,it)=bg a it l):pk l r (cn l)=A.countP (Gu H):=by
 unfold pk QM
 rw [←sj (fun a k=>!decide (bg a (k:Nat) l=bg a (k:Nat) r)) (cn l),List.countP_eq_length_filter,show (A.filter (Gu H)).length=((A.filter (Gu H)).map fun p=>p.1).length from (List.length_map ..).symm]
 refine yF (ny _ (yE (Ct l))) (hA.sublist ((List.filter_sublist).map _)) fun k=>?_
 rw [yD]
 obtain ⟨a,it⟩:=k
 simp only
 constructor
 ·rintro ⟨h1,i,hi,rfl,h2⟩
  have h3:bg a (i:Nat) l ≠ bg a (i:Nat) r:=by simpa using h2
  have Y0:=((qO l a).1 h1).1
  rw [←hh a _ (by omega),←ha a _ (by omega)] at h3
  unfold hold at h3
  cases hq:bm A (a,(i:Int)) with
  | none=>rw [hq] at h3; simp at h3
  | some x =>
   rw [hq] at h3
   refine List.mem_map.2 ⟨_,List.mem_filter.2 ⟨dW hq,?_⟩,rfl⟩
   unfold Gu
   simp at h3 ⊢
   omega
 ·intro h
  obtain ⟨p,h1,h2⟩:=List.mem_map.1 h
  obtain ⟨h1,h5⟩:=List.mem_filter.1 h1
  obtain ⟨p1,⟨i,hi,p2⟩⟩:=hp p h1
  have hx:hold A H p.1=p.2:=by unfold hold; rw [gu hA (k:=p.1) (x:=p.2) h1]; rfl
  unfold Gu at h5
  rw [h2] at hx p1 p2 h5
  simp only at p1 p2
  subst p2
  have h5:hv H (a,(i:Int)) ≠ p.2:=by simpa using h5
  have h6:bg a (i:Int) l ≠ bg a (i:Int) r:=by rw [←ha a _ p1,←hh a _ p1,hx]; exact fun h9=>h5 h9.symm
  refine ⟨?_,i,hi,rfl,by simpa using h6⟩
  apply Classical.byContradiction
  intro h9
  have h7:=wm (by omega) h9 (i:Int)
  have h8:a ∉ cn r:=fun Gd=>h9 (by
   rw [qO] at Gd ⊢
   obtain ⟨q1,s,q2,q3⟩:=Gd
   exact ⟨q1,s,by rw [hl]; exact List.mem_append_left _ q2,q3⟩)
  exact h6 (by rw [h7,wm (by omega) h8])
end Go.Proofs.YtpbdohkbiklflaaGreatDoor
namespace Go.Proofs.YtpbdohkbiklflaaGreatDoor
open Go.TM
variable [cZ]
theorem wo:cP Tryz.prog 9 [] [z5 ez]:=rV (pol:=Ei) (fuel:=1000) aO mixed vU (by kernel_rfl)
theorem EI:cP Tryz.prog 13 [z5 ez] [I 0]:=rV (pol:=Ei) (fuel:=1000) aO mixed vU (by kernel_rfl)
theorem Cu:cP Tryz.prog 34 [z5 ez] [I 0]:=rV (pol:=Ei) (fuel:=1000) aO mixed vU (by kernel_rfl)
end Go.Proofs.YtpbdohkbiklflaaGreatDoor
