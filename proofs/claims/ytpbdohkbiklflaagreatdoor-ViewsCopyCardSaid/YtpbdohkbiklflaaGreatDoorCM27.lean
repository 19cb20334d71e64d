import Derived.Test.YtpbdohkbiklflaaGreatDoorCM26
import Derived.Test.YtpbdohkbiklflaaGreatDoorCM23
import Derived.Test.YtpbdohkbiklflaaGreatDoorCM21
set_option linter.unusedVariables false
set_option linter.unusedSimpArgs false
set_option linter.unusedSectionVars false
namespace Go.Proofs.YtpbdohkbiklflaaGreatDoor
open Go.TM
variable [cG]
theorem BK {H:HM} {steps:List St}:∀(r b:List Mv) (m:HM),(∀a it,1≤a→hold m H (a,it)=gU a it (aN a it steps) b) →
  match kR H m r with
  | .err e=>pc steps b r=e∧e ≠ 0
  | .ok A=>pc steps b r=0∧∀a it,1≤a→hold A H (a,it)=gU a it (aN a it steps) (b++r)
 | [],b,m,h=>by
  rw [List.append_nil]
  exact ⟨rfl,h⟩
 | v::r,b,m,h=>by
  by_cases hb:jf v=true
  ·rw [kR,if_pos hb]
   simp only
   rw [pc,if_pos hb]
   exact ⟨rfl,by decide⟩
  ·obtain ⟨b1,b2,b3,b4,b5,b6,b7⟩:=pB (by simpa using hb)
   have hf:=vj b5
   have ht:=vj b6
   have Y8:aN v.f v.it (steps++[⟨0,0,0,0,0,0,b⟩])=gU v.f v.it (aN v.f v.it steps) b:=qo ..
   have key:∀m1:HM,(∀a it,1≤a→hold m1 H (a,it)=if v.it=it∧v.f=a then hold m H (a,it) - v.n else hold m H (a,it)) →
     ∀a it,1≤a→hold (if v.t ≠ 0 then bT m1 (v.t,v.it) (hold m1 H (v.t,v.it)+v.n) else m1) H (a,it)=gU a it (aN a it steps) (b++[v]):=by
    intro m1 h1 a it ha
    rw [zE,←h a it ha]
    unfold Dz
    by_cases XP:v.it=it∧v.t=a
    ·obtain ⟨h2,h3⟩:=XP
     have ht0:v.t ≠ 0:=by omega
     rw [if_pos ht0,lx,if_pos (by rw [h2,h3]),h1 _ _ (by omega),if_neg (fun h9=>b7 h9.2),if_neg (fun h9=>b7 (h9.2.trans h3.symm)),if_pos ⟨h2,h3⟩,h2,h3]
    ·rw [if_neg XP]
     have:hold (if v.t ≠ 0 then bT m1 (v.t,v.it) (hold m1 H (v.t,v.it)+v.n) else m1) H (a,it)=hold m1 H (a,it):=by
      split
      ·rw [lx,if_neg]
       intro h9
       injection h9 with h9 EM
       exact XP ⟨EM,h9⟩
      ·rfl
     rw [this,h1 _ _ ha]
   rw [kR,pc,if_neg hb,if_neg hb]
   by_cases h0:v.f=0
   ·rw [if_neg (show ¬ v.f ≠ 0 by simpa using h0),if_neg (show ¬ (v.f ≠ 0∧aN v.f v.it (steps++[⟨0,0,0,0,0,0,b⟩])<v.n) by rintro ⟨h9,_⟩; exact h9 h0)]
    have:=BK r (b++[v]) _ (key m fun a it ha=>by rw [if_neg]; rintro ⟨_,h9⟩; omega)
    rw [List.append_assoc] at this
    exact this
   ·rw [if_pos h0]
    have hh:=h v.f v.it (by omega)
    by_cases hs:hold m H (v.f,v.it)<v.n
    ·rw [if_pos hs,if_pos ⟨h0,by rw [Y8,←hh]; exact hs⟩]
     exact ⟨rfl,by decide⟩
    ·rw [if_neg hs,if_neg (by rintro ⟨_,h9⟩; rw [Y8,←hh] at h9; exact hs h9)]
     have:=BK r (b++[v]) _ (key (bT m (v.f,v.it) (hold m H (v.f,v.it) - v.n)) fun a it ha=>by
      rw [lx]
      by_cases h9:v.it=it∧v.f=a
      ·rw [if_pos h9,if_pos (by rw [h9.1,h9.2]),h9.1,h9.2]
      ·rw [if_neg h9,if_neg]
       intro EM; injection EM with EM Dn; exact h9 ⟨Dn,EM⟩)
     rw [List.append_assoc] at this
     exact this
def BL (p:Nat × Sl):Int × Int × Int × Int:=((p.1:Int),p.2.tick,p.2.n,p.2.c)
def U0 (coin:Int) (x:St):Int × Int × Int × Int:=((bh coin x).1,x.tick,(bh coin x).2.1,(bh coin x).2.2.1)
def lC (coin thr:Int) (l:List St):List (Int × Int × Int × Int):=(l.filter fun x=>br coin x && decide (thr<x.tick)).map (U0 coin)
theorem ub (coin:Int) {t u:Int} (h:t≤u) (l:List St):(lC coin t l).filter (fun q=>decide (u<q.2.1))=lC coin u l:=by
 unfold lC
 rw [List.filter_map,List.filter_filter]
 congr 1
 refine List.filter_congr fun x _=>?_
 simp only [Function.comp,U0]
 by_cases h1:u<x.tick
 ·simp [h1,show t<x.tick by omega]
 ·simp [h1]
theorem zM (coin u:Int) (l:List St) (s:St):lC coin u (l++[s])=lC coin u l++(if br coin s=true∧u<s.tick then [U0 coin s] else []):=by
 unfold lC
 rw [List.filter_append,List.map_append]
 congr 1
 by_cases h:br coin s=true∧u<s.tick
 ·rw [if_pos h]; simp [h.1,h.2]
 ·rw [if_neg h]
  cases h1:br coin s with
  | false=>simp [h1]
  | true=>simp [h1] at h; simp [h1]; omega
theorem xz {coin ab tick:Int} {l:List St} (h:∀x∈l,x.tick≤tick):bz coin ab l tick=(lC coin (tick - ab) l).length:=by
 unfold bz lC
 rw [List.length_map,List.countP_eq_length_filter]
 congr 1
 refine List.filter_congr fun x hx=>?_
 unfold UM
 have:=h x hx
 cases br coin x <;> simp [this]
theorem zN:∀{S:SS} (_:S.Pairwise fun p q=>p.2.tick≤q.2.tick) (lim:Int),S.drop (dC S lim)=S.filter fun p=>decide (lim<p.2.tick)
 | [],_,_=>rfl
 | p::r,h,lim=>by
  rw [List.pairwise_cons] at h
  by_cases hp:p.2.tick≤lim
  ·have:dC (p::r) lim=dC r lim+1:=by unfold dC; rw [List.takeWhile_cons_of_pos (by simpa using hp)]; rfl
   rw [this,List.drop_succ_cons,zN h.2,List.filter_cons_of_neg (by simp; omega)]
  ·have:dC (p::r) lim=0:=by unfold dC; rw [List.takeWhile_cons_of_neg (by simpa using hp)]; rfl
   rw [this,List.drop_zero]
   rw [List.filter_eq_self.2]
   intro q hq
   rcases List.mem_cons.1 hq with rfl | hq
   ·simp; omega
   ·have:=h.1 q hq; simp; omega
def Gq (l:List Int):Prop:=l.Pairwise (· < ·)
theorem DR {l:List Int} {n x:Int}:x∈ly l n ↔ x∈l ∨ (x=n∧0<n):=by
 unfold ly
 split
 ·rename_i h
  constructor
  ·exact .inl
  ·rintro (h1 | ⟨rfl,h1⟩)
   ·exact h1
   ·rcases h with h | h
    ·omega
    ·exact h
 ·rename_i h
  rw [not_or] at h
  have e:=List.takeWhile_append_dropWhile (p:=fun x=>decide (x<n)) (l:=l)
  have:x∈l ↔ x∈l.takeWhile (fun x=>decide (x<n)) ∨ x∈l.dropWhile (fun x=>decide (x<n)):=by
   rw [←List.mem_append,e]
  rw [List.mem_append,List.mem_cons,this]
  constructor
  ·rintro (h1 | h1 | h1)
   ·exact .inl (.inl h1)
   ·exact .inr ⟨h1,by omega⟩
   ·exact .inl (.inr h1)
  ·rintro ((h1 | h1) | ⟨h1,_⟩)
   ·exact .inl h1
   ·exact .inr (.inr h1)
   ·exact .inr (.inl h1)
theorem DS:∀{l:List Int} {n:Int},Gq l→∀x∈l.dropWhile (fun x=>decide (x<n)),n≤x
 | [],_,_,x,hx=>by cases hx
 | y::r,n,h,x,hx=>by
  unfold Gq at h
  rw [List.pairwise_cons] at h
  by_cases hy:y<n
  ·rw [List.dropWhile_cons_of_pos (by simpa using hy)] at hx
   exact DS h.2 x hx
  ·rw [List.dropWhile_cons_of_neg (by simpa using hy)] at hx
   rcases List.mem_cons.1 hx with rfl | hx
   ·omega
   ·have:=h.1 x hx; omega
theorem DT:∀{l:List Int} {n:Int},∀x∈l.takeWhile (fun x=>decide (x<n)),x<n
 | [],_,x,hx=>by cases hx
 | y::r,n,x,hx=>by
  by_cases hy:y<n
  ·rw [List.takeWhile_cons_of_pos (by simpa using hy)] at hx
   rcases List.mem_cons.1 hx with rfl | hx
   ·exact hy
   ·exact DT x hx
  ·rw [List.takeWhile_cons_of_neg (by simpa using hy)] at hx; cases hx
theorem DU {l:List Int} (h:Gq l) (n:Int):Gq (ly l n):=by
 unfold ly
 split
 ·exact h
 ·rename_i h0
  rw [not_or] at h0
  have e:=List.takeWhile_append_dropWhile (p:=fun x=>decide (x<n)) (l:=l)
  unfold Gq at h ⊢
  rw [←e] at h
  rw [List.pairwise_append] at h ⊢
  refine ⟨h.1,?_,?_⟩
  ·rw [List.pairwise_cons]
   refine ⟨fun x hx=>?_,h.2.1⟩
   have h1:=DS (l:=l) (by unfold Gq; rw [←e,List.pairwise_append]; exact h) x hx
   have h2:x∈l:=by rw [←e]; exact List.mem_append_right _ hx
   have:x ≠ n:=fun h9=>h0.2 (h9 ▸ h2)
   omega
  ·intro x hx y hy
   rcases List.mem_cons.1 hy with rfl | hy
   ·exact DT x hx
   ·exact h.2.2 x hx y hy
theorem zO:∀(l:List Mv) (o:List Int),Gq o→Gq (l.foldl fH o)∧∀x,x∈l.foldl fH o ↔ x∈o ∨ (0<x∧∃m∈l,m.f=x ∨ m.t=x)
 | [],o,h=>⟨h,fun x=>by simp⟩
 | m::r,o,h=>by
  obtain ⟨h1,h2⟩:=zO r (fH o m) (DU (DU h _) _)
  refine ⟨h1,fun x=>?_⟩
  rw [List.foldl_cons,h2]
  unfold fH
  rw [DR,DR]
  constructor
  ·rintro (((h3 | ⟨rfl,h3⟩) | ⟨rfl,h3⟩) | ⟨h3,y,hy,h4⟩)
   ·exact .inl h3
   ·exact .inr ⟨h3,m,List.mem_cons_self,.inl rfl⟩
   ·exact .inr ⟨h3,m,List.mem_cons_self,.inr rfl⟩
   ·exact .inr ⟨h3,y,List.mem_cons_of_mem _ hy,h4⟩
  ·rintro (h3 | ⟨h3,y,hy,h4⟩)
   ·exact .inl (.inl (.inl h3))
   ·rcases List.mem_cons.1 hy with rfl | hy
    ·rcases h4 with rfl | rfl
     ·exact .inl (.inl (.inr ⟨rfl,h3⟩))
     ·exact .inl (.inr ⟨rfl,h3⟩)
    ·exact .inr ⟨h3,y,hy,h4⟩
theorem qw:∀(l:List St) (o:List Int),Gq o→Gq (l.foldl (fun o s=>s.mv.foldl fH o) o)∧∀x,x∈l.foldl (fun o s=>s.mv.foldl fH o) o ↔ x∈o ∨ (0<x∧∃s∈l,∃m∈s.mv,m.f=x ∨ m.t=x)
 | [],o,h=>⟨h,fun x=>by simp⟩
 | s::r,o,h=>by
  obtain ⟨h1,h2⟩:=zO s.mv o h
  obtain ⟨h3,h4⟩:=qw r _ h1
  refine ⟨h3,fun x=>?_⟩
  rw [List.foldl_cons,h4,h2]
  constructor
  ·rintro ((h5 | ⟨h5,h6⟩) | ⟨h5,y,hy,h6⟩)
   ·exact .inl h5
   ·exact .inr ⟨h5,s,List.mem_cons_self,h6⟩
   ·exact .inr ⟨h5,y,List.mem_cons_of_mem _ hy,h6⟩
  ·rintro (h5 | ⟨h5,y,hy,h6⟩)
   ·exact .inl (.inl h5)
   ·rcases List.mem_cons.1 hy with rfl | hy
    ·exact .inl (.inr ⟨h5,h6⟩)
    ·exact .inr ⟨h5,y,hy,h6⟩
theorem n6 (l:List St):Gq (bp l):=(qw l [] List.Pairwise.nil).1
theorem lD (l:List St) (x:Int):x∈bp l ↔ 0<x∧∃s∈l,∃m∈s.mv,m.f=x ∨ m.t=x:=by
 rw [show bp l=l.foldl (fun o s=>s.mv.foldl fH o) [] from rfl,(qw l [] List.Pairwise.nil).2]; simp
theorem Iq (a it n:Int):∀l:List Mv,(∀m∈l,m.f ≠ a∧m.t ≠ a)→gU a it n l=n
 | [],_=>rfl
 | m::r,h=>by
  have h1:=h m List.mem_cons_self
  have:Dz a it n m=n:=by unfold Dz; rw [if_neg (fun h9=>h1.1 h9.2),if_neg (fun h9=>h1.2 h9.2)]
  show gU a it (Dz a it n m) r=n
  rw [this]
  exact Iq a it n r fun x hx=>h x (List.mem_cons_of_mem _ hx)
theorem zP (a it n:Int):∀l:List Mv,(∀m∈l,m.it ≠ it)→gU a it n l=n
 | [],_=>rfl
 | m::r,h=>by
  have h1:=h m List.mem_cons_self
  have:Dz a it n m=n:=by unfold Dz; rw [if_neg (fun h9=>h1 h9.1),if_neg (fun h9=>h1 h9.1)]
  show gU a it (Dz a it n m) r=n
  rw [this]
  exact zP a it n r fun x hx=>h x (List.mem_cons_of_mem _ hx)
theorem mz {a it:Int}:∀{l:List St} (n:Int),(∀s∈l,∀n,gU a it n s.mv=n)→l.foldl (fun n s=>gU a it n s.mv) n=n
 | [],_,_=>rfl
 | s::r,n,h=>by
  rw [List.foldl_cons,h s List.mem_cons_self]
  exact mz n fun x hx=>h x (List.mem_cons_of_mem _ hx)
theorem n7 {a:Int} {l:List St} (ha:0<a) (h:a ∉ bp l) (it:Int):aN a it l=0:=by
 refine mz 0 fun s hs n=>Iq a it n s.mv fun m hm=>?_
 rw [lD] at h
 refine ⟨fun h1=>h ⟨ha,s,hs,m,hm,.inl h1⟩,fun h1=>h ⟨ha,s,hs,m,hm,.inr h1⟩⟩
theorem Gr {a it:Int} {l:List St} (h:∀s∈l,∀m∈s.mv,m.it ≠ it):aN a it l=0 :=
 mz 0 fun s hs n=>zP a it n s.mv (h s hs)
def qx (q:Int→Nat→Bool) (xs:List Int):List Ky:=xs.flatMap fun a=>((List.range 4).filter (q a)).map fun k=>(a,((k:Nat):Int))
theorem tc (q:Int→Nat→Bool):∀xs:List Int,(qx q xs).length=(xs.map fun a=>(List.range 4).countP (q a)).sum
 | []=>rfl
 | a::r=>by
  unfold qx
  rw [List.flatMap_cons,List.length_append,List.length_map,List.map_cons,List.sum_cons,List.countP_eq_length_filter]
  have:=tc q r
  unfold qx at this
  rw [this]
theorem zQ (q:Int→Nat→Bool) (xs:List Int) (k:Ky):k∈qx q xs ↔ k.1∈xs∧∃i:Nat,i<4∧k.2=(i:Int)∧q k.1 i=true:=by
 unfold qx
 rw [List.mem_flatMap]
 constructor
 ·rintro ⟨a,ha,h⟩
  obtain ⟨i,hi,rfl⟩:=List.mem_map.1 h
  obtain ⟨h1,h2⟩:=List.mem_filter.1 hi
  exact ⟨ha,i,List.mem_range.1 h1,rfl,h2⟩
 ·rintro ⟨ha,i,hi,h1,h2⟩
  refine ⟨k.1,ha,List.mem_map.2 ⟨i,List.mem_filter.2 ⟨List.mem_range.2 hi,h2⟩,?_⟩⟩
  obtain ⟨a,b⟩:=k
  simp only at h1 ⊢; rw [h1]
theorem n8 (q:Int→Nat→Bool):∀{xs:List Int},xs.Nodup→(qx q xs).Nodup
 | [],_=>List.nodup_nil
 | a::r,h=>by
  rw [List.nodup_cons] at h
  unfold qx
  rw [List.flatMap_cons,List.nodup_append]
  refine ⟨?_,n8 q h.2,?_⟩
  ·have h1:((List.range 4).filter (q a)).Nodup:=List.nodup_range.filter _
   unfold List.Nodup at h1 ⊢
   rw [List.pairwise_map]
   refine h1.imp fun bJ h9=>bJ ?_
   injection h9 with _ h9
   exact Int.ofNat.inj h9
  ·intro x hx y hy QI
   subst QI
   obtain ⟨i,_,rfl⟩:=List.mem_map.1 hx
   obtain ⟨b,hb,h2⟩:=List.mem_flatMap.1 hy
   obtain ⟨j,_,h3⟩:=List.mem_map.1 h2
   injection h3 with h3 _
   subst h3
   exact h.1 hb
theorem td {l:List Int} (h:Gq l):l.Nodup:=by
 unfold List.Nodup
 exact h.imp fun h1=>by omega
theorem zR {α:Type} {l r:List α} (h1:l.Nodup) (h2:r.Nodup) (h:∀x,x∈l ↔ x∈r):l.length=r.length:=by
 exact ((List.perm_ext_iff_of_nodup h1 h2).2 h).length_eq
theorem Ir {H:HM} {l:List St} (hn:Nk H) (hp:∀p∈H,1≤p.1.1∧(∃i:Nat,i<4∧p.1.2=(i:Int))∧p.2 ≠ 0) (hh:∀a it,1≤a→hv H (a,it)=aN a it l):nY l (bp l)=H.length:=by
 unfold nY O2
 rw [←tc (fun a k=>!decide (aN a (k:Nat) l=0)) (bp l),show H.length=(H.map fun p=>p.1).length from (List.length_map ..).symm]
 refine zR (n8 _ (td (n6 l))) hn fun k=>?_
 rw [zQ]
 obtain ⟨a,it⟩:=k
 simp only
 constructor
 ·rintro ⟨h1,i,hi,rfl,h2⟩
  have h3:aN a (i:Nat) l ≠ 0:=by simpa using h2
  have ha:=((lD l a).1 h1).1
  rw [←hh a _ (by omega)] at h3
  unfold hv at h3
  cases hq:bt H (a,(i:Int)) with
  | none=>rw [hq] at h3; simp at h3
  | some x=>exact List.mem_map.2 ⟨_,dM hq,rfl⟩
 ·intro h
  obtain ⟨p,h1,h2⟩:=List.mem_map.1 h
  obtain ⟨p1,⟨i,hi,p2⟩,p3⟩:=hp p h1
  have hx:hv H p.1=p.2:=by unfold hv; rw [fI hn (k:=p.1) (x:=p.2) h1]; rfl
  rw [h2] at hx p1 p2
  simp only at p1 p2
  subst p2
  have h4:=hh a (i:Int) p1
  refine ⟨?_,i,hi,rfl,by simp; rw [←h4,hx]; exact p3⟩
  apply Classical.byContradiction
  intro h9
  have:=n7 (by omega) h9 (i:Int)
  rw [←h4,hx] at this
  exact p3 this
theorem Pk {H A:HM} {l r:List St} {st:St} (hl:l=r++[st]) (hA:Nk A) (hp:∀p∈A,1≤p.1.1∧(∃i:Nat,i<4∧p.1.2=(i:Int))) (hh:∀a it,1≤a→hv H (a,it)=aN a it r) (ha:∀a it,1≤a→hold A H (a,it)=aN a it l):qn l r (bp l)=A.countP (JU H):=by
 unfold qn Tw
 rw [←tc (fun a k=>!decide (aN a (k:Nat) l=aN a (k:Nat) r)) (bp l),List.countP_eq_length_filter,show (A.filter (JU H)).length=((A.filter (JU H)).map fun p=>p.1).length from (List.length_map ..).symm]
 refine zR (n8 _ (td (n6 l))) (hA.sublist ((List.filter_sublist).map _)) fun k=>?_
 rw [zQ]
 obtain ⟨a,it⟩:=k
 simp only
 constructor
 ·rintro ⟨h1,i,hi,rfl,h2⟩
  have h3:aN a (i:Nat) l ≠ aN a (i:Nat) r:=by simpa using h2
  have ha0:=((lD l a).1 h1).1
  rw [←hh a _ (by omega),←ha a _ (by omega)] at h3
  unfold hold at h3
  cases hq:bt A (a,(i:Int)) with
  | none=>rw [hq] at h3; simp at h3
  | some x =>
   rw [hq] at h3
   refine List.mem_map.2 ⟨_,List.mem_filter.2 ⟨dM hq,?_⟩,rfl⟩
   unfold JU
   simp at h3 ⊢
   omega
 ·intro h
  obtain ⟨p,h1,h2⟩:=List.mem_map.1 h
  obtain ⟨h1,h5⟩:=List.mem_filter.1 h1
  obtain ⟨p1,⟨i,hi,p2⟩⟩:=hp p h1
  have hx:hold A H p.1=p.2:=by unfold hold; rw [fI hA (k:=p.1) (x:=p.2) h1]; rfl
  unfold JU at h5
  rw [h2] at hx p1 p2 h5
  simp only at p1 p2
  subst p2
  have h5:hv H (a,(i:Int)) ≠ p.2:=by simpa using h5
  have h6:aN a (i:Int) l ≠ aN a (i:Int) r:=by rw [←ha a _ p1,←hh a _ p1,hx]; exact fun h9=>h5 h9.symm
  refine ⟨?_,i,hi,rfl,by simpa using h6⟩
  apply Classical.byContradiction
  intro h9
  have h7:=n7 (by omega) h9 (i:Int)
  have h8:a ∉ bp r:=fun EM=>h9 (by
   rw [lD] at EM ⊢
   obtain ⟨q1,s,q2,q3⟩:=EM
   exact ⟨q1,s,by rw [hl]; exact List.mem_append_left _ q2,q3⟩)
  exact h6 (by rw [h7,n7 (by omega) h8])
end Go.Proofs.YtpbdohkbiklflaaGreatDoor
namespace Go.Proofs.YtpbdohkbiklflaaGreatDoor
open Go.TM
variable [cG]
theorem xA:cr Tryz.prog 9 [] [Bn eJ]:=sV (pol:=FZ) (fuel:=1000) aD mixed w4 (by kernel_rfl)
theorem Gs:cr Tryz.prog 13 [Bn eJ] [I 0]:=sV (pol:=FZ) (fuel:=1000) aD mixed w4 (by kernel_rfl)
theorem DW:cr Tryz.prog 34 [Bn eJ] [I 0]:=sV (pol:=FZ) (fuel:=1000) aD mixed w4 (by kernel_rfl)
end Go.Proofs.YtpbdohkbiklflaaGreatDoor
