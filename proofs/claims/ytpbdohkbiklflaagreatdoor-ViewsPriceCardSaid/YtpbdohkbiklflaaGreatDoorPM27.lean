import Derived.Test.YtpbdohkbiklflaaGreatDoorPM26
import Derived.Test.YtpbdohkbiklflaaGreatDoorPM23
import Derived.Test.YtpbdohkbiklflaaGreatDoorPM21
set_option linter.unusedVariables false
set_option linter.unusedSimpArgs false
set_option linter.unusedSectionVars false
namespace Go.Proofs.YtpbdohkbiklflaaGreatDoor
open Go.TM
variable [cP]
theorem AJ {H:HM} {steps:List St}:∀(r b:List Mv) (m:HM),(∀a it,1≤a→hold m H (a,it)=iq a it (bh a it steps) b) →
  match kB H m r with
  | .err e=>ov steps b r=e∧e ≠ 0
  | .ok A=>ov steps b r=0∧∀a it,1≤a→hold A H (a,it)=iq a it (bh a it steps) (b++r)
 | [],b,m,h=>by
  rw [List.append_nil]
  exact ⟨rfl,h⟩
 | v::r,b,m,h=>by
  by_cases hb:iO v=true
  ·rw [kB,if_pos hb]
   simp only
   rw [ov,if_pos hb]
   exact ⟨rfl,by decide⟩
  ·obtain ⟨b1,b2,b3,b4,b5,b6,b7⟩:=qR (by simpa using hb)
   have hf:=uo b5
   have ht:=uo b6
   have WZ:bh v.f v.it (steps++[⟨0,0,0,0,0,0,b⟩])=iq v.f v.it (bh v.f v.it steps) b:=pA ..
   have key:∀m1:HM,(∀a it,1≤a→hold m1 H (a,it)=if v.it=it∧v.f=a then hold m H (a,it) - v.n else hold m H (a,it)) →
     ∀a it,1≤a→hold (if v.t ≠ 0 then bP m1 (v.t,v.it) (hold m1 H (v.t,v.it)+v.n) else m1) H (a,it)=iq a it (bh a it steps) (b++[v]):=by
    intro m1 h1 a it ha
    rw [yG,←h a it ha]
    unfold GL
    by_cases VH:v.it=it∧v.t=a
    ·obtain ⟨h2,h3⟩:=VH
     have YJ:v.t ≠ 0:=by omega
     rw [if_pos YJ,kV,if_pos (by rw [h2,h3]),h1 _ _ (by omega),if_neg (fun h9=>b7 h9.2),if_neg (fun h9=>b7 (h9.2.trans h3.symm)),if_pos ⟨h2,h3⟩,h2,h3]
    ·rw [if_neg VH]
     have:hold (if v.t ≠ 0 then bP m1 (v.t,v.it) (hold m1 H (v.t,v.it)+v.n) else m1) H (a,it)=hold m1 H (a,it):=by
      split
      ·rw [kV,if_neg]
       intro h9
       injection h9 with h9 GB
       exact VH ⟨GB,h9⟩
      ·rfl
     rw [this,h1 _ _ ha]
   rw [kB,ov,if_neg hb,if_neg hb]
   by_cases h0:v.f=0
   ·rw [if_neg (show ¬ v.f ≠ 0 by simpa using h0),if_neg (show ¬ (v.f ≠ 0∧bh v.f v.it (steps++[⟨0,0,0,0,0,0,b⟩])<v.n) by rintro ⟨h9,_⟩; exact h9 h0)]
    have:=AJ r (b++[v]) _ (key m fun a it ha=>by rw [if_neg]; rintro ⟨_,h9⟩; omega)
    rw [List.append_assoc] at this
    exact this
   ·rw [if_pos h0]
    have hh:=h v.f v.it (by omega)
    by_cases hs:hold m H (v.f,v.it)<v.n
    ·rw [if_pos hs,if_pos ⟨h0,by rw [WZ,←hh]; exact hs⟩]
     exact ⟨rfl,by decide⟩
    ·rw [if_neg hs,if_neg (by rintro ⟨_,h9⟩; rw [WZ,←hh] at h9; exact hs h9)]
     have:=AJ r (b++[v]) _ (key (bP m (v.f,v.it) (hold m H (v.f,v.it) - v.n)) fun a it ha=>by
      rw [kV]
      by_cases h9:v.it=it∧v.f=a
      ·rw [if_pos h9,if_pos (by rw [h9.1,h9.2]),h9.1,h9.2]
      ·rw [if_neg h9,if_neg]
       intro GB; injection GB with GB Cl; exact h9 ⟨Cl,GB⟩)
     rw [List.append_assoc] at this
     exact this
def AK (p:Nat × Sl):Int × Int × Int × Int:=((p.1:Int),p.2.tick,p.2.n,p.2.c)
def SZ (coin:Int) (x:St):Int × Int × Int × Int:=((aZ coin x).1,x.tick,(aZ coin x).2.1,(aZ coin x).2.2.1)
def kZ (coin thr:Int) (l:List St):List (Int × Int × Int × Int):=(l.filter fun x=>bm coin x && decide (thr<x.tick)).map (SZ coin)
theorem tn (coin:Int) {t u:Int} (h:t≤u) (l:List St):(kZ coin t l).filter (fun q=>decide (u<q.2.1))=kZ coin u l:=by
 unfold kZ
 rw [List.filter_map,List.filter_filter]
 congr 1
 refine List.filter_congr fun x _=>?_
 simp only [Function.comp,SZ]
 by_cases h1:u<x.tick
 ·simp [h1,show t<x.tick by omega]
 ·simp [h1]
theorem yP (coin u:Int) (l:List St) (s:St):kZ coin u (l++[s])=kZ coin u l++(if bm coin s=true∧u<s.tick then [SZ coin s] else []):=by
 unfold kZ
 rw [List.filter_append,List.map_append]
 congr 1
 by_cases h:bm coin s=true∧u<s.tick
 ·rw [if_pos h]; simp [h.1,h.2]
 ·rw [if_neg h]
  cases h1:bm coin s with
  | false=>simp [h1]
  | true=>simp [h1] at h; simp [h1]; omega
theorem wE {coin ab tick:Int} {l:List St} (h:∀x∈l,x.tick≤tick):bs coin ab l tick=(kZ coin (tick - ab) l).length:=by
 unfold bs kZ
 rw [List.length_map,List.countP_eq_length_filter]
 congr 1
 refine List.filter_congr fun x hx=>?_
 unfold SJ
 have:=h x hx
 cases bm coin x <;> simp [this]
theorem yQ:∀{S:SS} (_:S.Pairwise fun p q=>p.2.tick≤q.2.tick) (lim:Int),S.drop (dx S lim)=S.filter fun p=>decide (lim<p.2.tick)
 | [],_,_=>rfl
 | p::r,h,lim=>by
  rw [List.pairwise_cons] at h
  by_cases hp:p.2.tick≤lim
  ·have:dx (p::r) lim=dx r lim+1:=by unfold dx; rw [List.takeWhile_cons_of_pos (by simpa using hp)]; rfl
   rw [this,List.drop_succ_cons,yQ h.2,List.filter_cons_of_neg (by simp; omega)]
  ·have:dx (p::r) lim=0:=by unfold dx; rw [List.takeWhile_cons_of_neg (by simpa using hp)]; rfl
   rw [this,List.drop_zero]
   rw [List.filter_eq_self.2]
   intro q hq
   rcases List.mem_cons.1 hq with rfl | hq
   ·simp; omega
   ·have:=h.1 q hq; simp; omega
def IN (l:List Int):Prop:=l.Pairwise (· < ·)
theorem CH {l:List Int} {n x:Int}:x∈kW l n ↔ x∈l ∨ (x=n∧0<n):=by
 unfold kW
 split
 ·rename_i h
  constructor
  ·exact .inl
  ·rintro (h1 | ⟨rfl,h1⟩)
   ·exact h1
   ·rcases h with h | h
    ·omega
    ·exact h
 ·rename_i h
  rw [not_or] at h
  have e:=List.takeWhile_append_dropWhile (p:=fun x=>decide (x<n)) (l:=l)
  have:x∈l ↔ x∈l.takeWhile (fun x=>decide (x<n)) ∨ x∈l.dropWhile (fun x=>decide (x<n)):=by
   rw [←List.mem_append,e]
  rw [List.mem_append,List.mem_cons,this]
  constructor
  ·rintro (h1 | h1 | h1)
   ·exact .inl (.inl h1)
   ·exact .inr ⟨h1,by omega⟩
   ·exact .inl (.inr h1)
  ·rintro ((h1 | h1) | ⟨h1,_⟩)
   ·exact .inl h1
   ·exact .inr (.inr h1)
   ·exact .inr (.inl h1)
theorem CI:∀{l:List Int} {n:Int},IN l→∀x∈l.dropWhile (fun x=>decide (x<n)),n≤x
 | [],_,_,x,hx=>by cases hx
 | y::r,n,h,x,hx=>by
  unfold IN at h
  rw [List.pairwise_cons] at h
  by_cases hy:y<n
  ·rw [List.dropWhile_cons_of_pos (by simpa using hy)] at hx
   exact CI h.2 x hx
  ·rw [List.dropWhile_cons_of_neg (by simpa using hy)] at hx
   rcases List.mem_cons.1 hx with rfl | hx
   ·omega
   ·have:=h.1 x hx; omega
theorem CJ:∀{l:List Int} {n:Int},∀x∈l.takeWhile (fun x=>decide (x<n)),x<n
 | [],_,x,hx=>by cases hx
 | y::r,n,x,hx=>by
  by_cases hy:y<n
  ·rw [List.takeWhile_cons_of_pos (by simpa using hy)] at hx
   rcases List.mem_cons.1 hx with rfl | hx
   ·exact hy
   ·exact CJ x hx
  ·rw [List.takeWhile_cons_of_neg (by simpa using hy)] at hx; cases hx
theorem CK {l:List Int} (h:IN l) (n:Int):IN (kW l n):=by
 unfold kW
 split
 ·exact h
 ·rename_i h0
  rw [not_or] at h0
  have e:=List.takeWhile_append_dropWhile (p:=fun x=>decide (x<n)) (l:=l)
  unfold IN at h ⊢
  rw [←e] at h
  rw [List.pairwise_append] at h ⊢
  refine ⟨h.1,?_,?_⟩
  ·rw [List.pairwise_cons]
   refine ⟨fun x hx=>?_,h.2.1⟩
   have h1:=CI (l:=l) (by unfold IN; rw [←e,List.pairwise_append]; exact h) x hx
   have h2:x∈l:=by rw [←e]; exact List.mem_append_right _ hx
   have:x ≠ n:=fun h9=>h0.2 (h9 ▸ h2)
   omega
  ·intro x hx y hy
   rcases List.mem_cons.1 hy with rfl | hy
   ·exact CJ x hx
   ·exact h.2.2 x hx y hy
theorem yR:∀(l:List Mv) (o:List Int),IN o→IN (l.foldl fq o)∧∀x,x∈l.foldl fq o ↔ x∈o ∨ (0<x∧∃m∈l,m.f=x ∨ m.t=x)
 | [],o,h=>⟨h,fun x=>by simp⟩
 | m::r,o,h=>by
  obtain ⟨h1,h2⟩:=yR r (fq o m) (CK (CK h _) _)
  refine ⟨h1,fun x=>?_⟩
  rw [List.foldl_cons,h2]
  unfold fq
  rw [CH,CH]
  constructor
  ·rintro (((h3 | ⟨rfl,h3⟩) | ⟨rfl,h3⟩) | ⟨h3,y,hy,h4⟩)
   ·exact .inl h3
   ·exact .inr ⟨h3,m,List.mem_cons_self,.inl rfl⟩
   ·exact .inr ⟨h3,m,List.mem_cons_self,.inr rfl⟩
   ·exact .inr ⟨h3,y,List.mem_cons_of_mem _ hy,h4⟩
  ·rintro (h3 | ⟨h3,y,hy,h4⟩)
   ·exact .inl (.inl (.inl h3))
   ·rcases List.mem_cons.1 hy with rfl | hy
    ·rcases h4 with rfl | rfl
     ·exact .inl (.inl (.inr ⟨rfl,h3⟩))
     ·exact .inl (.inr ⟨rfl,h3⟩)
    ·exact .inr ⟨h3,y,hy,h4⟩
theorem pG:∀(l:List St) (o:List Int),IN o→IN (l.foldl (fun o s=>s.mv.foldl fq o) o)∧∀x,x∈l.foldl (fun o s=>s.mv.foldl fq o) o ↔ x∈o ∨ (0<x∧∃s∈l,∃m∈s.mv,m.f=x ∨ m.t=x)
 | [],o,h=>⟨h,fun x=>by simp⟩
 | s::r,o,h=>by
  obtain ⟨h1,h2⟩:=yR s.mv o h
  obtain ⟨h3,h4⟩:=pG r _ h1
  refine ⟨h3,fun x=>?_⟩
  rw [List.foldl_cons,h4,h2]
  constructor
  ·rintro ((h5 | ⟨h5,h6⟩) | ⟨h5,y,hy,h6⟩)
   ·exact .inl h5
   ·exact .inr ⟨h5,s,List.mem_cons_self,h6⟩
   ·exact .inr ⟨h5,y,List.mem_cons_of_mem _ hy,h6⟩
  ·rintro (h5 | ⟨h5,y,hy,h6⟩)
   ·exact .inl (.inl h5)
   ·rcases List.mem_cons.1 hy with rfl | hy
    ·exact .inl (.inr ⟨h5,h6⟩)
    ·exact .inr ⟨h5,y,hy,h6⟩
theorem CL (l:List St):IN (cn l):=(pG l [] List.Pairwise.nil).1
theorem qV (l:List St) (x:Int):x∈cn l ↔ 0<x∧∃s∈l,∃m∈s.mv,m.f=x ∨ m.t=x:=by
 rw [show cn l=l.foldl (fun o s=>s.mv.foldl fq o) [] from rfl,(pG l [] List.Pairwise.nil).2]; simp
theorem GS (a it n:Int):∀l:List Mv,(∀m∈l,m.f ≠ a∧m.t ≠ a)→iq a it n l=n
 | [],_=>rfl
 | m::r,h=>by
  have h1:=h m List.mem_cons_self
  have:GL a it n m=n:=by unfold GL; rw [if_neg (fun h9=>h1.1 h9.2),if_neg (fun h9=>h1.2 h9.2)]
  show iq a it (GL a it n m) r=n
  rw [this]
  exact GS a it n r fun x hx=>h x (List.mem_cons_of_mem _ hx)
theorem qW {a it:Int}:∀{l:List St} (n:Int),(∀s∈l,∀n,iq a it n s.mv=n)→l.foldl (fun n s=>iq a it n s.mv) n=n
 | [],_,_=>rfl
 | s::r,n,h=>by
  rw [List.foldl_cons,h s List.mem_cons_self]
  exact qW n fun x hx=>h x (List.mem_cons_of_mem _ hx)
theorem wF {a:Int} {l:List St} (ha:0<a) (h:a ∉ cn l) (it:Int):bh a it l=0:=by
 refine qW 0 fun s hs n=>GS a it n s.mv fun m hm=>?_
 rw [qV] at h
 refine ⟨fun h1=>h ⟨ha,s,hs,m,hm,.inl h1⟩,fun h1=>h ⟨ha,s,hs,m,hm,.inr h1⟩⟩
def pH (q:Int→Nat→Bool) (xs:List Int):List Ky:=xs.flatMap fun a=>((List.range 4).filter (q a)).map fun k=>(a,((k:Nat):Int))
theorem sr (q:Int→Nat→Bool):∀xs:List Int,(pH q xs).length=(xs.map fun a=>(List.range 4).countP (q a)).sum
 | []=>rfl
 | a::r=>by
  unfold pH
  rw [List.flatMap_cons,List.length_append,List.length_map,List.map_cons,List.sum_cons,List.countP_eq_length_filter]
  have:=sr q r
  unfold pH at this
  rw [this]
theorem yS (q:Int→Nat→Bool) (xs:List Int) (k:Ky):k∈pH q xs ↔ k.1∈xs∧∃i:Nat,i<4∧k.2=(i:Int)∧q k.1 i=true:=by
 unfold pH
 rw [List.mem_flatMap]
 constructor
 ·rintro ⟨a,ha,h⟩
  obtain ⟨i,hi,rfl⟩:=List.mem_map.1 h
  obtain ⟨h1,h2⟩:=List.mem_filter.1 hi
  exact ⟨ha,i,List.mem_range.1 h1,rfl,h2⟩
 ·rintro ⟨ha,i,hi,h1,h2⟩
  refine ⟨k.1,ha,List.mem_map.2 ⟨i,List.mem_filter.2 ⟨List.mem_range.2 hi,h2⟩,?_⟩⟩
  obtain ⟨a,b⟩:=k
  simp only at h1 ⊢; rw [h1]
theorem nC (q:Int→Nat→Bool):∀{xs:List Int},xs.Nodup→(pH q xs).Nodup
 | [],_=>List.nodup_nil
 | a::r,h=>by
  rw [List.nodup_cons] at h
  unfold pH
  rw [List.flatMap_cons,List.nodup_append]
  refine ⟨?_,nC q h.2,?_⟩
  ·have h1:((List.range 4).filter (q a)).Nodup:=List.nodup_range.filter _
   unfold List.Nodup at h1 ⊢
   rw [List.pairwise_map]
   refine h1.imp fun bD h9=>bD ?_
   injection h9 with _ h9
   exact Int.ofNat.inj h9
  ·intro x hx y hy OL
   subst OL
   obtain ⟨i,_,rfl⟩:=List.mem_map.1 hx
   obtain ⟨b,hb,h2⟩:=List.mem_flatMap.1 hy
   obtain ⟨j,_,h3⟩:=List.mem_map.1 h2
   injection h3 with h3 _
   subst h3
   exact h.1 hb
theorem yT {l:List Int} (h:IN l):l.Nodup:=by
 unfold List.Nodup
 exact h.imp fun h1=>by omega
theorem yU {α:Type} {l r:List α} (h1:l.Nodup) (h2:r.Nodup) (h:∀x,x∈l ↔ x∈r):l.length=r.length:=by
 exact ((List.perm_ext_iff_of_nodup h1 h2).2 h).length_eq
theorem No {H:HM} {l:List St} (hn:Nk H) (hp:∀p∈H,1≤p.1.1∧(∃i:Nat,i<4∧p.1.2=(i:Int))∧p.2 ≠ 0) (hh:∀a it,1≤a→hv H (a,it)=bh a it l):nz l (cn l)=H.length:=by
 unfold nz Na
 rw [←sr (fun a k=>!decide (bh a (k:Nat) l=0)) (cn l),show H.length=(H.map fun p=>p.1).length from (List.length_map ..).symm]
 refine yU (nC _ (yT (CL l))) hn fun k=>?_
 rw [yS]
 obtain ⟨a,it⟩:=k
 simp only
 constructor
 ·rintro ⟨h1,i,hi,rfl,h2⟩
  have h3:bh a (i:Nat) l ≠ 0:=by simpa using h2
  have ha:=((qV l a).1 h1).1
  rw [←hh a _ (by omega)] at h3
  unfold hv at h3
  cases hq:bp H (a,(i:Int)) with
  | none=>rw [hq] at h3; simp at h3
  | some x=>exact List.mem_map.2 ⟨_,dY hq,rfl⟩
 ·intro h
  obtain ⟨p,h1,h2⟩:=List.mem_map.1 h
  obtain ⟨p1,⟨i,hi,p2⟩,p3⟩:=hp p h1
  have hx:hv H p.1=p.2:=by unfold hv; rw [gx hn (k:=p.1) (x:=p.2) h1]; rfl
  rw [h2] at hx p1 p2
  simp only at p1 p2
  subst p2
  have h4:=hh a (i:Int) p1
  refine ⟨?_,i,hi,rfl,by simp; rw [←h4,hx]; exact p3⟩
  apply Classical.byContradiction
  intro h9
  have:=wF (by omega) h9 (i:Int)
  rw [←h4,hx] at this
  exact p3 this
theorem Np {H A:HM} {l r:List St} {st:St} (hl:l=r++[st]) (hA:Nk A) (hp:∀p∈A,1≤p.1.1∧(∃i:Nat,i<4∧p.1.2=(i:Int))) (hh:∀a it,1≤a→hv H (a,it)=bh a it r) (ha:∀a it,1≤a→hold A H (a,it)=bh a it l):py l r (cn l)=A.countP (Ic H):=by
 unfold py Rh
 rw [←sr (fun a k=>!decide (bh a (k:Nat) l=bh a (k:Nat) r)) (cn l),List.countP_eq_length_filter,show (A.filter (Ic H)).length=((A.filter (Ic H)).map fun p=>p.1).length from (List.length_map ..).symm]
 refine yU (nC _ (yT (CL l))) (hA.sublist ((List.filter_sublist).map _)) fun k=>?_
 rw [yS]
 obtain ⟨a,it⟩:=k
 simp only
 constructor
 ·rintro ⟨h1,i,hi,rfl,h2⟩
  have h3:bh a (i:Nat) l ≠ bh a (i:Nat) r:=by simpa using h2
  have ZB:=((qV l a).1 h1).1
  rw [←hh a _ (by omega),←ha a _ (by omega)] at h3
  unfold hold at h3
  cases hq:bp A (a,(i:Int)) with
  | none=>rw [hq] at h3; simp at h3
  | some x =>
   rw [hq] at h3
   refine List.mem_map.2 ⟨_,List.mem_filter.2 ⟨dY hq,?_⟩,rfl⟩
   unfold Ic
   simp at h3 ⊢
   omega
 ·intro h
  obtain ⟨p,h1,h2⟩:=List.mem_map.1 h
  obtain ⟨h1,h5⟩:=List.mem_filter.1 h1
  obtain ⟨p1,⟨i,hi,p2⟩⟩:=hp p h1
  have hx:hold A H p.1=p.2:=by unfold hold; rw [gx hA (k:=p.1) (x:=p.2) h1]; rfl
  unfold Ic at h5
  rw [h2] at hx p1 p2 h5
  simp only at p1 p2
  subst p2
  have h5:hv H (a,(i:Int)) ≠ p.2:=by simpa using h5
  have h6:bh a (i:Int) l ≠ bh a (i:Int) r:=by rw [←ha a _ p1,←hh a _ p1,hx]; exact fun h9=>h5 h9.symm
  refine ⟨?_,i,hi,rfl,by simpa using h6⟩
  apply Classical.byContradiction
  intro h9
  have h7:=wF (by omega) h9 (i:Int)
  have h8:a ∉ cn r:=fun GB=>h9 (by
   rw [qV] at GB ⊢
   obtain ⟨q1,s,q2,q3⟩:=GB
   exact ⟨q1,s,by rw [hl]; exact List.mem_append_left _ q2,q3⟩)
  exact h6 (by rw [h7,wF (by omega) h8])
end Go.Proofs.YtpbdohkbiklflaaGreatDoor
namespace Go.Proofs.YtpbdohkbiklflaaGreatDoor
open Go.TM
variable [cP]
theorem wG:cL Tryz.prog 9 [] [Ao eB]:=r8 (pol:=EH) (fuel:=1000) aK mixed v8 (by kernel_rfl)
theorem E6:cL Tryz.prog 13 [Ao eB] [I 0]:=r8 (pol:=EH) (fuel:=1000) aK mixed v8 (by kernel_rfl)
theorem CM:cL Tryz.prog 34 [Ao eB] [I 0]:=r8 (pol:=EH) (fuel:=1000) aK mixed v8 (by kernel_rfl)
end Go.Proofs.YtpbdohkbiklflaaGreatDoor
