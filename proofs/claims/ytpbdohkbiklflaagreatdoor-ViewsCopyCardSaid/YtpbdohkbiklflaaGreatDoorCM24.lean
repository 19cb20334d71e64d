import Derived.Test.YtpbdohkbiklflaaGreatDoorCM23
set_option linter.unusedVariables false
set_option linter.unusedSimpArgs false
set_option linter.unusedSectionVars false
namespace Go.Proofs.YtpbdohkbiklflaaGreatDoor
open Go.TM
variable [cG]
set_option maxRecDepth 100000
def ju (l:List St):DV:=.sl 7 (l.map fT)
theorem Sx:(nth tab (nth tab 30).elem).bytes=8:=rfl
theorem O4:(nth tab (nth tab 70).elem).bytes=72:=rfl
theorem MG (l:List Int) (n:Int) (hl:l.length≤1000000):cr Tryz.prog 125 [eE l,I n] [B (decide (n∈l))]:=by
 refine bq aD mixed (af _) (ai _) Tryz.func125 rfl (by kernel_rfl) rfl ?_
 refine ⟨Nat,fun k=>⟨0,[(0,.dv (eE l)),(1,.dv (I n)),(5,.dv (I k))],[]⟩,fun k=>k≤l.length∧n ∉ l.take k,fun k=>l.length - k,0,fun _=>rfl,⟨⟨rf,rf,rf,tv⟩,tv,rfl,rfl⟩,⟨by omega,by simp⟩,?_⟩
 rintro k ⟨I7,A9⟩
 refine ⟨fun h=>?_,fun h=>?_⟩
 ·have hk:k<l.length:=by simpa using h
  refine ⟨I l[k],fun _=>⟨by omega,by simp⟩,?_⟩
  refine ⟨fun h=>?_,fun h=>?_⟩
  ·have hn:l[k]=n:=by simpa using h
   have hm:n∈l:=by rw [←hn]; exact List.getElem_mem _
   exact ⟨DV.Le.of_eq (congrArg B (decide_eq_true hm).symm),tv⟩
  ·have hn:l[k] ≠ n:=by simpa using h
   refine ⟨fun _=>⟨by omega,by omega⟩,k+1,⟨⟨rf,rf,au (by omega),tv⟩,tv,rfl,rfl⟩,⟨by omega,?_⟩,by show l.length - (k+1)<l.length - k; omega⟩
   intro hm
   rw [List.take_add_one,List.getElem?_eq_getElem hk] at hm
   simp only [Option.toList_some,List.mem_append,List.mem_singleton] at hm
   rcases hm with hm | hm
   ·exact A9 hm
   ·exact hn hm.symm
 ·have hk:k=l.length:=by
   have:¬ k<l.length:=by simpa using h
   omega
  subst hk
  rw [List.take_length] at A9
  exact ⟨DV.Le.of_eq (congrArg B (decide_eq_false A9).symm),tv⟩
theorem QE {n:Int}:∀{l:List Int} (k:Nat),k≤l.length→(∀x∈l.take k,x<n)→(∀x,l[k]?=some x→¬ x<n)→l.takeWhile (fun x=>decide (x<n))=l.take k∧l.dropWhile (fun x=>decide (x<n))=l.drop k
 | [],k,h,_,_=>by simp at h; subst h; exact ⟨rfl,rfl⟩
 | y::r,0,_,_,h=>by
  have:=h y rfl
  rw [List.takeWhile_cons_of_neg (by simpa using this),List.dropWhile_cons_of_neg (by simpa using this)]
  exact ⟨rfl,rfl⟩
 | y::r,k+1,h1,h2,h3=>by
  have hy:y<n:=h2 y (by simp)
  obtain ⟨e1,e2⟩:=QE (l:=r) k (by simpa using h1) (fun x hx=>h2 x (by rw [List.take_succ_cons]; exact List.mem_cons_of_mem _ hx)) (fun x hx=>h3 x (by simpa using hx))
  rw [List.takeWhile_cons_of_pos (by simpa using hy),List.dropWhile_cons_of_pos (by simpa using hy),e1,e2]
  exact ⟨rfl,rfl⟩
theorem DB (l:List Int) (n:Int) (hl:l.length≤1000000):cr Tryz.prog 112 [eE l,I n] [eE (ly l n)]:=by
 refine bq aD mixed (af _) (ai _) Tryz.func112 rfl (by kernel_rfl) rfl ?_
 repeat first | refine ⟨id,?_⟩ | refine ⟨fun _ h=>bW h,?_⟩ | refine ⟨fun _ h=>ay h,?_⟩ | refine ⟨fun h=>⟨h,fun h2=>aF h h2⟩,?_⟩ | refine ⟨fun h=>⟨h,fun h2=>aA h h2⟩,?_⟩
 refine .inl ⟨_,fun _=>(MG l n hl).ok,?_⟩
 repeat first | refine ⟨id,?_⟩ | refine ⟨fun _ h=>bW h,?_⟩ | refine ⟨fun _ h=>ay h,?_⟩ | refine ⟨fun h=>⟨h,fun h2=>aF h h2⟩,?_⟩ | refine ⟨fun h=>⟨h,fun h2=>aA h h2⟩,?_⟩
 refine ⟨fun h=>?_,fun h=>?_⟩
 ·have h':n≤0 ∨ n∈l:=by
   have h:(bif decide (n≤0) then true else decide (n∈l))=true:=h
   by_cases h1:n≤0
   ·exact .inl h1
   ·right; simpa [h1] using h
  exact ⟨DV.Le.of_eq (by unfold ly; rw [if_pos h']),tv⟩
 have h':¬ (n≤0 ∨ n∈l):=by
  have h:(bif decide (n≤0) then true else decide (n∈l))=false:=h
  rintro (h1 | h1) <;> simp [h1] at h
 refine ⟨Nat,fun k=>⟨0,[(0,.dv (eE l)),(1,.dv (I n)),(5,.dv (I k))],[]⟩,fun k=>k≤l.length∧∀x∈l.take k,x<n,fun k=>l.length - k,0,fun _=>rfl,⟨⟨rf,rf,rf,tv⟩,tv,rfl,rfl⟩,⟨by omega,by simp⟩,?_⟩
 rintro k ⟨I7,A9⟩
 have aR:bw (decide ((k:Int)<((l.map I).length:Int))) true=true→k<l.length:=fun hb=>by
  rw [List.length_map] at hb
  by_cases h9:k<l.length
  ·exact h9
  ·rw [decide_eq_false (by omega)] at hb; cases hb
 repeat first | refine ⟨id,?_⟩ | refine ⟨fun _ h=>bW h,?_⟩ | refine ⟨fun _ h=>ay h,?_⟩ | refine ⟨fun h=>⟨h,fun h2=>aF h h2⟩,?_⟩ | refine ⟨fun h=>⟨h,fun h2=>aA h h2⟩,?_⟩
 refine ⟨I (l.getD k 0),fun hb=>⟨by omega,by rw [Int.toNat_natCast,List.getElem?_map,List.getElem?_eq_getElem (aR hb),List.getD_eq_getElem?_getD,List.getElem?_eq_getElem (aR hb)]; rfl⟩,?_⟩
 repeat first | refine ⟨id,?_⟩ | refine ⟨fun _ h=>bW h,?_⟩ | refine ⟨fun _ h=>ay h,?_⟩ | refine ⟨fun h=>⟨h,fun h2=>aF h h2⟩,?_⟩ | refine ⟨fun h=>⟨h,fun h2=>aA h h2⟩,?_⟩
 refine ⟨fun h=>?_,fun h=>?_⟩
 ·have h:(bif decide ((k:Int)<((l.map I).length:Int)) then decide (l.getD k 0<n) else false)=true:=h
  obtain ⟨h1,h2⟩:=tX h
  have hk:k<l.length:=by rw [List.length_map] at h1; have:=of_decide_eq_true h1; omega
  have h2:=of_decide_eq_true h2
  refine ⟨fun _=>⟨by omega,by omega⟩,k+1,⟨⟨rf,rf,au (by omega),tv⟩,tv,rfl,rfl⟩,⟨by omega,?_⟩,by show l.length - (k+1)<l.length - k; omega⟩
  intro x hx
  rw [List.take_add_one,List.getElem?_eq_getElem hk] at hx
  rw [List.getD_eq_getElem?_getD,List.getElem?_eq_getElem hk] at h2
  simp only [Option.toList_some,List.mem_append,List.mem_singleton] at hx
  rcases hx with hx | rfl
  ·exact A9 x hx
  ·exact h2
 have h:(bif decide ((k:Int)<((l.map I).length:Int)) then decide (l.getD k 0<n) else false)=false:=h
 have ak:∀x,l[k]?=some x→¬ x<n:=by
  intro x hx h9
  have hk:=(List.getElem?_eq_some_iff.1 hx).1
  refine zu h ⟨decide_eq_true (by rw [List.length_map]; omega),decide_eq_true ?_⟩
  rw [List.getD_eq_getElem?_getD,hx]; exact h9
 obtain ⟨e1,e2⟩:=QE k I7 A9 ak
 have EO:List.drop (Option.getD none (0:Int)).toNat (List.take (Option.getD (some (k:Int)) ((l.map I).length:Int)).toNat (l.map I))=(l.take k).map I:=by
  simp [List.map_take]
 have pz:∀q:List Int,(q.map I).length=q.length:=fun q=>List.length_map ..
 refine ⟨fun _=>⟨Int.le_refl _,by show (0:Int)≤(k:Int); omega,by show (k:Int)≤((l.map I).length:Int); rw [List.length_map]; omega⟩,.inr ⟨(l.take k).map I,by rw [EO]; exact dm.refl _,by rw [Sx,pz,List.length_take]; omega,by rw [pz,List.length_take]; omega,?_⟩⟩
 refine .inl ⟨[I n],rfl,⟨rf,tv⟩,fun y hy=>(by rcases List.mem_singleton.1 hy with rfl; rfl),.inr ⟨[I n],dm.refl _,(by rw [Sx,pz,List.length_take]; simp; omega),(by rw [pz,List.length_take]; simp; omega),?_⟩⟩
 have Jy:List.drop (Option.getD (some (k:Int)) (0:Int)).toNat (List.take (Option.getD none ((l.map I).length:Int)).toNat (l.map I))=(l.drop k).map I:=by
  simp [List.map_drop]
  rw [←List.length_map (f:=I),List.take_length]
 refine ⟨fun _=>⟨by show (0:Int)≤(k:Int); omega,by show (k:Int)≤((l.map I).length:Int); rw [List.length_map]; omega,Int.le_refl _⟩,.inr ⟨(l.drop k).map I,by rw [Jy]; exact dm.refl _,by rw [Sx,List.length_append,pz,pz,List.length_take,List.length_drop]; simp; omega,by rw [List.length_append,pz,pz,List.length_take,List.length_drop]; simp; omega,?_⟩⟩
 refine ⟨DV.Le.of_eq ?_,tv⟩
 show DV.sl 1 (FP ((l.take k).map I++[I n]++(l.drop k).map I))=DV.sl 1 ((ly l n).map I)
 have e:(l.take k).map I++[I n]++(l.drop k).map I=(ly l n).map I:=by
  unfold ly; rw [if_neg h',e1,e2]; simp
 rw [e,oP fun _=>rfl]
theorem MH {l:List Mv} {k:Nat} {m:Mv} (h:l[k]?=some m) (a it n:Int):gU a it n (l.take (k+1))=Dz a it (gU a it n (l.take k)) m:=by
 rw [List.take_add_one,h]; exact zE ..
theorem Gc {l:List St} {i:Nat} {s:St} (h:l[i]?=some s) (a it:Int):aN a it (l.take (i+1))=gU a it (aN a it (l.take i)) s.mv:=by
 rw [List.take_add_one,h]; exact qo ..
def UO (l:List St) (a it:Int) (i:Nat):aY:=⟨0,[(0,.dv (ju l)),(1,.dv (I a)),(2,.dv (I it)),(7,.dv (I (aN a it (l.take i)))),(8,.dv (I i))],[]⟩
def Sy (l:List St) (a it:Int) (i:Nat) (s:St) (k:Nat):aY:=⟨0,[(0,.dv (ju l)),(1,.dv (I a)),(2,.dv (I it)),(7,.dv (I (gU a it (aN a it (l.take i)) (s.mv.take k)))),(8,.dv (I i)),(9,.dv (I k))],[]⟩
set_option maxHeartbeats 4000000 in
theorem eF (l:List St) (a it:Int) (hl:m8 l):cr Tryz.prog 47 [ju l,I a,I it] [I (aN a it l)]:=by
 refine bq aD mixed (af _) (ai _) Tryz.func47 rfl (by kernel_rfl) rfl ?_
 refine ⟨Nat,UO l a it,fun i=>i≤l.length,fun i=>l.length - i,0,fun _=>rfl,⟨⟨rf,rf,rf,rf,rf,tv⟩,tv,rfl,rfl⟩,by omega,?_⟩
 have UP:=hl.1
 rintro i hi
 refine ⟨fun h=>?_,fun h=>?_⟩
 ·have hk:i<l.length:=by simpa using h
  have hs:=List.getElem?_eq_getElem hk
  have Gd:=hl.2 _ (List.mem_of_getElem? hs)
  generalize l[i]=s at hs Gd
  have fJ:(l.map fT)[((i:Int)).toNat]?=some (fT s):=by rw [Int.toNat_natCast,List.getElem?_map,hs]; rfl
  refine ⟨Nat,Sy l a it i s,fun k=>k≤s.mv.length,fun k=>s.mv.length - k,0,fun _=>rfl,⟨⟨rf,rf,rf,rf,rf,rf,tv⟩,tv,rfl,rfl⟩,by omega,?_⟩
  rintro k A9
  refine ⟨fT s,fun _=>⟨by omega,fJ⟩,?_⟩
  refine ⟨fun h=>?_,fun h=>?_⟩
  ·have Ge:k<s.mv.length:=by simpa using h
   have hm:=List.getElem?_eq_getElem Ge
   have XB:=Gd.2 _ (List.mem_of_getElem? hm)
   generalize s.mv[k]=m at hm XB
   have Wd:(s.mv.map cM)[((k:Int)).toNat]?=some (cM m):=by rw [Int.toNat_natCast,List.getElem?_map,hm]; rfl
   refine ⟨fT s,fun _=>⟨by omega,fJ⟩,?_⟩
   refine ⟨cM m,fun _=>⟨by omega,Wd⟩,?_⟩
   have b0:=u5 a it (hl.take i)
   have b1:=Gb a it (s.mv.take k) (aN a it (l.take i)) fun x hx=>Gd.2 x (List.mem_of_mem_take hx)
   have b2:=Gd.1
   have b3:(s.mv.take k).length≤4:=by rw [List.length_take]; omega
   have cC:=MH hm a it (aN a it (l.take i))
   unfold Dz at cC
   have q1:∀x y:Int,(x == y)=decide (x=y):=fun x y=>rfl
   have aK:s.mv.length - (k+1)<s.mv.length - k:=by omega
   repeat first | refine ⟨id,?_⟩ | refine ⟨fun _ h=>bW h,?_⟩ | refine ⟨fun _ h=>ay h,?_⟩ | refine ⟨fun h=>⟨h,fun h2=>aF h h2⟩,?_⟩ | refine ⟨fun h=>⟨h,fun h2=>aA h h2⟩,?_⟩
   refine ⟨fun gP=>?_,fun gP=>?_⟩
   ·have c1:m.it=it∧m.t=a:=by obtain ⟨h1,h2⟩:=tX gP; exact ⟨by simpa using h1,by simpa using h2⟩
    rw [if_pos c1] at cC
    refine ⟨fun _=>⟨by omega,by omega⟩,?_⟩
    repeat first | refine ⟨id,?_⟩ | refine ⟨fun _ h=>bW h,?_⟩ | refine ⟨fun _ h=>ay h,?_⟩ | refine ⟨fun h=>⟨h,fun h2=>aF h h2⟩,?_⟩ | refine ⟨fun h=>⟨h,fun h2=>aA h h2⟩,?_⟩
    refine ⟨fun fC=>?_,fun fC=>?_⟩
    ·have c2:m.it=it∧m.f=a:=by obtain ⟨h1,h2⟩:=tX fC; exact ⟨by simpa using h1,by simpa using h2⟩
     rw [if_pos c2] at cC
     refine ⟨fun _=>⟨by omega,by omega⟩,?_⟩
     exact ⟨fun _=>⟨by omega,by omega⟩,k+1,⟨⟨rf,rf,rf,au cC.symm,rf,au (by omega),tv⟩,tv,rfl,rfl⟩,by omega,aK⟩
    ·have c2:¬ (m.it=it∧m.f=a):=fun h9=>zu fC ⟨by simpa using h9.1,by simpa using h9.2⟩
     rw [if_neg c2] at cC
     exact ⟨fun _=>⟨by omega,by omega⟩,k+1,⟨⟨rf,rf,rf,au cC.symm,rf,au (by omega),tv⟩,tv,rfl,rfl⟩,by omega,aK⟩
   ·have c1:¬ (m.it=it∧m.t=a):=fun h9=>zu gP ⟨by simpa using h9.1,by simpa using h9.2⟩
    rw [if_neg c1] at cC
    repeat first | refine ⟨id,?_⟩ | refine ⟨fun _ h=>bW h,?_⟩ | refine ⟨fun _ h=>ay h,?_⟩ | refine ⟨fun h=>⟨h,fun h2=>aF h h2⟩,?_⟩ | refine ⟨fun h=>⟨h,fun h2=>aA h h2⟩,?_⟩
    refine ⟨fun fC=>?_,fun fC=>?_⟩
    ·have c2:m.it=it∧m.f=a:=by obtain ⟨h1,h2⟩:=tX fC; exact ⟨by simpa using h1,by simpa using h2⟩
     rw [if_pos c2] at cC
     refine ⟨fun _=>⟨by omega,by omega⟩,?_⟩
     exact ⟨fun _=>⟨by omega,by omega⟩,k+1,⟨⟨rf,rf,rf,au cC.symm,rf,au (by omega),tv⟩,tv,rfl,rfl⟩,by omega,aK⟩
    ·have c2:¬ (m.it=it∧m.f=a):=fun h9=>zu fC ⟨by simpa using h9.1,by simpa using h9.2⟩
     rw [if_neg c2] at cC
     exact ⟨fun _=>⟨by omega,by omega⟩,k+1,⟨⟨rf,rf,rf,au cC.symm,rf,au (by omega),tv⟩,tv,rfl,rfl⟩,by omega,aK⟩
  ·have Ge:k=s.mv.length:=by
    have:¬ k<s.mv.length:=by simpa using h
    omega
   have cC:=Gc hs a it
   have he:gU a it (aN a it (l.take i)) (s.mv.take k)=aN a it (l.take (i+1)):=by rw [Ge,List.take_length,cC]
   exact ⟨fun _=>⟨by omega,by omega⟩,i+1,⟨⟨rf,rf,rf,au he,au (by omega),tv⟩,tv,rfl,rfl⟩,by omega,by show l.length - (i+1)<l.length - i; omega⟩
 ·have hk:i=l.length:=by
   have:¬ i<l.length:=by simpa using h
   omega
  exact ⟨au (by rw [hk,List.take_length]),tv⟩
theorem JI {l:List St} {i:Nat} {s:St} (h:l[i]?=some s):bp (l.take (i+1))=s.mv.foldl fH (bp (l.take i)):=by
 rw [List.take_add_one,h]; simp [bp,List.foldl_append]
theorem MI {l:List Mv} {k:Nat} {m:Mv} (h:l[k]?=some m) (o:List Int):(l.take (k+1)).foldl fH o=ly (ly ((l.take k).foldl fH o) m.f) m.t:=by
 rw [List.take_add_one,h,List.foldl_append]; rfl
theorem xd (l:List Int) (n:Int):(ly l n).length≤l.length+1:=by
 unfold ly; split
 ·omega
 ·have:=congrArg List.length (List.takeWhile_append_dropWhile (p:=fun x=>decide (x<n)) (l:=l))
  rw [List.length_append] at this
  rw [List.length_append,List.length_cons]; omega
theorem Bw:∀(l:List Mv) (o:List Int),(l.foldl fH o).length≤o.length+2 * l.length
 | [],o=>by simp
 | m::r,o=>by
  have h1:=Bw r (fH o m)
  have h2:=xd (ly o m.f) m.t
  have h3:=xd o m.f
  have h4:(fH o m).length=(ly (ly o m.f) m.t).length:=rfl
  rw [List.foldl_cons,List.length_cons]
  omega
theorem DC:∀(l:List St) (o:List Int),(∀s∈l,XA s)→(l.foldl (fun o s=>s.mv.foldl fH o) o).length≤o.length+8 * l.length
 | [],o,_=>by simp
 | s::r,o,h=>by
  have h1:=DC r (s.mv.foldl fH o) fun x hx=>h x (List.mem_cons_of_mem _ hx)
  have h2:=Bw s.mv o
  have h3:=(h s List.mem_cons_self).1
  rw [List.foldl_cons,List.length_cons]; omega
theorem xe {l:List St} (h:m8 l):(bp l).length≤800:=by
 have h1:=DC l [] h.2
 have h2:=h.1
 unfold bp
 simp only [List.length_nil] at h1
 omega
def UQ (l:List St) (i:Nat):aY:=⟨0,[(0,.dv (ju l)),(3,.dv (eE (bp (l.take i)))),(4,.dv (I i))],[]⟩
def Sz (l:List St) (i:Nat) (s:St) (k:Nat):aY:=⟨0,[(0,.dv (ju l)),(3,.dv (eE ((s.mv.take k).foldl fH (bp (l.take i))))),(4,.dv (I i)),(5,.dv (I k))],[]⟩
set_option maxHeartbeats 4000000 in
theorem oU (l:List St) (hl:m8 l):cr Tryz.prog 46 [ju l] [eE (bp l)]:=by
 refine bq aD mixed (af _) (ai _) Tryz.func46 rfl (by kernel_rfl) rfl ?_
 refine ⟨Nat,UQ l,fun i=>i≤l.length,fun i=>l.length - i,0,fun _=>rfl,⟨⟨rf,oQ _,rf,tv⟩,tv,rfl,rfl⟩,by omega,?_⟩
 have UP:=hl.1
 rintro i hi
 refine ⟨fun h=>?_,fun h=>?_⟩
 ·have hk:i<l.length:=by simpa using h
  have hs:=List.getElem?_eq_getElem hk
  have Gd:=hl.2 _ (List.mem_of_getElem? hs)
  have Tr:=xe (hl.take i)
  generalize l[i]=s at hs Gd
  have fJ:(l.map fT)[((i:Int)).toNat]?=some (fT s):=by rw [Int.toNat_natCast,List.getElem?_map,hs]; rfl
  refine ⟨Nat,Sz l i s,fun k=>k≤s.mv.length,fun k=>s.mv.length - k,0,fun _=>rfl,⟨⟨rf,rf,rf,rf,tv⟩,tv,rfl,rfl⟩,by omega,?_⟩
  rintro k A9
  refine ⟨fT s,fun _=>⟨by omega,fJ⟩,?_⟩
  refine ⟨fun h=>?_,fun h=>?_⟩
  ·have Ge:k<s.mv.length:=by simpa using h
   have hm:=List.getElem?_eq_getElem Ge
   generalize s.mv[k]=m at hm
   have Wd:(s.mv.map cM)[((k:Int)).toNat]?=some (cM m):=by rw [Int.toNat_natCast,List.getElem?_map,hm]; rfl
   have FN:=Bw (s.mv.take k) (bp (l.take i))
   rw [List.length_take] at FN
   have R8:=xd ((s.mv.take k).foldl fH (bp (l.take i))) m.f
   have V2:=Gd.1
   refine ⟨fT s,fun _=>⟨by omega,fJ⟩,?_⟩
   refine ⟨cM m,fun _=>⟨by omega,Wd⟩,?_⟩
   refine .inl ⟨_,fun _=>(DB _ m.f (by omega)).ok,?_⟩
   refine ⟨fT s,fun _=>⟨by omega,fJ⟩,?_⟩
   refine ⟨cM m,fun _=>⟨by omega,Wd⟩,?_⟩
   refine .inl ⟨_,fun _=>(DB _ m.t (by omega)).ok,?_⟩
   have he:(s.mv.take (k+1)).foldl fH (bp (l.take i))=ly (ly ((s.mv.take k).foldl fH (bp (l.take i))) m.f) m.t:=MI hm _
   exact ⟨by kernel_rfl,fun _=>⟨by omega,by omega⟩,k+1,⟨⟨rf,DV.Le.of_eq (congrArg eE he.symm),rf,au (by omega),tv⟩,tv,rfl,rfl⟩,by omega,by show s.mv.length - (k+1)<s.mv.length - k; omega⟩
  ·have Ge:k=s.mv.length:=by
    have:¬ k<s.mv.length:=by simpa using h
    omega
   have he:(s.mv.take k).foldl fH (bp (l.take i))=bp (l.take (i+1)):=by rw [Ge,List.take_length,JI hs]
   exact ⟨fun _=>⟨by omega,by omega⟩,i+1,⟨⟨rf,DV.Le.of_eq (congrArg eE he),au (by omega),tv⟩,tv,rfl,rfl⟩,by omega,by show l.length - (i+1)<l.length - i; omega⟩
 ·have hk:i=l.length:=by
   have:¬ i<l.length:=by simpa using h
   omega
  exact ⟨DV.Le.of_eq (by rw [hk,List.take_length]),tv⟩
end Go.Proofs.YtpbdohkbiklflaaGreatDoor
namespace Go.Proofs.YtpbdohkbiklflaaGreatDoor
open Go.TM
variable [cG]
set_option maxRecDepth 100000
def QF (v:RV):DV:=.agg [I 4,I v.coin,I v.ab,I v.aE,ju v.steps,I v.work]
def DD (v:RV):DV:=.at (QF v) 0
def Tx (v:RV) (d:DV):DV:=.at (.agg [I 4,I v.coin,d,I v.aE,ju v.steps,I v.work]) 0
theorem DE (b:Bool):cr Tryz.prog 49 [B b] [I (gV b)]:=by
 refine bq aD mixed (af _) (ai _) Tryz.func49 rfl (by kernel_rfl) rfl ?_
 refine ⟨fun h=>?_,fun h=>?_⟩
 ·have h:b=true:=h
  subst h; exact ⟨rf,tv⟩
 ·have h:b=false:=h
  subst h; exact ⟨rf,tv⟩
theorem xf (v:RV) (d:DV) (hl:v.steps.length≤1000):cr Tryz.prog 16 [Tx v d] [I (bs v.steps)]:=by
 refine bq aD mixed (af _) (ai _) Tryz.func16 rfl (by kernel_rfl) rfl ?_
 refine ⟨fun h=>?_,fun h=>?_⟩
 ·have h0:v.steps=[]:=by
   have h:decide (((v.steps.map fT).length:Int)=0)=true:=h
   rw [List.length_map] at h
   have:=of_decide_eq_true h
   exact List.length_eq_zero_iff.1 (by omega)
  exact ⟨au (by rw [h0]; rfl),tv⟩
 ·have h0:v.steps.length ≠ 0:=by
   have h:decide (((v.steps.map fT).length:Int)=0)=false:=h
   rw [List.length_map] at h
   have:=of_decide_eq_false h
   omega
  have hx:v.steps[v.steps.length - 1]?=some (v.steps.getD (v.steps.length - 1) P8):=by rw [List.getD_eq_getElem?_getD,List.getElem?_eq_getElem (by omega)]; rfl
  refine ⟨fun _=>⟨by rw [List.length_map]; omega,by rw [List.length_map]; omega⟩,?_⟩
  refine ⟨fT (v.steps.getD (v.steps.length - 1) P8),fun _=>⟨by rw [List.length_map]; omega,?_⟩,?_⟩
  ·rw [List.length_map,show ((v.steps.length:Int) - 1).toNat=v.steps.length - 1 by omega,List.getElem?_map,hx]; rfl
  exact ⟨by kernel_rfl,rf,tv⟩
theorem ig (v:RV) (hl:v.steps.length≤1000):cr Tryz.prog 16 [DD v] [I (bs v.steps)]:=xf v (I v.ab) hl
def fw (coin:Int) (st:St):Int × Int × Int × Bool:=if br coin st=true then bh coin st else (0,0,0,false)
theorem Bx (coin:Int) (st:St):(fw coin st).2.2.2=br coin st:=by
 unfold fw
 cases h:br coin st with
 | true=>rw [if_pos rfl]; exact h
 | false=>rfl
theorem rQ (coin:Int) (a b:Mv):(bif bif bif bif bif decide (a.it=coin) then true else !(decide (b.it=coin)) then true else !(decide (a.f=b.t)) then true else !(decide (a.t=b.f)) then true else decide (a.f=0) then true else decide (a.t=0))=!(lu coin a b).2.2.2:=by
 unfold lu
 simp only
 cases decide (a.it=coin) <;> cases decide (b.it=coin) <;> cases decide (a.f=b.t) <;> cases decide (a.t=b.f) <;> cases decide (a.f=0) <;> cases decide (a.t=0) <;> rfl
theorem Il {coin:Int} {st:St} {a b:Mv} (h:bh coin st=lu coin a b) (hc:(lu coin a b).2.2.2=true):fw coin st=(a.it,a.n,b.n,true):=by
 have h1:br coin st=true:=by unfold br; rw [h]; exact hc
 unfold fw
 rw [if_pos h1,h]
 have:lu coin a b=(a.it,a.n,b.n,(lu coin a b).2.2.2):=rfl
 rw [this,hc]
theorem By {coin:Int} {st:St} (hc:(bh coin st).2.2.2=false):fw coin st=(0,0,0,false):=by
 unfold fw; rw [if_neg]; unfold br; rw [hc]; simp
set_option maxHeartbeats 4000000 in
theorem xg (v:RV) (d:DV) (st:St):cr Tryz.prog 22 [Tx v d,fT st] [I (fw v.coin st).1,I (fw v.coin st).2.1,I (fw v.coin st).2.2.1,B (fw v.coin st).2.2.2]:=by
 refine bq aD mixed (af _) (ai _) Tryz.func22 rfl (by kernel_rfl) rfl ?_
 repeat first | refine ⟨id,?_⟩ | refine ⟨fun _ h=>bW h,?_⟩ | refine ⟨fun _ h=>ay h,?_⟩ | refine ⟨fun h=>⟨h,fun h2=>aF h h2⟩,?_⟩ | refine ⟨fun h=>⟨h,fun h2=>aA h h2⟩,?_⟩
 refine ⟨fun hc=>?_,fun hc=>?_⟩
 ·have EP:bh v.coin st=(0,0,0,false):=by
   unfold bh
   by_cases hk:st.kind=2
   ·rw [if_neg (by simpa using hk)]
    have h2:¬ st.mv.length=2:=by
     intro h2; rw [List.length_map,h2,hk] at hc; simp at hc
    match hm:st.mv with
    | []=>rfl
    | [_]=>rfl
    | [_,_]=>rw [hm] at h2; exact absurd rfl h2
    | _::_::_::_=>rfl
   ·rw [if_pos hk]
  rw [By (by rw [EP])]
  exact ⟨rf,rf,rf,rf,tv⟩
 have hk:st.kind=2:=by
  by_cases hk:st.kind=2
  ·exact hk
  ·exfalso; have:(st.kind != 2)=true:=by simpa using hk
   rw [this] at hc; cases hc
 have hl:st.mv.length=2:=by
  rw [hk,List.length_map] at hc
  have:((st.mv.length:Int) != 2)=false:=hc
  simp at this; omega
 obtain ⟨a,b,hm⟩:∃a b,st.mv=[a,b]:=by
  match hm:st.mv with
  | [a,b]=>exact ⟨a,b,rfl⟩
  | []=>rw [hm] at hl; cases hl
  | [_]=>rw [hm] at hl; cases hl
  | _::_::_::_=>rw [hm] at hl; simp at hl
 have e0:(st.mv.map cM)[0]?=some (cM a):=by rw [hm]; rfl
 have e1:(st.mv.map cM)[1]?=some (cM b):=by rw [hm]; rfl
 refine ⟨cM a,fun _=>⟨by omega,e0⟩,?_⟩
 refine ⟨cM b,fun _=>⟨by omega,e1⟩,?_⟩
 have EP:bh v.coin st=if a.it=v.coin then lu v.coin b a else lu v.coin a b:=by
  unfold bh; rw [if_neg (by simpa using hk),hm]
 refine ⟨by kernel_rfl,fun hq=>?_,fun hq=>?_⟩
 ·have hq:a.it=v.coin:=of_decide_eq_true hq
  rw [if_pos hq] at EP
  refine ⟨cM b,fun _=>⟨by omega,e1⟩,?_⟩
  refine ⟨cM a,fun _=>⟨by omega,e0⟩,?_⟩
  repeat first | refine ⟨id,?_⟩ | refine ⟨fun _ h=>bW h,?_⟩ | refine ⟨fun _ h=>ay h,?_⟩ | refine ⟨fun h=>⟨h,fun h2=>aF h h2⟩,?_⟩ | refine ⟨fun h=>⟨h,fun h2=>aA h h2⟩,?_⟩
  refine ⟨by kernel_rfl,fun fC=>?_,fun fC=>?_⟩
  ·have SA:=(rQ v.coin b a).symm.trans fC
   rw [By (by rw [EP]; simpa using SA)]
   exact ⟨rf,rf,rf,rf,tv⟩
  ·have SA:=(rQ v.coin b a).symm.trans fC
   rw [Il EP (by simpa using SA)]
   exact ⟨by kernel_rfl,rf,rf,rf,rf,tv⟩
 ·have hq:a.it ≠ v.coin:=of_decide_eq_false hq
  rw [if_neg hq] at EP
  repeat first | refine ⟨id,?_⟩ | refine ⟨fun _ h=>bW h,?_⟩ | refine ⟨fun _ h=>ay h,?_⟩ | refine ⟨fun h=>⟨h,fun h2=>aF h h2⟩,?_⟩ | refine ⟨fun h=>⟨h,fun h2=>aA h h2⟩,?_⟩
  refine ⟨by kernel_rfl,fun fC=>?_,fun fC=>?_⟩
  ·have SA:=(rQ v.coin a b).symm.trans fC
   rw [By (by rw [EP]; simpa using SA)]
   exact ⟨rf,rf,rf,rf,tv⟩
  ·have SA:=(rQ v.coin a b).symm.trans fC
   rw [Il EP (by simpa using SA)]
   exact ⟨by kernel_rfl,rf,rf,rf,rf,tv⟩
theorem zF (v:RV) (st:St):cr Tryz.prog 22 [DD v,fT st] [I (fw v.coin st).1,I (fw v.coin st).2.1,I (fw v.coin st).2.2.1,B (fw v.coin st).2.2.2]:=xg v (I v.ab) st
end Go.Proofs.YtpbdohkbiklflaaGreatDoor
namespace Go.Proofs.YtpbdohkbiklflaaGreatDoor
open Go.TM
variable [cG]
set_option maxRecDepth 100000
theorem MJ {l:List St} {i:Nat} {s:St} (h:l[i]?=some s) (coin ab tick:Int):bz coin ab (l.take (i+1)) tick=bz coin ab (l.take i) tick+(if UM coin ab tick s=true then 1 else 0):=by
 rw [List.take_add_one,h]; unfold bz; rw [List.countP_append]; simp [List.countP_cons]
theorem Bz (coin ab:Int) (l:List St) (tick:Int):bz coin ab l tick≤l.length:=List.countP_le_length
def UR (v:RV) (l:List St) (tick:Int) (i:Nat):aY:=⟨0,[(0,.dv (DD v)),(1,.dv (ju l)),(2,.dv (I tick)),(7,.dv (I (bz v.coin v.ab (l.take i) tick))),(8,.dv (I i))],[]⟩
set_option maxHeartbeats 4000000 in
theorem j5 (v:RV) (l:List St) (hl:l.length≤100) (tick:Int) (hb:-9223372036854775808≤tick - v.ab∧tick - v.ab≤9223372036854775807):cr Tryz.prog 48 [DD v,ju l,I tick] [I (bz v.coin v.ab l tick)]:=by
 refine bq aD mixed (af _) (ai _) Tryz.func48 rfl (by kernel_rfl) rfl ?_
 refine ⟨Nat,UR v l tick,fun i=>i≤l.length,fun i=>l.length - i,0,fun _=>rfl,⟨⟨rf,rf,rf,rf,rf,tv⟩,tv,rfl,rfl⟩,by omega,?_⟩
 rintro i hi
 refine ⟨fun h=>?_,fun h=>?_⟩
 ·have hk:i<l.length:=by simpa using h
  have hs:=List.getElem?_eq_getElem hk
  generalize l[i]=s at hs
  have fJ:(l.map fT)[((i:Int)).toNat]?=some (fT s):=by rw [Int.toNat_natCast,List.getElem?_map,hs]; rfl
  have uK:=zF v s
  rw [Bx] at uK
  generalize fw v.coin s=q at uK
  refine ⟨fT s,fun _=>⟨by omega,fJ⟩,?_⟩
  refine .inl ⟨_,fun _=>(uK).ok,?_⟩
  repeat first | refine ⟨id,?_⟩ | refine ⟨fun _ h=>bW h,?_⟩ | refine ⟨fun _ h=>ay h,?_⟩ | refine ⟨fun h=>⟨h,fun h2=>aF h h2⟩,?_⟩ | refine ⟨fun h=>⟨h,fun h2=>aA h h2⟩,?_⟩
  refine ⟨fT s,fun _=>⟨by omega,fJ⟩,?_⟩
  repeat first | refine ⟨id,?_⟩ | refine ⟨fun _ h=>bW h,?_⟩ | refine ⟨fun _ h=>ay h,?_⟩ | refine ⟨fun h=>⟨h,fun h2=>aF h h2⟩,?_⟩ | refine ⟨fun h=>⟨h,fun h2=>aA h h2⟩,?_⟩
  refine ⟨fun _=>hb,?_⟩
  repeat first | refine ⟨id,?_⟩ | refine ⟨fun _ h=>bW h,?_⟩ | refine ⟨fun _ h=>ay h,?_⟩ | refine ⟨fun h=>⟨h,fun h2=>aF h h2⟩,?_⟩ | refine ⟨fun h=>⟨h,fun h2=>aA h h2⟩,?_⟩
  refine ⟨fT s,fun _=>⟨by omega,fJ⟩,?_⟩
  repeat first | refine ⟨id,?_⟩ | refine ⟨fun _ h=>bW h,?_⟩ | refine ⟨fun _ h=>ay h,?_⟩ | refine ⟨fun h=>⟨h,fun h2=>aF h h2⟩,?_⟩ | refine ⟨fun h=>⟨h,fun h2=>aA h h2⟩,?_⟩
  have cC:=MJ hs v.coin v.ab tick
  have hle:=Bz v.coin v.ab (l.take i) tick
  rw [List.length_take] at hle
  have aK:l.length - (i+1)<l.length - i:=by omega
  refine ⟨by kernel_rfl,fun hc=>?_,fun hc=>?_⟩
  ·have hc:UM v.coin v.ab tick s=true:=hc
   rw [if_pos hc] at cC
   refine ⟨fun _=>⟨by omega,by omega⟩,?_⟩
   exact ⟨fun _=>⟨by omega,by omega⟩,i+1,⟨⟨rf,rf,rf,au (by omega),au (by omega),tv⟩,tv,rfl,rfl⟩,by omega,aK⟩
  ·have hc:UM v.coin v.ab tick s=false:=hc
   rw [if_neg (by rw [hc]; simp)] at cC
   exact ⟨fun _=>⟨by omega,by omega⟩,i+1,⟨⟨rf,rf,rf,au (by omega),au (by omega),tv⟩,tv,rfl,rfl⟩,by omega,aK⟩
 ·have hk:i=l.length:=by
   have:¬ i<l.length:=by simpa using h
   omega
  exact ⟨au (by rw [hk,List.take_length]),tv⟩
theorem DF (q:Nat→Bool) (k:Nat):(List.range (k+1)).countP q=(List.range k).countP q+(if q k=true then 1 else 0):=by
 rw [List.range_succ,List.countP_append]; simp [List.countP_cons]
theorem DG {f:Int→Nat} {l:List Int} {i:Nat} {a:Int} (h:l[i]?=some a):((l.take (i+1)).map f).sum=((l.take i).map f).sum+f a:=by
 rw [List.take_add_one,h]; simp [List.sum_append]
theorem u6 (q:Nat→Bool) (k:Nat):(List.range k).countP q≤k:=by
 have:=List.countP_le_length (p:=q) (l:=List.range k); rw [List.length_range] at this; exact this
theorem DH (l:List St):∀xs:List Int,nY l xs≤4 * xs.length
 | []=>Nat.le_refl _
 | a::r=>by
  have h1:=DH l r
  have h2:=u6 (fun k=>!decide (aN a (k:Nat) l=0)) 4
  unfold nY at h1 ⊢
  rw [List.map_cons,List.sum_cons,List.length_cons]
  have h3:O2 a l=(List.range 4).countP fun k=>!decide (aN a (k:Nat) l=0):=rfl
  omega
def US (v:RV) (l:List St) (tick:Int) (n0:Nat) (i:Nat):aY:=⟨0,[(0,.dv (DD v)),(1,.dv (ju l)),(7,.dv (I ((n0+nY l ((bp l).take i):Nat):Int))),(8,.dv (eE (bp l))),(9,.dv (I i))],[]⟩
def SB (v:RV) (l:List St) (tick:Int) (n0:Nat) (i:Nat) (a:Int) (k:Nat):aY:=⟨0,[(0,.dv (DD v)),(1,.dv (ju l)),(7,.dv (I ((n0+nY l ((bp l).take i)+(List.range k).countP fun k=>!decide (aN a (k:Nat) l=0):Nat):Int))),(8,.dv (eE (bp l))),(9,.dv (I i)),(10,.dv (I k))],[]⟩
set_option maxHeartbeats 4000000 in
theorem xh (v:RV) (l:List St) (hl:m8 l) (tick:Int) (hb:-9223372036854775808≤tick - v.ab∧tick - v.ab≤9223372036854775807):cr Tryz.prog 45 [DD v,ju l,I tick] [I (rO v.coin v.ab l tick)]:=by
 refine bq aD mixed (af _) (ai _) Tryz.func45 rfl (by kernel_rfl) rfl ?_
 refine .inl ⟨_,fun _=>(j5 v l hl.1 tick hb).ok,?_⟩
 refine .inl ⟨_,fun _=>(oU l hl).ok,?_⟩
 have NW:=Bz v.coin v.ab l tick
 have FN:=hl.1
 have QG:=xe hl
 generalize hn:bz v.coin v.ab l tick=n0 at *
 refine ⟨Nat,US v l tick n0,fun i=>i≤(bp l).length,fun i=>(bp l).length - i,0,fun _=>rfl,⟨⟨rf,rf,au (by simp [nY]),rf,rf,tv⟩,tv,rfl,rfl⟩,by omega,?_⟩
 rintro i hi
 refine ⟨fun h=>?_,fun h=>?_⟩
 ·have hk:i<(bp l).length:=by simpa using h
  have hs:=List.getElem?_eq_getElem hk
  generalize (bp l)[i]=a at hs
  have fJ:((bp l).map I)[((i:Int)).toNat]?=some (I a):=by rw [Int.toNat_natCast,List.getElem?_map,hs]; rfl
  have SC:=DH l ((bp l).take i)
  rw [List.length_take] at SC
  refine ⟨Nat,SB v l tick n0 i a,fun k=>k≤4,fun k=>4 - k,0,fun _=>rfl,⟨⟨rf,rf,au (by simp),rf,rf,rf,tv⟩,tv,rfl,rfl⟩,by omega,?_⟩
  rintro k A9
  refine ⟨fun h=>?_,fun h=>?_⟩
  ·have Ge:k<4:=by have:=of_decide_eq_true h; omega
   have cC:=DF (fun k=>!decide (aN a (k:Nat) l=0)) k
   have O5:=u6 (fun k=>!decide (aN a (k:Nat) l=0)) k
   refine ⟨I a,fun _=>⟨by omega,fJ⟩,?_⟩
   refine .inl ⟨_,fun _=>(eF l a k hl).ok,?_⟩
   have aK:4 - (k+1)<4 - k:=by omega
   refine ⟨fun hc=>?_,fun hc=>?_⟩
   ·have hc:(!decide (aN a (k:Nat) l=0))=true:=hc
    rw [if_pos hc] at cC
    refine ⟨fun _=>⟨by omega,by omega⟩,?_⟩
    exact ⟨fun _=>⟨by omega,by omega⟩,k+1,⟨⟨rf,rf,au (by omega),rf,rf,au (by omega),tv⟩,tv,rfl,rfl⟩,by omega,aK⟩
   ·have hc:(!decide (aN a (k:Nat) l=0))=false:=hc
    rw [if_neg (by rw [hc]; simp)] at cC
    exact ⟨fun _=>⟨by omega,by omega⟩,k+1,⟨⟨rf,rf,au (by omega),rf,rf,au (by omega),tv⟩,tv,rfl,rfl⟩,by omega,aK⟩
  ·have Ge:k=4:=by have:=of_decide_eq_false h; omega
   have cC:=DG (f:=fun a=>O2 a l) hs
   have he:nY l ((bp l).take (i+1))=nY l ((bp l).take i)+(List.range k).countP fun k=>!decide (aN a (k:Nat) l=0):=by rw [Ge]; exact cC
   exact ⟨fun _=>⟨by omega,by omega⟩,i+1,⟨⟨rf,rf,au (by omega),rf,au (by omega),tv⟩,tv,rfl,rfl⟩,by omega,by show (bp l).length - (i+1)<(bp l).length - i; omega⟩
 ·have hk:i=(bp l).length:=by
   have:¬ i<(bp l).length:=by simpa using h
   omega
  have he:rO v.coin v.ab l tick=n0+nY l ((bp l).take i):=by rw [hk,List.take_length,←hn]; rfl
  exact ⟨au (by rw [he]),tv⟩
end Go.Proofs.YtpbdohkbiklflaaGreatDoor
namespace Go.Proofs.YtpbdohkbiklflaaGreatDoor
open Go.TM
variable [cG]
set_option maxRecDepth 100000
theorem Gf (v:RV) (hl:m8 v.steps) (hb:-9223372036854775808≤bs v.steps - v.ab∧bs v.steps - v.ab≤9223372036854775807):cr Tryz.prog 56 [DD v] [I (rO v.coin v.ab v.steps (bs v.steps))]:=by
 refine bq aD mixed (af _) (ai _) Tryz.func56 rfl (by kernel_rfl) rfl ?_
 refine .inl ⟨_,fun _=>(ig v (by have:=hl.1; omega)).ok,?_⟩
 refine .inl ⟨_,fun _=>(xh v v.steps hl _ hb).ok,?_⟩
 exact ⟨by kernel_rfl,rf,tv⟩
def DI (v:RV):aj:=[(0,.tree 0 0 (.cB (QF v)))]
theorem JJ (v:RV):aO Tryz.prog 24 [.own 0 0 0 []] 1 (DI v) 0 [.dv (I v.work)] (DI { v with work:=0 }):=by
 refine aJ aD mixed (af _) (ai _) Tryz.func24 rfl rfl (by kernel_rfl) ?_
 refine ⟨[I 0],⟨rf,tv⟩,?_⟩
 exact ⟨_,_,⟨rfl,rfl⟩,by kernel_rfl,⟨rf,tv⟩,⟨rfl,rfl⟩,tv⟩
theorem MK (v:RV) (hl:m8 v.steps) (a it:Int):cr Tryz.prog 59 [DD v,I a,I it] [I (if a<1 then 0 else aN a it v.steps)]:=by
 refine bq aD mixed (af _) (ai _) Tryz.func59 rfl (by kernel_rfl) rfl ?_
 refine ⟨fun h=>?_,fun h=>?_⟩
 ·have h:=of_decide_eq_true h
  rw [if_pos h]
  exact ⟨rf,tv⟩
 ·have h:=of_decide_eq_false h
  rw [if_neg h]
  refine .inl ⟨_,fun _=>(eF v.steps a it hl).ok,?_⟩
  exact ⟨rf,tv⟩
theorem ML {f:Int→Int} (h:∀a,-879609302220800≤f a∧f a≤879609302220800):∀l:List Int,-879609302220800 * (l.length:Int)≤(l.map f).sum∧(l.map f).sum≤879609302220800 * (l.length:Int)
 | []=>by simp
 | a::r=>by
  have h1:=ML h r
  have h2:=h a
  rw [List.map_cons,List.sum_cons,List.length_cons]
  omega
theorem JK {f:Int→Int} {l:List Int} {i:Nat} {a:Int} (h:l[i]?=some a):((l.take (i+1)).map f).sum=((l.take i).map f).sum+f a:=by
 rw [List.take_add_one,h]; simp [List.sum_append]
def toInv (v:RV) (it:Int) (i:Nat):aY:=⟨0,[(0,.dv (DD v)),(1,.dv (I it)),(5,.dv (eE (bp v.steps))),(6,.dv (I (((bp v.steps).take i).map fun a=>aN a it v.steps).sum)),(7,.dv (I i))],[]⟩
set_option maxHeartbeats 4000000 in
theorem JL (v:RV) (hl:m8 v.steps) (it:Int):cr Tryz.prog 57 [DD v,I it] [I (F9 v.steps it)]:=by
 refine bq aD mixed (af _) (ai _) Tryz.func57 rfl (by kernel_rfl) rfl ?_
 refine .inl ⟨_,fun _=>(oU v.steps hl).ok,?_⟩
 have QG:=xe hl
 refine ⟨Nat,toInv v it,fun i=>i≤(bp v.steps).length,fun i=>(bp v.steps).length - i,0,fun _=>rfl,⟨⟨rf,rf,rf,rf,rf,tv⟩,tv,rfl,rfl⟩,by omega,?_⟩
 rintro i hi
 refine ⟨fun h=>?_,fun h=>?_⟩
 ·have hk:i<(bp v.steps).length:=by simpa using h
  have hs:=List.getElem?_eq_getElem hk
  generalize (bp v.steps)[i]=a at hs
  have fJ:((bp v.steps).map I)[((i:Int)).toNat]?=some (I a):=by rw [Int.toNat_natCast,List.getElem?_map,hs]; rfl
  have ki:=ML (fun a=>u5 a it hl) ((bp v.steps).take i)
  have cy:=u5 a it hl
  have cC:=JK (f:=fun a=>aN a it v.steps) hs
  rw [List.length_take] at ki
  refine ⟨I a,fun _=>⟨by omega,fJ⟩,?_⟩
  refine .inl ⟨_,fun _=>(eF v.steps a it hl).ok,?_⟩
  refine ⟨fun _=>⟨by omega,by omega⟩,?_⟩
  exact ⟨by kernel_rfl,fun _=>⟨by omega,by omega⟩,i+1,⟨⟨rf,rf,rf,au cC.symm,au (by omega),tv⟩,tv,rfl,rfl⟩,by omega,by show (bp v.steps).length - (i+1)<(bp v.steps).length - i; omega⟩
 ·have hk:i=(bp v.steps).length:=by
   have:¬ i<(bp v.steps).length:=by simpa using h
   omega
  exact ⟨au (by rw [hk,List.take_length]; rfl),tv⟩
theorem Gg (o:List Rk) (x:Rk):(j4 o x).length=o.length+1:=by
 have:=congrArg List.length (List.take_append_drop (iM o x.2 o.length) o)
 rw [List.length_append] at this
 unfold j4
 rw [List.length_append,List.length_cons]; omega
theorem MM (l:List St) (it:Int) (o:List Rk) (a:Int):(lz l it o a).length≤o.length+1:=by
 unfold lz; split
 ·omega
 ·rw [Gg]; omega
theorem DJ (l:List St) (it:Int):∀(xs:List Int) (o:List Rk),(xs.foldl (lz l it) o).length≤o.length+xs.length
 | [],o=>by simp
 | a::r,o=>by
  have h1:=DJ l it r (lz l it o a)
  have h2:=MM l it o a
  rw [List.foldl_cons,List.length_cons]; omega
theorem JM {l:List St} {it:Int} {xs:List Int} {i:Nat} {a:Int} (h:xs[i]?=some a):(xs.take (i+1)).foldl (lz l it) []=lz l it ((xs.take i).foldl (lz l it) []) a:=by
 rw [List.take_add_one,h,List.foldl_append]; rfl
theorem O6:(nth tab (nth tab 63).elem).bytes=16:=rfl
theorem BA (L:List DV) (n:Int):0≤(if 0<(if (L.length:Int)<n then (L.length:Int) else n) then (if (L.length:Int)<n then (L.length:Int) else n) else 0)∧(if 0<(if (L.length:Int)<n then (L.length:Int) else n) then (if (L.length:Int)<n then (L.length:Int) else n) else 0)≤(L.length:Int) ∧
  List.drop 0 (L.take (if 0<(if (L.length:Int)<n then (L.length:Int) else n) then (if (L.length:Int)<n then (L.length:Int) else n) else 0).toNat)=L.take n.toNat:=by
 by_cases h1:(L.length:Int)<n
 ·rw [if_pos h1]
  by_cases h2:0<(L.length:Int)
  ·rw [if_pos h2]
   refine ⟨by omega,by omega,?_⟩
   rw [List.drop_zero,Int.toNat_natCast,List.take_length,List.take_of_length_le (by omega)]
  ·rw [if_neg h2]
   have:L=[]:=List.length_eq_zero_iff.1 (by omega)
   subst this
   exact ⟨by omega,by simp,by simp⟩
 ·rw [if_neg h1]
  by_cases h2:0<n
  ·rw [if_pos h2]
   exact ⟨by omega,by omega,by rw [List.drop_zero]⟩
  ·rw [if_neg h2]
   exact ⟨by omega,by omega,by rw [show n.toNat=0 by omega]; rfl⟩
end Go.Proofs.YtpbdohkbiklflaaGreatDoor
namespace Go.Proofs.YtpbdohkbiklflaaGreatDoor
open Go.TM
variable [cG]
set_option maxRecDepth 100000
def UT (v:RV) (it n:Int) (i:Nat):aY:=⟨1,[(0,.own 0 0 0 []),(1,.dv (I it)),(2,.dv (I n)),(7,.dv (eE (bp v.steps))),(8,.dv (.sl 2 ((((bp v.steps).take i).foldl (lz v.steps it) []).map eR))),(9,.dv (I i))],DI v⟩
def SD (v:RV) (it n:Int) (i:Nat) (a:Int) (o:List Rk) (k:Nat):aY:=⟨2,[(0,.own 0 0 0 []),(1,.dv (I it)),(2,.dv (I n)),(7,.dv (eE (bp v.steps))),(8,.dv (.sl 2 (o.map eR))),(9,.dv (I i)),(10,.ptr 1 0),(11,.dv (I k))],DI v++[(1,.cells [.dv (I a),.dv (I (aN a it v.steps))])]⟩
set_option maxHeartbeats 4000000 in
theorem xi (v:RV) (hl:m8 v.steps) (it n:Int) (hn:n≤9223372036854775807):aO Tryz.prog 60 [.own 0 0 0 [],.dv (I it),.dv (I n)] 1 (DI v) 0 [.dv (.sl 2 ((O3 v.steps it n).map eR))] (DI v):=by
 refine aJ aD mixed (af _) (ai _) Tryz.func60 rfl rfl (by kernel_rfl) ?_
 refine .inl ⟨_,fun _=>(oU v.steps hl).ok,?_⟩
 have QG:=xe hl
 refine ⟨Nat,UT v it n,fun i=>i≤(bp v.steps).length,fun i=>(bp v.steps).length - i,0,fun _=>rfl,⟨⟨rfl,rf,rf,rf,oQ _,rf,tv⟩,⟨⟨rfl,rfl⟩,tv⟩,rfl,rfl⟩,by omega,?_⟩
 rintro i hi
 refine ⟨fun h=>?_,fun h=>?_⟩
 ·have hk:i<(bp v.steps).length:=by simpa using h
  have hs:=List.getElem?_eq_getElem hk
  generalize (bp v.steps)[i]=a at hs
  have fJ:((bp v.steps).map I)[((i:Int)).toNat]?=some (I a):=by rw [Int.toNat_natCast,List.getElem?_map,hs]; rfl
  have cC:=JM (l:=v.steps) (it:=it) hs
  have Ty:=DJ v.steps it ((bp v.steps).take i) []
  rw [List.length_take,List.length_nil] at Ty
  generalize ho:((bp v.steps).take i).foldl (lz v.steps it) []=o at *
  refine ⟨I a,fun _=>⟨by omega,fJ⟩,?_⟩
  refine ⟨I a,fun _=>⟨by omega,fJ⟩,?_⟩
  refine .inl ⟨_,fun _=>(eF v.steps a it hl).ok,?_⟩
  repeat first | refine ⟨id,?_⟩ | refine ⟨fun _ h=>bW h,?_⟩ | refine ⟨fun _ h=>ay h,?_⟩ | refine ⟨fun h=>⟨h,fun h2=>aF h h2⟩,?_⟩ | refine ⟨fun h=>⟨h,fun h2=>aA h h2⟩,?_⟩
  refine ⟨by kernel_rfl,?_⟩
  repeat first | refine ⟨id,?_⟩ | refine ⟨fun _ h=>bW h,?_⟩ | refine ⟨fun _ h=>ay h,?_⟩ | refine ⟨fun h=>⟨h,fun h2=>aF h h2⟩,?_⟩ | refine ⟨fun h=>⟨h,fun h2=>aA h h2⟩,?_⟩
  have aK:(bp v.steps).length - (i+1)<(bp v.steps).length - i:=by omega
  have jy:=u5 a it hl
  refine ⟨fun hc=>?_,fun hc=>?_⟩
  ·have hc:aN a it v.steps=0 ∨ 1048576≤a:=by
    have hc:(bif decide (aN a it v.steps=0) then true else decide (1048576≤a))=true:=hc
    by_cases h1:aN a it v.steps=0
    ·exact .inl h1
    ·right; simpa [h1] using hc
   have he:lz v.steps it o a=o:=if_pos hc
   exact ⟨fun _=>⟨by omega,by omega⟩,i+1,⟨⟨rfl,rf,rf,rf,DV.Le.of_eq (by rw [cC,he]),au (by omega),tv⟩,⟨⟨rfl,rfl⟩,tv⟩,rfl,rfl⟩,by omega,aK⟩
  ·have hc:¬ (aN a it v.steps=0 ∨ 1048576≤a):=by
    have hc:(bif decide (aN a it v.steps=0) then true else decide (1048576≤a))=false:=hc
    rintro (h1 | h1) <;> simp [h1] at hc
   have he:lz v.steps it o a=j4 o (a,aN a it v.steps):=if_neg hc
   generalize hx:aN a it v.steps=x at *
   refine ⟨Nat,SD v it n i a o,fun k=>k≤o.length∧iM o x k=iM o x o.length,fun k=>k,o.length,fun _=>rfl,⟨⟨rfl,rf,rf,rf,rf,rf,rfl,au (by simp),tv⟩,⟨⟨rfl,rfl⟩,⟨rf,DV.Le.of_eq (by rw [hx]),tv⟩,tv⟩,rfl,rfl⟩,⟨by omega,rfl⟩,?_⟩
   rintro k ⟨I7,A9⟩
   have ya:bw (decide (0<(k:Int))) true=true→0<k:=fun hb=>by
    by_cases h9:0<k
    ·exact h9
    ·rw [decide_eq_false (by omega)] at hb; cases hb
   repeat first | refine ⟨id,?_⟩ | refine ⟨fun _ h=>bW h,?_⟩ | refine ⟨fun _ h=>ay h,?_⟩ | refine ⟨fun h=>⟨h,fun h2=>aF h h2⟩,?_⟩ | refine ⟨fun h=>⟨h,fun h2=>aA h h2⟩,?_⟩
   refine ⟨fun hb=>⟨by omega,by omega⟩,?_⟩
   repeat first | refine ⟨id,?_⟩ | refine ⟨fun _ h=>bW h,?_⟩ | refine ⟨fun _ h=>ay h,?_⟩ | refine ⟨fun h=>⟨h,fun h2=>aF h h2⟩,?_⟩ | refine ⟨fun h=>⟨h,fun h2=>aA h h2⟩,?_⟩
   have SE:0<k→(o.map eR)[((k:Int) - 1).toNat]?=some (eR (o.getD (k - 1) (0,0))):=fun h0=>by
    rw [show ((k:Int) - 1).toNat=k - 1 by omega,List.getElem?_map,List.getD_eq_getElem?_getD,List.getElem?_eq_getElem (by omega)]; rfl
   refine ⟨eR (o.getD (k - 1) (0,0)),fun hb=>⟨by have:=ya hb; omega,SE (ya hb)⟩,?_⟩
   repeat first | refine ⟨id,?_⟩ | refine ⟨fun _ h=>bW h,?_⟩ | refine ⟨fun _ h=>ay h,?_⟩ | refine ⟨fun h=>⟨h,fun h2=>aF h h2⟩,?_⟩ | refine ⟨fun h=>⟨h,fun h2=>aA h h2⟩,?_⟩
   refine ⟨by kernel_rfl,fun fC=>?_,fun fC=>?_⟩
   ·obtain ⟨h1,h2⟩:=tX fC
    have h1:=ya (ay h1)
    have h2:(o.getD (k - 1) (0,0)).2<x:=hx ▸ of_decide_eq_true h2
    obtain ⟨k',rfl⟩:∃k',k=k'+1:=⟨k - 1,by omega⟩
    simp only [Nat.add_sub_cancel] at h2
    have Ge:iM o x (k'+1)=iM o x k':=by rw [iM,if_pos h2]
    refine ⟨fun _=>⟨by omega,by omega⟩,k',⟨⟨rfl,rf,rf,rf,rf,rf,rfl,au (by simp),tv⟩,⟨⟨rfl,rfl⟩,⟨rf,rf,tv⟩,tv⟩,rfl,rfl⟩,⟨by omega,by rw [←Ge]; exact A9⟩,by show k'<k'+1; omega⟩
   ·have FI:iM o x o.length=k:=by
     rw [←A9]
     cases k with
     | zero=>rfl
     | succ k' =>
      rw [iM,if_neg]
      intro h9
      exact zu fC ⟨decide_eq_true (by omega),decide_eq_true (by rw [hx]; exact h9)⟩
    have EO:List.drop (Option.getD none (0:Int)).toNat (List.take (Option.getD (some (k:Int)) ((o.map eR).length:Int)).toNat (o.map eR))=(o.take k).map eR:=by
     simp [List.map_take]
    have Jy:List.drop (Option.getD (some (k:Int)) (0:Int)).toNat (List.take (Option.getD none ((o.map eR).length:Int)).toNat (o.map eR))=(o.drop k).map eR:=by
     simp [List.map_drop]
     rw [←List.length_map (f:=eR),List.take_length]
    have pz:∀q:List Rk,(q.map eR).length=q.length:=fun q=>List.length_map ..
    refine ⟨fun _=>⟨Int.le_refl _,by show (0:Int)≤(k:Int); omega,by show (k:Int)≤((o.map eR).length:Int); rw [List.length_map]; omega⟩,.inr ⟨(o.take k).map eR,by rw [EO]; exact dm.refl _,by rw [O6,pz,List.length_take]; omega,by rw [pz,List.length_take]; omega,?_⟩⟩
    refine .inl ⟨[eR (a,x)],rfl,⟨rf,DV.Le.of_eq (by rw [hx]),tv⟩,fun y hy=>(by rcases List.mem_singleton.1 hy with rfl; rfl),.inr ⟨[eR (a,x)],dm.refl _,(by rw [O6,pz,List.length_take]; simp; omega),(by rw [pz,List.length_take]; simp; omega),?_⟩⟩
    refine ⟨fun _=>⟨by show (0:Int)≤(k:Int); omega,by show (k:Int)≤((o.map eR).length:Int); rw [List.length_map]; omega,Int.le_refl _⟩,.inr ⟨(o.drop k).map eR,by rw [Jy]; exact dm.refl _,by rw [O6,List.length_append,pz,pz,List.length_take,List.length_drop]; simp; omega,by rw [List.length_append,pz,pz,List.length_take,List.length_drop]; simp; omega,?_⟩⟩
    have iF:DV.sl 2 (FP ((o.take k).map eR++[eR (a,x)]++(o.drop k).map eR))=DV.sl 2 ((((bp v.steps).take (i+1)).foldl (lz v.steps it) []).map eR):=by
     have e:(o.take k).map eR++[eR (a,x)]++(o.drop k).map eR=(j4 o (a,x)).map eR:=by
      unfold j4; rw [show iM o (a,x).2 o.length=k from FI]; simp
     rw [e,oP fun _=>rfl,cC,he]
    exact ⟨fun _=>⟨by omega,by omega⟩,i+1,⟨⟨rfl,rf,rf,rf,DV.Le.of_eq iF,au (by omega),tv⟩,⟨⟨rfl,rfl⟩,tv⟩,rfl,rfl⟩,by omega,aK⟩
 ·have hk:i=(bp v.steps).length:=by
   have:¬ i<(bp v.steps).length:=by simpa using h
   omega
  refine ⟨fun _=>⟨Int.le_refl _,(BA _ n).1,(BA _ n).2.1⟩,_,_,⟨rfl,rfl⟩,by kernel_rfl,⟨DV.Le.of_eq (congrArg (DV.sl 2) ?_),tv⟩,⟨rfl,rfl⟩,tv⟩
  refine ((BA _ n).2.2).trans ?_
  rw [hk,List.take_length]
  unfold O3 DA
  rw [List.map_take]
theorem xj (l:List Rk) (hl:l.length≤1000000):cr Tryz.prog 27 [.sl 2 (l.map eR),.sl 2 (l.map eR)] [B true]:=by
 refine bq aD mixed (af _) (ai _) Tryz.func27 rfl (by kernel_rfl) rfl ?_
 refine ⟨fun h=>by simp at h,fun _=>?_⟩
 refine ⟨Nat,fun k=>⟨0,[(0,.dv (.sl 2 (l.map eR))),(1,.dv (.sl 2 (l.map eR))),(5,.dv (I k))],[]⟩,fun k=>k≤l.length,fun k=>l.length - k,0,fun _=>rfl,⟨⟨rf,rf,rf,tv⟩,tv,rfl,rfl⟩,by omega,?_⟩
 rintro k I7
 refine ⟨fun h=>?_,fun h=>?_⟩
 ·have hk:k<l.length:=by simpa using h
  have fJ:(l.map eR)[((k:Int)).toNat]?=some (eR l[k]):=by rw [Int.toNat_natCast,List.getElem?_map,List.getElem?_eq_getElem hk]; rfl
  refine ⟨eR l[k],fun _=>⟨by omega,fJ⟩,eR l[k],fun _=>⟨by omega,fJ⟩,?_⟩
  refine ⟨by kernel_rfl,fun h=>?_,fun h=>?_⟩
  ·exfalso
   simp at h
  ·exact ⟨fun _=>⟨by omega,by omega⟩,k+1,⟨⟨rf,rf,au (by omega),tv⟩,tv,rfl,rfl⟩,by omega,by show l.length - (k+1)<l.length - k; omega⟩
 ·exact ⟨rf,tv⟩
def UU (l:List Rk) (i:Nat):aY:=⟨1,[(0,.dv (.sl 2 (l.map eR))),(3,.own 0 0 0 []),(4,.dv (I i))],[(0,.tree 0 0 (.aw 2 ((l.take i).map eR)))]⟩
set_option maxHeartbeats 4000000 in
theorem xl (l:List Rk) (hl:l.length≤1000000):cr Tryz.prog 28 [.sl 2 (l.map eR)] [.sl 2 (l.map eR)]:=by
 refine bq aD mixed (af _) (ai _) Tryz.func28 rfl (by kernel_rfl) rfl ?_
 refine ⟨Nat,UU l,fun k=>k≤l.length,fun k=>l.length - k,0,fun _=>rfl,⟨⟨rf,⟨rfl,rfl,rfl,rfl,2,rfl⟩,rf,tv⟩,⟨⟨rfl,rfl,2,rfl⟩,tv⟩,rfl,rfl⟩,by omega,?_⟩
 rintro k I7
 refine ⟨fun h=>?_,fun h=>?_⟩
 ·have hk:k<l.length:=by simpa using h
  have fJ:(l.map eR)[((k:Int)).toNat]?=some (eR l[k]):=by rw [Int.toNat_natCast,List.getElem?_map,List.getElem?_eq_getElem hk]; rfl
  have pz:∀q:List Rk,(q.map eR).length=q.length:=fun q=>List.length_map ..
  refine ⟨eR l[k],fun _=>⟨by omega,fJ⟩,eR l[k],fun _=>⟨by omega,fJ⟩,?_⟩
  refine .inl ⟨[eR l[k]],rfl,⟨rf,rf,tv⟩,fun y hy=>(by rcases List.mem_singleton.1 hy with rfl; rfl),.inr ⟨[eR l[k]],dm.refl _,(by rw [O6,pz,List.length_take]; simp; omega),(by rw [pz,List.length_take]; simp; omega),?_⟩⟩
  refine ⟨by kernel_rfl,fun _=>⟨by omega,by omega⟩,k+1,⟨⟨rf,rfl,au (by omega),tv⟩,⟨⟨rfl,?_⟩,tv⟩,rfl,rfl⟩,by omega,by show l.length - (k+1)<l.length - k; omega⟩
  show DV.aw 2 ((l.take k).map eR++[eR l[k]])=DV.aw 2 ((l.take (k+1)).map eR)
  rw [List.take_add_one,List.getElem?_eq_getElem hk]
  congr 1
  rw [List.map_append]; rfl
 ·have hk:k=l.length:=by
   have:¬ k<l.length:=by simpa using h
   omega
  refine ⟨DV.Le.of_eq ?_,tv⟩
  show DV.sl 2 (FP ((l.take k).map eR))=_
  rw [oP fun _=>rfl,hk,List.take_length]
end Go.Proofs.YtpbdohkbiklflaaGreatDoor
