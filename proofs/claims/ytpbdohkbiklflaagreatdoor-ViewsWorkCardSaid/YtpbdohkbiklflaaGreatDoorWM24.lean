import Derived.Test.YtpbdohkbiklflaaGreatDoorWM23
set_option linter.unusedVariables false
set_option linter.unusedSimpArgs false
set_option linter.unusedSectionVars false
namespace Go.Proofs.YtpbdohkbiklflaaGreatDoor
open Go.TM
variable [cZ]
set_option maxRecDepth 100000
def jF (l:List St):DV:=.sl 7 (l.map gG)
theorem P0:(nth tab (nth tab 30).elem).bytes=8:=rfl
theorem MI:(nth tab (nth tab 70).elem).bytes=72:=rfl
theorem Kq (l:List Int) (n:Int) (hl:l.length≤1000000):cP Tryz.prog 125 [gD l,I n] [B (decide (n∈l))]:=by
 refine bI aO mixed (aq _) (ar _) Tryz.func125 rfl (by kernel_rfl) rfl ?_
 refine ⟨Nat,fun k=>⟨0,[(0,.dv (gD l)),(1,.dv (I n)),(5,.dv (I k))],[]⟩,fun k=>k≤l.length∧n ∉ l.take k,fun k=>l.length - k,0,fun _=>rfl,⟨⟨rf,rf,rf,tv⟩,tv,rfl,rfl⟩,⟨by omega,by simp⟩,?_⟩
 rintro k ⟨Lv,C7⟩
 refine ⟨fun h=>?_,fun h=>?_⟩
 ·have hk:k<l.length:=by simpa using h
  refine ⟨I l[k],fun _=>⟨by omega,by simp⟩,?_⟩
  refine ⟨fun h=>?_,fun h=>?_⟩
  ·have hn:l[k]=n:=by simpa using h
   have hm:n∈l:=by rw [←hn]; exact List.getElem_mem _
   exact ⟨DV.Le.of_eq (congrArg B (decide_eq_true hm).symm),tv⟩
  ·have hn:l[k] ≠ n:=by simpa using h
   refine ⟨fun _=>⟨by omega,by omega⟩,k+1,⟨⟨rf,rf,aB (by omega),tv⟩,tv,rfl,rfl⟩,⟨by omega,?_⟩,by show l.length - (k+1)<l.length - k; omega⟩
   intro hm
   rw [List.take_add_one,List.getElem?_eq_getElem hk] at hm
   simp only [Option.toList_some,List.mem_append,List.mem_singleton] at hm
   rcases hm with hm | hm
   ·exact C7 hm
   ·exact hn hm.symm
 ·have hk:k=l.length:=by
   have:¬ k<l.length:=by simpa using h
   omega
  subst hk
  rw [List.take_length] at C7
  exact ⟨DV.Le.of_eq (congrArg B (decide_eq_false C7).symm),tv⟩
theorem Oe {n:Int}:∀{l:List Int} (k:Nat),k≤l.length→(∀x∈l.take k,x<n)→(∀x,l[k]?=some x→¬ x<n)→l.takeWhile (fun x=>decide (x<n))=l.take k∧l.dropWhile (fun x=>decide (x<n))=l.drop k
 | [],k,h,_,_=>by simp at h; subst h; exact ⟨rfl,rfl⟩
 | y::r,0,_,_,h=>by
  have:=h y rfl
  rw [List.takeWhile_cons_of_neg (by simpa using this),List.dropWhile_cons_of_neg (by simpa using this)]
  exact ⟨rfl,rfl⟩
 | y::r,k+1,h1,h2,h3=>by
  have hy:y<n:=h2 y (by simp)
  obtain ⟨e1,e2⟩:=Oe (l:=r) k (by simpa using h1) (fun x hx=>h2 x (by rw [List.take_succ_cons]; exact List.mem_cons_of_mem _ hx)) (fun x hx=>h3 x (by simpa using hx))
  rw [List.takeWhile_cons_of_pos (by simpa using hy),List.dropWhile_cons_of_pos (by simpa using hy),e1,e2]
  exact ⟨rfl,rfl⟩
theorem Cd (l:List Int) (n:Int) (hl:l.length≤1000000):cP Tryz.prog 112 [gD l,I n] [gD (kQ l n)]:=by
 refine bI aO mixed (aq _) (ar _) Tryz.func112 rfl (by kernel_rfl) rfl ?_
 repeat first | refine ⟨id,?_⟩ | refine ⟨fun _ h=>cx h,?_⟩ | refine ⟨fun _ h=>ay h,?_⟩ | refine ⟨fun h=>⟨h,fun h2=>aQ h h2⟩,?_⟩ | refine ⟨fun h=>⟨h,fun h2=>aF h h2⟩,?_⟩
 refine .inl ⟨_,fun _=>(Kq l n hl).ok,?_⟩
 repeat first | refine ⟨id,?_⟩ | refine ⟨fun _ h=>cx h,?_⟩ | refine ⟨fun _ h=>ay h,?_⟩ | refine ⟨fun h=>⟨h,fun h2=>aQ h h2⟩,?_⟩ | refine ⟨fun h=>⟨h,fun h2=>aF h h2⟩,?_⟩
 refine ⟨fun h=>?_,fun h=>?_⟩
 ·have h':n≤0 ∨ n∈l:=by
   have h:(bif decide (n≤0) then true else decide (n∈l))=true:=h
   by_cases h1:n≤0
   ·exact .inl h1
   ·right; simpa [h1] using h
  exact ⟨DV.Le.of_eq (by unfold kQ; rw [if_pos h']),tv⟩
 have h':¬ (n≤0 ∨ n∈l):=by
  have h:(bif decide (n≤0) then true else decide (n∈l))=false:=h
  rintro (h1 | h1) <;> simp [h1] at h
 refine ⟨Nat,fun k=>⟨0,[(0,.dv (gD l)),(1,.dv (I n)),(5,.dv (I k))],[]⟩,fun k=>k≤l.length∧∀x∈l.take k,x<n,fun k=>l.length - k,0,fun _=>rfl,⟨⟨rf,rf,rf,tv⟩,tv,rfl,rfl⟩,⟨by omega,by simp⟩,?_⟩
 rintro k ⟨Lv,C7⟩
 have aL:bw (decide ((k:Int)<((l.map I).length:Int))) true=true→k<l.length:=fun hb=>by
  rw [List.length_map] at hb
  by_cases h9:k<l.length
  ·exact h9
  ·rw [decide_eq_false (by omega)] at hb; cases hb
 repeat first | refine ⟨id,?_⟩ | refine ⟨fun _ h=>cx h,?_⟩ | refine ⟨fun _ h=>ay h,?_⟩ | refine ⟨fun h=>⟨h,fun h2=>aQ h h2⟩,?_⟩ | refine ⟨fun h=>⟨h,fun h2=>aF h h2⟩,?_⟩
 refine ⟨I (l.getD k 0),fun hb=>⟨by omega,by rw [Int.toNat_natCast,List.getElem?_map,List.getElem?_eq_getElem (aL hb),List.getD_eq_getElem?_getD,List.getElem?_eq_getElem (aL hb)]; rfl⟩,?_⟩
 repeat first | refine ⟨id,?_⟩ | refine ⟨fun _ h=>cx h,?_⟩ | refine ⟨fun _ h=>ay h,?_⟩ | refine ⟨fun h=>⟨h,fun h2=>aQ h h2⟩,?_⟩ | refine ⟨fun h=>⟨h,fun h2=>aF h h2⟩,?_⟩
 refine ⟨fun h=>?_,fun h=>?_⟩
 ·have h:(bif decide ((k:Int)<((l.map I).length:Int)) then decide (l.getD k 0<n) else false)=true:=h
  obtain ⟨h1,h2⟩:=BZ h
  have hk:k<l.length:=by rw [List.length_map] at h1; have:=of_decide_eq_true h1; omega
  have h2:=of_decide_eq_true h2
  refine ⟨fun _=>⟨by omega,by omega⟩,k+1,⟨⟨rf,rf,aB (by omega),tv⟩,tv,rfl,rfl⟩,⟨by omega,?_⟩,by show l.length - (k+1)<l.length - k; omega⟩
  intro x hx
  rw [List.take_add_one,List.getElem?_eq_getElem hk] at hx
  rw [List.getD_eq_getElem?_getD,List.getElem?_eq_getElem hk] at h2
  simp only [Option.toList_some,List.mem_append,List.mem_singleton] at hx
  rcases hx with hx | rfl
  ·exact C7 x hx
  ·exact h2
 have h:(bif decide ((k:Int)<((l.map I).length:Int)) then decide (l.getD k 0<n) else false)=false:=h
 have aj:∀x,l[k]?=some x→¬ x<n:=by
  intro x hx h9
  have hk:=(List.getElem?_eq_some_iff.1 hx).1
  refine B0 h ⟨decide_eq_true (by rw [List.length_map]; omega),decide_eq_true ?_⟩
  rw [List.getD_eq_getElem?_getD,hx]; exact h9
 obtain ⟨e1,e2⟩:=Oe k Lv C7 aj
 have R3:List.drop (Option.getD none (0:Int)).toNat (List.take (Option.getD (some (k:Int)) ((l.map I).length:Int)).toNat (l.map I))=(l.take k).map I:=by
  simp [List.map_take]
 have yf:∀q:List Int,(q.map I).length=q.length:=fun q=>List.length_map ..
 refine ⟨fun _=>⟨Int.le_refl _,by show (0:Int)≤(k:Int); omega,by show (k:Int)≤((l.map I).length:Int); rw [List.length_map]; omega⟩,.inr ⟨(l.take k).map I,by rw [R3]; exact eJ.refl _,by rw [P0,yf,List.length_take]; omega,by rw [yf,List.length_take]; omega,?_⟩⟩
 refine .inl ⟨[I n],rfl,⟨rf,tv⟩,fun y hy=>(by rcases List.mem_singleton.1 hy with rfl; rfl),.inr ⟨[I n],eJ.refl _,(by rw [P0,yf,List.length_take]; simp; omega),(by rw [yf,List.length_take]; simp; omega),?_⟩⟩
 have QL:List.drop (Option.getD (some (k:Int)) (0:Int)).toNat (List.take (Option.getD none ((l.map I).length:Int)).toNat (l.map I))=(l.drop k).map I:=by
  simp [List.map_drop]
  rw [←List.length_map (f:=I),List.take_length]
 refine ⟨fun _=>⟨by show (0:Int)≤(k:Int); omega,by show (k:Int)≤((l.map I).length:Int); rw [List.length_map]; omega,Int.le_refl _⟩,.inr ⟨(l.drop k).map I,by rw [QL]; exact eJ.refl _,by rw [P0,List.length_append,yf,yf,List.length_take,List.length_drop]; simp; omega,by rw [List.length_append,yf,yf,List.length_take,List.length_drop]; simp; omega,?_⟩⟩
 refine ⟨DV.Le.of_eq ?_,tv⟩
 show DV.sl 1 (Ho ((l.take k).map I++[I n]++(l.drop k).map I))=DV.sl 1 ((kQ l n).map I)
 have e:(l.take k).map I++[I n]++(l.drop k).map I=(kQ l n).map I:=by
  unfold kQ; rw [if_neg h',e1,e2]; simp
 rw [e,tS fun _=>rfl]
theorem Kr {l:List Mv} {k:Nat} {m:Mv} (h:l[k]?=some m) (a it n:Int):ij a it n (l.take (k+1))=Gn a it (ij a it n (l.take k)) m:=by
 rw [List.take_add_one,h]; exact yn ..
theorem Ev {l:List St} {i:Nat} {s:St} (h:l[i]?=some s) (a it:Int):bg a it (l.take (i+1))=ij a it (bg a it (l.take i)) s.mv:=by
 rw [List.take_add_one,h]; exact pn ..
def Sd (l:List St) (a it:Int) (i:Nat):br:=⟨0,[(0,.dv (jF l)),(1,.dv (I a)),(2,.dv (I it)),(7,.dv (I (bg a it (l.take i)))),(8,.dv (I i))],[]⟩
def P1 (l:List St) (a it:Int) (i:Nat) (s:St) (k:Nat):br:=⟨0,[(0,.dv (jF l)),(1,.dv (I a)),(2,.dv (I it)),(7,.dv (I (ij a it (bg a it (l.take i)) (s.mv.take k)))),(8,.dv (I i)),(9,.dv (I k))],[]⟩
set_option maxHeartbeats 4000000 in
theorem iX (l:List St) (a it:Int) (hl:r6 l):cP Tryz.prog 47 [jF l,I a,I it] [I (bg a it l)]:=by
 refine bI aO mixed (aq _) (ar _) Tryz.func47 rfl (by kernel_rfl) rfl ?_
 refine ⟨Nat,Sd l a it,fun i=>i≤l.length,fun i=>l.length - i,0,fun _=>rfl,⟨⟨rf,rf,rf,rf,rf,tv⟩,tv,rfl,rfl⟩,by omega,?_⟩
 have Se:=hl.1
 rintro i hi
 refine ⟨fun h=>?_,fun h=>?_⟩
 ·have hk:i<l.length:=by simpa using h
  have hs:=List.getElem?_eq_getElem hk
  have MJ:=hl.2 _ (List.mem_of_getElem? hs)
  generalize l[i]=s at hs MJ
  have jO:(l.map gG)[((i:Int)).toNat]?=some (gG s):=by rw [Int.toNat_natCast,List.getElem?_map,hs]; rfl
  refine ⟨Nat,P1 l a it i s,fun k=>k≤s.mv.length,fun k=>s.mv.length - k,0,fun _=>rfl,⟨⟨rf,rf,rf,rf,rf,rf,tv⟩,tv,rfl,rfl⟩,by omega,?_⟩
  rintro k C7
  refine ⟨gG s,fun _=>⟨by omega,jO⟩,?_⟩
  refine ⟨fun h=>?_,fun h=>?_⟩
  ·have HA:k<s.mv.length:=by simpa using h
   have hm:=List.getElem?_eq_getElem HA
   have UQ:=MJ.2 _ (List.mem_of_getElem? hm)
   generalize s.mv[k]=m at hm UQ
   have Tt:(s.mv.map bR)[((k:Int)).toNat]?=some (bR m):=by rw [Int.toNat_natCast,List.getElem?_map,hm]; rfl
   refine ⟨gG s,fun _=>⟨by omega,jO⟩,?_⟩
   refine ⟨bR m,fun _=>⟨by omega,Tt⟩,?_⟩
   have b0:=MH a it (hl.take i)
   have b1:=Eu a it (s.mv.take k) (bg a it (l.take i)) fun x hx=>MJ.2 x (List.mem_of_mem_take hx)
   have b2:=MJ.1
   have b3:(s.mv.take k).length≤4:=by rw [List.length_take]; omega
   have de:=Kr hm a it (bg a it (l.take i))
   unfold Gn at de
   have q1:∀x y:Int,(x == y)=decide (x=y):=fun x y=>rfl
   have aJ:s.mv.length - (k+1)<s.mv.length - k:=by omega
   repeat first | refine ⟨id,?_⟩ | refine ⟨fun _ h=>cx h,?_⟩ | refine ⟨fun _ h=>ay h,?_⟩ | refine ⟨fun h=>⟨h,fun h2=>aQ h h2⟩,?_⟩ | refine ⟨fun h=>⟨h,fun h2=>aF h h2⟩,?_⟩
   refine ⟨fun gw=>?_,fun gw=>?_⟩
   ·have c1:m.it=it∧m.t=a:=by obtain ⟨h1,h2⟩:=BZ gw; exact ⟨by simpa using h1,by simpa using h2⟩
    rw [if_pos c1] at de
    refine ⟨fun _=>⟨by omega,by omega⟩,?_⟩
    repeat first | refine ⟨id,?_⟩ | refine ⟨fun _ h=>cx h,?_⟩ | refine ⟨fun _ h=>ay h,?_⟩ | refine ⟨fun h=>⟨h,fun h2=>aQ h h2⟩,?_⟩ | refine ⟨fun h=>⟨h,fun h2=>aF h h2⟩,?_⟩
    refine ⟨fun gC=>?_,fun gC=>?_⟩
    ·have c2:m.it=it∧m.f=a:=by obtain ⟨h1,h2⟩:=BZ gC; exact ⟨by simpa using h1,by simpa using h2⟩
     rw [if_pos c2] at de
     refine ⟨fun _=>⟨by omega,by omega⟩,?_⟩
     exact ⟨fun _=>⟨by omega,by omega⟩,k+1,⟨⟨rf,rf,rf,aB de.symm,rf,aB (by omega),tv⟩,tv,rfl,rfl⟩,by omega,aJ⟩
    ·have c2:¬ (m.it=it∧m.f=a):=fun h9=>B0 gC ⟨by simpa using h9.1,by simpa using h9.2⟩
     rw [if_neg c2] at de
     exact ⟨fun _=>⟨by omega,by omega⟩,k+1,⟨⟨rf,rf,rf,aB de.symm,rf,aB (by omega),tv⟩,tv,rfl,rfl⟩,by omega,aJ⟩
   ·have c1:¬ (m.it=it∧m.t=a):=fun h9=>B0 gw ⟨by simpa using h9.1,by simpa using h9.2⟩
    rw [if_neg c1] at de
    repeat first | refine ⟨id,?_⟩ | refine ⟨fun _ h=>cx h,?_⟩ | refine ⟨fun _ h=>ay h,?_⟩ | refine ⟨fun h=>⟨h,fun h2=>aQ h h2⟩,?_⟩ | refine ⟨fun h=>⟨h,fun h2=>aF h h2⟩,?_⟩
    refine ⟨fun gC=>?_,fun gC=>?_⟩
    ·have c2:m.it=it∧m.f=a:=by obtain ⟨h1,h2⟩:=BZ gC; exact ⟨by simpa using h1,by simpa using h2⟩
     rw [if_pos c2] at de
     refine ⟨fun _=>⟨by omega,by omega⟩,?_⟩
     exact ⟨fun _=>⟨by omega,by omega⟩,k+1,⟨⟨rf,rf,rf,aB de.symm,rf,aB (by omega),tv⟩,tv,rfl,rfl⟩,by omega,aJ⟩
    ·have c2:¬ (m.it=it∧m.f=a):=fun h9=>B0 gC ⟨by simpa using h9.1,by simpa using h9.2⟩
     rw [if_neg c2] at de
     exact ⟨fun _=>⟨by omega,by omega⟩,k+1,⟨⟨rf,rf,rf,aB de.symm,rf,aB (by omega),tv⟩,tv,rfl,rfl⟩,by omega,aJ⟩
  ·have HA:k=s.mv.length:=by
    have:¬ k<s.mv.length:=by simpa using h
    omega
   have de:=Ev hs a it
   have he:ij a it (bg a it (l.take i)) (s.mv.take k)=bg a it (l.take (i+1)):=by rw [HA,List.take_length,de]
   exact ⟨fun _=>⟨by omega,by omega⟩,i+1,⟨⟨rf,rf,rf,aB he,aB (by omega),tv⟩,tv,rfl,rfl⟩,by omega,by show l.length - (i+1)<l.length - i; omega⟩
 ·have hk:i=l.length:=by
   have:¬ i<l.length:=by simpa using h
   omega
  exact ⟨aB (by rw [hk,List.take_length]),tv⟩
theorem HB {l:List St} {i:Nat} {s:St} (h:l[i]?=some s):cn (l.take (i+1))=s.mv.foldl fm (cn (l.take i)):=by
 rw [List.take_add_one,h]; simp [cn,List.foldl_append]
theorem Ks {l:List Mv} {k:Nat} {m:Mv} (h:l[k]?=some m) (o:List Int):(l.take (k+1)).foldl fm o=kQ (kQ ((l.take k).foldl fm o) m.f) m.t:=by
 rw [List.take_add_one,h,List.foldl_append]; rfl
theorem wa (l:List Int) (n:Int):(kQ l n).length≤l.length+1:=by
 unfold kQ; split
 ·omega
 ·have:=congrArg List.length (List.takeWhile_append_dropWhile (p:=fun x=>decide (x<n)) (l:=l))
  rw [List.length_append] at this
  rw [List.length_append,List.length_cons]; omega
theorem Af:∀(l:List Mv) (o:List Int),(l.foldl fm o).length≤o.length+2 * l.length
 | [],o=>by simp
 | m::r,o=>by
  have h1:=Af r (fm o m)
  have h2:=wa (kQ o m.f) m.t
  have h3:=wa o m.f
  have h4:(fm o m).length=(kQ (kQ o m.f) m.t).length:=rfl
  rw [List.foldl_cons,List.length_cons]
  omega
theorem Ce:∀(l:List St) (o:List Int),(∀s∈l,UP s)→(l.foldl (fun o s=>s.mv.foldl fm o) o).length≤o.length+8 * l.length
 | [],o,_=>by simp
 | s::r,o,h=>by
  have h1:=Ce r (s.mv.foldl fm o) fun x hx=>h x (List.mem_cons_of_mem _ hx)
  have h2:=Af s.mv o
  have h3:=(h s List.mem_cons_self).1
  rw [List.foldl_cons,List.length_cons]; omega
theorem Ew {l:List St} (h:r6 l):(cn l).length≤800:=by
 have h1:=Ce l [] h.2
 have h2:=h.1
 unfold cn
 simp only [List.length_nil] at h1
 omega
def Sf (l:List St) (i:Nat):br:=⟨0,[(0,.dv (jF l)),(3,.dv (gD (cn (l.take i)))),(4,.dv (I i))],[]⟩
def P2 (l:List St) (i:Nat) (s:St) (k:Nat):br:=⟨0,[(0,.dv (jF l)),(3,.dv (gD ((s.mv.take k).foldl fm (cn (l.take i))))),(4,.dv (I i)),(5,.dv (I k))],[]⟩
set_option maxHeartbeats 4000000 in
theorem yp (l:List St) (hl:r6 l):cP Tryz.prog 46 [jF l] [gD (cn l)]:=by
 refine bI aO mixed (aq _) (ar _) Tryz.func46 rfl (by kernel_rfl) rfl ?_
 refine ⟨Nat,Sf l,fun i=>i≤l.length,fun i=>l.length - i,0,fun _=>rfl,⟨⟨rf,qE _,rf,tv⟩,tv,rfl,rfl⟩,by omega,?_⟩
 have Se:=hl.1
 rintro i hi
 refine ⟨fun h=>?_,fun h=>?_⟩
 ·have hk:i<l.length:=by simpa using h
  have hs:=List.getElem?_eq_getElem hk
  have MJ:=hl.2 _ (List.mem_of_getElem? hs)
  have QH:=Ew (hl.take i)
  generalize l[i]=s at hs MJ
  have jO:(l.map gG)[((i:Int)).toNat]?=some (gG s):=by rw [Int.toNat_natCast,List.getElem?_map,hs]; rfl
  refine ⟨Nat,P2 l i s,fun k=>k≤s.mv.length,fun k=>s.mv.length - k,0,fun _=>rfl,⟨⟨rf,rf,rf,rf,tv⟩,tv,rfl,rfl⟩,by omega,?_⟩
  rintro k C7
  refine ⟨gG s,fun _=>⟨by omega,jO⟩,?_⟩
  refine ⟨fun h=>?_,fun h=>?_⟩
  ·have HA:k<s.mv.length:=by simpa using h
   have hm:=List.getElem?_eq_getElem HA
   generalize s.mv[k]=m at hm
   have Tt:(s.mv.map bR)[((k:Int)).toNat]?=some (bR m):=by rw [Int.toNat_natCast,List.getElem?_map,hm]; rfl
   have D8:=Af (s.mv.take k) (cn (l.take i))
   rw [List.length_take] at D8
   have RQ:=wa ((s.mv.take k).foldl fm (cn (l.take i))) m.f
   have Th:=MJ.1
   refine ⟨gG s,fun _=>⟨by omega,jO⟩,?_⟩
   refine ⟨bR m,fun _=>⟨by omega,Tt⟩,?_⟩
   refine .inl ⟨_,fun _=>(Cd _ m.f (by omega)).ok,?_⟩
   refine ⟨gG s,fun _=>⟨by omega,jO⟩,?_⟩
   refine ⟨bR m,fun _=>⟨by omega,Tt⟩,?_⟩
   refine .inl ⟨_,fun _=>(Cd _ m.t (by omega)).ok,?_⟩
   have he:(s.mv.take (k+1)).foldl fm (cn (l.take i))=kQ (kQ ((s.mv.take k).foldl fm (cn (l.take i))) m.f) m.t:=Ks hm _
   exact ⟨by kernel_rfl,fun _=>⟨by omega,by omega⟩,k+1,⟨⟨rf,DV.Le.of_eq (congrArg gD he.symm),rf,aB (by omega),tv⟩,tv,rfl,rfl⟩,by omega,by show s.mv.length - (k+1)<s.mv.length - k; omega⟩
  ·have HA:k=s.mv.length:=by
    have:¬ k<s.mv.length:=by simpa using h
    omega
   have he:(s.mv.take k).foldl fm (cn (l.take i))=cn (l.take (i+1)):=by rw [HA,List.take_length,HB hs]
   exact ⟨fun _=>⟨by omega,by omega⟩,i+1,⟨⟨rf,DV.Le.of_eq (congrArg gD he),aB (by omega),tv⟩,tv,rfl,rfl⟩,by omega,by show l.length - (i+1)<l.length - i; omega⟩
 ·have hk:i=l.length:=by
   have:¬ i<l.length:=by simpa using h
   omega
  exact ⟨DV.Le.of_eq (by rw [hk,List.take_length]),tv⟩
end Go.Proofs.YtpbdohkbiklflaaGreatDoor
namespace Go.Proofs.YtpbdohkbiklflaaGreatDoor
open Go.TM
variable [cZ]
set_option maxRecDepth 100000
def P3 (v:RV):DV:=.agg [I 4,I v.coin,I v.ab,I v.aC,jF v.steps,I v.work]
def MK (v:RV):DV:=.at (P3 v) 0
def We (v:RV) (d:DV):DV:=.at (.agg [I 4,I v.coin,d,I v.aC,jF v.steps,I v.work]) 0
theorem Cf (b:Bool):cP Tryz.prog 49 [B b] [I (eZ b)]:=by
 refine bI aO mixed (aq _) (ar _) Tryz.func49 rfl (by kernel_rfl) rfl ?_
 refine ⟨fun h=>?_,fun h=>?_⟩
 ·have h:b=true:=h
  subst h; exact ⟨rf,tv⟩
 ·have h:b=false:=h
  subst h; exact ⟨rf,tv⟩
theorem Ex (v:RV) (d:DV) (hl:v.steps.length≤1000):cP Tryz.prog 16 [We v d] [I (cC v.steps)]:=by
 refine bI aO mixed (aq _) (ar _) Tryz.func16 rfl (by kernel_rfl) rfl ?_
 refine ⟨fun h=>?_,fun h=>?_⟩
 ·have h0:v.steps=[]:=by
   have h:decide (((v.steps.map gG).length:Int)=0)=true:=h
   rw [List.length_map] at h
   have:=of_decide_eq_true h
   exact List.length_eq_zero_iff.1 (by omega)
  exact ⟨aB (by rw [h0]; rfl),tv⟩
 ·have h0:v.steps.length ≠ 0:=by
   have h:decide (((v.steps.map gG).length:Int)=0)=false:=h
   rw [List.length_map] at h
   have:=of_decide_eq_false h
   omega
  have hx:v.steps[v.steps.length - 1]?=some (v.steps.getD (v.steps.length - 1) QD):=by rw [List.getD_eq_getElem?_getD,List.getElem?_eq_getElem (by omega)]; rfl
  refine ⟨fun _=>⟨by rw [List.length_map]; omega,by rw [List.length_map]; omega⟩,?_⟩
  refine ⟨gG (v.steps.getD (v.steps.length - 1) QD),fun _=>⟨by rw [List.length_map]; omega,?_⟩,?_⟩
  ·rw [List.length_map,show ((v.steps.length:Int) - 1).toNat=v.steps.length - 1 by omega,List.getElem?_map,hx]; rfl
  exact ⟨by kernel_rfl,rf,tv⟩
theorem n3 (v:RV) (hl:v.steps.length≤1000):cP Tryz.prog 16 [MK v] [I (cC v.steps)]:=Ex v (I v.ab) hl
def ik (coin:Int) (st:St):Int × Int × Int × Bool:=if bh coin st=true then bD coin st else (0,0,0,false)
theorem Ag (coin:Int) (st:St):(ik coin st).2.2.2=bh coin st:=by
 unfold ik
 cases h:bh coin st with
 | true=>rw [if_pos rfl]; exact h
 | false=>rfl
theorem qK (coin:Int) (a b:Mv):(bif bif bif bif bif decide (a.it=coin) then true else !(decide (b.it=coin)) then true else !(decide (a.f=b.t)) then true else !(decide (a.t=b.f)) then true else decide (a.f=0) then true else decide (a.t=0))=!(kN coin a b).2.2.2:=by
 unfold kN
 simp only
 cases decide (a.it=coin) <;> cases decide (b.it=coin) <;> cases decide (a.f=b.t) <;> cases decide (a.t=b.f) <;> cases decide (a.f=0) <;> cases decide (a.t=0) <;> rfl
theorem Gp {coin:Int} {st:St} {a b:Mv} (h:bD coin st=kN coin a b) (hc:(kN coin a b).2.2.2=true):ik coin st=(a.it,a.n,b.n,true):=by
 have h1:bh coin st=true:=by unfold bh; rw [h]; exact hc
 unfold ik
 rw [if_pos h1,h]
 have:kN coin a b=(a.it,a.n,b.n,(kN coin a b).2.2.2):=rfl
 rw [this,hc]
theorem Ah {coin:Int} {st:St} (hc:(bD coin st).2.2.2=false):ik coin st=(0,0,0,false):=by
 unfold ik; rw [if_neg]; unfold bh; rw [hc]; simp
set_option maxHeartbeats 4000000 in
theorem Ey (v:RV) (d:DV) (st:St):cP Tryz.prog 22 [We v d,gG st] [I (ik v.coin st).1,I (ik v.coin st).2.1,I (ik v.coin st).2.2.1,B (ik v.coin st).2.2.2]:=by
 refine bI aO mixed (aq _) (ar _) Tryz.func22 rfl (by kernel_rfl) rfl ?_
 repeat first | refine ⟨id,?_⟩ | refine ⟨fun _ h=>cx h,?_⟩ | refine ⟨fun _ h=>ay h,?_⟩ | refine ⟨fun h=>⟨h,fun h2=>aQ h h2⟩,?_⟩ | refine ⟨fun h=>⟨h,fun h2=>aF h h2⟩,?_⟩
 refine ⟨fun hc=>?_,fun hc=>?_⟩
 ·have Gl:bD v.coin st=(0,0,0,false):=by
   unfold bD
   by_cases hk:st.kind=2
   ·rw [if_neg (by simpa using hk)]
    have h2:¬ st.mv.length=2:=by
     intro h2; rw [List.length_map,h2,hk] at hc; simp at hc
    match hm:st.mv with
    | []=>rfl
    | [_]=>rfl
    | [_,_]=>rw [hm] at h2; exact absurd rfl h2
    | _::_::_::_=>rfl
   ·rw [if_pos hk]
  rw [Ah (by rw [Gl])]
  exact ⟨rf,rf,rf,rf,tv⟩
 have hk:st.kind=2:=by
  by_cases hk:st.kind=2
  ·exact hk
  ·exfalso; have:(st.kind != 2)=true:=by simpa using hk
   rw [this] at hc; cases hc
 have hl:st.mv.length=2:=by
  rw [hk,List.length_map] at hc
  have:((st.mv.length:Int) != 2)=false:=hc
  simp at this; omega
 obtain ⟨a,b,hm⟩:∃a b,st.mv=[a,b]:=by
  match hm:st.mv with
  | [a,b]=>exact ⟨a,b,rfl⟩
  | []=>rw [hm] at hl; cases hl
  | [_]=>rw [hm] at hl; cases hl
  | _::_::_::_=>rw [hm] at hl; simp at hl
 have e0:(st.mv.map bR)[0]?=some (bR a):=by rw [hm]; rfl
 have e1:(st.mv.map bR)[1]?=some (bR b):=by rw [hm]; rfl
 refine ⟨bR a,fun _=>⟨by omega,e0⟩,?_⟩
 refine ⟨bR b,fun _=>⟨by omega,e1⟩,?_⟩
 have Gl:bD v.coin st=if a.it=v.coin then kN v.coin b a else kN v.coin a b:=by
  unfold bD; rw [if_neg (by simpa using hk),hm]
 refine ⟨by kernel_rfl,fun hq=>?_,fun hq=>?_⟩
 ·have hq:a.it=v.coin:=of_decide_eq_true hq
  rw [if_pos hq] at Gl
  refine ⟨bR b,fun _=>⟨by omega,e1⟩,?_⟩
  refine ⟨bR a,fun _=>⟨by omega,e0⟩,?_⟩
  repeat first | refine ⟨id,?_⟩ | refine ⟨fun _ h=>cx h,?_⟩ | refine ⟨fun _ h=>ay h,?_⟩ | refine ⟨fun h=>⟨h,fun h2=>aQ h h2⟩,?_⟩ | refine ⟨fun h=>⟨h,fun h2=>aF h h2⟩,?_⟩
  refine ⟨by kernel_rfl,fun gC=>?_,fun gC=>?_⟩
  ·have P4:=(qK v.coin b a).symm.trans gC
   rw [Ah (by rw [Gl]; simpa using P4)]
   exact ⟨rf,rf,rf,rf,tv⟩
  ·have P4:=(qK v.coin b a).symm.trans gC
   rw [Gp Gl (by simpa using P4)]
   exact ⟨by kernel_rfl,rf,rf,rf,rf,tv⟩
 ·have hq:a.it ≠ v.coin:=of_decide_eq_false hq
  rw [if_neg hq] at Gl
  repeat first | refine ⟨id,?_⟩ | refine ⟨fun _ h=>cx h,?_⟩ | refine ⟨fun _ h=>ay h,?_⟩ | refine ⟨fun h=>⟨h,fun h2=>aQ h h2⟩,?_⟩ | refine ⟨fun h=>⟨h,fun h2=>aF h h2⟩,?_⟩
  refine ⟨by kernel_rfl,fun gC=>?_,fun gC=>?_⟩
  ·have P4:=(qK v.coin a b).symm.trans gC
   rw [Ah (by rw [Gl]; simpa using P4)]
   exact ⟨rf,rf,rf,rf,tv⟩
  ·have P4:=(qK v.coin a b).symm.trans gC
   rw [Gp Gl (by simpa using P4)]
   exact ⟨by kernel_rfl,rf,rf,rf,rf,tv⟩
theorem r7 (v:RV) (st:St):cP Tryz.prog 22 [MK v,gG st] [I (ik v.coin st).1,I (ik v.coin st).2.1,I (ik v.coin st).2.2.1,B (ik v.coin st).2.2.2]:=Ey v (I v.ab) st
end Go.Proofs.YtpbdohkbiklflaaGreatDoor
namespace Go.Proofs.YtpbdohkbiklflaaGreatDoor
open Go.TM
variable [cZ]
set_option maxRecDepth 100000
theorem Kt {l:List St} {i:Nat} {s:St} (h:l[i]?=some s) (coin ab tick:Int):bq coin ab (l.take (i+1)) tick=bq coin ab (l.take i) tick+(if Sb coin ab tick s=true then 1 else 0):=by
 rw [List.take_add_one,h]; unfold bq; rw [List.countP_append]; simp [List.countP_cons]
theorem Ai (coin ab:Int) (l:List St) (tick:Int):bq coin ab l tick≤l.length:=List.countP_le_length
def Sg (v:RV) (l:List St) (tick:Int) (i:Nat):br:=⟨0,[(0,.dv (MK v)),(1,.dv (jF l)),(2,.dv (I tick)),(7,.dv (I (bq v.coin v.ab (l.take i) tick))),(8,.dv (I i))],[]⟩
set_option maxHeartbeats 4000000 in
theorem jG (v:RV) (l:List St) (hl:l.length≤100) (tick:Int) (hb:-9223372036854775808≤tick - v.ab∧tick - v.ab≤9223372036854775807):cP Tryz.prog 48 [MK v,jF l,I tick] [I (bq v.coin v.ab l tick)]:=by
 refine bI aO mixed (aq _) (ar _) Tryz.func48 rfl (by kernel_rfl) rfl ?_
 refine ⟨Nat,Sg v l tick,fun i=>i≤l.length,fun i=>l.length - i,0,fun _=>rfl,⟨⟨rf,rf,rf,rf,rf,tv⟩,tv,rfl,rfl⟩,by omega,?_⟩
 rintro i hi
 refine ⟨fun h=>?_,fun h=>?_⟩
 ·have hk:i<l.length:=by simpa using h
  have hs:=List.getElem?_eq_getElem hk
  generalize l[i]=s at hs
  have jO:(l.map gG)[((i:Int)).toNat]?=some (gG s):=by rw [Int.toNat_natCast,List.getElem?_map,hs]; rfl
  have wN:=r7 v s
  rw [Ag] at wN
  generalize ik v.coin s=q at wN
  refine ⟨gG s,fun _=>⟨by omega,jO⟩,?_⟩
  refine .inl ⟨_,fun _=>(wN).ok,?_⟩
  repeat first | refine ⟨id,?_⟩ | refine ⟨fun _ h=>cx h,?_⟩ | refine ⟨fun _ h=>ay h,?_⟩ | refine ⟨fun h=>⟨h,fun h2=>aQ h h2⟩,?_⟩ | refine ⟨fun h=>⟨h,fun h2=>aF h h2⟩,?_⟩
  refine ⟨gG s,fun _=>⟨by omega,jO⟩,?_⟩
  repeat first | refine ⟨id,?_⟩ | refine ⟨fun _ h=>cx h,?_⟩ | refine ⟨fun _ h=>ay h,?_⟩ | refine ⟨fun h=>⟨h,fun h2=>aQ h h2⟩,?_⟩ | refine ⟨fun h=>⟨h,fun h2=>aF h h2⟩,?_⟩
  refine ⟨fun _=>hb,?_⟩
  repeat first | refine ⟨id,?_⟩ | refine ⟨fun _ h=>cx h,?_⟩ | refine ⟨fun _ h=>ay h,?_⟩ | refine ⟨fun h=>⟨h,fun h2=>aQ h h2⟩,?_⟩ | refine ⟨fun h=>⟨h,fun h2=>aF h h2⟩,?_⟩
  refine ⟨gG s,fun _=>⟨by omega,jO⟩,?_⟩
  repeat first | refine ⟨id,?_⟩ | refine ⟨fun _ h=>cx h,?_⟩ | refine ⟨fun _ h=>ay h,?_⟩ | refine ⟨fun h=>⟨h,fun h2=>aQ h h2⟩,?_⟩ | refine ⟨fun h=>⟨h,fun h2=>aF h h2⟩,?_⟩
  have de:=Kt hs v.coin v.ab tick
  have hle:=Ai v.coin v.ab (l.take i) tick
  rw [List.length_take] at hle
  have aJ:l.length - (i+1)<l.length - i:=by omega
  refine ⟨by kernel_rfl,fun hc=>?_,fun hc=>?_⟩
  ·have hc:Sb v.coin v.ab tick s=true:=hc
   rw [if_pos hc] at de
   refine ⟨fun _=>⟨by omega,by omega⟩,?_⟩
   exact ⟨fun _=>⟨by omega,by omega⟩,i+1,⟨⟨rf,rf,rf,aB (by omega),aB (by omega),tv⟩,tv,rfl,rfl⟩,by omega,aJ⟩
  ·have hc:Sb v.coin v.ab tick s=false:=hc
   rw [if_neg (by rw [hc]; simp)] at de
   exact ⟨fun _=>⟨by omega,by omega⟩,i+1,⟨⟨rf,rf,rf,aB (by omega),aB (by omega),tv⟩,tv,rfl,rfl⟩,by omega,aJ⟩
 ·have hk:i=l.length:=by
   have:¬ i<l.length:=by simpa using h
   omega
  exact ⟨aB (by rw [hk,List.take_length]),tv⟩
theorem Cg (q:Nat→Bool) (k:Nat):(List.range (k+1)).countP q=(List.range k).countP q+(if q k=true then 1 else 0):=by
 rw [List.range_succ,List.countP_append]; simp [List.countP_cons]
theorem Ch {f:Int→Nat} {l:List Int} {i:Nat} {a:Int} (h:l[i]?=some a):((l.take (i+1)).map f).sum=((l.take i).map f).sum+f a:=by
 rw [List.take_add_one,h]; simp [List.sum_append]
theorem tU (q:Nat→Bool) (k:Nat):(List.range k).countP q≤k:=by
 have:=List.countP_le_length (p:=q) (l:=List.range k); rw [List.length_range] at this; exact this
theorem Ci (l:List St):∀xs:List Int,nr l xs≤4 * xs.length
 | []=>Nat.le_refl _
 | a::r=>by
  have h1:=Ci l r
  have h2:=tU (fun k=>!decide (bg a (k:Nat) l=0)) 4
  unfold nr at h1 ⊢
  rw [List.map_cons,List.sum_cons,List.length_cons]
  have h3:MG a l=(List.range 4).countP fun k=>!decide (bg a (k:Nat) l=0):=rfl
  omega
def Sh (v:RV) (l:List St) (tick:Int) (n0:Nat) (i:Nat):br:=⟨0,[(0,.dv (MK v)),(1,.dv (jF l)),(7,.dv (I ((n0+nr l ((cn l).take i):Nat):Int))),(8,.dv (gD (cn l))),(9,.dv (I i))],[]⟩
def P5 (v:RV) (l:List St) (tick:Int) (n0:Nat) (i:Nat) (a:Int) (k:Nat):br:=⟨0,[(0,.dv (MK v)),(1,.dv (jF l)),(7,.dv (I ((n0+nr l ((cn l).take i)+(List.range k).countP fun k=>!decide (bg a (k:Nat) l=0):Nat):Int))),(8,.dv (gD (cn l))),(9,.dv (I i)),(10,.dv (I k))],[]⟩
set_option maxHeartbeats 4000000 in
theorem Ez (v:RV) (l:List St) (hl:r6 l) (tick:Int) (hb:-9223372036854775808≤tick - v.ab∧tick - v.ab≤9223372036854775807):cP Tryz.prog 45 [MK v,jF l,I tick] [I (ym v.coin v.ab l tick)]:=by
 refine bI aO mixed (aq _) (ar _) Tryz.func45 rfl (by kernel_rfl) rfl ?_
 refine .inl ⟨_,fun _=>(jG v l hl.1 tick hb).ok,?_⟩
 refine .inl ⟨_,fun _=>(yp l hl).ok,?_⟩
 have LA:=Ai v.coin v.ab l tick
 have D8:=hl.1
 have Si:=Ew hl
 generalize hn:bq v.coin v.ab l tick=n0 at *
 refine ⟨Nat,Sh v l tick n0,fun i=>i≤(cn l).length,fun i=>(cn l).length - i,0,fun _=>rfl,⟨⟨rf,rf,aB (by simp [nr]),rf,rf,tv⟩,tv,rfl,rfl⟩,by omega,?_⟩
 rintro i hi
 refine ⟨fun h=>?_,fun h=>?_⟩
 ·have hk:i<(cn l).length:=by simpa using h
  have hs:=List.getElem?_eq_getElem hk
  generalize (cn l)[i]=a at hs
  have jO:((cn l).map I)[((i:Int)).toNat]?=some (I a):=by rw [Int.toNat_natCast,List.getElem?_map,hs]; rfl
  have P6:=Ci l ((cn l).take i)
  rw [List.length_take] at P6
  refine ⟨Nat,P5 v l tick n0 i a,fun k=>k≤4,fun k=>4 - k,0,fun _=>rfl,⟨⟨rf,rf,aB (by simp),rf,rf,rf,tv⟩,tv,rfl,rfl⟩,by omega,?_⟩
  rintro k C7
  refine ⟨fun h=>?_,fun h=>?_⟩
  ·have HA:k<4:=by have:=of_decide_eq_true h; omega
   have de:=Cg (fun k=>!decide (bg a (k:Nat) l=0)) k
   have ML:=tU (fun k=>!decide (bg a (k:Nat) l=0)) k
   refine ⟨I a,fun _=>⟨by omega,jO⟩,?_⟩
   refine .inl ⟨_,fun _=>(iX l a k hl).ok,?_⟩
   have aJ:4 - (k+1)<4 - k:=by omega
   refine ⟨fun hc=>?_,fun hc=>?_⟩
   ·have hc:(!decide (bg a (k:Nat) l=0))=true:=hc
    rw [if_pos hc] at de
    refine ⟨fun _=>⟨by omega,by omega⟩,?_⟩
    exact ⟨fun _=>⟨by omega,by omega⟩,k+1,⟨⟨rf,rf,aB (by omega),rf,rf,aB (by omega),tv⟩,tv,rfl,rfl⟩,by omega,aJ⟩
   ·have hc:(!decide (bg a (k:Nat) l=0))=false:=hc
    rw [if_neg (by rw [hc]; simp)] at de
    exact ⟨fun _=>⟨by omega,by omega⟩,k+1,⟨⟨rf,rf,aB (by omega),rf,rf,aB (by omega),tv⟩,tv,rfl,rfl⟩,by omega,aJ⟩
  ·have HA:k=4:=by have:=of_decide_eq_false h; omega
   have de:=Ch (f:=fun a=>MG a l) hs
   have he:nr l ((cn l).take (i+1))=nr l ((cn l).take i)+(List.range k).countP fun k=>!decide (bg a (k:Nat) l=0):=by rw [HA]; exact de
   exact ⟨fun _=>⟨by omega,by omega⟩,i+1,⟨⟨rf,rf,aB (by omega),rf,aB (by omega),tv⟩,tv,rfl,rfl⟩,by omega,by show (cn l).length - (i+1)<(cn l).length - i; omega⟩
 ·have hk:i=(cn l).length:=by
   have:¬ i<(cn l).length:=by simpa using h
   omega
  have he:ym v.coin v.ab l tick=n0+nr l ((cn l).take i):=by rw [hk,List.take_length,←hn]; rfl
  exact ⟨aB (by rw [he]),tv⟩
end Go.Proofs.YtpbdohkbiklflaaGreatDoor
namespace Go.Proofs.YtpbdohkbiklflaaGreatDoor
open Go.TM
variable [cZ]
set_option maxRecDepth 100000
def Ku (v:RV):ah:=[(0,.tree 0 0 (.cQ (P3 v)))]
theorem r8 (v:RV):bl Tryz.prog 24 [.own 0 0 0 []] 1 (Ku v) 0 [.dv (I v.work)] (Ku { v with work:=0 }):=by
 refine bn aO mixed (aq _) (ar _) Tryz.func24 rfl rfl (by kernel_rfl) ?_
 refine ⟨[I 0],⟨rf,tv⟩,?_⟩
 exact ⟨_,_,⟨rfl,rfl⟩,by kernel_rfl,⟨rf,tv⟩,⟨rfl,rfl⟩,tv⟩
end Go.Proofs.YtpbdohkbiklflaaGreatDoor
namespace Go.Proofs.YtpbdohkbiklflaaGreatDoor
open Go.TM
variable [cZ]
set_option maxRecDepth 100000
end Go.Proofs.YtpbdohkbiklflaaGreatDoor
