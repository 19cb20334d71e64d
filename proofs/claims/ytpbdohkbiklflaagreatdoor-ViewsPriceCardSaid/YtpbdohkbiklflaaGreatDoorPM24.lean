import Derived.Test.YtpbdohkbiklflaaGreatDoorPM23
set_option linter.unusedVariables false
set_option linter.unusedSimpArgs false
set_option linter.unusedSectionVars false
namespace Go.Proofs.YtpbdohkbiklflaaGreatDoor
open Go.TM
variable [cP]
set_option maxRecDepth 100000
def jJ (l:List St):DV:=.sl 7 (l.map fW)
theorem Qu:(nth tab (nth tab 30).elem).bytes=8:=rfl
theorem Nc:(nth tab (nth tab 70).elem).bytes=72:=rfl
theorem KW (l:List Int) (n:Int) (hl:l.length≤1000000):cL Tryz.prog 125 [fV l,I n] [B (decide (n∈l))]:=by
 refine bE aK mixed (aq _) (ar _) Tryz.func125 rfl (by kernel_rfl) rfl ?_
 refine ⟨Nat,fun k=>⟨0,[(0,.dv (fV l)),(1,.dv (I n)),(5,.dv (I k))],[]⟩,fun k=>k≤l.length∧n ∉ l.take k,fun k=>l.length - k,0,fun _=>rfl,⟨⟨rf,rf,rf,tv⟩,tv,rfl,rfl⟩,⟨by omega,by simp⟩,?_⟩
 rintro k ⟨L1,Dw⟩
 refine ⟨fun h=>?_,fun h=>?_⟩
 ·have hk:k<l.length:=by simpa using h
  refine ⟨I l[k],fun _=>⟨by omega,by simp⟩,?_⟩
  refine ⟨fun h=>?_,fun h=>?_⟩
  ·have hn:l[k]=n:=by simpa using h
   have hm:n∈l:=by rw [←hn]; exact List.getElem_mem _
   exact ⟨DV.Le.of_eq (congrArg B (decide_eq_true hm).symm),tv⟩
  ·have hn:l[k] ≠ n:=by simpa using h
   refine ⟨fun _=>⟨by omega,by omega⟩,k+1,⟨⟨rf,rf,aB (by omega),tv⟩,tv,rfl,rfl⟩,⟨by omega,?_⟩,by show l.length - (k+1)<l.length - k; omega⟩
   intro hm
   rw [List.take_add_one,List.getElem?_eq_getElem hk] at hm
   simp only [Option.toList_some,List.mem_append,List.mem_singleton] at hm
   rcases hm with hm | hm
   ·exact Dw hm
   ·exact hn hm.symm
 ·have hk:k=l.length:=by
   have:¬ k<l.length:=by simpa using h
   omega
  subst hk
  rw [List.take_length] at Dw
  exact ⟨DV.Le.of_eq (congrArg B (decide_eq_false Dw).symm),tv⟩
theorem OJ {n:Int}:∀{l:List Int} (k:Nat),k≤l.length→(∀x∈l.take k,x<n)→(∀x,l[k]?=some x→¬ x<n)→l.takeWhile (fun x=>decide (x<n))=l.take k∧l.dropWhile (fun x=>decide (x<n))=l.drop k
 | [],k,h,_,_=>by simp at h; subst h; exact ⟨rfl,rfl⟩
 | y::r,0,_,_,h=>by
  have:=h y rfl
  rw [List.takeWhile_cons_of_neg (by simpa using this),List.dropWhile_cons_of_neg (by simpa using this)]
  exact ⟨rfl,rfl⟩
 | y::r,k+1,h1,h2,h3=>by
  have hy:y<n:=h2 y (by simp)
  obtain ⟨e1,e2⟩:=OJ (l:=r) k (by simpa using h1) (fun x hx=>h2 x (by rw [List.take_succ_cons]; exact List.mem_cons_of_mem _ hx)) (fun x hx=>h3 x (by simpa using hx))
  rw [List.takeWhile_cons_of_pos (by simpa using hy),List.dropWhile_cons_of_pos (by simpa using hy),e1,e2]
  exact ⟨rfl,rfl⟩
theorem Cv (l:List Int) (n:Int) (hl:l.length≤1000000):cL Tryz.prog 112 [fV l,I n] [fV (kW l n)]:=by
 refine bE aK mixed (aq _) (ar _) Tryz.func112 rfl (by kernel_rfl) rfl ?_
 repeat first | refine ⟨id,?_⟩ | refine ⟨fun _ h=>cx h,?_⟩ | refine ⟨fun _ h=>ax h,?_⟩ | refine ⟨fun h=>⟨h,fun h2=>aP h h2⟩,?_⟩ | refine ⟨fun h=>⟨h,fun h2=>aC h h2⟩,?_⟩
 refine .inl ⟨_,fun _=>(KW l n hl).ok,?_⟩
 repeat first | refine ⟨id,?_⟩ | refine ⟨fun _ h=>cx h,?_⟩ | refine ⟨fun _ h=>ax h,?_⟩ | refine ⟨fun h=>⟨h,fun h2=>aP h h2⟩,?_⟩ | refine ⟨fun h=>⟨h,fun h2=>aC h h2⟩,?_⟩
 refine ⟨fun h=>?_,fun h=>?_⟩
 ·have h':n≤0 ∨ n∈l:=by
   have h:(bif decide (n≤0) then true else decide (n∈l))=true:=h
   by_cases h1:n≤0
   ·exact .inl h1
   ·right; simpa [h1] using h
  exact ⟨DV.Le.of_eq (by unfold kW; rw [if_pos h']),tv⟩
 have h':¬ (n≤0 ∨ n∈l):=by
  have h:(bif decide (n≤0) then true else decide (n∈l))=false:=h
  rintro (h1 | h1) <;> simp [h1] at h
 refine ⟨Nat,fun k=>⟨0,[(0,.dv (fV l)),(1,.dv (I n)),(5,.dv (I k))],[]⟩,fun k=>k≤l.length∧∀x∈l.take k,x<n,fun k=>l.length - k,0,fun _=>rfl,⟨⟨rf,rf,rf,tv⟩,tv,rfl,rfl⟩,⟨by omega,by simp⟩,?_⟩
 rintro k ⟨L1,Dw⟩
 have aN:bw (decide ((k:Int)<((l.map I).length:Int))) true=true→k<l.length:=fun hb=>by
  rw [List.length_map] at hb
  by_cases h9:k<l.length
  ·exact h9
  ·rw [decide_eq_false (by omega)] at hb; cases hb
 repeat first | refine ⟨id,?_⟩ | refine ⟨fun _ h=>cx h,?_⟩ | refine ⟨fun _ h=>ax h,?_⟩ | refine ⟨fun h=>⟨h,fun h2=>aP h h2⟩,?_⟩ | refine ⟨fun h=>⟨h,fun h2=>aC h h2⟩,?_⟩
 refine ⟨I (l.getD k 0),fun hb=>⟨by omega,by rw [Int.toNat_natCast,List.getElem?_map,List.getElem?_eq_getElem (aN hb),List.getD_eq_getElem?_getD,List.getElem?_eq_getElem (aN hb)]; rfl⟩,?_⟩
 repeat first | refine ⟨id,?_⟩ | refine ⟨fun _ h=>cx h,?_⟩ | refine ⟨fun _ h=>ax h,?_⟩ | refine ⟨fun h=>⟨h,fun h2=>aP h h2⟩,?_⟩ | refine ⟨fun h=>⟨h,fun h2=>aC h h2⟩,?_⟩
 refine ⟨fun h=>?_,fun h=>?_⟩
 ·have h:(bif decide ((k:Int)<((l.map I).length:Int)) then decide (l.getD k 0<n) else false)=true:=h
  obtain ⟨h1,h2⟩:=wa h
  have hk:k<l.length:=by rw [List.length_map] at h1; have:=of_decide_eq_true h1; omega
  have h2:=of_decide_eq_true h2
  refine ⟨fun _=>⟨by omega,by omega⟩,k+1,⟨⟨rf,rf,aB (by omega),tv⟩,tv,rfl,rfl⟩,⟨by omega,?_⟩,by show l.length - (k+1)<l.length - k; omega⟩
  intro x hx
  rw [List.take_add_one,List.getElem?_eq_getElem hk] at hx
  rw [List.getD_eq_getElem?_getD,List.getElem?_eq_getElem hk] at h2
  simp only [Option.toList_some,List.mem_append,List.mem_singleton] at hx
  rcases hx with hx | rfl
  ·exact Dw x hx
  ·exact h2
 have h:(bif decide ((k:Int)<((l.map I).length:Int)) then decide (l.getD k 0<n) else false)=false:=h
 have ai:∀x,l[k]?=some x→¬ x<n:=by
  intro x hx h9
  have hk:=(List.getElem?_eq_some_iff.1 hx).1
  refine Ci h ⟨decide_eq_true (by rw [List.length_map]; omega),decide_eq_true ?_⟩
  rw [List.getD_eq_getElem?_getD,hx]; exact h9
 obtain ⟨e1,e2⟩:=OJ k L1 Dw ai
 have OF:List.drop (Option.getD none (0:Int)).toNat (List.take (Option.getD (some (k:Int)) ((l.map I).length:Int)).toNat (l.map I))=(l.take k).map I:=by
  simp [List.map_take]
 have yx:∀q:List Int,(q.map I).length=q.length:=fun q=>List.length_map ..
 refine ⟨fun _=>⟨Int.le_refl _,by show (0:Int)≤(k:Int); omega,by show (k:Int)≤((l.map I).length:Int); rw [List.length_map]; omega⟩,.inr ⟨(l.take k).map I,by rw [OF]; exact eO.refl _,by rw [Qu,yx,List.length_take]; omega,by rw [yx,List.length_take]; omega,?_⟩⟩
 refine .inl ⟨[I n],rfl,⟨rf,tv⟩,fun y hy=>(by rcases List.mem_singleton.1 hy with rfl; rfl),.inr ⟨[I n],eO.refl _,(by rw [Qu,yx,List.length_take]; simp; omega),(by rw [yx,List.length_take]; simp; omega),?_⟩⟩
 have OG:List.drop (Option.getD (some (k:Int)) (0:Int)).toNat (List.take (Option.getD none ((l.map I).length:Int)).toNat (l.map I))=(l.drop k).map I:=by
  simp [List.map_drop]
  rw [←List.length_map (f:=I),List.take_length]
 refine ⟨fun _=>⟨by show (0:Int)≤(k:Int); omega,by show (k:Int)≤((l.map I).length:Int); rw [List.length_map]; omega,Int.le_refl _⟩,.inr ⟨(l.drop k).map I,by rw [OG]; exact eO.refl _,by rw [Qu,List.length_append,yx,yx,List.length_take,List.length_drop]; simp; omega,by rw [List.length_append,yx,yx,List.length_take,List.length_drop]; simp; omega,?_⟩⟩
 refine ⟨DV.Le.of_eq ?_,tv⟩
 show DV.sl 1 (HO ((l.take k).map I++[I n]++(l.drop k).map I))=DV.sl 1 ((kW l n).map I)
 have e:(l.take k).map I++[I n]++(l.drop k).map I=(kW l n).map I:=by
  unfold kW; rw [if_neg h',e1,e2]; simp
 rw [e,tZ fun _=>rfl]
theorem KX {l:List Mv} {k:Nat} {m:Mv} (h:l[k]?=some m) (a it n:Int):iq a it n (l.take (k+1))=GL a it (iq a it n (l.take k)) m:=by
 rw [List.take_add_one,h]; exact yG ..
theorem EW {l:List St} {i:Nat} {s:St} (h:l[i]?=some s) (a it:Int):bh a it (l.take (i+1))=iq a it (bh a it (l.take i)) s.mv:=by
 rw [List.take_add_one,h]; exact pA ..
def SL (l:List St) (a it:Int) (i:Nat):bo:=⟨0,[(0,.dv (jJ l)),(1,.dv (I a)),(2,.dv (I it)),(7,.dv (I (bh a it (l.take i)))),(8,.dv (I i))],[]⟩
def Qv (l:List St) (a it:Int) (i:Nat) (s:St) (k:Nat):bo:=⟨0,[(0,.dv (jJ l)),(1,.dv (I a)),(2,.dv (I it)),(7,.dv (I (iq a it (bh a it (l.take i)) (s.mv.take k)))),(8,.dv (I i)),(9,.dv (I k))],[]⟩
set_option maxHeartbeats 4000000 in
theorem jb (l:List St) (a it:Int) (hl:sj l):cL Tryz.prog 47 [jJ l,I a,I it] [I (bh a it l)]:=by
 refine bE aK mixed (aq _) (ar _) Tryz.func47 rfl (by kernel_rfl) rfl ?_
 refine ⟨Nat,SL l a it,fun i=>i≤l.length,fun i=>l.length - i,0,fun _=>rfl,⟨⟨rf,rf,rf,rf,rf,tv⟩,tv,rfl,rfl⟩,by omega,?_⟩
 have SM:=hl.1
 rintro i hi
 refine ⟨fun h=>?_,fun h=>?_⟩
 ·have hk:i<l.length:=by simpa using h
  have hs:=List.getElem?_eq_getElem hk
  have Nd:=hl.2 _ (List.mem_of_getElem? hs)
  generalize l[i]=s at hs Nd
  have iQ:(l.map fW)[((i:Int)).toNat]?=some (fW s):=by rw [Int.toNat_natCast,List.getElem?_map,hs]; rfl
  refine ⟨Nat,Qv l a it i s,fun k=>k≤s.mv.length,fun k=>s.mv.length - k,0,fun _=>rfl,⟨⟨rf,rf,rf,rf,rf,rf,tv⟩,tv,rfl,rfl⟩,by omega,?_⟩
  rintro k Dw
  refine ⟨fW s,fun _=>⟨by omega,iQ⟩,?_⟩
  refine ⟨fun h=>?_,fun h=>?_⟩
  ·have H0:k<s.mv.length:=by simpa using h
   have hm:=List.getElem?_eq_getElem H0
   have Vw:=Nd.2 _ (List.mem_of_getElem? hm)
   generalize s.mv[k]=m at hm Vw
   have T8:(s.mv.map cD)[((k:Int)).toNat]?=some (cD m):=by rw [Int.toNat_natCast,List.getElem?_map,hm]; rfl
   refine ⟨fW s,fun _=>⟨by omega,iQ⟩,?_⟩
   refine ⟨cD m,fun _=>⟨by omega,T8⟩,?_⟩
   have b0:=Nb a it (hl.take i)
   have b1:=EV a it (s.mv.take k) (bh a it (l.take i)) fun x hx=>Nd.2 x (List.mem_of_mem_take hx)
   have b2:=Nd.1
   have b3:(s.mv.take k).length≤4:=by rw [List.length_take]; omega
   have cS:=KX hm a it (bh a it (l.take i))
   unfold GL at cS
   have q1:∀x y:Int,(x == y)=decide (x=y):=fun x y=>rfl
   have aJ:s.mv.length - (k+1)<s.mv.length - k:=by omega
   repeat first | refine ⟨id,?_⟩ | refine ⟨fun _ h=>cx h,?_⟩ | refine ⟨fun _ h=>ax h,?_⟩ | refine ⟨fun h=>⟨h,fun h2=>aP h h2⟩,?_⟩ | refine ⟨fun h=>⟨h,fun h2=>aC h h2⟩,?_⟩
   refine ⟨fun gz=>?_,fun gz=>?_⟩
   ·have c1:m.it=it∧m.t=a:=by obtain ⟨h1,h2⟩:=wa gz; exact ⟨by simpa using h1,by simpa using h2⟩
    rw [if_pos c1] at cS
    refine ⟨fun _=>⟨by omega,by omega⟩,?_⟩
    repeat first | refine ⟨id,?_⟩ | refine ⟨fun _ h=>cx h,?_⟩ | refine ⟨fun _ h=>ax h,?_⟩ | refine ⟨fun h=>⟨h,fun h2=>aP h h2⟩,?_⟩ | refine ⟨fun h=>⟨h,fun h2=>aC h h2⟩,?_⟩
    refine ⟨fun fE=>?_,fun fE=>?_⟩
    ·have c2:m.it=it∧m.f=a:=by obtain ⟨h1,h2⟩:=wa fE; exact ⟨by simpa using h1,by simpa using h2⟩
     rw [if_pos c2] at cS
     refine ⟨fun _=>⟨by omega,by omega⟩,?_⟩
     exact ⟨fun _=>⟨by omega,by omega⟩,k+1,⟨⟨rf,rf,rf,aB cS.symm,rf,aB (by omega),tv⟩,tv,rfl,rfl⟩,by omega,aJ⟩
    ·have c2:¬ (m.it=it∧m.f=a):=fun h9=>Ci fE ⟨by simpa using h9.1,by simpa using h9.2⟩
     rw [if_neg c2] at cS
     exact ⟨fun _=>⟨by omega,by omega⟩,k+1,⟨⟨rf,rf,rf,aB cS.symm,rf,aB (by omega),tv⟩,tv,rfl,rfl⟩,by omega,aJ⟩
   ·have c1:¬ (m.it=it∧m.t=a):=fun h9=>Ci gz ⟨by simpa using h9.1,by simpa using h9.2⟩
    rw [if_neg c1] at cS
    repeat first | refine ⟨id,?_⟩ | refine ⟨fun _ h=>cx h,?_⟩ | refine ⟨fun _ h=>ax h,?_⟩ | refine ⟨fun h=>⟨h,fun h2=>aP h h2⟩,?_⟩ | refine ⟨fun h=>⟨h,fun h2=>aC h h2⟩,?_⟩
    refine ⟨fun fE=>?_,fun fE=>?_⟩
    ·have c2:m.it=it∧m.f=a:=by obtain ⟨h1,h2⟩:=wa fE; exact ⟨by simpa using h1,by simpa using h2⟩
     rw [if_pos c2] at cS
     refine ⟨fun _=>⟨by omega,by omega⟩,?_⟩
     exact ⟨fun _=>⟨by omega,by omega⟩,k+1,⟨⟨rf,rf,rf,aB cS.symm,rf,aB (by omega),tv⟩,tv,rfl,rfl⟩,by omega,aJ⟩
    ·have c2:¬ (m.it=it∧m.f=a):=fun h9=>Ci fE ⟨by simpa using h9.1,by simpa using h9.2⟩
     rw [if_neg c2] at cS
     exact ⟨fun _=>⟨by omega,by omega⟩,k+1,⟨⟨rf,rf,rf,aB cS.symm,rf,aB (by omega),tv⟩,tv,rfl,rfl⟩,by omega,aJ⟩
  ·have H0:k=s.mv.length:=by
    have:¬ k<s.mv.length:=by simpa using h
    omega
   have cS:=EW hs a it
   have he:iq a it (bh a it (l.take i)) (s.mv.take k)=bh a it (l.take (i+1)):=by rw [H0,List.take_length,cS]
   exact ⟨fun _=>⟨by omega,by omega⟩,i+1,⟨⟨rf,rf,rf,aB he,aB (by omega),tv⟩,tv,rfl,rfl⟩,by omega,by show l.length - (i+1)<l.length - i; omega⟩
 ·have hk:i=l.length:=by
   have:¬ i<l.length:=by simpa using h
   omega
  exact ⟨aB (by rw [hk,List.take_length]),tv⟩
theorem H3 {l:List St} {i:Nat} {s:St} (h:l[i]?=some s):cn (l.take (i+1))=s.mv.foldl fq (cn (l.take i)):=by
 rw [List.take_add_one,h]; simp [cn,List.foldl_append]
theorem KY {l:List Mv} {k:Nat} {m:Mv} (h:l[k]?=some m) (o:List Int):(l.take (k+1)).foldl fq o=kW (kW ((l.take k).foldl fq o) m.f) m.t:=by
 rw [List.take_add_one,h,List.foldl_append]; rfl
theorem wq (l:List Int) (n:Int):(kW l n).length≤l.length+1:=by
 unfold kW; split
 ·omega
 ·have:=congrArg List.length (List.takeWhile_append_dropWhile (p:=fun x=>decide (x<n)) (l:=l))
  rw [List.length_append] at this
  rw [List.length_append,List.length_cons]; omega
theorem Aw:∀(l:List Mv) (o:List Int),(l.foldl fq o).length≤o.length+2 * l.length
 | [],o=>by simp
 | m::r,o=>by
  have h1:=Aw r (fq o m)
  have h2:=wq (kW o m.f) m.t
  have h3:=wq o m.f
  have h4:(fq o m).length=(kW (kW o m.f) m.t).length:=rfl
  rw [List.foldl_cons,List.length_cons]
  omega
theorem Cw:∀(l:List St) (o:List Int),(∀s∈l,Vv s)→(l.foldl (fun o s=>s.mv.foldl fq o) o).length≤o.length+8 * l.length
 | [],o,_=>by simp
 | s::r,o,h=>by
  have h1:=Cw r (s.mv.foldl fq o) fun x hx=>h x (List.mem_cons_of_mem _ hx)
  have h2:=Aw s.mv o
  have h3:=(h s List.mem_cons_self).1
  rw [List.foldl_cons,List.length_cons]; omega
theorem EX {l:List St} (h:sj l):(cn l).length≤800:=by
 have h1:=Cw l [] h.2
 have h2:=h.1
 unfold cn
 simp only [List.length_nil] at h1
 omega
def SN (l:List St) (i:Nat):bo:=⟨0,[(0,.dv (jJ l)),(3,.dv (fV (cn (l.take i)))),(4,.dv (I i))],[]⟩
def Qw (l:List St) (i:Nat) (s:St) (k:Nat):bo:=⟨0,[(0,.dv (jJ l)),(3,.dv (fV ((s.mv.take k).foldl fq (cn (l.take i))))),(4,.dv (I i)),(5,.dv (I k))],[]⟩
set_option maxHeartbeats 4000000 in
theorem yH (l:List St) (hl:sj l):cL Tryz.prog 46 [jJ l] [fV (cn l)]:=by
 refine bE aK mixed (aq _) (ar _) Tryz.func46 rfl (by kernel_rfl) rfl ?_
 refine ⟨Nat,SN l,fun i=>i≤l.length,fun i=>l.length - i,0,fun _=>rfl,⟨⟨rf,qN _,rf,tv⟩,tv,rfl,rfl⟩,by omega,?_⟩
 have SM:=hl.1
 rintro i hi
 refine ⟨fun h=>?_,fun h=>?_⟩
 ·have hk:i<l.length:=by simpa using h
  have hs:=List.getElem?_eq_getElem hk
  have Nd:=hl.2 _ (List.mem_of_getElem? hs)
  have Rd:=EX (hl.take i)
  generalize l[i]=s at hs Nd
  have iQ:(l.map fW)[((i:Int)).toNat]?=some (fW s):=by rw [Int.toNat_natCast,List.getElem?_map,hs]; rfl
  refine ⟨Nat,Qw l i s,fun k=>k≤s.mv.length,fun k=>s.mv.length - k,0,fun _=>rfl,⟨⟨rf,rf,rf,rf,tv⟩,tv,rfl,rfl⟩,by omega,?_⟩
  rintro k Dw
  refine ⟨fW s,fun _=>⟨by omega,iQ⟩,?_⟩
  refine ⟨fun h=>?_,fun h=>?_⟩
  ·have H0:k<s.mv.length:=by simpa using h
   have hm:=List.getElem?_eq_getElem H0
   generalize s.mv[k]=m at hm
   have T8:(s.mv.map cD)[((k:Int)).toNat]?=some (cD m):=by rw [Int.toNat_natCast,List.getElem?_map,hm]; rfl
   have Ex:=Aw (s.mv.take k) (cn (l.take i))
   rw [List.length_take] at Ex
   have Sp:=wq ((s.mv.take k).foldl fq (cn (l.take i))) m.f
   have TV:=Nd.1
   refine ⟨fW s,fun _=>⟨by omega,iQ⟩,?_⟩
   refine ⟨cD m,fun _=>⟨by omega,T8⟩,?_⟩
   refine .inl ⟨_,fun _=>(Cv _ m.f (by omega)).ok,?_⟩
   refine ⟨fW s,fun _=>⟨by omega,iQ⟩,?_⟩
   refine ⟨cD m,fun _=>⟨by omega,T8⟩,?_⟩
   refine .inl ⟨_,fun _=>(Cv _ m.t (by omega)).ok,?_⟩
   have he:(s.mv.take (k+1)).foldl fq (cn (l.take i))=kW (kW ((s.mv.take k).foldl fq (cn (l.take i))) m.f) m.t:=KY hm _
   exact ⟨by kernel_rfl,fun _=>⟨by omega,by omega⟩,k+1,⟨⟨rf,DV.Le.of_eq (congrArg fV he.symm),rf,aB (by omega),tv⟩,tv,rfl,rfl⟩,by omega,by show s.mv.length - (k+1)<s.mv.length - k; omega⟩
  ·have H0:k=s.mv.length:=by
    have:¬ k<s.mv.length:=by simpa using h
    omega
   have he:(s.mv.take k).foldl fq (cn (l.take i))=cn (l.take (i+1)):=by rw [H0,List.take_length,H3 hs]
   exact ⟨fun _=>⟨by omega,by omega⟩,i+1,⟨⟨rf,DV.Le.of_eq (congrArg fV he),aB (by omega),tv⟩,tv,rfl,rfl⟩,by omega,by show l.length - (i+1)<l.length - i; omega⟩
 ·have hk:i=l.length:=by
   have:¬ i<l.length:=by simpa using h
   omega
  exact ⟨DV.Le.of_eq (by rw [hk,List.take_length]),tv⟩
end Go.Proofs.YtpbdohkbiklflaaGreatDoor
namespace Go.Proofs.YtpbdohkbiklflaaGreatDoor
open Go.TM
variable [cP]
set_option maxRecDepth 100000
def Qx (v:RV):DV:=.agg [I 4,I v.coin,I v.ab,I v.aD,jJ v.steps,I v.work]
def IJ (v:RV):DV:=.at (Qx v) 0
def Ri (v:RV) (d:DV):DV:=.at (.agg [I 4,I v.coin,d,I v.aD,jJ v.steps,I v.work]) 0
theorem Cx (b:Bool):cL Tryz.prog 49 [B b] [I (gG b)]:=by
 refine bE aK mixed (aq _) (ar _) Tryz.func49 rfl (by kernel_rfl) rfl ?_
 refine ⟨fun h=>?_,fun h=>?_⟩
 ·have h:b=true:=h
  subst h; exact ⟨rf,tv⟩
 ·have h:b=false:=h
  subst h; exact ⟨rf,tv⟩
theorem wu (v:RV) (d:DV) (hl:v.steps.length≤1000):cL Tryz.prog 16 [Ri v d] [I (bK v.steps)]:=by
 refine bE aK mixed (aq _) (ar _) Tryz.func16 rfl (by kernel_rfl) rfl ?_
 refine ⟨fun h=>?_,fun h=>?_⟩
 ·have h0:v.steps=[]:=by
   have h:decide (((v.steps.map fW).length:Int)=0)=true:=h
   rw [List.length_map] at h
   have:=of_decide_eq_true h
   exact List.length_eq_zero_iff.1 (by omega)
  exact ⟨aB (by rw [h0]; rfl),tv⟩
 ·have h0:v.steps.length ≠ 0:=by
   have h:decide (((v.steps.map fW).length:Int)=0)=false:=h
   rw [List.length_map] at h
   have:=of_decide_eq_false h
   omega
  have hx:v.steps[v.steps.length - 1]?=some (v.steps.getD (v.steps.length - 1) Q9):=by rw [List.getD_eq_getElem?_getD,List.getElem?_eq_getElem (by omega)]; rfl
  refine ⟨fun _=>⟨by rw [List.length_map]; omega,by rw [List.length_map]; omega⟩,?_⟩
  refine ⟨fW (v.steps.getD (v.steps.length - 1) Q9),fun _=>⟨by rw [List.length_map]; omega,?_⟩,?_⟩
  ·rw [List.length_map,show ((v.steps.length:Int) - 1).toNat=v.steps.length - 1 by omega,List.getElem?_map,hx]; rfl
  exact ⟨by kernel_rfl,rf,tv⟩
theorem kX (v:RV) (hl:v.steps.length≤1000):cL Tryz.prog 16 [IJ v] [I (bK v.steps)]:=wu v (I v.ab) hl
def fc (coin:Int) (st:St):Int × Int × Int × Bool:=if bm coin st=true then aZ coin st else (0,0,0,false)
theorem Ax (coin:Int) (st:St):(fc coin st).2.2.2=bm coin st:=by
 unfold fc
 cases h:bm coin st with
 | true=>rw [if_pos rfl]; exact h
 | false=>rfl
theorem qT (coin:Int) (a b:Mv):(bif bif bif bif bif decide (a.it=coin) then true else !(decide (b.it=coin)) then true else !(decide (a.f=b.t)) then true else !(decide (a.t=b.f)) then true else decide (a.f=0) then true else decide (a.t=0))=!(kU coin a b).2.2.2:=by
 unfold kU
 simp only
 cases decide (a.it=coin) <;> cases decide (b.it=coin) <;> cases decide (a.f=b.t) <;> cases decide (a.t=b.f) <;> cases decide (a.f=0) <;> cases decide (a.t=0) <;> rfl
theorem GM {coin:Int} {st:St} {a b:Mv} (h:aZ coin st=kU coin a b) (hc:(kU coin a b).2.2.2=true):fc coin st=(a.it,a.n,b.n,true):=by
 have h1:bm coin st=true:=by unfold bm; rw [h]; exact hc
 unfold fc
 rw [if_pos h1,h]
 have:kU coin a b=(a.it,a.n,b.n,(kU coin a b).2.2.2):=rfl
 rw [this,hc]
theorem Ay {coin:Int} {st:St} (hc:(aZ coin st).2.2.2=false):fc coin st=(0,0,0,false):=by
 unfold fc; rw [if_neg]; unfold bm; rw [hc]; simp
set_option maxHeartbeats 4000000 in
theorem wv (v:RV) (d:DV) (st:St):cL Tryz.prog 22 [Ri v d,fW st] [I (fc v.coin st).1,I (fc v.coin st).2.1,I (fc v.coin st).2.2.1,B (fc v.coin st).2.2.2]:=by
 refine bE aK mixed (aq _) (ar _) Tryz.func22 rfl (by kernel_rfl) rfl ?_
 repeat first | refine ⟨id,?_⟩ | refine ⟨fun _ h=>cx h,?_⟩ | refine ⟨fun _ h=>ax h,?_⟩ | refine ⟨fun h=>⟨h,fun h2=>aP h h2⟩,?_⟩ | refine ⟨fun h=>⟨h,fun h2=>aC h h2⟩,?_⟩
 refine ⟨fun hc=>?_,fun hc=>?_⟩
 ·have GJ:aZ v.coin st=(0,0,0,false):=by
   unfold aZ
   by_cases hk:st.kind=2
   ·rw [if_neg (by simpa using hk)]
    have h2:¬ st.mv.length=2:=by
     intro h2; rw [List.length_map,h2,hk] at hc; simp at hc
    match hm:st.mv with
    | []=>rfl
    | [_]=>rfl
    | [_,_]=>rw [hm] at h2; exact absurd rfl h2
    | _::_::_::_=>rfl
   ·rw [if_pos hk]
  rw [Ay (by rw [GJ])]
  exact ⟨rf,rf,rf,rf,tv⟩
 have hk:st.kind=2:=by
  by_cases hk:st.kind=2
  ·exact hk
  ·exfalso; have:(st.kind != 2)=true:=by simpa using hk
   rw [this] at hc; cases hc
 have hl:st.mv.length=2:=by
  rw [hk,List.length_map] at hc
  have:((st.mv.length:Int) != 2)=false:=hc
  simp at this; omega
 obtain ⟨a,b,hm⟩:∃a b,st.mv=[a,b]:=by
  match hm:st.mv with
  | [a,b]=>exact ⟨a,b,rfl⟩
  | []=>rw [hm] at hl; cases hl
  | [_]=>rw [hm] at hl; cases hl
  | _::_::_::_=>rw [hm] at hl; simp at hl
 have e0:(st.mv.map cD)[0]?=some (cD a):=by rw [hm]; rfl
 have e1:(st.mv.map cD)[1]?=some (cD b):=by rw [hm]; rfl
 refine ⟨cD a,fun _=>⟨by omega,e0⟩,?_⟩
 refine ⟨cD b,fun _=>⟨by omega,e1⟩,?_⟩
 have GJ:aZ v.coin st=if a.it=v.coin then kU v.coin b a else kU v.coin a b:=by
  unfold aZ; rw [if_neg (by simpa using hk),hm]
 refine ⟨by kernel_rfl,fun hq=>?_,fun hq=>?_⟩
 ·have hq:a.it=v.coin:=of_decide_eq_true hq
  rw [if_pos hq] at GJ
  refine ⟨cD b,fun _=>⟨by omega,e1⟩,?_⟩
  refine ⟨cD a,fun _=>⟨by omega,e0⟩,?_⟩
  repeat first | refine ⟨id,?_⟩ | refine ⟨fun _ h=>cx h,?_⟩ | refine ⟨fun _ h=>ax h,?_⟩ | refine ⟨fun h=>⟨h,fun h2=>aP h h2⟩,?_⟩ | refine ⟨fun h=>⟨h,fun h2=>aC h h2⟩,?_⟩
  refine ⟨by kernel_rfl,fun fE=>?_,fun fE=>?_⟩
  ·have Qy:=(qT v.coin b a).symm.trans fE
   rw [Ay (by rw [GJ]; simpa using Qy)]
   exact ⟨rf,rf,rf,rf,tv⟩
  ·have Qy:=(qT v.coin b a).symm.trans fE
   rw [GM GJ (by simpa using Qy)]
   exact ⟨by kernel_rfl,rf,rf,rf,rf,tv⟩
 ·have hq:a.it ≠ v.coin:=of_decide_eq_false hq
  rw [if_neg hq] at GJ
  repeat first | refine ⟨id,?_⟩ | refine ⟨fun _ h=>cx h,?_⟩ | refine ⟨fun _ h=>ax h,?_⟩ | refine ⟨fun h=>⟨h,fun h2=>aP h h2⟩,?_⟩ | refine ⟨fun h=>⟨h,fun h2=>aC h h2⟩,?_⟩
  refine ⟨by kernel_rfl,fun fE=>?_,fun fE=>?_⟩
  ·have Qy:=(qT v.coin a b).symm.trans fE
   rw [Ay (by rw [GJ]; simpa using Qy)]
   exact ⟨rf,rf,rf,rf,tv⟩
  ·have Qy:=(qT v.coin a b).symm.trans fE
   rw [GM GJ (by simpa using Qy)]
   exact ⟨by kernel_rfl,rf,rf,rf,rf,tv⟩
theorem yI (v:RV) (st:St):cL Tryz.prog 22 [IJ v,fW st] [I (fc v.coin st).1,I (fc v.coin st).2.1,I (fc v.coin st).2.2.1,B (fc v.coin st).2.2.2]:=wv v (I v.ab) st
end Go.Proofs.YtpbdohkbiklflaaGreatDoor
namespace Go.Proofs.YtpbdohkbiklflaaGreatDoor
open Go.TM
variable [cP]
set_option maxRecDepth 100000
theorem KZ {l:List St} {i:Nat} {s:St} (h:l[i]?=some s) (coin ab tick:Int):bs coin ab (l.take (i+1)) tick=bs coin ab (l.take i) tick+(if SJ coin ab tick s=true then 1 else 0):=by
 rw [List.take_add_one,h]; unfold bs; rw [List.countP_append]; simp [List.countP_cons]
theorem Az (coin ab:Int) (l:List St) (tick:Int):bs coin ab l tick≤l.length:=List.countP_le_length
def SO (v:RV) (l:List St) (tick:Int) (i:Nat):bo:=⟨0,[(0,.dv (IJ v)),(1,.dv (jJ l)),(2,.dv (I tick)),(7,.dv (I (bs v.coin v.ab (l.take i) tick))),(8,.dv (I i))],[]⟩
set_option maxHeartbeats 4000000 in
theorem jK (v:RV) (l:List St) (hl:l.length≤100) (tick:Int) (hb:-9223372036854775808≤tick - v.ab∧tick - v.ab≤9223372036854775807):cL Tryz.prog 48 [IJ v,jJ l,I tick] [I (bs v.coin v.ab l tick)]:=by
 refine bE aK mixed (aq _) (ar _) Tryz.func48 rfl (by kernel_rfl) rfl ?_
 refine ⟨Nat,SO v l tick,fun i=>i≤l.length,fun i=>l.length - i,0,fun _=>rfl,⟨⟨rf,rf,rf,rf,rf,tv⟩,tv,rfl,rfl⟩,by omega,?_⟩
 rintro i hi
 refine ⟨fun h=>?_,fun h=>?_⟩
 ·have hk:i<l.length:=by simpa using h
  have hs:=List.getElem?_eq_getElem hk
  generalize l[i]=s at hs
  have iQ:(l.map fW)[((i:Int)).toNat]?=some (fW s):=by rw [Int.toNat_natCast,List.getElem?_map,hs]; rfl
  have tL:=yI v s
  rw [Ax] at tL
  generalize fc v.coin s=q at tL
  refine ⟨fW s,fun _=>⟨by omega,iQ⟩,?_⟩
  refine .inl ⟨_,fun _=>(tL).ok,?_⟩
  repeat first | refine ⟨id,?_⟩ | refine ⟨fun _ h=>cx h,?_⟩ | refine ⟨fun _ h=>ax h,?_⟩ | refine ⟨fun h=>⟨h,fun h2=>aP h h2⟩,?_⟩ | refine ⟨fun h=>⟨h,fun h2=>aC h h2⟩,?_⟩
  refine ⟨fW s,fun _=>⟨by omega,iQ⟩,?_⟩
  repeat first | refine ⟨id,?_⟩ | refine ⟨fun _ h=>cx h,?_⟩ | refine ⟨fun _ h=>ax h,?_⟩ | refine ⟨fun h=>⟨h,fun h2=>aP h h2⟩,?_⟩ | refine ⟨fun h=>⟨h,fun h2=>aC h h2⟩,?_⟩
  refine ⟨fun _=>hb,?_⟩
  repeat first | refine ⟨id,?_⟩ | refine ⟨fun _ h=>cx h,?_⟩ | refine ⟨fun _ h=>ax h,?_⟩ | refine ⟨fun h=>⟨h,fun h2=>aP h h2⟩,?_⟩ | refine ⟨fun h=>⟨h,fun h2=>aC h h2⟩,?_⟩
  refine ⟨fW s,fun _=>⟨by omega,iQ⟩,?_⟩
  repeat first | refine ⟨id,?_⟩ | refine ⟨fun _ h=>cx h,?_⟩ | refine ⟨fun _ h=>ax h,?_⟩ | refine ⟨fun h=>⟨h,fun h2=>aP h h2⟩,?_⟩ | refine ⟨fun h=>⟨h,fun h2=>aC h h2⟩,?_⟩
  have cS:=KZ hs v.coin v.ab tick
  have hle:=Az v.coin v.ab (l.take i) tick
  rw [List.length_take] at hle
  have aJ:l.length - (i+1)<l.length - i:=by omega
  refine ⟨by kernel_rfl,fun hc=>?_,fun hc=>?_⟩
  ·have hc:SJ v.coin v.ab tick s=true:=hc
   rw [if_pos hc] at cS
   refine ⟨fun _=>⟨by omega,by omega⟩,?_⟩
   exact ⟨fun _=>⟨by omega,by omega⟩,i+1,⟨⟨rf,rf,rf,aB (by omega),aB (by omega),tv⟩,tv,rfl,rfl⟩,by omega,aJ⟩
  ·have hc:SJ v.coin v.ab tick s=false:=hc
   rw [if_neg (by rw [hc]; simp)] at cS
   exact ⟨fun _=>⟨by omega,by omega⟩,i+1,⟨⟨rf,rf,rf,aB (by omega),aB (by omega),tv⟩,tv,rfl,rfl⟩,by omega,aJ⟩
 ·have hk:i=l.length:=by
   have:¬ i<l.length:=by simpa using h
   omega
  exact ⟨aB (by rw [hk,List.take_length]),tv⟩
theorem Cy (q:Nat→Bool) (k:Nat):(List.range (k+1)).countP q=(List.range k).countP q+(if q k=true then 1 else 0):=by
 rw [List.range_succ,List.countP_append]; simp [List.countP_cons]
theorem Cz {f:Int→Nat} {l:List Int} {i:Nat} {a:Int} (h:l[i]?=some a):((l.take (i+1)).map f).sum=((l.take i).map f).sum+f a:=by
 rw [List.take_add_one,h]; simp [List.sum_append]
theorem ub (q:Nat→Bool) (k:Nat):(List.range k).countP q≤k:=by
 have:=List.countP_le_length (p:=q) (l:=List.range k); rw [List.length_range] at this; exact this
theorem CA (l:List St):∀xs:List Int,nz l xs≤4 * xs.length
 | []=>Nat.le_refl _
 | a::r=>by
  have h1:=CA l r
  have h2:=ub (fun k=>!decide (bh a (k:Nat) l=0)) 4
  unfold nz at h1 ⊢
  rw [List.map_cons,List.sum_cons,List.length_cons]
  have h3:Na a l=(List.range 4).countP fun k=>!decide (bh a (k:Nat) l=0):=rfl
  omega
def SP (v:RV) (l:List St) (tick:Int) (n0:Nat) (i:Nat):bo:=⟨0,[(0,.dv (IJ v)),(1,.dv (jJ l)),(7,.dv (I ((n0+nz l ((cn l).take i):Nat):Int))),(8,.dv (fV (cn l))),(9,.dv (I i))],[]⟩
def Qz (v:RV) (l:List St) (tick:Int) (n0:Nat) (i:Nat) (a:Int) (k:Nat):bo:=⟨0,[(0,.dv (IJ v)),(1,.dv (jJ l)),(7,.dv (I ((n0+nz l ((cn l).take i)+(List.range k).countP fun k=>!decide (bh a (k:Nat) l=0):Nat):Int))),(8,.dv (fV (cn l))),(9,.dv (I i)),(10,.dv (I k))],[]⟩
set_option maxHeartbeats 4000000 in
theorem EY (v:RV) (l:List St) (hl:sj l) (tick:Int) (hb:-9223372036854775808≤tick - v.ab∧tick - v.ab≤9223372036854775807):cL Tryz.prog 45 [IJ v,jJ l,I tick] [I (yF v.coin v.ab l tick)]:=by
 refine bE aK mixed (aq _) (ar _) Tryz.func45 rfl (by kernel_rfl) rfl ?_
 refine .inl ⟨_,fun _=>(jK v l hl.1 tick hb).ok,?_⟩
 refine .inl ⟨_,fun _=>(yH l hl).ok,?_⟩
 have L5:=Az v.coin v.ab l tick
 have Ex:=hl.1
 have Rj:=EX hl
 generalize hn:bs v.coin v.ab l tick=n0 at *
 refine ⟨Nat,SP v l tick n0,fun i=>i≤(cn l).length,fun i=>(cn l).length - i,0,fun _=>rfl,⟨⟨rf,rf,aB (by simp [nz]),rf,rf,tv⟩,tv,rfl,rfl⟩,by omega,?_⟩
 rintro i hi
 refine ⟨fun h=>?_,fun h=>?_⟩
 ·have hk:i<(cn l).length:=by simpa using h
  have hs:=List.getElem?_eq_getElem hk
  generalize (cn l)[i]=a at hs
  have iQ:((cn l).map I)[((i:Int)).toNat]?=some (I a):=by rw [Int.toNat_natCast,List.getElem?_map,hs]; rfl
  have QA:=CA l ((cn l).take i)
  rw [List.length_take] at QA
  refine ⟨Nat,Qz v l tick n0 i a,fun k=>k≤4,fun k=>4 - k,0,fun _=>rfl,⟨⟨rf,rf,aB (by simp),rf,rf,rf,tv⟩,tv,rfl,rfl⟩,by omega,?_⟩
  rintro k Dw
  refine ⟨fun h=>?_,fun h=>?_⟩
  ·have H0:k<4:=by have:=of_decide_eq_true h; omega
   have cS:=Cy (fun k=>!decide (bh a (k:Nat) l=0)) k
   have Nf:=ub (fun k=>!decide (bh a (k:Nat) l=0)) k
   refine ⟨I a,fun _=>⟨by omega,iQ⟩,?_⟩
   refine .inl ⟨_,fun _=>(jb l a k hl).ok,?_⟩
   have aJ:4 - (k+1)<4 - k:=by omega
   refine ⟨fun hc=>?_,fun hc=>?_⟩
   ·have hc:(!decide (bh a (k:Nat) l=0))=true:=hc
    rw [if_pos hc] at cS
    refine ⟨fun _=>⟨by omega,by omega⟩,?_⟩
    exact ⟨fun _=>⟨by omega,by omega⟩,k+1,⟨⟨rf,rf,aB (by omega),rf,rf,aB (by omega),tv⟩,tv,rfl,rfl⟩,by omega,aJ⟩
   ·have hc:(!decide (bh a (k:Nat) l=0))=false:=hc
    rw [if_neg (by rw [hc]; simp)] at cS
    exact ⟨fun _=>⟨by omega,by omega⟩,k+1,⟨⟨rf,rf,aB (by omega),rf,rf,aB (by omega),tv⟩,tv,rfl,rfl⟩,by omega,aJ⟩
  ·have H0:k=4:=by have:=of_decide_eq_false h; omega
   have cS:=Cz (f:=fun a=>Na a l) hs
   have he:nz l ((cn l).take (i+1))=nz l ((cn l).take i)+(List.range k).countP fun k=>!decide (bh a (k:Nat) l=0):=by rw [H0]; exact cS
   exact ⟨fun _=>⟨by omega,by omega⟩,i+1,⟨⟨rf,rf,aB (by omega),rf,aB (by omega),tv⟩,tv,rfl,rfl⟩,by omega,by show (cn l).length - (i+1)<(cn l).length - i; omega⟩
 ·have hk:i=(cn l).length:=by
   have:¬ i<(cn l).length:=by simpa using h
   omega
  have he:yF v.coin v.ab l tick=n0+nz l ((cn l).take i):=by rw [hk,List.take_length,←hn]; rfl
  exact ⟨aB (by rw [he]),tv⟩
end Go.Proofs.YtpbdohkbiklflaaGreatDoor
namespace Go.Proofs.YtpbdohkbiklflaaGreatDoor
open Go.TM
variable [cP]
set_option maxRecDepth 100000
def Rm (v:RV):ah:=[(0,.tree 0 0 (.cT (Qx v)))]
end Go.Proofs.YtpbdohkbiklflaaGreatDoor
namespace Go.Proofs.YtpbdohkbiklflaaGreatDoor
open Go.TM
variable [cP]
set_option maxRecDepth 100000
end Go.Proofs.YtpbdohkbiklflaaGreatDoor
