import Derived.Test.YtmojfblpbcficaaGreatDoorUM29
import Derived.Test.YtmojfblpbcficaaGreatDoorUM25
import Derived.Test.YtmojfblpbcficaaGreatDoorUM47
import Derived.Lib.AppendZerosOnto
set_option linter.all false
open Go.TM.oA Go.TM.oB Go.TM.oC Go.TM.oD Go.TM.oE
namespace Go.Proofs.YtmojfblpbcficaaGreatDoor
set_option maxRecDepth 100000
set_option maxHeartbeats 4000000
open Go.Proofs Go.Sort Go.RowKit
theorem Hs(w:World):Calls Tryz.prog 99 #[.slice none 0 0,.int .i64 0] w fun e w'=>e=.returned (.slice none 0 0)/\w'=w:=by
 go_enter Tryz.func99,Tryz.ntmps99
 go_wp2
 go_ret
 exact⟨rfl,rfl⟩
def GrP(w:World)(e:Ending)(w':World):Prop:=∃cap c t,e=.returned (.slice (some ⟨w.heap.size,0,none⟩) 0 cap)/\w'=w.drew.alloc (.cells c t)/\cap*3<=c.size
theorem Kc(n:Nat)(h0:0<n)(hn:n<=100000)(w:World):Calls Tryz.prog 99 #[.slice none 0 0,.int .i64 (n:Int)] w (GrP w):=by
 obtain⟨i0,DB,hz0,YT,hzb⟩:=info_parts (show(Tryz.prog.info? 53).map (fun i=>(i.zero,i.size,i.bytes))=some (some (.agg #[.int .i64 0,.int .i64 0,.int .i64 0]),3,24)by kernel_rfl)
 have hG:=grownCap_ge w n 0 53
 have hrz:∀ty,(Builtin.append_ #[27,3] ty #[.slice none 0 0,.int .i64 (n:Int)]).run Tryz.prog w=.ok (.slice (some ⟨w.heap.size,0,none⟩) n (grownCap w n 0 53)) (w.drew.alloc (.cells (#[]++Builtin.zeroCells (#[.int .i64 0,.int .i64 0,.int .i64 0]:Array Value) n++Builtin.zeroCells (#[.int .i64 0,.int .i64 0,.int .i64 0]:Array Value) (grownCap w n 0 53-n)) 53)):=fun ty=>by
  have h:=Lib.run_append_grow_zeros w 27 3 ty 53 i0 _ .i64 .i64 Tryz.underlying27 Tryz.underlying3 DB hz0 none 0 0 [] (run_firstCells_none w.drew i0.size 0 0 0) n h0 (by omega) (by omega) (by omega) (by rw[hzb];omega)
   (by rw[hzb];exact growslice_fits (by omega) (by omega))
  rw[Nat.zero_add]at h
  exact h
 have h1:¬((n:Int)<0):=by omega
 have h2:wrap64 ((n:Int)-0)=(n:Int):=by unfold wrap64;omega
 have h4:(n:Int)>0:=by omega
 have mixed:=Go.Proofs.YtmojfblpbcficaaGreatDoor.mixed
 go_enter Tryz.func99,Tryz.ntmps99
 go_wp2_with (at_builtin;refine Lib.wpList_append_run _ rfl _ _ _ _ rfl _ _ rfl rfl _ _ (hrz _) ?_)
 all_goals(go_ret;exact⟨_,_,_,rfl,rfl,by simp[Builtin.zeroCells];omega⟩)
open Go.TM
variable [bp]
theorem NT(n:Nat)(hn:n<=100000):aj Tryz.prog 99 [.dv .ax,.dv (I n)] 0 [] 1 [.own 0 0 0 []] [(0,.tree 0 0 (.aD 3 []))]:=
 NR (args:=[.ax,I n]) ⟨_,Tryz.func99,by kernel_rfl,by kernel_rfl⟩ (fun _ h=>by cases h) fun w M vs hr=>by
  obtain⟨v0,v1,rfl⟩:∃v0 v1,vs=[v0,v1]:=by
   match vs,hr.1 with
   |[a,b],_=>exact⟨a,b,rfl⟩
  have h0:=hr.2 0 _ v0 rfl rfl
  have h1:=hr.2 1 _ v1 rfl rfl
  cases h0
  cases h1
  by_cases h:n=0
  ·subst h
   refine(Hs w).mono ?_
   rintro e w' ⟨rfl,rfl⟩
   exact⟨_,rfl,rfl,.refl _ _,.inl ⟨rfl,rfl⟩,fun b h=>by cases h⟩
  ·refine(Kc n (by omega) hn w).mono ?_
   rintro e w' ⟨cap,c,t,rfl,rfl,hs⟩
   exact⟨_,rfl,rfl,⟨rfl,rfl,rfl,by simp,fun q hq _=>bu w.drew _ hq⟩,.inr ⟨_,0,cap,c,t,rfl,adx _,cg w.drew _,by omega,fun i x hx=>by simp at hx⟩,fun b hb=>by simp[cT]at hb;omega⟩
def two(a b:List Lt)(j:Nat):List Lt:=([a,b].take j).flatten
theorem Eo(a b:List Lt)(ha:a.length<=5000)(hb:b.length<=5000):aj Tryz.prog 61 [.dv (.sl 1 [aM a,aM b])] 0 [] 0 [.dv (aM (a++b))] []:=by
 have nx:∀(j:Nat) x,[a,b][j]?=some x->two a b (j+1)=two a b j++x:=fun j x h=>by unfold two;rw[ads,h];simp
 have ln:∀j,(two a b j).length<=10000:=fun j=>match j with
  |0=>by simp[two]
  |1=>by simp[two];omega
  |j+2=>by simp[two];omega
 have ix:∀(j:Nat) x,[a,b][j]?=some x->[aM a,aM b][(j:Int).toNat]?=some (aM x):=fun j x h=>by
  rw[show[aM a,aM b]=[a,b].map aM from rfl,abW];simp[h]
 have get:∀j:Nat,j<2->∃x,[a,b][j]?=some x/\x.length<=5000:=fun j hj=>match j with
  |0=>⟨a,rfl,ha⟩
  |1=>⟨b,rfl,hb⟩
 refine cO Tryz.func61 rfl (by kernel_rfl) ?_
 refine⟨Nat,fun j=>⟨0,[(0,.dv (.sl 1 [aM a,aM b])),(3,.dv (I (two a b j).length)),(9,.dv (.sl 1 [aM a,aM b])),(10,.dv (I 2)),(11,.dv (I j))],[]⟩,fun j=>j<=2,fun j=>2-j,0,fun _=>rfl,jn rfl rfl rfl rfl,adx _,?_⟩
 intro j hj
 refine T5 (fun h=>?_) fun h=>?_
 ·have au:j<2:=by have:=adz h;omega
  obtain⟨x,hx,hl⟩:=get j au
  have hn:=nx j x hx
  have l1:=ln j
  have lx:(x.map aA).length=x.length:=WY ..
  have l2:(two a b (j+1)).length=(two a b j).length+x.length:=by rw[hn,adv]
  refine⟨aM x,fun _=>⟨by omega,ix j x hx⟩,?_⟩
  refine⟨fun _=>by omega,?_⟩
  refine T5 (fun h=>?_) fun _=>?_
  ·exfalso;have:=adz h;omega
  exact⟨fun _=>by omega,j+1,jn (by simp only[l2,Int.natCast_add,<-lx];rfl) rfl rfl rfl,au,mlt au⟩
 ·obtain rfl:j=2:=by have:=adA h;omega
  refine .inr (cl [] (NT (two a b 2).length (by have:=ln 2;omega)) (by kernel_rfl) rfl rfl ?_)
  refine⟨Nat,fun j=>⟨1,[(6,.own 0 0 0 []),(25,.dv (.sl 1 [aM a,aM b])),(26,.dv (I 2)),(27,.dv (I j))],[(0,.tree 0 0 (.aD 3 ((two a b j).map aA)))]⟩,fun j=>j<=2,fun j=>2-j,0,fun _=>rfl,jn rfl rfl rfl rfl,adx _,?_⟩
  intro j hj
  refine T5 (fun h=>?_) fun h=>?_
  ·have au:j<2:=by have:=adz h;omega
   obtain⟨x,hx,hl⟩:=get j au
   have hn:=nx j x hx
   have l1:=ln j
   refine⟨aM x,fun _=>⟨by omega,ix j x hx⟩,?_⟩
   refine .inr ⟨_,b7.refl _,bL (by simp;omega),by simp;omega,?_⟩
   exact⟨fun _=>by omega,j+1,jn rfl (by simp only[hn,adB];rfl) rfl rfl,au,mlt au⟩
  ·obtain rfl:j=2:=by have:=adA h;omega
   rw[show two a b 2=a++b by simp[two]]
   exact⟨_,_,⟨rfl,rfl⟩,by kernel_rfl,⟨mC _,tv⟩,tv⟩
theorem Ht(a b:List Lt)(ha:a.length<=5000)(hb:b.length<=5000):aN Tryz.prog 61 [.sl 1 [aM a,aM b]] [aM (a++b)]:=qf (Eo a b ha hb)
theorem oM(a b:List Lt)(ha:bB a=true)(hb:bB b=true)(hl:a.length+b.length<=5000):aN Tryz.prog 20 [aM a,aM b] [aM (ct (a++b))]:=by
 refine pO Tryz.func20 rfl (by kernel_rfl) rfl ?_
 refine .inl ⟨_,fun _=>(ey a (by omega)).ok,?_⟩
 rw[ha]
 repeat refine gG ?_
 refine Or.inl ?_
 refine⟨_,fun _=>(ey b (by omega)).ok,?_⟩
 rw[hb]
 repeat refine gG ?_
 refine T5 (fun h=>by cases h) fun _=>?_
 refine .inl ⟨[aM a,aM b],rfl,⟨rf,rf,tv⟩,(by simp;exact⟨rfl,rfl⟩),?_⟩
 refine .inl ⟨_,fun _=>(Ht a b (by omega) (by omega)).ok,?_⟩
 refine .inl ⟨_,fun _=>(lV (a++b) (fun x hx=>(adr.1 hx).elim (fun h=>(eU ha).2 x h) fun h=>(eU hb).2 x h) (by rw[adv];omega)).ok,?_⟩
 exact⟨rf,tv⟩
end Go.Proofs.YtmojfblpbcficaaGreatDoor
