import Derived.Test.YtfcfbfkjdenpdaaK4B3
set_option linter.unusedVariables false
set_option linter.unusedSimpArgs false
set_option linter.unusedSectionVars false
namespace Go.Proofs.Ytfcfbfkjdenpdaa
open Go.TM
theorem td_bd {k c:Int} (hk:0≤k) (hc:1≤c):0≤k.tdiv c∧k.tdiv c≤k:=by
 rw [Int.tdiv_eq_ediv_of_nonneg hk]
 exact ⟨Int.ediv_nonneg hk (by omega),Int.ediv_le_self _ hk⟩
theorem tm_bd {k c:Int} (hk:0≤k) (hc:1≤c):0≤k.tmod c∧k.tmod c<c:=⟨Int.tmod_nonneg _ hk,Int.tmod_lt_of_pos _ (by omega)⟩
theorem mul_bd {a b c:Int} (ha:0≤a∧a<2) (hb:0≤b∧b<c):0≤a * b∧a * b<c:=by
 rcases (by omega:a=0 ∨ a=1) with rfl | rfl <;> omega
def tt (q a b:Int):Int:=(q.tdiv a).tmod b
theorem tt_bd {q a b:Int} (hq:0≤q) (ha:1≤a) (hb:1≤b):0≤tt q a b∧tt q a b<b:=tm_bd (td_bd hq ha).1 hb
def mn (a b:Int):Int:=if b<a then b else a
def dlOpt (l:List Int) (parties n:Int) (i j:Nat):Opt :=
 let q:=pick l (3+4 * i+j) 1000000
 ⟨q.tmod parties,if tt q 2304 23=0 then tt q 52992 n else mn (n - 1) (i+1+tt q 12 2 * tt q 24 4),if tt q 96 2=0 then [amt (q.tdiv 192)] else []⟩
def dlOpts (l:List Int) (parties n:Int) (i:Nat):Nat→List Opt
 | 0=>[]
 | j+1=>dlOpts l parties n i j++[dlOpt l parties n i j]
def dlLate (k n i:Int):Int:=if n - 1 - tt k 162 2 * tt k 324 n≤i then n - 1 else n - 1 - tt k 162 2 * tt k 324 n
def dlFin (k n i:Int):Bool:=bif i == n - 1 then true else bif decide (1<i) then k.tmod 3 == 0 else false
def dlSta (l:List Int) (parties n:Int) (i:Nat):Sta :=
 let k:=pick l (2+4 * i) 1000000
 bif dlFin k n i then ⟨sname i,true,[],0,0,[]⟩
 else ⟨sname i,false,if tt k 5000 17=0 then [] else dlOpts l parties n i ((tt k 3 2).toNat+1),if 0<tt k 6 3 then 1+tt k 18 9 else 0,if 0<tt k 6 3 then dlLate k n i else 0,[]⟩
def dlStas (l:List Int) (parties n:Int):Nat→List Sta
 | 0=>[]
 | i+1=>dlStas l parties n i++[dlSta l parties n i]
def tnames:List ByteArray:=[⟨#[97]⟩,⟨#[98]⟩,⟨#[99]⟩]
def dlPart (l:List Int):List ByteArray:=tnames.take (2+pick l 0 2).toNat
def dlN (l:List Int):Int:=2+pick l 1 6
def trade:ByteArray:=⟨#[116,114,97,100,101]⟩
def dl0 (l:List Int):Dea:=⟨trade,dlPart l,dlStas l (dlPart l).length (dlN l) (dlN l).toNat⟩
def dealD (l:List Int):Dea:=givD l (dl0 l)
theorem dlPart_len (l:List Int):((dlPart l).length:Int)=2+pick l 0 2:=by
 have:=pick_bd l 0 2 (by omega)
 simp only [dlPart,List.length_take,tnames,List.length_cons,List.length_nil]
 omega
theorem dlOpts_mem {l:List Int} {parties n:Int} {i:Nat} {o:Opt}:∀{j:Nat},o∈dlOpts l parties n i j→∃j',o=dlOpt l parties n i j'
 | 0,h=>by simp [dlOpts] at h
 | j+1,h=>by
  rcases List.mem_append.1 h with h | h
  ·exact dlOpts_mem h
  ·exact ⟨j,List.mem_singleton.1 h⟩
theorem dlOpts_len (l:List Int) (parties n:Int) (i:Nat):∀j,(dlOpts l parties n i j).length=j
 | 0=>rfl
 | j+1=>by simp [dlOpts,dlOpts_len l parties n i j]
theorem dlStas_mem {l:List Int} {parties n:Int} {x:Sta}:∀{i:Nat},x∈dlStas l parties n i→∃i',x=dlSta l parties n i'
 | 0,h=>by simp [dlStas] at h
 | i+1,h=>by
  rcases List.mem_append.1 h with h | h
  ·exact dlStas_mem h
  ·exact ⟨i,List.mem_singleton.1 h⟩
theorem dlStas_len (l:List Int) (parties n:Int):∀i,(dlStas l parties n i).length=i
 | 0=>rfl
 | i+1=>by simp [dlStas,dlStas_len l parties n i]
theorem dlSta_gives (l:List Int) (parties n:Int) (i:Nat):(dlSta l parties n i).gives=[]:=by
 simp only [dlSta]
 cases dlFin (pick l (2+4 * i) 1000000) n i <;> rfl
theorem dlSta_opts {l:List Int} {parties n:Int} {i:Nat} {o:Opt} (h:o∈(dlSta l parties n i).opts):∃j,o=dlOpt l parties n i j:=by
 simp only [dlSta] at h
 cases hf:dlFin (pick l (2+4 * i) 1000000) n i with
 | true=>rw [hf] at h; simp at h
 | false =>
  rw [hf] at h
  simp only [cond_false] at h
  split at h
  ·simp at h
  ·exact dlOpts_mem h
theorem dlSta_olen (l:List Int) (parties n:Int) (i:Nat):(dlSta l parties n i).opts.length≤2:=by
 simp only [dlSta]
 have:=tt_bd (pick_bd l (2+4 * i) 1000000 (by omega)).1 (a:=3) (b:=2) (by omega) (by omega)
 cases hf:dlFin (pick l (2+4 * i) 1000000) n i with
 | true=>simp
 | false =>
  simp only [cond_false]
  split
  ·simp
  ·rw [dlOpts_len]; omega
theorem amt_bd {q:Int} (hq:0≤q):0≤(amt q).1∧(amt q).1<3∧1≤(amt q).2∧(amt q).2≤4:=by
 have h1:=tm_bd hq (c:=3) (by omega)
 have h2:=tm_bd (td_bd hq (c:=3) (by omega)).1 (c:=4) (by omega)
 simp only [amt]
 omega
theorem dlOpt_ok (l:List Int) {parties:Int} (hp:1≤parties) (n:Int) (i j:Nat):0≤(dlOpt l parties n i j).party∧(dlOpt l parties n i j).party<parties∧(dlOpt l parties n i j).put.length≤1∧∀a,a∈(dlOpt l parties n i j).put→0≤a.1∧a.1<3∧1≤a.2∧a.2≤4:=by
 have hq:=pick_bd l (3+4 * i+j) 1000000 (by omega)
 have h1:=tm_bd hq.1 hp
 refine ⟨h1.1,h1.2,?_,fun a ha=>?_⟩
 ·simp only [dlOpt]; split <;> simp
 ·simp only [dlOpt] at ha
  split at ha
  ·rcases List.mem_singleton.1 ha with rfl
   exact amt_bd (td_bd hq.1 (by omega)).1
  ·simp at ha
theorem dl0_ok (l:List Int):GvOk (dl0 l):=by
 have hp:=pick_bd l 0 2 (by omega)
 have hpl:=dlPart_len l
 have hn:=pick_bd l 1 6 (by omega)
 refine ⟨⟨?_,fun x hx=>?_⟩,?_,?_,⟨fun x hx o ho=>?_⟩,?_⟩
 ·show (dlStas _ _ _ _).length≤1000
  rw [dlStas_len]; unfold dlN; omega
 ·obtain ⟨i,rfl⟩:=dlStas_mem hx
  have:=dlSta_olen l (dlPart l).length (dlN l) i
  omega
 ·show 1≤(dlPart l).length
  omega
 ·show (dlPart l).length≤1000
  omega
 ·obtain ⟨i,rfl⟩:=dlStas_mem hx
  obtain ⟨j,rfl⟩:=dlSta_opts ho
  obtain ⟨h1,h2,h3,h4⟩:=dlOpt_ok l (parties:=(dlPart l).length) (by omega) (dlN l) i j
  refine ⟨h1,h2,by omega,fun a ha=>?_⟩
  have:=h4 a ha
  omega
 ·show tch (dlStas _ _ _ _)=false
  unfold tch
  rw [List.any_eq_false]
  intro x hx
  obtain ⟨i,rfl⟩:=dlStas_mem hx
  rw [dlSta_gives]; simp
end Go.Proofs.Ytfcfbfkjdenpdaa
namespace Go.Proofs.Ytfcfbfkjdenpdaa
open Go.TM
theorem qb {k c:Int} (hk:0≤k∧k<1000000) (hc:1≤c):true=true→-9223372036854775808≤k.tdiv c∧k.tdiv c≤9223372036854775807:=fun _=>by
 have:=td_bd hk.1 hc
 omega
structure DlI where
 i:Nat
 ss:List Sta
structure DjI where
 j:Nat
 os:List Opt
def dlK (l:List Int) (ss:List Sta):Boxes:=[(0,.cells (dvs (nth tab 39).zero)),(1,.cells [.dv (.str trade),.dv (.sl 1 ((dlPart l).map .str)),.own 2 0 0 []]),(2,.tree 0 0 (.osl 6 (ss.map oSta)))]
def dlE (l:List Int) (i:Nat):Env:=[(0,.dv (Ints l)),(2,.ptr 0 0),(3,.ptr 1 0),(4,.dv (I (dlPart l).length)),(5,.dv (I (dlN l))),(6,.dv (I i))]
theorem fz_gC (g:List Giv):(fzD (gC g)).Le (.sl 3 (g.map eGiv)):=by
 cases g with
 | nil=>exact DV.nils_le 3
 | cons a r =>
  refine DV.Le.of_eq ?_
  show DV.sl 3 (fzL ((a::r).map eGiv))=_
  rw [fzL_map fun _=>rfl]
theorem fz_states (ss:List Sta):(fzD (.osl 6 (ss.map oSta))).Le (.sl 6 (ss.map eSta)):=by
 show (DV.sl 6 (fzL (ss.map oSta))).Le _
 rw [fzL_eq]
 refine DV.sl_le (by simp) fun i x y hx hy=>?_
 rw [List.map_map,List.getElem?_map] at hx
 rw [List.getElem?_map] at hy
 cases hs:ss[i]? with
 | none=>rw [hs] at hx; cases hx
 | some z =>
  rw [hs] at hx hy
  simp only [Option.map_some,Option.some.injEq] at hx hy
  subst hx; subst hy
  refine ⟨⟨rf,rf,rf,rf,rf,fz_gC z.gives,tv⟩,fun d hd=>?_⟩
  simp only [eSta,DV.cells,List.mem_cons,List.not_mem_nil,or_false] at hd
  rcases hd with rfl | rfl | rfl | rfl | rfl | rfl <;> rfl
set_option maxHeartbeats 8000000 in
theorem Deal_spec (l:List Int) (hl:∀x,x∈l→InI x):PSpec Try.prog 25 [Ints l] [eDea (dealD l)]:=by
 refine pspec_of tab_ok mixed (calls_snd _) (range_snd _) Try.func25 rfl (by kernel_rfl) rfl ?_
 have hp:=pick_bd l 0 2 (by omega)
 have hpl:=dlPart_len l
 have hn:=pick_bd l 1 6 (by omega)
 refine .inl ⟨tnames.map .str,rfl,⟨rf,rf,rf,tv⟩,(fun y hy=>by obtain ⟨s,-,rfl⟩:=List.mem_map.1 hy; rfl),?_⟩
 refine .inl ⟨_,fun _=>(pick_spec l 0 2 hl (by omega)).ok,fun _=>⟨by omega,by omega⟩,fun _=>⟨by decide,by show (0:Int)≤2+pick l 0 2; omega,by show 2+pick l 0 2≤3; omega⟩,?_⟩
 refine .inl ⟨_,fun _=>(pick_spec l 1 6 hl (by omega)).ok,fun _=>⟨by omega,by omega⟩,?_⟩
 refine ⟨DlI,fun z=>⟨3,dlE l z.i,dlK l z.ss⟩,fun z=>z.i≤(dlN l).toNat∧z.ss=dlStas l (dlPart l).length (dlN l) z.i,fun z=>(dlN l).toNat - z.i,⟨0,[]⟩,(fun z=>rfl),?_,⟨by dsimp only; omega,rfl⟩,?_⟩
 ·refine ⟨⟨rf,rfl,rfl,le_int ?_,rf,rf,tv⟩,⟨subWs_dvs _ _ _ (nth tab 39).zero,⟨rf,DV.Le.of_eq ?_,⟨rfl,rfl,rfl,rfl,6,rfl⟩,tv⟩,⟨rfl,rfl,6,rfl⟩,tv⟩,rfl,rfl⟩
  ·show (((tnames.map DV.str).take (2+pick l 0 2).toNat).drop 0).length=((dlPart l).length:Int)
   rw [List.drop_zero,←List.map_take,List.length_map]; rfl
  ·show DV.sl 1 (((tnames.map DV.str).take (2+pick l 0 2).toNat).drop 0)=_
   rw [List.drop_zero,←List.map_take]; rfl
 ·rintro ⟨i,ss⟩ ⟨hi,hss⟩
  dsimp only at hi hss
  refine ⟨fun h=>?_,fun h=>?_⟩
  ·have hlt:(i:Int)<dlN l:=by simpa using h
   clear h
   have hnb:2≤dlN l∧dlN l<8:=by unfold dlN; omega
   refine .inl ⟨_,fun _=>(decimal_spec i (by omega)).ok,fun _=>?_,?_⟩
   ·show (((2:Nat)):Int)≤_
    decide
   refine ⟨fun _=>⟨by dsimp only; omega,by dsimp only; omega⟩,fun _=>⟨by dsimp only; omega,by dsimp only; omega⟩,.inl ⟨_,fun _=>(pick_spec l (2+4 * i) 1000000 hl (by omega)).ok,?_⟩⟩
   have hkb:=pick_bd l (2+4 * i) 1000000 (by omega)
   have hst:dlStas l (dlPart l).length (dlN l) (i+1)=ss++[dlSta l (dlPart l).length (dlN l) i]:=by simp only [dlStas,←hss]
   have hsl:ss.length=i:=by rw [hss,dlStas_len]
   have hdf:dlSta l (dlPart l).length (dlN l) i=_:=rfl
   conv at hdf=>rhs; unfold dlSta
   dsimp only at hdf
   generalize hk:pick l (2+4 * i) 1000000=k at *
   refine ⟨fun _=>⟨by omega,by omega⟩,id,id,id,fun _=>by decide,id,fun h=>⟨h,fun h2=>bw_and h h2⟩,fun _ h=>bw_f h,fun h=>?_,fun h=>?_⟩
   ·rw [show dlFin k (dlN l) i=true from h] at hdf
    simp only [cond_true] at hdf
    refine .inl ⟨[oSta ⟨sname i,true,[],0,0,[]⟩],rfl,⟨rf,rf,DV.nils_le 3,rf,rf,rf,tv⟩,fun y hy=>(by rcases List.mem_singleton.1 hy with rfl; rfl),.inr ⟨[oSta ⟨sname i,true,[],0,0,[]⟩],ELes.refl _,(by rw [by37]; simp; omega),(by simp; omega),?_⟩⟩
    refine ⟨fun _=>⟨by dsimp only; omega,by dsimp only; omega⟩,⟨i+1,ss++[⟨sname i,true,[],0,0,[]⟩]⟩,⟨⟨rf,rfl,rfl,rf,rf,le_int (by simp),tv⟩,⟨subWs_dvs _ _ _ (nth tab 39).zero,⟨rf,rf,rfl,tv⟩,⟨rfl,by simp⟩,tv⟩,rfl,rfl⟩,⟨by dsimp only; omega,?_⟩,by dsimp only; omega⟩
    dsimp only
    rw [hst,hdf]
   ·rw [show dlFin k (dlN l) i=false from h] at hdf
    clear h
    simp only [cond_false] at hdf
    refine ⟨DjI,fun z=>⟨5,[(0,.dv (Ints l)),(2,.ptr 0 0),(3,.ptr 1 0),(4,.dv (I (dlPart l).length)),(5,.dv (I (dlN l))),(6,.dv (I i)),(7,.ptr 3 0),(8,.dv (I k)),(9,.dv (I z.j))],dlK l ss++[(3,.cells [.dv (.str (sname i)),.dv (B false),.own 4 0 0 [],.dv (I 0),.dv (I 0),.dv .nils]),(4,.tree 0 0 (.osl 3 (z.os.map eOpt)))]⟩,fun z=>z.j≤(tt k 3 2).toNat+1∧z.os=dlOpts l (dlPart l).length (dlN l) i z.j,fun z=>(tt k 3 2).toNat+1 - z.j,⟨0,[]⟩,(fun z=>rfl),?_,⟨by dsimp only; omega,rfl⟩,?_⟩
    ·exact ⟨⟨rf,rfl,rfl,rf,rf,rf,rfl,rf,rf,tv⟩,⟨subWs_dvs _ _ _ (nth tab 39).zero,⟨rf,rf,rfl,tv⟩,⟨rfl,rfl⟩,⟨rf,rf,⟨rfl,rfl,rfl,rfl,3,rfl⟩,rf,rf,rf,tv⟩,⟨rfl,rfl,3,rfl⟩,tv⟩,rfl,rfl⟩
    ·rintro ⟨j,os⟩ ⟨hj,hos⟩
     dsimp only at hj hos
     have ht32:=tt_bd hkb.1 (a:=3) (b:=2) (by omega) (by omega)
     refine ⟨fun _=>by decide,qb hkb (by decide),fun _=>by decide,fun h=>?_,fun h=>?_⟩
     ·have hjl:(j:Int)≤tt k 3 2:=of_decide_eq_true h
      clear h
      have hqb:=pick_bd l (3+4 * i+j) 1000000 (by omega)
      have hdo:dlOpt l (dlPart l).length (dlN l) i j=_:=rfl
      conv at hdo=>rhs; unfold dlOpt
      dsimp only at hdo
      refine ⟨fun _=>⟨by omega,by omega⟩,fun _=>⟨by omega,by omega⟩,fun _=>⟨by dsimp only; omega,by dsimp only; omega⟩,.inl ⟨_,fun _=>(pick_spec l (3+4 * i+j) 1000000 hl (by omega)).ok,?_⟩⟩
      generalize hq:pick l (3+4 * i+j) 1000000=q at *
      have ht1:=tt_bd hqb.1 (a:=12) (b:=2) (by omega) (by omega)
      have ht2:=tt_bd hqb.1 (a:=24) (b:=4) (by omega) (by omega)
      have htm:=mul_bd ht1 ht2
      refine ⟨fun _=>by omega,fun _=>⟨by omega,by omega⟩,fun _=>⟨by omega,by omega⟩,fun _=>by decide,qb hqb (by decide),fun _=>by decide,fun _=>by decide,qb hqb (by decide),fun _=>by decide,fun _=>⟨?_,?_⟩,fun _=>⟨?_,?_⟩,?_⟩
      ·show _≤tt q 12 2 * tt q 24 4
       omega
      ·show tt q 12 2 * tt q 24 4≤_
       omega
      ·show _≤(i:Int)+1+tt q 12 2 * tt q 24 4
       omega
      ·show (i:Int)+1+tt q 12 2 * tt q 24 4≤_
       omega
      refine ⟨fun _=>by decide,qb hqb (by decide),fun _=>by decide,fun h=>?_,fun h=>?_⟩
      ·have hq1:tt q 96 2=0:=eq_of_beq h
       clear h
       have hd192:=td_bd hqb.1 (c:=192) (by omega)
       refine ⟨fun _=>by decide,qb hqb (by decide),.inl ⟨_,fun _=>(amount_spec (q.tdiv 192) hd192.1 ⟨by omega,by omega⟩).ok,?_⟩⟩
       refine .inl ⟨[eAmt (amt (q.tdiv 192))],rfl,⟨rf,rf,tv⟩,fun y hy=>(by rcases List.mem_singleton.1 hy with rfl; rfl),?_⟩
       refine ⟨fun _=>by decide,qb hqb (by decide),fun _=>by decide,fun h=>?_,fun h=>?_⟩
       ·have hq2:tt q 2304 23=0:=eq_of_beq h
        clear h
        refine ⟨fun _=>by decide,qb hqb (by decide),fun _=>by omega,?_⟩
        refine .inl ⟨[eOpt (dlOpt l (dlPart l).length (dlN l) i j)],rfl,⟨le_int (by rw [hdo]),le_int (by rw [hdo]; simp only [hq2,if_true]; rfl),(by rw [hdo]; simp only [hq1,if_true]; exact rf),tv⟩,fun y hy=>(by rcases List.mem_singleton.1 hy with rfl; rfl),.inr ⟨[eOpt (dlOpt l (dlPart l).length (dlN l) i j)],ELes.refl _,(by rw [by91]; simp [hos,dlOpts_len]; omega),(by simp [hos,dlOpts_len]; omega),?_⟩⟩
        refine ⟨fun _=>⟨by dsimp only; omega,by dsimp only; omega⟩,⟨j+1,os++[dlOpt l (dlPart l).length (dlN l) i j]⟩,⟨⟨rf,rfl,rfl,rf,rf,rf,rfl,rf,le_int (by simp),tv⟩,⟨subWs_dvs _ _ _ (nth tab 39).zero,⟨rf,rf,rfl,tv⟩,⟨rfl,rfl⟩,⟨rf,rf,rfl,rf,rf,rf,tv⟩,⟨rfl,by simp⟩,tv⟩,rfl,rfl⟩,⟨by dsimp only; omega,by simp only [dlOpts,hos]⟩,by dsimp only; omega⟩
       ·have hq2:¬ tt q 2304 23=0:=ne_of_beq_false h
        clear h
        refine .inl ⟨[eOpt (dlOpt l (dlPart l).length (dlN l) i j)],rfl,⟨le_int (by rw [hdo]),le_int (by rw [hdo]; simp only [hq2,if_false]; rfl),(by rw [hdo]; simp only [hq1,if_true]; exact rf),tv⟩,fun y hy=>(by rcases List.mem_singleton.1 hy with rfl; rfl),.inr ⟨[eOpt (dlOpt l (dlPart l).length (dlN l) i j)],ELes.refl _,(by rw [by91]; simp [hos,dlOpts_len]; omega),(by simp [hos,dlOpts_len]; omega),?_⟩⟩
        refine ⟨fun _=>⟨by dsimp only; omega,by dsimp only; omega⟩,⟨j+1,os++[dlOpt l (dlPart l).length (dlN l) i j]⟩,⟨⟨rf,rfl,rfl,rf,rf,rf,rfl,rf,le_int (by simp),tv⟩,⟨subWs_dvs _ _ _ (nth tab 39).zero,⟨rf,rf,rfl,tv⟩,⟨rfl,rfl⟩,⟨rf,rf,rfl,rf,rf,rf,tv⟩,⟨rfl,by simp⟩,tv⟩,rfl,rfl⟩,⟨by dsimp only; omega,by simp only [dlOpts,hos]⟩,by dsimp only; omega⟩
      ·have hq1:¬ tt q 96 2=0:=ne_of_beq_false h
       clear h
       refine ⟨fun _=>by decide,qb hqb (by decide),fun _=>by decide,fun h=>?_,fun h=>?_⟩
       ·have hq2:tt q 2304 23=0:=eq_of_beq h
        clear h
        refine ⟨fun _=>by decide,qb hqb (by decide),fun _=>by omega,?_⟩
        refine .inl ⟨[eOpt (dlOpt l (dlPart l).length (dlN l) i j)],rfl,⟨le_int (by rw [hdo]),le_int (by rw [hdo]; simp only [hq2,if_true]; rfl),(by rw [hdo]; simp only [hq1,if_false]; exact DV.nils_le 2),tv⟩,fun y hy=>(by rcases List.mem_singleton.1 hy with rfl; rfl),.inr ⟨[eOpt (dlOpt l (dlPart l).length (dlN l) i j)],ELes.refl _,(by rw [by91]; simp [hos,dlOpts_len]; omega),(by simp [hos,dlOpts_len]; omega),?_⟩⟩
        refine ⟨fun _=>⟨by dsimp only; omega,by dsimp only; omega⟩,⟨j+1,os++[dlOpt l (dlPart l).length (dlN l) i j]⟩,⟨⟨rf,rfl,rfl,rf,rf,rf,rfl,rf,le_int (by simp),tv⟩,⟨subWs_dvs _ _ _ (nth tab 39).zero,⟨rf,rf,rfl,tv⟩,⟨rfl,rfl⟩,⟨rf,rf,rfl,rf,rf,rf,tv⟩,⟨rfl,by simp⟩,tv⟩,rfl,rfl⟩,⟨by dsimp only; omega,by simp only [dlOpts,hos]⟩,by dsimp only; omega⟩
       ·have hq2:¬ tt q 2304 23=0:=ne_of_beq_false h
        clear h
        refine .inl ⟨[eOpt (dlOpt l (dlPart l).length (dlN l) i j)],rfl,⟨le_int (by rw [hdo]),le_int (by rw [hdo]; simp only [hq2,if_false]; rfl),(by rw [hdo]; simp only [hq1,if_false]; exact DV.nils_le 2),tv⟩,fun y hy=>(by rcases List.mem_singleton.1 hy with rfl; rfl),.inr ⟨[eOpt (dlOpt l (dlPart l).length (dlN l) i j)],ELes.refl _,(by rw [by91]; simp [hos,dlOpts_len]; omega),(by simp [hos,dlOpts_len]; omega),?_⟩⟩
        refine ⟨fun _=>⟨by dsimp only; omega,by dsimp only; omega⟩,⟨j+1,os++[dlOpt l (dlPart l).length (dlN l) i j]⟩,⟨⟨rf,rfl,rfl,rf,rf,rf,rfl,rf,le_int (by simp),tv⟩,⟨subWs_dvs _ _ _ (nth tab 39).zero,⟨rf,rf,rfl,tv⟩,⟨rfl,rfl⟩,⟨rf,rf,rfl,rf,rf,rf,tv⟩,⟨rfl,by simp⟩,tv⟩,rfl,rfl⟩,⟨by dsimp only; omega,by simp only [dlOpts,hos]⟩,by dsimp only; omega⟩
     ·have hjl:¬ (j:Int)≤tt k 3 2:=of_decide_eq_false h
      clear h
      have hje:j=(tt k 3 2).toNat+1:=by omega
      subst hje
      refine ⟨fun _=>by decide,qb hkb (by decide),fun _=>by decide,fun h=>?_,fun h=>?_⟩
      ·have hk6:0<tt k 6 3:=of_decide_eq_true h
       clear h
       have ht18:=tt_bd hkb.1 (a:=18) (b:=9) (by omega) (by omega)
       have hta:=tt_bd hkb.1 (a:=162) (b:=2) (by omega) (by omega)
       have htb:=tt_bd hkb.1 (a:=324) (b:=dlN l) (by omega) (by omega)
       have htm:=mul_bd hta htb
       refine ⟨fun _=>by decide,qb hkb (by decide),fun _=>by decide,fun _=>⟨?_,?_⟩,fun _=>⟨by omega,by omega⟩,fun _=>by decide,qb hkb (by decide),fun _=>by decide,fun _=>by decide,qb hkb (by decide),fun _=>by omega,fun _=>⟨?_,?_⟩,fun _=>⟨?_,?_⟩,fun h=>?_,fun h=>?_⟩
       ·show _≤1+tt k 18 9
        omega
       ·show 1+tt k 18 9≤_
        omega
       ·show _≤tt k 162 2 * tt k 324 (dlN l)
        omega
       ·show tt k 162 2 * tt k 324 (dlN l)≤_
        omega
       ·show _≤dlN l - 1 - tt k 162 2 * tt k 324 (dlN l)
        omega
       ·show dlN l - 1 - tt k 162 2 * tt k 324 (dlN l)≤_
        omega
       ·have hkl:dlN l - 1 - tt k 162 2 * tt k 324 (dlN l)≤i:=of_decide_eq_true h
        clear h
        refine ⟨fun _=>⟨by omega,by omega⟩,?_⟩
        refine ⟨fun _=>by decide,qb hkb (by decide),fun _=>by decide,fun h=>?_,fun h=>?_⟩
        ·have hk5:tt k 5000 17=0:=eq_of_beq h
         clear h
         refine .inl ⟨[oSta (dlSta l (dlPart l).length (dlN l) i)],rfl,?_,fun y hy=>(by rcases List.mem_singleton.1 hy with rfl; rfl),.inr ⟨[oSta (dlSta l (dlPart l).length (dlN l) i)],ELes.refl _,(by rw [by37]; simp; omega),(by simp; omega),?_⟩⟩
         ·rw [hdf]
          exact ⟨rf,rf,(by simp only [hk5,if_true]; exact DV.nils_le 3),le_int (by simp only [hk6,if_true]; rfl),le_int (by simp only [hk6,if_true,dlLate,hkl,if_true]),rf,tv⟩
         refine ⟨fun _=>⟨by omega,by omega⟩,⟨i+1,ss++[dlSta l (dlPart l).length (dlN l) i]⟩,⟨⟨rf,rfl,rfl,rf,rf,le_int (by simp),tv⟩,⟨subWs_dvs _ _ _ (nth tab 39).zero,⟨rf,rf,rfl,tv⟩,⟨rfl,by simp⟩,tv⟩,rfl,rfl⟩,⟨by dsimp only; omega,hst.symm⟩,by dsimp only; omega⟩
        ·have hk5:¬ tt k 5000 17=0:=ne_of_beq_false h
         clear h
         refine .inl ⟨[oSta (dlSta l (dlPart l).length (dlN l) i)],rfl,?_,fun y hy=>(by rcases List.mem_singleton.1 hy with rfl; rfl),.inr ⟨[oSta (dlSta l (dlPart l).length (dlN l) i)],ELes.refl _,(by rw [by37]; simp; omega),(by simp; omega),?_⟩⟩
         ·rw [hdf]
          exact ⟨rf,rf,(by simp only [hk5,if_false]; refine DV.Le.of_eq ?_; show DV.sl 3 (fzL (os.map eOpt))=_; rw [fzL_map fun _=>rfl,hos]),le_int (by simp only [hk6,if_true]; rfl),le_int (by simp only [hk6,if_true,dlLate,hkl,if_true]),rf,tv⟩
         refine ⟨fun _=>⟨by omega,by omega⟩,⟨i+1,ss++[dlSta l (dlPart l).length (dlN l) i]⟩,⟨⟨rf,rfl,rfl,rf,rf,le_int (by simp),tv⟩,⟨subWs_dvs _ _ _ (nth tab 39).zero,⟨rf,rf,rfl,tv⟩,⟨rfl,by simp⟩,tv⟩,rfl,rfl⟩,⟨by dsimp only; omega,hst.symm⟩,by dsimp only; omega⟩
       ·have hkl:¬ dlN l - 1 - tt k 162 2 * tt k 324 (dlN l)≤i:=of_decide_eq_false h
        clear h
        refine ⟨fun _=>by decide,qb hkb (by decide),fun _=>by decide,fun h=>?_,fun h=>?_⟩
        ·have hk5:tt k 5000 17=0:=eq_of_beq h
         clear h
         refine .inl ⟨[oSta (dlSta l (dlPart l).length (dlN l) i)],rfl,?_,fun y hy=>(by rcases List.mem_singleton.1 hy with rfl; rfl),.inr ⟨[oSta (dlSta l (dlPart l).length (dlN l) i)],ELes.refl _,(by rw [by37]; simp; omega),(by simp; omega),?_⟩⟩
         ·rw [hdf]
          exact ⟨rf,rf,(by simp only [hk5,if_true]; exact DV.nils_le 3),le_int (by simp only [hk6,if_true]; rfl),le_int (by simp only [hk6,if_true,dlLate,hkl,if_false]; rfl),rf,tv⟩
         refine ⟨fun _=>⟨by omega,by omega⟩,⟨i+1,ss++[dlSta l (dlPart l).length (dlN l) i]⟩,⟨⟨rf,rfl,rfl,rf,rf,le_int (by simp),tv⟩,⟨subWs_dvs _ _ _ (nth tab 39).zero,⟨rf,rf,rfl,tv⟩,⟨rfl,by simp⟩,tv⟩,rfl,rfl⟩,⟨by dsimp only; omega,hst.symm⟩,by dsimp only; omega⟩
        ·have hk5:¬ tt k 5000 17=0:=ne_of_beq_false h
         clear h
         refine .inl ⟨[oSta (dlSta l (dlPart l).length (dlN l) i)],rfl,?_,fun y hy=>(by rcases List.mem_singleton.1 hy with rfl; rfl),.inr ⟨[oSta (dlSta l (dlPart l).length (dlN l) i)],ELes.refl _,(by rw [by37]; simp; omega),(by simp; omega),?_⟩⟩
         ·rw [hdf]
          exact ⟨rf,rf,(by simp only [hk5,if_false]; refine DV.Le.of_eq ?_; show DV.sl 3 (fzL (os.map eOpt))=_; rw [fzL_map fun _=>rfl,hos]),le_int (by simp only [hk6,if_true]; rfl),le_int (by simp only [hk6,if_true,dlLate,hkl,if_false]; rfl),rf,tv⟩
         refine ⟨fun _=>⟨by omega,by omega⟩,⟨i+1,ss++[dlSta l (dlPart l).length (dlN l) i]⟩,⟨⟨rf,rfl,rfl,rf,rf,le_int (by simp),tv⟩,⟨subWs_dvs _ _ _ (nth tab 39).zero,⟨rf,rf,rfl,tv⟩,⟨rfl,by simp⟩,tv⟩,rfl,rfl⟩,⟨by dsimp only; omega,hst.symm⟩,by dsimp only; omega⟩
      ·have hk6:¬ 0<tt k 6 3:=of_decide_eq_false h
       clear h
       refine ⟨fun _=>by decide,qb hkb (by decide),fun _=>by decide,fun h=>?_,fun h=>?_⟩
       ·have hk5:tt k 5000 17=0:=eq_of_beq h
        clear h
        refine .inl ⟨[oSta (dlSta l (dlPart l).length (dlN l) i)],rfl,?_,fun y hy=>(by rcases List.mem_singleton.1 hy with rfl; rfl),.inr ⟨[oSta (dlSta l (dlPart l).length (dlN l) i)],ELes.refl _,(by rw [by37]; simp; omega),(by simp; omega),?_⟩⟩
        ·rw [hdf]
         exact ⟨rf,rf,(by simp only [hk5,if_true]; exact DV.nils_le 3),le_int (by simp only [hk6,if_false]),le_int (by simp only [hk6,if_false]),rf,tv⟩
        refine ⟨fun _=>⟨by omega,by omega⟩,⟨i+1,ss++[dlSta l (dlPart l).length (dlN l) i]⟩,⟨⟨rf,rfl,rfl,rf,rf,le_int (by simp),tv⟩,⟨subWs_dvs _ _ _ (nth tab 39).zero,⟨rf,rf,rfl,tv⟩,⟨rfl,by simp⟩,tv⟩,rfl,rfl⟩,⟨by dsimp only; omega,hst.symm⟩,by dsimp only; omega⟩
       ·have hk5:¬ tt k 5000 17=0:=ne_of_beq_false h
        clear h
        refine .inl ⟨[oSta (dlSta l (dlPart l).length (dlN l) i)],rfl,?_,fun y hy=>(by rcases List.mem_singleton.1 hy with rfl; rfl),.inr ⟨[oSta (dlSta l (dlPart l).length (dlN l) i)],ELes.refl _,(by rw [by37]; simp; omega),(by simp; omega),?_⟩⟩
        ·rw [hdf]
         exact ⟨rf,rf,(by simp only [hk5,if_false]; refine DV.Le.of_eq ?_; show DV.sl 3 (fzL (os.map eOpt))=_; rw [fzL_map fun _=>rfl,hos]),le_int (by simp only [hk6,if_false]),le_int (by simp only [hk6,if_false]),rf,tv⟩
        refine ⟨fun _=>⟨by omega,by omega⟩,⟨i+1,ss++[dlSta l (dlPart l).length (dlN l) i]⟩,⟨⟨rf,rfl,rfl,rf,rf,le_int (by simp),tv⟩,⟨subWs_dvs _ _ _ (nth tab 39).zero,⟨rf,rf,rfl,tv⟩,⟨rfl,by simp⟩,tv⟩,rfl,rfl⟩,⟨by dsimp only; omega,hst.symm⟩,by dsimp only; omega⟩
  ·have hin:i=(dlN l).toNat:=by
    have:¬ (i:Int)<dlN l:=by simpa using h
    omega
   subst hin
   subst hss
   have hg:=given_spec l hl (dl0 l) (dl0_ok l)
   generalize tch (givD l (dl0 l)).states=tb at hg
   cases tb
   all_goals
    refine .inr ⟨[2],[dA (dl0 l) 0,.dv (Ints l)],[(0,tS (dl0 l).states)],0,_,_,hg,rfl,rfl,⟨⟨rf,rf,rfl,tv⟩,rf,tv⟩,⟨⟨rfl,rfl⟩,tv⟩,?_⟩
    exact ⟨DV.agg_le ⟨rf,rf,fz_states _,tv⟩ (by intro d hd; simp only [List.mem_cons,List.not_mem_nil,or_false] at hd; rcases hd with rfl | rfl | rfl <;> rfl),tv⟩
end Go.Proofs.Ytfcfbfkjdenpdaa
