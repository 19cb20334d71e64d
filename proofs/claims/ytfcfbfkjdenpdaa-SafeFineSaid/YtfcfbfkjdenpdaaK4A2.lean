import Derived.Test.YtfcfbfkjdenpdaaK4A1
set_option linter.unusedVariables false
set_option linter.unusedSimpArgs false
set_option linter.unusedSectionVars false
namespace Go.Proofs.Ytfcfbfkjdenpdaa
open Go.TM
def digit (i:Nat):ByteArray:=⟨#[UInt8.ofNat (48+i)]⟩
theorem decimal_spec (i:Nat) (hi:i<10):PSpec Try.prog 49 [I i] [.str (digit i)]:=by
 refine pspec_of tab_ok mixed (calls_snd _) (range_snd _) Try.func49 rfl (by kernel_rfl) rfl ?_
 refine ⟨fun h=>?_,fun h=>?_⟩
 ·have:i=0:=by simpa using h
  subst this
  exact ⟨rf,tv⟩
 ·have h0:i ≠ 0:=by simpa using h
  clear h
  refine ⟨Bool,fun b=>⟨0,[(0,.dv (I i)),(3,.dv (.str ⟨#[48,49,50,51,52,53,54,55,56,57]⟩)),(4,.dv (.str (bif b then digit i else ⟨#[]⟩))),(5,.dv (I (bif b then 0 else i)))],[]⟩,fun _=>True,fun b=>bif b then 0 else 1,false,fun _=>rfl,?_,tv,?_⟩
  ·exact ⟨⟨rf,rf,rf,rf,tv⟩,tv,rfl,rfl⟩
  ·intro b _
   have ht:(i:Int).tmod 10=i:=by rw [Int.tmod_eq_emod_of_nonneg (by omega)]; omega
   have hq:(i:Int).tdiv 10=0:=by rw [Int.tdiv_eq_ediv_of_nonneg (by omega)]; omega
   cases b
   ·refine ⟨fun h=>?_,fun h=>?_⟩
    ·clear h
     refine ⟨fun _=>by omega,fun h=>?_,fun h=>?_⟩
     ·exfalso
      have:((i:Int).tmod 10)<0:=by simpa using h
      omega
     ·clear h
      refine ⟨fun _=>⟨?_,?_⟩,fun _=>?_,fun _=>?_,fun _=>by omega,fun _=>?_,true,⟨⟨rf,rf,DV.Le.of_eq (congrArg DV.str ?_),le_int ?_,tv⟩,tv,rfl,rfl⟩,tv,?_⟩
      ·show _≤(i:Int).tmod 10+1
       omega
      ·show (i:Int).tmod 10+1≤_
       omega
      ·show 0≤(i:Int).tmod 10∧(i:Int).tmod 10≤(i:Int).tmod 10+1∧(i:Int).tmod 10+1≤10
       omega
      ·show ((((ByteArray.extract ⟨#[48,49,50,51,52,53,54,55,56,57]⟩ ((i:Int).tmod 10).toNat ((i:Int).tmod 10+1).toNat).size+(ByteArray.mk #[]).size:Nat)):Int)≤_
       simp only [ByteArray.size_extract]
       have:(ByteArray.mk #[48,49,50,51,52,53,54,55,56,57]).size=10:=rfl
       have:(ByteArray.mk #[]).size=0:=rfl
       omega
      ·show _≤(i:Int).tdiv 10∧(i:Int).tdiv 10≤_
       omega
      ·show (ByteArray.extract ⟨#[48,49,50,51,52,53,54,55,56,57]⟩ ((i:Int).tmod 10).toNat ((i:Int).tmod 10+1).toNat)++⟨#[]⟩=digit i
       rw [ht]
       match i,hi with
       | 0,_=>rfl
       | 1,_=>rfl
       | 2,_=>rfl
       | 3,_=>rfl
       | 4,_=>rfl
       | 5,_=>rfl
       | 6,_=>rfl
       | 7,_=>rfl
       | 8,_=>rfl
       | 9,_=>rfl
      ·exact hq
      ·exact Nat.zero_lt_one
    ·simp at h; omega
   ·refine ⟨fun h=>?_,fun h=>?_⟩
    ·simp at h
    ·refine ⟨fun h=>?_,fun h=>?_⟩
     ·simp at h; omega
     ·exact ⟨rf,tv⟩
def sname (i:Nat):ByteArray:=⟨#[115]⟩++digit i
theorem state_spec (i:Nat) (hi:i<10):PSpec Try.prog 55 [I i] [.str (sname i)]:=by
 refine pspec_of tab_ok mixed (calls_snd _) (range_snd _) Try.func55 rfl (by kernel_rfl) rfl ?_
 refine .inl ⟨_,fun _=>(decimal_spec i hi).ok,fun _=>?_,rf,tv⟩
 show (((2:Nat)):Int)≤_
 decide
def amt (k:Int):Int × Int:=(k.tmod 3,1+(k.tdiv 3).tmod 4)
theorem amount_spec (k:Int) (hk:0≤k) (hi:InI k):PSpec Try.prog 50 [I k] [eAmt (amt k)]:=by
 refine pspec_of tab_ok mixed (calls_snd _) (range_snd _) Try.func50 rfl (by kernel_rfl) rfl ?_
 unfold InI at hi
 have h3:k.tdiv 3=k / 3:=Int.tdiv_eq_ediv_of_nonneg hk
 have h4:(k / 3).tmod 4=k / 3 % 4:=Int.tmod_eq_emod_of_nonneg (by omega)
 refine ⟨fun _=>by omega,fun _=>by omega,fun _=>by omega,fun _=>by omega,fun _=>by rw [h3,h4]; omega,?_⟩
 exact ⟨rf,tv⟩
def gK (l:List Int) (i:Int):Boxes:=[(0,.cells (dvs [Ints l,I i]))]
theorem next_spec (l:List Int) (i m:Int) (hl:∀x,x∈l→InI x) (hm:1≤m) (hi:0≤i) (hi2:i≤1000000):CSpec Try.prog 53 [.ptr 0 0,.dv (I m)] 1 (gK l i) 0 [.dv (I (pick l i m))] (gK l (i+1)):=by
 refine cspec_of tab_ok mixed (calls_snd _) (range_snd _) Try.func53 rfl rfl (by kernel_rfl) ?_
 have hpk:=(pick_spec l (i+1 - 1) m hl hm).ok
 have e:i+1 - 1=i:=by omega
 refine ⟨fun _=>⟨by omega,by omega⟩,fun _=>⟨by omega,by omega⟩,.inl ⟨_,fun _=>hpk,by kernel_rfl,?_⟩⟩
 rw [e]
 exact ⟨_,_,⟨rfl,rfl⟩,rfl,⟨rf,tv⟩,subWs_dvs _ _ _ [Ints l,I (i+1)],tv⟩
def pnames:List ByteArray:=[⟨#[97]⟩,⟨#[98,117,121,101,114]⟩,⟨#[98,121]⟩,⟨#[116,111]⟩]
theorem parties_spec (l:List Int) (i:Int) (hl:∀x,x∈l→InI x) (hi:0≤i) (hi2:i≤1000000):CSpec Try.prog 54 [.ptr 0 0] 1 (gK l i) 0 [.dv (.sl 1 ((pnames.take (1+pick l i 4).toNat).map .str))] (gK l (i+1)):=by
 refine cspec_of tab_ok mixed (calls_snd _) (range_snd _) Try.func54 rfl rfl (by kernel_rfl) ?_
 have hb:=pick_bd l i 4 (by omega)
 refine .inl ⟨pnames.map .str,rfl,⟨rf,rf,rf,rf,tv⟩,fun y hy=>?_,?_⟩
 ·obtain ⟨s,-,rfl⟩:=List.mem_map.1 hy
  rfl
 refine .inr ⟨[0],[.ptr 0 0,.dv (I 4)],gK l i,0,_,_,next_spec l i 4 hl (by omega) hi hi2,rfl,rfl,⟨rfl,rf,tv⟩,⟨subWs_dvs _ _ _ [Ints l,I i],tv⟩,?_⟩
 refine ⟨fun _=>⟨by omega,by omega⟩,fun _=>?_,?_⟩
 ·show 0≤(0:Int)∧0≤1+pick l i 4∧1+pick l i 4≤4
  omega
 ·refine ⟨_,_,⟨rfl,rfl⟩,rfl,⟨DV.Le.of_eq ?_,tv⟩,subWs_dvs _ _ _ [Ints l,I (i+1)],tv⟩
  show DV.sl 1 (List.take (1+pick l i 4).toNat (pnames.map .str))=_
  rw [List.map_take]
end Go.Proofs.Ytfcfbfkjdenpdaa
namespace Go.Proofs.Ytfcfbfkjdenpdaa
open Go.TM
theorem by56:(nth tab (nth tab 56).elem).bytes=16:=rfl
structure AmSt where
 k:Int
 a:Int
 pos:Int
 out:List (Int × Int)
def amLoop (l:List Int) (n:Int):Nat→AmSt→AmSt
 | 0,s=>s
 | f+1,s=>if 0<s.k∧s.a<n then amLoop l n f ⟨s.k - 1,s.a+1+pick l (s.pos+1) 3,s.pos+2,s.out++[(s.a,1+pick l s.pos 5)]⟩ else s
def amts (l:List Int) (n pos:Int):AmSt:=amLoop l n 3 ⟨pick l (pos+1) 3,pick l pos n,pos+2,[]⟩
structure AmOk (l:List Int) (n pos:Int) (s:AmSt):Prop where
 k0:0≤s.k
 k3:s.k<3
 a0:0≤s.a
 ps:s.pos=pos+2+2 * s.out.length
 len:(s.out.length:Int)+s.k≤2
 a1:s.a≤n+4 * s.out.length
 fin:amLoop l n (s.k.toNat+1) s=amts l n pos
theorem amLoop_stop {l:List Int} {n:Int} {s:AmSt} (h:¬ (0<s.k∧s.a<n)):∀f,amLoop l n f s=s
 | 0=>rfl
 | f+1=>by simp only [amLoop]; rw [if_neg h]
theorem amLoop_fuel {l:List Int} {n:Int}:∀(f:Nat) (s:AmSt),s.k.toNat≤f→amLoop l n f s=amLoop l n s.k.toNat s
 | 0,s,h=>by rw [Nat.le_zero.1 h]
 | f+1,s,h=>by
  by_cases hc:0<s.k∧s.a<n
  ·obtain ⟨m,hm⟩:∃m,s.k.toNat=m+1:=⟨s.k.toNat - 1,by omega⟩
   rw [hm]
   simp only [amLoop]
   rw [if_pos hc,if_pos hc]
   rw [amLoop_fuel f _ (by show (s.k - 1).toNat≤f; omega),←amLoop_fuel m _ (by show (s.k - 1).toNat≤m; omega)]
  ·rw [amLoop_stop hc,amLoop_stop hc]
theorem amounts_spec (l:List Int) (n i:Int) (hl:∀x,x∈l→InI x) (hn:1≤n) (hn2:n≤1000) (hi:0≤i) (hi2:i≤900000):CSpec Try.prog 56 [.ptr 0 0,.dv (I n)] 1 (gK l i) 0 [.dv (ePut (amts l n i).out)] (gK l (amts l n i).pos):=by
 refine cspec_of tab_ok mixed (calls_snd _) (range_snd _) Try.func56 rfl rfl (by kernel_rfl) ?_
 have hb1:=pick_bd l i n (by omega)
 have hb2:=pick_bd l (i+1) 3 (by omega)
 refine .inr ⟨[0],[.ptr 0 0,.dv (I n)],gK l i,0,_,_,next_spec l i n hl (by omega) hi (by omega),rfl,rfl,⟨rfl,rf,tv⟩,⟨subWs_dvs _ _ _ [Ints l,I i],tv⟩,?_⟩
 refine .inr ⟨[0],[.ptr 0 0,.dv (I 3)],gK l (i+1),0,_,_,next_spec l (i+1) 3 hl (by omega) (by omega) (by omega),rfl,rfl,⟨rfl,rf,tv⟩,⟨subWs_dvs _ _ _ [Ints l,I (i+1)],tv⟩,?_⟩
 refine ⟨AmSt,fun s=>⟨2,[(0,.ptr 0 0),(1,.dv (I n)),(5,.own 1 0 0 []),(6,.dv (I s.a)),(7,.dv (I s.k))],[(0,.cells (dvs [Ints l,I s.pos])),(1,.tree 0 0 (.osl 2 (s.out.map eAmt)))]⟩,AmOk l n i,fun s=>s.k.toNat,⟨pick l (i+1) 3,pick l i n,i+2,[]⟩,fun _=>rfl,?_,?_,?_⟩
 ·exact ⟨⟨rfl,rf,⟨rfl,rfl,rfl,rfl,2,rfl⟩,rf,rf,tv⟩,⟨⟨rf,le_int (by show i+1+1=i+2; omega),tv⟩,⟨rfl,rfl,2,rfl⟩,tv⟩,rfl,rfl⟩
 ·refine ⟨by dsimp only; omega,by dsimp only; omega,by dsimp only; omega,by simp,by simp; omega,by simp; omega,?_⟩
  unfold amts
  rw [amLoop_fuel (_+1) _ (by omega),amLoop_fuel 3 _ (by dsimp only; omega)]
 ·intro s hs
  have hk0:=hs.k0
  have hk3:=hs.k3
  have ha0:=hs.a0
  have hps:=hs.ps
  have hln:=hs.len
  have ha1:=hs.a1
  refine ⟨id,id,fun _ h=>bw_t h,fun h=>?_,fun h=>?_⟩
  ·obtain ⟨h1,h2⟩:=bif_t h
   have hk:0<s.k:=by simpa using h1
   have ha:s.a<n:=by simpa using h2
   have hb3:=pick_bd l s.pos 5 (by omega)
   have hb4:=pick_bd l (s.pos+1) 3 (by omega)
   refine .inr ⟨[0],[.ptr 0 0,.dv (I 5)],gK l s.pos,0,_,_,next_spec l s.pos 5 hl (by omega) (by omega) (by omega),rfl,rfl,⟨rfl,rf,tv⟩,⟨subWs_dvs _ _ _ [Ints l,I s.pos],tv⟩,?_⟩
   refine ⟨fun _=>⟨by omega,by omega⟩,.inl ⟨[eAmt (s.a,1+pick l s.pos 5)],rfl,⟨rf,rf,tv⟩,fun y hy=>(by rcases List.mem_singleton.1 hy with rfl; rfl),.inr ⟨[eAmt (s.a,1+pick l s.pos 5)],ELes.refl _,(by rw [by56]; simp; omega),(by simp; omega),?_⟩⟩⟩
   refine ⟨fun _=>⟨by omega,by omega⟩,?_⟩
   refine .inr ⟨[0],[.ptr 0 0,.dv (I 3)],gK l (s.pos+1),0,_,_,next_spec l (s.pos+1) 3 hl (by omega) (by omega) (by omega),rfl,rfl,⟨rfl,rf,tv⟩,⟨subWs_dvs _ _ _ [Ints l,I (s.pos+1)],tv⟩,?_⟩
   refine ⟨fun _=>⟨by omega,by omega⟩,fun _=>⟨by omega,by omega⟩,?_⟩
   refine ⟨⟨s.k - 1,s.a+1+pick l (s.pos+1) 3,s.pos+2,s.out++[(s.a,1+pick l s.pos 5)]⟩,⟨⟨rfl,rf,rfl,rf,rf,tv⟩,⟨⟨rf,le_int (by show s.pos+1+1=s.pos+2; omega),tv⟩,⟨rfl,by simp⟩,tv⟩,rfl,rfl⟩,?_,?_⟩
   ·refine ⟨by dsimp only; omega,by dsimp only; omega,by dsimp only; omega,by simp; omega,by simp; omega,by simp; omega,?_⟩
    rw [←hs.fin]
    conv=>rhs; unfold amLoop
    rw [if_pos ⟨hk,ha⟩,amLoop_fuel _ _ (Nat.le_succ _),amLoop_fuel s.k.toNat _ (by dsimp only; omega)]
   ·show (s.k - 1).toNat<s.k.toNat
    omega
  ·have hstop:amts l n i=s:=by
    rw [←hs.fin]
    refine amLoop_stop (fun hc=>?_) _
    have:=bif_f h
    exact this ⟨by simpa using hc.1,by simpa using hc.2⟩
   refine ⟨_,_,⟨rfl,rfl⟩,rfl,⟨?_,tv⟩,?_,tv⟩
   ·rw [hstop]
    refine DV.Le.of_eq ?_
    show DV.sl 2 (fzL (s.out.map eAmt))=_
    rw [fzL_map fun _=>rfl]
    rfl
   ·rw [hstop]
    exact subWs_dvs _ _ _ [Ints l,I s.pos]
end Go.Proofs.Ytfcfbfkjdenpdaa
namespace Go.Proofs.Ytfcfbfkjdenpdaa
open Go.TM
theorem amts_bd (l:List Int) (n pos:Int):(amts l n pos).out.length≤2∧pos+2≤(amts l n pos).pos∧(amts l n pos).pos≤pos+6:=by
 have hb:=pick_bd l (pos+1) 3 (by omega)
 have key:∀(f:Nat) (s:AmSt),0≤s.k→(s.out.length:Int)+s.k≤2→s.pos=pos+2+2 * s.out.length→(amLoop l n f s).out.length≤2∧pos+2≤(amLoop l n f s).pos∧(amLoop l n f s).pos≤pos+6:=by
  intro f
  induction f with
  | zero=>intro s h0 h1 h2; simp only [amLoop]; omega
  | succ f ih =>
   intro s h0 h1 h2
   simp only [amLoop]
   split
   ·exact ih _ (by dsimp only; omega) (by simp; omega) (by simp; omega)
   ·omega
 exact key 3 _ (by dsimp only; omega) (by simp; omega) (by simp)
structure OpSt where
 k:Int
 pos:Int
 out:List Opt
def opStep (l:List Int) (items parties n:Int) (s:OpSt):OpSt :=
 ⟨s.k - 1,(amts l items (s.pos+2)).pos,s.out++[⟨pick l s.pos parties,pick l (s.pos+1) n,(amts l items (s.pos+2)).out⟩]⟩
def opLoop (l:List Int) (items parties n:Int):Nat→OpSt→OpSt
 | 0,s=>s
 | f+1,s=>opLoop l items parties n f (opStep l items parties n s)
def opsOf (l:List Int) (items parties n:Int) (fin:Bool) (pos:Int):OpSt:=opLoop l items parties n (bif fin then 0 else (pick l pos 4).toNat) ⟨pick l pos 4,pos+1,[]⟩
def gvLoop (l:List Int) (items:Int) (pos:Int):Nat→Int × List Giv
 | 0=>(pos,[])
 | k+1=>let s:=gvLoop l items pos k; let a:=amts l items s.1; (a.pos,s.2++a.out.map fun x=>⟨k,x.1,x.2⟩)
def mkSta (l:List Int) (items parties n:Int) (i:Nat) (pos:Int):Sta × Int :=
 let fin:=pick l pos 3 == 0
 let o:=opsOf l items parties n fin (pos+1)
 bif fin then
  let g:=gvLoop l items o.pos parties.toNat
  (⟨sname i,true,o.out,0,0,g.2⟩,g.1)
 else bif pick l o.pos 2 == 0 then (⟨sname i,false,o.out,1+pick l (o.pos+1) 20,pick l (o.pos+2) n,[]⟩,o.pos+3)
 else (⟨sname i,false,o.out,0,0,[]⟩,o.pos+1)
def mkStas (l:List Int) (items parties n:Int) (pos:Int):Nat→List Sta × Int
 | 0=>([],pos)
 | i+1=>let s:=mkStas l items parties n pos i; let t:=mkSta l items parties n i s.2; (s.1++[t.1],t.2)
def mnames:List ByteArray:=[⟨#[100,101,97,108]⟩,⟨#[115,119,97,112]⟩,⟨#[120]⟩]
def mkPart (l:List Int):List ByteArray:=pnames.take (1+pick l 1 4).toNat
def mkN (l:List Int):Int:=1+pick l 2 5
def mkDeal (l:List Int) (items:Int):Dea:=⟨mnames.getD (pick l 0 3).toNat ⟨#[]⟩,mkPart l,(mkStas l items (mkPart l).length (mkN l) 3 (mkN l).toNat).1⟩
theorem opLoop_succ (l:List Int) (items parties n:Int):∀(f:Nat) (s:OpSt),opLoop l items parties n (f+1) s=opStep l items parties n (opLoop l items parties n f s)
 | 0,_=>rfl
 | f+1,s=>opLoop_succ l items parties n f (opStep l items parties n s)
theorem opLoop_ok (l:List Int) (items parties n:Int) (s:OpSt):∀f:Nat,(opLoop l items parties n f s).k=s.k - f∧s.pos≤(opLoop l items parties n f s).pos∧(opLoop l items parties n f s).pos≤s.pos+8 * f∧(opLoop l items parties n f s).out.length=s.out.length+f
 | 0=>by simp [opLoop]
 | f+1=>by
  obtain ⟨h1,h2,h3,h4⟩:=opLoop_ok l items parties n s f
  have hb:=amts_bd l items ((opLoop l items parties n f s).pos+2)
  rw [opLoop_succ]
  refine ⟨?_,?_,?_,?_⟩
  ·show (opLoop l items parties n f s).k - 1=_
   omega
  ·show s.pos≤(amts l items ((opLoop l items parties n f s).pos+2)).pos
   omega
  ·show (amts l items ((opLoop l items parties n f s).pos+2)).pos≤_
   omega
  ·show ((opLoop l items parties n f s).out++[_]).length=_
   simp; omega
theorem gvLoop_ok (l:List Int) (items pos:Int):∀k:Nat,pos≤(gvLoop l items pos k).1∧(gvLoop l items pos k).1≤pos+6 * k∧(gvLoop l items pos k).2.length≤2 * k
 | 0=>by simp [gvLoop]
 | k+1=>by
  obtain ⟨h1,h2,h3⟩:=gvLoop_ok l items pos k
  have hb:=amts_bd l items (gvLoop l items pos k).1
  simp only [gvLoop,List.length_append,List.length_map]
  omega
theorem opsOf_ok (l:List Int) (items parties n:Int) (fin:Bool) (pos:Int):pos+1≤(opsOf l items parties n fin pos).pos∧(opsOf l items parties n fin pos).pos≤pos+25∧(opsOf l items parties n fin pos).out.length≤3:=by
 have hb:=pick_bd l pos 4 (by omega)
 obtain ⟨h1,h2,h3,h4⟩:=opLoop_ok l items parties n ⟨pick l pos 4,pos+1,[]⟩ (bif fin then 0 else (pick l pos 4).toNat)
 unfold opsOf
 have:(bif fin then 0 else (pick l pos 4).toNat)≤3:=by cases fin <;> simp <;> omega
 simp only [List.length_nil] at h4
 dsimp only at h2 h3
 omega
theorem mkSta_ok (l:List Int) (items parties n:Int) (hp:parties≤4) (i:Nat) (pos:Int):pos≤(mkSta l items parties n i pos).2∧(mkSta l items parties n i pos).2≤pos+60∧(mkSta l items parties n i pos).1.opts.length≤3:=by
 obtain ⟨h1,h2,h3⟩:=opsOf_ok l items parties n (pick l pos 3 == 0) (pos+1)
 unfold mkSta
 cases hf:(pick l pos 3 == 0) with
 | true =>
  rw [hf] at h1 h2 h3
  have:=gvLoop_ok l items (opsOf l items parties n true (pos+1)).pos parties.toNat
  simp only [cond_true]
  omega
 | false =>
  rw [hf] at h1 h2 h3
  simp only [cond_false]
  cases (pick l (opsOf l items parties n false (pos+1)).pos 2 == 0) <;> simp only [cond_true,cond_false] <;> omega
theorem mkStas_ok (l:List Int) (items parties n:Int) (hp:parties≤4) (pos:Int):∀i:Nat,pos≤(mkStas l items parties n pos i).2∧(mkStas l items parties n pos i).2≤pos+60 * i∧(mkStas l items parties n pos i).1.length=i∧∀x,x∈(mkStas l items parties n pos i).1→x.opts.length≤3
 | 0=>by simp [mkStas]
 | i+1=>by
  obtain ⟨h1,h2,h3,h4⟩:=mkStas_ok l items parties n hp pos i
  have hs:=mkSta_ok l items parties n hp i (mkStas l items parties n pos i).2
  simp only [mkStas]
  refine ⟨by omega,by omega,by simp [h3],fun x hx=>?_⟩
  rcases List.mem_append.1 hx with hx | hx
  ·exact h4 x hx
  ·rcases List.mem_singleton.1 hx with rfl; exact hs.2.2
structure Cat where
 items:List DV
 rules:List DV
 tabs:List DV
 taxes:List DV
def eCat (c:Cat) (a b e f:Nat):DV:=.agg [.sl a c.items,.sl b c.rules,.sl e c.tabs,.sl f c.taxes]
structure MkI where
 i:Nat
 ss:List Sta
 pos:Int
def mkK (l:List Int) (c:Cat) (a b e f:Nat) (na:ByteArray) (ss:List Sta) (pos:Int):Boxes:=[(0,.cells (dvs [.sl a c.items,.sl b c.rules,.sl e c.tabs,.sl f c.taxes])),(1,.cells (dvs (nth tab 39).zero)),(2,.cells (dvs [Ints l,I pos])),(3,.cells [.dv (.str na),.dv (.sl 1 ((mkPart l).map .str)),.own 4 0 0 []]),(4,.tree 0 0 (.osl 6 (ss.map eSta)))]
structure GvI where
 k:Nat
 pos:Int
 out:List Giv
structure OpI where
 j:Nat
 s:OpSt
theorem by91:(nth tab (nth tab 91).elem).bytes=40:=rfl
theorem by92:(nth tab (nth tab 92).elem).bytes=24:=rfl
theorem by37:(nth tab (nth tab 37).elem).bytes=88:=rfl
set_option maxHeartbeats 4000000 in
theorem make_spec (l:List Int) (c:Cat) (a b e f:Nat) (hl:∀x,x∈l→InI x) (hc:1≤c.items.length) (hc2:c.items.length≤1000):PSpec Try.prog 29 [eCat c a b e f,Ints l] [eDea (mkDeal l c.items.length)]:=by
 refine pspec_of tab_ok mixed (calls_snd _) (range_snd _) Try.func29 rfl (by kernel_rfl) rfl ?_
 refine .inl ⟨mnames.map .str,rfl,⟨rf,rf,rf,tv⟩,fun y hy=>?_,?_⟩
 ·obtain ⟨s,-,rfl⟩:=List.mem_map.1 hy
  rfl
 have hb0:=pick_bd l 0 3 (by omega)
 have hb1:=pick_bd l 1 4 (by omega)
 have hb2:=pick_bd l 2 5 (by omega)
 have hpl:((mkPart l).length:Int)=1+pick l 1 4:=by
  unfold mkPart pnames; simp; omega
 refine .inr ⟨[2],[.ptr 0 0,.dv (I 3)],gK l 0,0,_,_,next_spec l 0 3 hl (by omega) (by omega) (by omega),rfl,rfl,⟨rfl,rf,tv⟩,⟨subWs_dvs _ _ _ [Ints l,I 0],tv⟩,?_⟩
 refine ⟨.str (mnames.getD (pick l 0 3).toNat ⟨#[]⟩),fun _=>⟨by omega,?_⟩,?_⟩
 ·have hlt:(pick l 0 3).toNat<mnames.length:=by show _<3; omega
  simp [hlt]
 refine .inr ⟨[2],[.ptr 0 0],gK l 1,0,_,_,parties_spec l 1 hl (by omega) (by omega),rfl,rfl,⟨rfl,tv⟩,⟨subWs_dvs _ _ _ [Ints l,I 1],tv⟩,?_⟩
 refine ⟨by kernel_rfl,?_⟩
 refine .inr ⟨[2],[.ptr 0 0,.dv (I 5)],gK l 2,0,_,_,next_spec l 2 5 hl (by omega) (by omega) (by omega),rfl,rfl,⟨rfl,rf,tv⟩,⟨subWs_dvs _ _ _ [Ints l,I 2],tv⟩,?_⟩
 refine ⟨fun _=>⟨by omega,by omega⟩,?_⟩
 have hN:mkN l=1+pick l 2 5:=rfl
 generalize hit:(c.items.length:Int)=items at *
 generalize hna:mnames.getD (pick l 0 3).toNat ⟨#[]⟩=na at *
 have hma:=mkStas_ok l items (mkPart l).length (mkN l) (by omega) 3
 refine ⟨MkI,fun s=>⟨5,[(2,.ptr 0 0),(4,.ptr 1 0),(5,.ptr 2 0),(6,.ptr 3 0),(7,.dv (I (mkN l))),(8,.dv (I s.i))],mkK l c a b e f na s.ss s.pos⟩,fun s=>(s.i:Int)≤mkN l∧mkStas l items (mkPart l).length (mkN l) 3 s.i=(s.ss,s.pos),fun s=>(mkN l).toNat - s.i,⟨0,[],3⟩,fun _=>rfl,?_,⟨by dsimp only; omega,rfl⟩,?_⟩
 ·exact ⟨⟨rfl,rfl,rfl,rfl,rf,rf,tv⟩,⟨⟨rf,rf,rf,rf,tv⟩,⟨rf,rf,rf,tv⟩,⟨rf,rf,tv⟩,⟨rf,rf,⟨rfl,rfl,rfl,rfl,6,rfl⟩,tv⟩,⟨rfl,rfl,6,rfl⟩,tv⟩,rfl,rfl⟩
 ·rintro ⟨i,ss,pos⟩ ⟨hi,hp⟩
  obtain ⟨hm1,hm2,hm3,hm4⟩:=hma i
  rw [hp] at hm1 hm2 hm3 hm4
  dsimp only at hm1 hm2 hm3 hm4 hi hp
  refine ⟨fun h=>?_,fun h=>?_⟩
  ·have hlt:(i:Int)<mkN l:=by simpa using h
   refine .inl ⟨_,fun _=>(state_spec i (by omega)).ok,?_⟩
   refine .inr ⟨[2],[.ptr 0 0,.dv (I 3)],gK l pos,0,_,_,next_spec l pos 3 hl (by omega) (by omega) (by omega),rfl,rfl,⟨rfl,rf,tv⟩,⟨⟨rf,rf,tv⟩,tv⟩,?_⟩
   refine .inr ⟨[2],[.ptr 0 0,.dv (I 4)],gK l (pos+1),0,_,_,next_spec l (pos+1) 4 hl (by omega) (by omega) (by omega),rfl,rfl,⟨rfl,rf,tv⟩,⟨⟨rf,rf,tv⟩,tv⟩,?_⟩
   have hb3:=pick_bd l (pos+1) 4 (by omega)
   obtain ⟨fin,hfin⟩:∃fin,(pick l pos 3 == 0)=fin:=⟨_,rfl⟩
   cases fin
   ·refine ⟨OpI,fun s=>⟨7,[(2,.ptr 0 0),(4,.ptr 1 0),(5,.ptr 2 0),(6,.ptr 3 0),(7,.dv (I (mkN l))),(8,.dv (I i)),(9,.ptr 5 0),(10,.dv (I s.s.k))],mkK l c a b e f na ss s.s.pos++[(5,.cells [.dv (.str (sname i)),.dv (B false),.own 6 0 0 [],.dv (I 0),.dv (I 0),.dv .nils]),(6,.tree 0 0 (.osl 3 (s.s.out.map eOpt)))]⟩,fun s=>(s.j:Int)≤pick l (pos+1) 4∧s.s=opLoop l items (mkPart l).length (mkN l) s.j ⟨pick l (pos+1) 4,pos+2,[]⟩,fun s=>s.s.k.toNat,⟨0,⟨pick l (pos+1) 4,pos+2,[]⟩⟩,fun _=>rfl,?_,⟨by dsimp only; omega,rfl⟩,?_⟩
    ·refine ⟨⟨rfl,rfl,rfl,rfl,rf,rf,rfl,rf,tv⟩,⟨⟨rf,rf,rf,rf,tv⟩,⟨rf,rf,rf,tv⟩,⟨rf,le_int (by dsimp only; omega),tv⟩,⟨rf,rf,rfl,tv⟩,⟨rfl,rfl⟩,⟨rf,DV.Le.of_eq (congrArg DV.bool hfin),⟨rfl,rfl,rfl,rfl,3,rfl⟩,rf,rf,rf,tv⟩,⟨rfl,rfl,3,rfl⟩,tv⟩,rfl,rfl⟩
    ·rintro ⟨j,k,ps,out⟩ ⟨hj,hs⟩
     dsimp only at hj hs
     obtain ⟨ho1,ho2,ho3,ho4⟩:=opLoop_ok l items (mkPart l).length (mkN l) ⟨pick l (pos+1) 4,pos+2,[]⟩ j
     rw [←hs] at ho1 ho2 ho3 ho4
     dsimp only at ho1 ho2 ho3 ho4
     simp only [List.length_nil,Nat.zero_add] at ho4
     refine ⟨id,id,fun _ h=>bw_t h,fun h=>?_,fun h=>?_⟩
     ·have hk:0<k:=by simpa using (bif_t h).1
      have hb4:=amts_bd l items (ps+2)
      refine .inr ⟨[2],[.ptr 0 0,.dv (I (mkPart l).length)],gK l ps,0,_,_,next_spec l ps (mkPart l).length hl (by omega) (by omega) (by omega),rfl,rfl,⟨rfl,le_int (by simp),tv⟩,⟨⟨rf,rf,tv⟩,tv⟩,?_⟩
      refine .inr ⟨[2],[.ptr 0 0,.dv (I (mkN l))],gK l (ps+1),0,_,_,next_spec l (ps+1) (mkN l) hl (by omega) (by omega) (by omega),rfl,rfl,⟨rfl,rf,tv⟩,⟨⟨rf,rf,tv⟩,tv⟩,?_⟩
      refine .inr ⟨[2],[.ptr 0 0,.dv (I items)],gK l (ps+2),0,_,_,amounts_spec l items (ps+2) hl (by omega) (by omega) (by omega) (by omega),rfl,rfl,⟨rfl,le_int hit,tv⟩,⟨⟨rf,le_int (by omega),tv⟩,tv⟩,?_⟩
      refine .inl ⟨[eOpt ⟨pick l ps (mkPart l).length,pick l (ps+1) (mkN l),(amts l items (ps+2)).out⟩],rfl,⟨rf,rf,rf,tv⟩,fun y hy=>(by rcases List.mem_singleton.1 hy with rfl; rfl),?_⟩
      refine .inr ⟨[eOpt ⟨pick l ps (mkPart l).length,pick l (ps+1) (mkN l),(amts l items (ps+2)).out⟩],ELes.refl _,(by rw [by91]; simp; omega),(by simp; omega),?_⟩
      refine ⟨by kernel_rfl,fun _=>⟨by dsimp only; omega,by dsimp only; omega⟩,?_⟩
      refine ⟨⟨j+1,opStep l items (mkPart l).length (mkN l) ⟨k,ps,out⟩⟩,⟨⟨rfl,rfl,rfl,rfl,rf,rf,rfl,rf,tv⟩,⟨⟨rf,rf,rf,rf,tv⟩,⟨rf,rf,rf,tv⟩,⟨rf,rf,tv⟩,⟨rf,rf,rfl,tv⟩,⟨rfl,rfl⟩,⟨rf,rf,rfl,rf,rf,rf,tv⟩,⟨rfl,?_⟩,tv⟩,rfl,rfl⟩,⟨?_,?_⟩,?_⟩
      ·simp [opStep]
      ·dsimp only; omega
      ·dsimp only; rw [opLoop_succ,←hs]
      ·show (k - 1).toNat<k.toNat
       omega
     ·have hk:¬ 0<k:=fun hk=>bif_f h ⟨by simpa using hk,rfl⟩
      have hjk:j=(pick l (pos+1) 4).toNat:=by omega
      have hop:opsOf l items (mkPart l).length (mkN l) false (pos+1)=⟨k,ps,out⟩:=by
       unfold opsOf
       rw [hs,hjk,show pos+1+1=pos+2 by omega]
       rfl
      have hb5:=pick_bd l ps 2 (by omega)
      refine ⟨id,.inr ⟨[2],[.ptr 0 0,.dv (I 2)],gK l ps,0,_,_,next_spec l ps 2 hl (by omega) (by omega) (by omega),rfl,rfl,⟨rfl,rf,tv⟩,⟨⟨rf,rf,tv⟩,tv⟩,rfl,?_⟩⟩
      refine ⟨id,fun _ h=>rfl,fun h=>?_,fun h=>?_⟩
      ·have h2:(pick l ps 2 == 0)=true:=by simpa using h
       refine .inr ⟨[2],[.ptr 0 0,.dv (I 20)],gK l (ps+1),0,_,_,next_spec l (ps+1) 20 hl (by omega) (by omega) (by omega),rfl,rfl,⟨rfl,rf,tv⟩,⟨⟨rf,rf,tv⟩,tv⟩,?_⟩
       have hb6:=pick_bd l (ps+1) 20 (by omega)
       refine ⟨fun _=>⟨by omega,by omega⟩,?_⟩
       refine .inr ⟨[2],[.ptr 0 0,.dv (I (mkN l))],gK l (ps+2),0,_,_,next_spec l (ps+2) (mkN l) hl (by omega) (by omega) (by omega),rfl,rfl,⟨rfl,rf,tv⟩,⟨⟨rf,le_int (by omega),tv⟩,tv⟩,?_⟩
       refine ⟨Unit,fun _=>⟨7,[(2,.ptr 0 0),(4,.ptr 1 0),(5,.ptr 2 0),(6,.ptr 3 0),(7,.dv (I (mkN l))),(8,.dv (I i)),(9,.ptr 5 0),(11,.dv (I 0))],mkK l c a b e f na ss (ps+3)++[(5,.cells [.dv (.str (sname i)),.dv (B false),.own 6 0 0 [],.dv (I (1+pick l (ps+1) 20)),.dv (I (pick l (ps+2) (mkN l))),.dv .nils]),(6,.tree 0 0 (.osl 3 (out.map eOpt)))]⟩,fun _=>True,fun _=>0,(),fun _=>rfl,?_,tv,?_⟩
       ·exact ⟨⟨rfl,rfl,rfl,rfl,rf,rf,rfl,rf,tv⟩,⟨⟨rf,rf,rf,rf,tv⟩,⟨rf,rf,rf,tv⟩,⟨rf,le_int (by show ps+2+1=ps+3; omega),tv⟩,⟨rf,rf,rfl,tv⟩,⟨rfl,rfl⟩,⟨rf,rf,rfl,rf,rf,rf,tv⟩,⟨rfl,rfl⟩,tv⟩,rfl,rfl⟩
       ·intro _ _
        refine ⟨id,fun _ h=>bw_t h,fun h=>?_,fun h=>?_⟩
        ·exact absurd (bif_t h).2 (by simp)
        ·clear h
         have hst:mkSta l items (mkPart l).length (mkN l) i pos=(⟨sname i,false,out,1+pick l (ps+1) 20,pick l (ps+2) (mkN l),[]⟩,ps+3):=by
          unfold mkSta
          rw [hfin]
          simp only [hop,cond_false,h2,cond_true]
         have hfz:fzL (out.map eOpt)=out.map eOpt:=fzL_map (e:=eOpt) (fun _=>rfl) out
         refine .inl ⟨[eSta ⟨sname i,false,out,1+pick l (ps+1) 20,pick l (ps+2) (mkN l),[]⟩],rfl,⟨rf,rf,DV.Le.of_eq (congrArg (DV.sl 3) hfz),rf,rf,DV.nils_le 3,tv⟩,fun y hy=>(by rcases List.mem_singleton.1 hy with rfl; rfl),?_⟩
         refine .inr ⟨[eSta ⟨sname i,false,out,1+pick l (ps+1) 20,pick l (ps+2) (mkN l),[]⟩],ELes.refl _,(by rw [by37]; simp; omega),(by simp; omega),fun _=>⟨by omega,by omega⟩,?_⟩
         refine ⟨⟨i+1,ss++[⟨sname i,false,out,1+pick l (ps+1) 20,pick l (ps+2) (mkN l),[]⟩],ps+3⟩,⟨⟨rfl,rfl,rfl,rfl,rf,rf,tv⟩,⟨⟨rf,rf,rf,rf,tv⟩,⟨rf,rf,rf,tv⟩,⟨rf,rf,tv⟩,⟨rf,rf,rfl,tv⟩,⟨rfl,by simp⟩,tv⟩,rfl,rfl⟩,⟨?_,?_⟩,?_⟩
         ·dsimp only; omega
         ·dsimp only [mkStas]; rw [hp]; dsimp only; rw [hst]
         ·dsimp only; omega
      ·have h2:(pick l ps 2 == 0)=false:=by simpa using h
       refine ⟨Unit,fun _=>⟨7,[(2,.ptr 0 0),(4,.ptr 1 0),(5,.ptr 2 0),(6,.ptr 3 0),(7,.dv (I (mkN l))),(8,.dv (I i)),(9,.ptr 5 0),(11,.dv (I 0))],mkK l c a b e f na ss (ps+1)++[(5,.cells [.dv (.str (sname i)),.dv (B false),.own 6 0 0 [],.dv (I 0),.dv (I 0),.dv .nils]),(6,.tree 0 0 (.osl 3 (out.map eOpt)))]⟩,fun _=>True,fun _=>0,(),fun _=>rfl,?_,tv,?_⟩
       ·exact ⟨⟨rfl,rfl,rfl,rfl,rf,rf,rfl,rf,tv⟩,⟨⟨rf,rf,rf,rf,tv⟩,⟨rf,rf,rf,tv⟩,⟨rf,rf,tv⟩,⟨rf,rf,rfl,tv⟩,⟨rfl,rfl⟩,⟨rf,rf,rfl,rf,rf,rf,tv⟩,⟨rfl,rfl⟩,tv⟩,rfl,rfl⟩
       ·intro _ _
        refine ⟨id,fun _ h=>bw_t h,fun h=>?_,fun h=>?_⟩
        ·exact absurd (bif_t h).2 (by simp)
        ·clear h
         have hst:mkSta l items (mkPart l).length (mkN l) i pos=(⟨sname i,false,out,0,0,[]⟩,ps+1):=by
          unfold mkSta
          rw [hfin]
          simp only [hop,cond_false,h2]
         have hfz:fzL (out.map eOpt)=out.map eOpt:=fzL_map (e:=eOpt) (fun _=>rfl) out
         refine .inl ⟨[eSta ⟨sname i,false,out,0,0,[]⟩],rfl,⟨rf,rf,DV.Le.of_eq (congrArg (DV.sl 3) hfz),rf,rf,DV.nils_le 3,tv⟩,fun y hy=>(by rcases List.mem_singleton.1 hy with rfl; rfl),?_⟩
         refine .inr ⟨[eSta ⟨sname i,false,out,0,0,[]⟩],ELes.refl _,(by rw [by37]; simp; omega),(by simp; omega),fun _=>⟨by omega,by omega⟩,?_⟩
         refine ⟨⟨i+1,ss++[⟨sname i,false,out,0,0,[]⟩],ps+1⟩,⟨⟨rfl,rfl,rfl,rfl,rf,rf,tv⟩,⟨⟨rf,rf,rf,rf,tv⟩,⟨rf,rf,rf,tv⟩,⟨rf,rf,tv⟩,⟨rf,rf,rfl,tv⟩,⟨rfl,by simp⟩,tv⟩,rfl,rfl⟩,⟨?_,?_⟩,?_⟩
         ·dsimp only; omega
         ·dsimp only [mkStas]; rw [hp]; dsimp only; rw [hst]
         ·dsimp only; omega
   ·refine ⟨Unit,fun _=>⟨6,[(2,.ptr 0 0),(4,.ptr 1 0),(5,.ptr 2 0),(6,.ptr 3 0),(7,.dv (I (mkN l))),(8,.dv (I i)),(9,.ptr 5 0),(10,.dv (I (pick l (pos+1) 4)))],mkK l c a b e f na ss (pos+2)++[(5,.cells [.dv (.str (sname i)),.dv (B true),.dv .nils,.dv (I 0),.dv (I 0),.dv .nils])]⟩,fun _=>True,fun _=>0,(),fun _=>rfl,?_,tv,?_⟩
    ·exact ⟨⟨rfl,rfl,rfl,rfl,rf,rf,rfl,rf,tv⟩,⟨⟨rf,rf,rf,rf,tv⟩,⟨rf,rf,rf,tv⟩,⟨rf,le_int (by omega),tv⟩,⟨rf,rf,rfl,tv⟩,⟨rfl,rfl⟩,⟨rf,DV.Le.of_eq (congrArg DV.bool hfin),rf,rf,rf,rf,tv⟩,tv⟩,rfl,rfl⟩
    ·intro _ _
     refine ⟨id,id,fun _ h=>bw_t h,fun h=>?_,fun h=>?_⟩
     ·exact absurd (bif_t h).2 (by simp)
     ·clear h
      refine ⟨id,.inl ⟨rfl,[I 0],(fun h=>by cases h),rfl,id,fun _ h=>bw_t h,fun h=>?_,fun h=>?_⟩⟩
      ·exact absurd (bif_t h).1 (by simp)
      clear h
      refine ⟨GvI,fun s=>⟨7,[(2,.ptr 0 0),(4,.ptr 1 0),(5,.ptr 2 0),(6,.ptr 3 0),(7,.dv (I (mkN l))),(8,.dv (I i)),(9,.ptr 5 0),(11,.dv (I s.k))],mkK l c a b e f na ss s.pos++[(5,.cells [.dv (.str (sname i)),.dv (B true),.dv .nils,.dv (I 0),.dv (I 0),.own 6 0 0 []]),(6,.tree 0 0 (.osl 3 (s.out.map eGiv)))]⟩,fun s=>s.k≤(mkPart l).length∧gvLoop l items (pos+2) s.k=(s.pos,s.out),fun s=>(mkPart l).length - s.k,⟨0,pos+2,[]⟩,fun _=>rfl,?_,⟨by dsimp only; omega,rfl⟩,?_⟩
      ·exact ⟨⟨rfl,rfl,rfl,rfl,rf,rf,rfl,rf,tv⟩,⟨⟨rf,rf,rf,rf,tv⟩,⟨rf,rf,rf,tv⟩,⟨rf,rf,tv⟩,⟨rf,rf,rfl,tv⟩,⟨rfl,rfl⟩,⟨rf,rf,rf,rf,rf,⟨rfl,rfl,rfl,rfl,3,rfl⟩,tv⟩,⟨rfl,rfl,3,rfl⟩,tv⟩,rfl,rfl⟩
      ·rintro ⟨k,ps,out⟩ ⟨hk,hs⟩
       dsimp only at hk hs
       obtain ⟨hg1,hg2,hg3⟩:=gvLoop_ok l items (pos+2) k
       rw [hs] at hg1 hg2 hg3
       dsimp only at hg1 hg2 hg3
       refine ⟨id,fun _ h=>bw_t h,fun h=>?_,fun h=>?_⟩
       ·have hlk:k<(mkPart l).length:=by simpa using (bif_t h).1
        clear h
        have hba:=amts_bd l items ps
        refine .inr ⟨[2],[.ptr 0 0,.dv (I items)],gK l ps,0,_,_,amounts_spec l items ps hl (by omega) (by omega) (by omega) (by omega),rfl,rfl,⟨rfl,le_int hit,tv⟩,⟨⟨rf,rf,tv⟩,tv⟩,?_⟩
        generalize hA:amts l items ps=A at *
        refine ⟨Nat,fun j=>⟨7,[(2,.ptr 0 0),(4,.ptr 1 0),(5,.ptr 2 0),(6,.ptr 3 0),(7,.dv (I (mkN l))),(8,.dv (I i)),(9,.ptr 5 0),(11,.dv (I k)),(12,.dv (ePut A.out)),(13,.dv (I j))],mkK l c a b e f na ss A.pos++[(5,.cells [.dv (.str (sname i)),.dv (B true),.dv .nils,.dv (I 0),.dv (I 0),.own 6 0 0 []]),(6,.tree 0 0 (.osl 3 ((out++(A.out.take j).map fun x=>(⟨k,x.1,x.2⟩:Giv)).map eGiv)))]⟩,fun j=>j≤A.out.length,fun j=>A.out.length - j,0,fun _=>rfl,?_,by dsimp only; omega,?_⟩
        ·exact ⟨⟨rfl,rfl,rfl,rfl,rf,rf,rfl,rf,rf,rf,tv⟩,⟨⟨rf,rf,rf,rf,tv⟩,⟨rf,rf,rf,tv⟩,⟨rf,rf,tv⟩,⟨rf,rf,rfl,tv⟩,⟨rfl,rfl⟩,⟨rf,rf,rf,rf,rf,rfl,tv⟩,⟨rfl,by simp⟩,tv⟩,rfl,rfl⟩
        ·intro j hj
         refine ⟨fun h=>?_,fun h=>?_⟩
         ·have hlj:j<A.out.length:=by simpa using h
          clear h
          refine ⟨eAmt A.out[j],fun _=>⟨by omega,by simp [hlj]⟩,.inl ⟨[eGiv ⟨k,A.out[j].1,A.out[j].2⟩],rfl,⟨rf,rf,rf,tv⟩,fun y hy=>(by rcases List.mem_singleton.1 hy with rfl; rfl),?_⟩⟩
          refine .inr ⟨[eGiv ⟨k,A.out[j].1,A.out[j].2⟩],ELes.refl _,(by rw [by92]; simp; omega),(by simp; omega),by kernel_rfl,fun _=>⟨by omega,by omega⟩,?_⟩
          refine ⟨j+1,⟨⟨rfl,rfl,rfl,rfl,rf,rf,rfl,rf,rf,rf,tv⟩,⟨⟨rf,rf,rf,rf,tv⟩,⟨rf,rf,rf,tv⟩,⟨rf,rf,tv⟩,⟨rf,rf,rfl,tv⟩,⟨rfl,rfl⟩,⟨rf,rf,rf,rf,rf,rfl,tv⟩,⟨rfl,?_⟩,tv⟩,rfl,rfl⟩,by dsimp only; omega,by dsimp only; omega⟩
          rw [List.take_add_one,List.getElem?_eq_getElem hlj]
          simp only [Option.toList_some,List.map_append,List.map_cons,List.map_nil,List.append_assoc]
         ·have hj2:j=A.out.length:=by
           have:¬ j<A.out.length:=by simpa using h
           omega
          clear h
          refine ⟨fun _=>⟨by omega,by omega⟩,⟨k+1,A.pos,out++A.out.map fun x=>(⟨k,x.1,x.2⟩:Giv)⟩,⟨⟨rfl,rfl,rfl,rfl,rf,rf,rfl,rf,tv⟩,⟨⟨rf,rf,rf,rf,tv⟩,⟨rf,rf,rf,tv⟩,⟨rf,rf,tv⟩,⟨rf,rf,rfl,tv⟩,⟨rfl,rfl⟩,⟨rf,rf,rf,rf,rf,rfl,tv⟩,⟨rfl,?_⟩,tv⟩,rfl,rfl⟩,⟨?_,?_⟩,?_⟩
          ·rw [hj2,List.take_length]
          ·dsimp only; omega
          ·dsimp only [gvLoop]; rw [hs]; dsimp only; rw [hA]
          ·dsimp only; omega
       ·have hk2:k=(mkPart l).length:=by
         have:¬ k<(mkPart l).length:=fun hc=>bif_f h ⟨by simpa using hc,rfl⟩
         omega
        clear h
        have hst:mkSta l items (mkPart l).length (mkN l) i pos=(⟨sname i,true,[],0,0,out⟩,ps):=by
         unfold mkSta
         rw [hfin]
         have ho:opsOf l items (mkPart l).length (mkN l) true (pos+1)=⟨pick l (pos+1) 4,pos+2,[]⟩:=by
          show OpSt.mk _ _ _=_
          rw [show pos+1+1=pos+2 by omega]
         simp only [ho,cond_true,Int.toNat_natCast]
         rw [←hk2,hs]
        have hfz:fzL (out.map eGiv)=out.map eGiv:=fzL_map (e:=eGiv) (fun _=>rfl) out
        refine .inl ⟨[eSta ⟨sname i,true,[],0,0,out⟩],rfl,⟨rf,rf,DV.nils_le 3,rf,rf,DV.Le.of_eq (congrArg (DV.sl 3) hfz),tv⟩,fun y hy=>(by rcases List.mem_singleton.1 hy with rfl; rfl),?_⟩
        refine .inr ⟨[eSta ⟨sname i,true,[],0,0,out⟩],ELes.refl _,(by rw [by37]; simp; omega),(by simp; omega),fun _=>⟨by omega,by omega⟩,?_⟩
        refine ⟨⟨i+1,ss++[⟨sname i,true,[],0,0,out⟩],ps⟩,⟨⟨rfl,rfl,rfl,rfl,rf,rf,tv⟩,⟨⟨rf,rf,rf,rf,tv⟩,⟨rf,rf,rf,tv⟩,⟨rf,rf,tv⟩,⟨rf,rf,rfl,tv⟩,⟨rfl,by simp⟩,tv⟩,rfl,rfl⟩,⟨?_,?_⟩,?_⟩
        ·dsimp only; omega
        ·dsimp only [mkStas]; rw [hp]; dsimp only; rw [hst]
        ·dsimp only; omega
  ·have hin:mkN l=i:=by
    have:¬ (i:Int)<mkN l:=by simpa using h
    omega
   refine ⟨DV.Le.of_eq ?_,tv⟩
   show DV.agg [.str na,.sl 1 ((mkPart l).map .str),.sl 6 (fzL (ss.map eSta))]=_
   rw [fzL_map (e:=eSta) fun _=>rfl]
   unfold mkDeal
   rw [hin] at hp
   rw [hin,Int.toNat_natCast,hp,hna]
   rfl
end Go.Proofs.Ytfcfbfkjdenpdaa
