import Derived.Test.YtpjpdomkcabfcaaGreatDoorDM19
import Derived.Laws.DeepNot64
set_option linter.unusedVariables false
set_option linter.unusedSimpArgs false
set_option linter.unusedSectionVars false
namespace Go.Proofs.YtpjpdomkcabfcaaGreatDoor
open Go.TM
theorem and127 (y:Nat) (hy:y<256):bits .and .u8 (y:Int) 127=((y % 128:Nat):Int):=by
 have h:∀y:Fin 256,bits .and .u8 ((y:Nat):Int) 127=(((y:Nat) % 128:Nat):Int):=by decide +kernel
 exact h ⟨y,hy⟩
theorem or_add (i n c:Nat) (hn:n<128 ^ i) (h:n+c * 128 ^ i<18446744073709551616):bits .or .u64 (n:Int) ((c * 128 ^ i:Nat):Int)=((n+c * 128 ^ i:Nat):Int):=by
 rw [bits_or_u64_nat n (c * 128 ^ i) (by omega) (by omega)]
 congr 1
 have e:(128:Nat) ^ i=2 ^ (7 * i):=by rw [Nat.pow_mul]
 rw [e] at hn ⊢
 have:=Nat.two_pow_add_eq_or_of_lt hn c
 rw [Nat.or_comm,Nat.mul_comm c,←this]
 omega
theorem xor_not (a:Nat) (ha:a<9223372036854775808):bits .xor .i64 (a:Int) (-1)=-1 - (a:Int):=by
 rw [←i64_not a ha]
 show IntKind.i64.wrap ((BitVec.ofInt 64 (a:Int) ^^^ BitVec.ofInt 64 (-1)).toNat:Int)=IntKind.i64.wrap ((BitVec.ofInt 64 (-1) ^^^ BitVec.ofInt 64 (a:Int)).toNat:Int)
 rw [BitVec.xor_comm]
theorem xor_none (a:Nat) (ha:a<9223372036854775808):bits .xor .i64 (a:Int) 0=(a:Int):=by
 show IntKind.i64.wrap ((BitVec.ofInt 64 (a:Int) ^^^ BitVec.ofInt 64 0).toNat:Int)=_
 have h1:BitVec.ofInt 64 (0:Int)=0#64:=by decide
 rw [h1,BitVec.xor_zero,BitVec.ofInt_natCast,BitVec.toNat_ofNat]
 simp [IntKind.wrap,IntKind.bits,IntKind.signed]
 omega
variable [KObj]
set_option maxRecDepth 100000
theorem unzz_spec (u:Nat) (hu:u<18446744073709551616):PSpec Tryz.prog 86 [U6 u] [I (unzz u)]:=by
 refine pspec_of tab_ok mixed (calls_snd _) (range_snd _) Tryz.func86 rfl (by kernel_rfl) rfl ?_
 have e1:bits .and .u64 (u:Int) 1=((u % 2:Nat):Int):=by
  rw [show (1:Int)=((1:Nat):Int) from rfl,bits_and_u64_nat u 1 hu (by decide),Nat.and_one_is_mod]
 have e2:IntKind.i64.wrap ((u % 2:Nat):Int)=((u % 2:Nat):Int):=wrap_i64_in (by omega)
 have e3:min (Int.toNat 1) IntKind.u64.bits=1:=by decide
 have e4:IntKind.i64.wrap ((u:Int) / 2 ^ 1)=((u / 2:Nat):Int):=by
  rw [show (u:Int) / 2 ^ 1=((u / 2:Nat):Int) by omega]
  exact wrap_i64_in (by omega)
 refine ⟨fun _=>by decide,fun _=>⟨by rw [e1,e2]; omega,by rw [e1,e2]; omega⟩,le_int ?_,tv⟩
 rw [e1,e2,e3,e4]
 unfold unzz
 by_cases h:u % 2=0
 ·rw [if_pos h,h]
  exact xor_none _ (by omega)
 ·rw [if_neg h,show u % 2=1 by omega]
  have:=xor_not (u / 2) (by omega)
  rw [show (0:Int) - ((1:Nat):Int)=-1 by omega,this]
  omega
def rdK (bs:List Int) (e:Int):Boxes:=[(0,.cells [.dv (.sl 1 (bs.map Y)),.dv (I e)])]
def octV (bs:List Int) (e:Int):Int:=if e=0 then bs.headD 0 else 0
def octB (bs:List Int) (e:Int):List Int:=if e=0 then bs.tail else bs
def octE (bs:List Int) (e:Int):Int:=if e=0 then (if bs=[] then 3 else 0) else e
set_option maxHeartbeats 4000000 in
theorem octet_spec (bs:List Int) (e:Int):CSpec Tryz.prog 155 [.ptr 0 0] 1 (rdK bs e) 0 [.dv (Y (octV bs e))] (rdK (octB bs e) (octE bs e)):=by
 refine cspec_of tab_ok mixed (calls_snd _) (range_snd _) Tryz.func155 rfl rfl (by kernel_rfl) ?_
 refine ⟨fun h=>?_,fun h=>?_⟩
 ·have he:¬ e=0:=by have h':(e != 0)=true:=h; simpa using h'
  simp only [octV,octB,octE,if_neg he]
  exact ⟨_,_,⟨rfl,rfl⟩,by kernel_rfl,⟨rf,tv⟩,⟨rf,rf,tv⟩,tv⟩
 ·have he:e=0:=by have h':(e != 0)=false:=h; simpa using h'
  subst he
  cases bs with
  | nil =>
   refine ⟨fun _=>?_,fun h=>by cases h⟩
   exact ⟨_,_,⟨rfl,rfl⟩,by kernel_rfl,⟨rf,tv⟩,⟨rf,rf,tv⟩,tv⟩
  | cons b r =>
   refine ⟨fun h=>?_,fun _=>?_⟩
   ·exfalso
    have h':(((b::r).map Y).length:Int)=0:=by simpa using h
    simp at h'; omega
   refine ⟨Y b,fun _=>⟨by decide,rfl⟩,fun _=>⟨by decide,by simp; omega,by simp⟩,?_⟩
   refine ⟨_,_,⟨rfl,rfl⟩,by kernel_rfl,⟨rf,tv⟩,⟨DV.Le.of_eq ?_,rf,tv⟩,tv⟩
   show DV.sl 1 _=DV.sl 1 _
   congr 1
   simp [octB]
   exact List.take_of_length_le (by simp)
def rdV (bs:List Int) (e:Int):Nat:=if e=0 then (rdU 0 0 bs).1 else 0
def rdB (bs:List Int) (e:Int):List Int:=if e=0 then (rdU 0 0 bs).2.1 else bs
def rdE (bs:List Int) (e:Int):Int:=if e=0 then (rdU 0 0 bs).2.2 else e
structure RS where
 i:Nat
 n:Nat
 bs:List Int
set_option maxHeartbeats 4000000 in
theorem ruint64_spec (bs:List Int) (hb:Byt bs) (e:Int):CSpec Tryz.prog 87 [.ptr 0 0] 1 (rdK bs e) 0 [.dv (U6 (rdV bs e))] (rdK (rdB bs e) (rdE bs e)):=by
 refine cspec_of tab_ok mixed (calls_snd _) (range_snd _) Tryz.func87 rfl rfl (by kernel_rfl) ?_
 by_cases he:e=0
 ·subst he
  refine ⟨RS,fun x=>⟨1,[(0,.ptr 0 0),(3,.dv (U6 x.n)),(4,.dv (I x.i))],rdK x.bs 0⟩,fun x=>x.i≤9∧x.n<128 ^ x.i∧rdU x.i x.n x.bs=rdU 0 0 bs∧Byt x.bs,fun x=>x.bs.length,⟨0,0,bs⟩,fun _=>rfl,⟨⟨rfl,rf,rf,tv⟩,⟨⟨rf,rf,tv⟩,tv⟩,rfl,rfl⟩,⟨by show 0≤9; omega,by show 0<128 ^ 0; decide,rfl,hb⟩,?_⟩
  rintro ⟨i,n,cs⟩ ⟨hi,hn,hr,hc⟩
  dsimp only at hi hn hr hc
  have ho:=octet_spec cs 0
  cases cs with
  | nil =>
   refine .inr ⟨[0],[.ptr 0 0],rdK [] 0,0,_,_,ho,by kernel_rfl,by kernel_rfl,⟨rfl,tv⟩,⟨⟨rf,rf,tv⟩,tv⟩,?_⟩
   refine ⟨fun _=>?_,fun h=>by cases h⟩
   have hr':rdU 0 0 bs=(0,[],3):=hr.symm
   simp only [rdV,rdB,rdE,hr',if_true]
   exact ⟨_,_,⟨rfl,rfl⟩,by kernel_rfl,⟨rf,tv⟩,⟨rf,rf,tv⟩,tv⟩
  | cons b r =>
   have ho:CSpec Tryz.prog 155 [.ptr 0 0] 1 (rdK (b::r) 0) 0 [.dv (Y b)] (rdK r 0):=ho
   have hb0:=hc b (by simp)
   have hbn:((b.toNat:Nat):Int)=b:=by omega
   refine .inr ⟨[0],[.ptr 0 0],rdK (b::r) 0,0,_,_,ho,by kernel_rfl,by kernel_rfl,⟨rfl,tv⟩,⟨⟨rf,rf,tv⟩,tv⟩,?_⟩
   refine ⟨fun h=>(by cases h),fun _=>?_⟩
   repeat first | refine ⟨id,?_⟩ | refine ⟨fun _ h=>bw_f h,?_⟩ | refine ⟨fun _ h=>bw_t h,?_⟩ | refine ⟨fun h=>⟨h,fun h2=>bw_and h h2⟩,?_⟩ | refine ⟨fun h=>⟨h,fun h2=>bw_andf h h2⟩,?_⟩
   have hcond:(bif (bif (i:Int) == 9 then decide (1<b) else false) then true else bif decide ((0:Int)<(i:Int)) then b == 0 else false)=decide ((i=9∧1<b) ∨ (0<i∧b=0)):=by
    rw [Bool.eq_iff_iff]
    by_cases h1:i=9 <;> by_cases h2:1<b <;> by_cases h3:0<i <;> by_cases h4:b=0 <;> simp [h1,h2,h3,h4] <;> omega
   simp only [rdU] at hr
   refine ⟨fun h=>?_,fun h=>?_⟩
   ·have hbad:(i=9∧1<b) ∨ (0<i∧b=0):=of_decide_eq_true (hcond.symm.trans h)
    rw [if_pos hbad] at hr
    simp only [rdV,rdB,rdE,←hr,if_true]
    exact ⟨_,_,⟨rfl,rfl⟩,by kernel_rfl,⟨rf,tv⟩,⟨rf,rf,tv⟩,tv⟩
   ·have hbad:¬ ((i=9∧1<b) ∨ (0<i∧b=0)):=of_decide_eq_false (hcond.symm.trans h)
    rw [if_neg hbad] at hr
    have hp:128 ^ i * 128=128 ^ (i+1):=(Nat.pow_succ 128 i).symm
    have hpi:128 ^ i≤128 ^ 9:=Nat.pow_le_pow_right (by decide) hi
    have hcb:b.toNat % 128≤127:=by omega
    have htot:n+(b.toNat % 128) * 128 ^ i<18446744073709551616:=by
     by_cases h9:i=9
     ·have hb1:b.toNat % 128≤1:=by
       have:¬ 1<b:=fun h1=>hbad (.inl ⟨h9,h1⟩)
       omega
      have:=Nat.mul_le_mul hb1 (Nat.le_refl (128 ^ i))
      have e9:(128:Nat) ^ 9=9223372036854775808:=by decide
      omega
     ·have h8:128 ^ i≤128 ^ 8:=Nat.pow_le_pow_right (by decide) (by omega)
      have:=Nat.mul_le_mul hcb h8
      have:=Nat.mul_le_mul hcb (Nat.le_refl (128 ^ i))
      have e8:(128:Nat) ^ 8=72057594037927936:=by decide
      omega
    have hor:bits .or .u64 (n:Int) (IntKind.u64.wrap (IntKind.u64.wrap (bits .and .u8 b 127) * 2 ^ min (7 * (i:Int)).toNat IntKind.u64.bits))=((n+(b.toNat % 128) * 128 ^ i:Nat):Int):=by
     have e1:bits .and .u8 b 127=((b.toNat % 128:Nat):Int):=by rw [←hbn]; exact and127 _ (by omega)
     have e2:min (7 * (i:Int)).toNat IntKind.u64.bits=7 * i:=by show min _ 64=_; omega
     have e3:(2:Int) ^ (7 * i)=((128 ^ i:Nat):Int):=by rw [Int.pow_mul]; norm_cast
     rw [e1,e2,show IntKind.u64.wrap ((b.toNat % 128:Nat):Int)=((b.toNat % 128:Nat):Int) by rw [IntKind.wrap_u64]; omega,e3,←Int.natCast_mul,IntKind.wrap_u64]
     rw [show (((b.toNat % 128 * 128 ^ i:Nat):Int)) % 18446744073709551616=((b.toNat % 128 * 128 ^ i:Nat):Int) by omega]
     exact or_add i n _ hn htot
    refine ⟨fun _=>⟨by show -9223372036854775808≤7 * (i:Int); omega,by show 7 * (i:Int)≤9223372036854775807; omega⟩,fun _=>by show 0≤7 * (i:Int); omega,fun h2=>?_,fun h2=>?_⟩
    ·have h2:b<128:=of_decide_eq_true h2
     rw [if_pos h2] at hr
     simp only [rdV,rdB,rdE,←hr,if_true]
     rw [show b.toNat % 128=b.toNat by omega] at hor
     exact ⟨_,_,⟨rfl,rfl⟩,by kernel_rfl,⟨le_int hor,tv⟩,⟨rf,rf,tv⟩,tv⟩
    ·have h2:¬ b<128:=of_decide_eq_false h2
     rw [if_neg h2] at hr
     have hi9:i ≠ 9:=fun e=>hbad (.inl ⟨e,by omega⟩)
     refine ⟨fun _=>⟨by show -9223372036854775808≤(i:Int)+1; omega,by show (i:Int)+1≤9223372036854775807; omega⟩,⟨i+1,n+b.toNat % 128 * 128 ^ i,r⟩,⟨⟨rfl,le_int hor,le_int (by simp),tv⟩,⟨⟨rf,rf,tv⟩,tv⟩,rfl,rfl⟩,⟨by show i+1≤9; omega,?_,hr,fun x hx=>hc x (by simp [hx])⟩,by simp⟩
     show n+b.toNat % 128 * 128 ^ i<128 ^ (i+1)
     have:=Nat.mul_le_mul hcb (Nat.le_refl (128 ^ i))
     omega
 ·refine ⟨Unit,fun _=>⟨1,[(0,.ptr 0 0)],rdK bs e⟩,fun _=>True,fun _=>0,(),fun _=>rfl,⟨⟨rfl,tv⟩,⟨⟨rf,rf,tv⟩,tv⟩,rfl,rfl⟩,tv,?_⟩
  intro _ _
  have ho:=octet_spec bs e
  simp only [octV,octB,octE,if_neg he] at ho
  refine .inr ⟨[0],[.ptr 0 0],rdK bs e,0,_,_,ho,by kernel_rfl,by kernel_rfl,⟨rfl,tv⟩,⟨⟨rf,rf,tv⟩,tv⟩,?_⟩
  refine ⟨fun _=>?_,fun h=>?_⟩
  ·simp only [rdV,rdB,rdE,if_neg he]
   exact ⟨_,_,⟨rfl,rfl⟩,by kernel_rfl,⟨rf,tv⟩,⟨rf,rf,tv⟩,tv⟩
  ·exact absurd (by simpa using h) he
theorem rdU_lt:∀(bs:List Int) (i n v:Nat) (r:List Int) (e:Int),Byt bs→i≤9→n<128 ^ i→rdU i n bs=(v,r,e)→v<18446744073709551616∧Byt r
 | [],i,n,v,r,e,_,_,_,h=>by
  simp only [rdU,Prod.mk.injEq] at h
  obtain ⟨h1,h2,_⟩:=h
  subst h1; subst h2
  exact ⟨by decide,fun x hx=>by simp at hx⟩
 | b::bs,i,n,v,r,e,hb,hi,hn,h=>by
  have hb0:=hb b (by simp)
  have hbs:Byt bs:=fun x hx=>hb x (by simp [hx])
  simp only [rdU] at h
  split at h
  ·simp only [Prod.mk.injEq] at h
   obtain ⟨h1,h2,_⟩:=h
   subst h1; subst h2
   exact ⟨by decide,hbs⟩
  ·rename_i hbad
   have hp:128 ^ i * 128=128 ^ (i+1):=(Nat.pow_succ 128 i).symm
   split at h
   ·rename_i hlt
    simp only [Prod.mk.injEq] at h
    obtain ⟨h1,h2,_⟩:=h
    subst h2
    refine ⟨?_,hbs⟩
    rw [←h1]
    by_cases h9:i=9
    ·have hb1:b.toNat≤1:=by
      have:¬ 1<b:=fun h1=>hbad (.inl ⟨h9,h1⟩)
      omega
     have:=Nat.mul_le_mul hb1 (Nat.le_refl (128 ^ i))
     subst h9
     have e9:(128:Nat) ^ 9=9223372036854775808:=by decide
     omega
    ·have h8:128 ^ i≤128 ^ 8:=Nat.pow_le_pow_right (by decide) (by omega)
     have:=Nat.mul_le_mul (show b.toNat≤127 by omega) h8
     have:=Nat.mul_le_mul (show b.toNat≤127 by omega) (Nat.le_refl (128 ^ i))
     have e8:(128:Nat) ^ 8=72057594037927936:=by decide
     omega
   ·have hi9:i ≠ 9:=fun e=>hbad (.inl ⟨e,by omega⟩)
    refine rdU_lt bs (i+1) _ v r e hbs (by omega) ?_ h
    have:=Nat.mul_le_mul (show b.toNat % 128≤127 by omega) (Nat.le_refl (128 ^ i))
    omega
theorem rdV_lt {bs:List Int} (hb:Byt bs) (e:Int):rdV bs e<18446744073709551616∧Byt (rdB bs e):=by
 unfold rdV rdB
 by_cases h:e=0
 ·rw [if_pos h,if_pos h]
  exact rdU_lt bs 0 0 _ _ _ hb (by decide) (by decide) rfl
 ·rw [if_neg h,if_neg h]; exact ⟨by decide,hb⟩
set_option maxHeartbeats 4000000 in
theorem rdint_spec (bs:List Int) (hb:Byt bs) (e:Int):CSpec Tryz.prog 57 [.ptr 0 0] 1 (rdK bs e) 0 [.dv (I (unzz (rdV bs e)))] (rdK (rdB bs e) (rdE bs e)):=by
 refine cspec_of tab_ok mixed (calls_snd _) (range_snd _) Tryz.func57 rfl rfl (by kernel_rfl) ?_
 refine .inr ⟨[0],[.ptr 0 0],rdK bs e,0,_,_,ruint64_spec bs hb e,by kernel_rfl,by kernel_rfl,⟨rfl,tv⟩,⟨⟨rf,rf,tv⟩,tv⟩,?_⟩
 refine .inl ⟨_,fun _=>(unzz_spec _ (rdV_lt hb e).1).ok,?_⟩
 exact ⟨_,_,⟨rfl,rfl⟩,by kernel_rfl,⟨rf,tv⟩,⟨rf,rf,tv⟩,tv⟩
set_option maxHeartbeats 4000000 in
theorem rend_spec (bs:List Int) (e:Int):CSpec Tryz.prog 58 [.ptr 0 0] 1 (rdK bs e) 0 [.dv (I (if e=0 then (if bs=[] then 0 else 2) else e))] (rdK bs e):=by
 refine cspec_of tab_ok mixed (calls_snd _) (range_snd _) Tryz.func58 rfl rfl (by kernel_rfl) ?_
 refine ⟨fun h=>?_,fun h=>?_⟩
 ·have he:¬ e=0:=by have h':(e != 0)=true:=h; simpa using h'
  rw [if_neg he]
  exact ⟨_,_,⟨rfl,rfl⟩,by kernel_rfl,⟨rf,tv⟩,⟨rf,rf,tv⟩,tv⟩
 ·have he:e=0:=by have h':(e != 0)=false:=h; simpa using h'
  subst he
  rw [if_pos rfl]
  cases bs with
  | nil =>
   refine ⟨fun h=>(by cases h),fun _=>?_⟩
   exact ⟨_,_,⟨rfl,rfl⟩,by kernel_rfl,⟨rf,tv⟩,⟨rf,rf,tv⟩,tv⟩
  | cons b r =>
   refine ⟨fun _=>?_,fun h=>?_⟩
   ·exact ⟨_,_,⟨rfl,rfl⟩,by kernel_rfl,⟨rf,tv⟩,⟨rf,rf,tv⟩,tv⟩
   ·exfalso
    have h':¬ (0:Int)<(((b::r).map Y).length:Int):=of_decide_eq_false h
    simp only [List.length_map,List.length_cons] at h'; omega
set_option maxHeartbeats 4000000 in
theorem cloneC_spec (bs:List Int) (hl:bs.length≤1000000):CSpec Tryz.prog 85 [.dv (.sl 1 (bs.map Y))] 0 [] 1 [.own 0 0 0 []] [(0,.tree 0 0 (.osl 1 (bs.map Y)))]:=by
 refine cspec_of tab_ok mixed (calls_snd _) (range_snd _) Tryz.func85 rfl rfl (by kernel_rfl) ?_
 have rest:bs ≠ []→True:=fun _=>trivial
 cases bs with
 | nil =>
  refine .inl ⟨?_,?_⟩
  ·exact ⟨_,_,⟨rfl,rfl⟩,by kernel_rfl,⟨⟨rfl,rfl,rfl,rfl,1,rfl⟩,tv⟩,⟨rfl,rfl,1,rfl⟩,tv⟩
  ·refine .inr (.inl ⟨[],rfl,tv,(by simp),?_⟩)
   refine .inr ⟨[],ELes.refl _,(by rw [byWB]; simp),(by simp),?_⟩
   exact ⟨_,_,⟨rfl,rfl⟩,by kernel_rfl,⟨rfl,tv⟩,⟨rfl,rfl⟩,tv⟩
 | cons b r =>
  refine .inr ⟨by simp,fun h=>(by cases h),fun _=>?_⟩
  refine .inr (.inl ⟨[],rfl,tv,(by simp),?_⟩)
  refine .inr ⟨(b::r).map Y,ELes.refl _,(by rw [byWB]; simp only [List.length_map,List.length_nil,List.length_cons] at *; omega),(by simp only [List.length_map,List.length_nil,List.length_cons] at *; omega),?_⟩
  exact ⟨_,_,⟨rfl,rfl⟩,by kernel_rfl,⟨rfl,tv⟩,⟨rfl,by simp; rfl⟩,tv⟩
set_option maxHeartbeats 4000000 in
theorem read_spec (bs:List Int) (hl:bs.length≤1000000):CSpec Tryz.prog 56 [.dv (.sl 1 (bs.map Y))] 0 [] 2 [.ptr 1 0] [(1,.cells [.dv (.sl 1 (bs.map Y)),.dv (I 0)])]:=by
 refine cspec_of tab_ok mixed (calls_snd _) (range_snd _) Tryz.func56 rfl rfl (by kernel_rfl) ?_
 refine .inr ⟨[],[.dv (.sl 1 (bs.map Y))],[],1,_,_,cloneC_spec bs hl,by kernel_rfl,by kernel_rfl,⟨rf,tv⟩,tv,?_⟩
 refine ⟨_,_,⟨rfl,rfl⟩,by kernel_rfl,⟨rfl,tv⟩,⟨DV.Le.of_eq ?_,rf,tv⟩,tv⟩
 show DV.sl 1 (fzL (bs.map Y))=_
 rw [fzL_map (fun _=>rfl)]
end Go.Proofs.YtpjpdomkcabfcaaGreatDoor
namespace Go.Proofs.YtpjpdomkcabfcaaGreatDoor
open Go.TM
variable [KObj]
structure Item where
 name:ByteArray
 obj:Bool
 mix:Bool
 coin:Bool
 wear:Int
 bind:Int
 lev:Int
def Item.zero:Item:=⟨⟨#[]⟩,false,false,false,0,0,0⟩
structure Ob where
 item:Int
 owner:Int
 wear:Int
 bound:Bool
def Ob.zero:Ob:=⟨0,0,0,false⟩
abbrev Ky:=Int × Int
def eItem (i:Item):DV:=.agg [.str i.name,B i.obj,B i.mix,B i.coin,I i.wear,I i.bind,I i.lev]
def eOb (x:Ob):DV:=.agg [I x.item,I x.owner,I x.wear,B x.bound]
def eKy (k:Ky):DV:=.agg [I k.1,I k.2]
abbrev OM:=List (Ky × Ob)
def eEnt (p:Ky × Ob):DV:=.ent (eKy p.1) (eOb p.2)
def oget:OM→Ky→Option Ob
 | [],_=>none
 | p::r,k=>if p.1=k then some p.2 else oget r k
def oput:OM→Ky→Ob→OM
 | [],k,x=>[(k,x)]
 | p::r,k,x=>if p.1=k then (k,x)::r else p::oput r k x
theorem keq_ky (a b:Ky):keq (eKy a) (eKy b)=decide (a=b):=by
 obtain ⟨a1,a2⟩:=a
 obtain ⟨b1,b2⟩:=b
 simp only [eKy,keq,keqs,keq1,Prod.mk.injEq]
 simp
 try rw [Bool.eq_iff_iff]; simp
theorem mget_ky (k:Ky):∀m:OM,mget (m.map eEnt) (eKy k)=(oget m k).map eOb
 | []=>rfl
 | p::r=>by
  simp only [List.map_cons,eEnt,mget,keq_ky,oget]
  by_cases h:p.1=k
  ·simp [h]
  ·simp only [h,decide_false,cond_false,if_false]
   exact mget_ky k r
theorem mput_ky (k:Ky) (x:Ob):∀m:OM,mput (m.map eEnt) (eKy k) (eOb x)=(oput m k x).map eEnt
 | []=>rfl
 | p::r=>by
  simp only [List.map_cons,eEnt,mput,keq_ky,oput]
  by_cases h:p.1=k
  ·simp [h,eEnt]
  ·simp only [h,decide_false,cond_false,if_false,List.map_cons]
   have:=mput_ky k x r
   rw [this]
   rfl
def stC (its:List Item):List AV:=[.dv (.sl 7 (its.map eItem)),.dv rulesD,.dv tabsD,.dv taxesD,.own 1 0 0 []]
def stK (its:List Item) (m:OM):Boxes:=[(0,.cells (stC its)),(1,.tree 0 0 (.omap pairK (m.map eEnt)))]
def typeOf (its:List Item) (i:Int):Option Item:=if i<0 then none else match its[i.toNat]? with
 | some x=>if x.obj then some x else none
 | none=>none
def tyI (o:Option Item):Item:=o.getD Item.zero
theorem keyTI:KeyT Tryz.prog 37 pairK:=keyT_pair tab_ok rfl
theorem mget_b (m:OM) (k:Ky):mget (m.map eEnt) (eKy k)=bif (oget m k).isSome then some (eOb ((oget m k).getD Ob.zero)) else none:=by
 rw [mget_ky]; cases oget m k <;> rfl
theorem mget_z {m:OM} {k:Ky} (h:(oget m k).isSome=false):eOb ((oget m k).getD Ob.zero)=eOb Ob.zero:=by
 cases hq:oget m k with
 | none=>rfl
 | some x=>rw [hq] at h; cases h
theorem item_at {its:List Item} {i:Int} (h0:¬ i<0) (h1:¬ (its.length:Int)≤i):(its.map eItem)[i.toNat]?=some (eItem (its.getD i.toNat Item.zero)):=by
 have hlt:i.toNat<its.length:=by omega
 rw [List.getElem?_map,List.getElem?_eq_getElem hlt]
 simp [List.getD,hlt]
set_option maxRecDepth 100000
set_option maxHeartbeats 4000000 in
theorem typeOf_spec (its:List Item) (m:OM) (i:Int):CSpec Tryz.prog 41 [.ptr 0 0,.dv (I i)] 2 (stK its m) 0 [ofD (eItem (tyI (typeOf its i))),.dv (B (typeOf its i).isSome)] (stK its m):=by
 refine cspec_of tab_ok mixed (calls_snd _) (range_snd _) Tryz.func41 rfl rfl (by kernel_rfl) ?_
 repeat first | refine ⟨id,?_⟩ | refine ⟨fun _ h=>bw_f h,?_⟩ | refine ⟨fun _ h=>bw_t h,?_⟩ | refine ⟨fun h=>⟨h,fun h2=>bw_and h h2⟩,?_⟩ | refine ⟨fun h=>⟨h,fun h2=>bw_andf h h2⟩,?_⟩
 have hb:∀{p q:Bool},bw (bif p then true else q) false=true→p=false∧q=false:=fun {p q} h=>by cases p <;> cases q <;> simp_all [bw]
 refine ⟨eItem (its.getD i.toNat Item.zero),fun h=>?_,?_⟩
 ·obtain ⟨h1,h2⟩:=hb h
  have h1:¬ i<0:=by simpa using h1
  have h2:¬ (its.length:Int)≤i:=by simpa using h2
  exact ⟨by omega,item_at h1 h2⟩
 repeat first | refine ⟨id,?_⟩ | refine ⟨fun _ h=>bw_f h,?_⟩ | refine ⟨fun _ h=>bw_t h,?_⟩ | refine ⟨fun h=>⟨h,fun h2=>bw_and h h2⟩,?_⟩ | refine ⟨fun h=>⟨h,fun h2=>bw_andf h h2⟩,?_⟩
 refine ⟨fun h=>?_,fun h=>?_⟩
 ·have e:typeOf its i=none:=by
   unfold typeOf
   split
   ·rfl
   ·rename_i hi
    cases hq:its[i.toNat]? with
    | none=>rfl
    | some x =>
     have hlt:=(List.getElem?_eq_some_iff.1 hq).1
     have h2:¬ (its.length:Int)≤i:=by omega
     simp [hi,h2,List.getD,hq] at h
     simp [h]
  refine ⟨_,_,⟨rfl,rfl⟩,by kernel_rfl,⟨?_,?_,tv⟩,⟨rf,rf,rf,rf,rfl,tv⟩,⟨rfl,rfl⟩,tv⟩
  ·rw [e]; exact ⟨rf,rf,rf,rf,rf,rf,rf,tv⟩
  ·rw [e]; exact rf
 ·have hi:¬ i<0:=fun hi=>by simp [hi] at h
  have h2:¬ (its.length:Int)≤i:=fun h2=>by simp [h2] at h
  have e:typeOf its i=some (its.getD i.toNat Item.zero):=by
   have hlt:i.toNat<its.length:=by omega
   simp only [typeOf,if_neg hi,List.getElem?_eq_getElem hlt]
   simp [hi,h2,List.getD,hlt] at h
   simp [h,List.getD,hlt]
  refine ⟨eItem (its.getD i.toNat Item.zero),fun _=>⟨by omega,item_at hi h2⟩,?_⟩
  refine ⟨_,_,⟨rfl,rfl⟩,by kernel_rfl,⟨?_,?_,tv⟩,⟨rf,rf,rf,rf,rfl,tv⟩,⟨rfl,rfl⟩,tv⟩
  ·rw [e]; exact ⟨rf,rf,rf,rf,rf,rf,rf,tv⟩
  ·rw [e]; exact rf
def ownR (its:List Item) (m:OM) (k:Ky) (ow:Int):Ob × Item × Int:=match oget m k with
 | none=>(Ob.zero,Item.zero,7)
 | some x=>if x.owner=ow then (x,its.getD x.item.toNat Item.zero,0) else (Ob.zero,Item.zero,15)
def OkM (its:List Item) (m:OM):Prop:=∀k x,oget m k=some x→0≤x.item∧x.item<its.length
set_option maxHeartbeats 4000000 in
theorem owned_spec (its:List Item) (m:OM) (k:Ky) (ow:Int) (hm:OkM its m):CSpec Tryz.prog 65 [.ptr 0 0,ofD (eKy k),.dv (I ow)] 2 (stK its m) 0 [ofD (eOb (ownR its m k ow).1),ofD (eItem (ownR its m k ow).2.1),.dv (I (ownR its m k ow).2.2)] (stK its m):=by
 refine cspec_of tab_ok mixed (calls_snd _) (range_snd _) Tryz.func65 rfl rfl (by kernel_rfl) ?_
 refine ⟨keyTI,eKy k,rfl,rfl,eOb ((oget m k).getD Ob.zero),(oget m k).isSome,fun _=>mget_b m k,mget_z,rfl,?_⟩
 refine ⟨by kernel_rfl,fun h=>?_,fun h=>?_⟩
 ·have e:ownR its m k ow=(Ob.zero,Item.zero,7):=by
   unfold ownR
   cases hq:oget m k with
   | none=>rfl
   | some x=>simp [hq] at h
  refine ⟨_,_,⟨rfl,rfl⟩,by kernel_rfl,?_,⟨rf,rf,rf,rf,rfl,tv⟩,⟨rfl,rfl⟩,tv⟩
  rw [e]; exact ⟨⟨rf,rf,rf,rf,tv⟩,⟨rf,rf,rf,rf,rf,rf,rf,tv⟩,rf,tv⟩
 ·obtain ⟨x,hx⟩:∃x,oget m k=some x:=by
   cases hq:oget m k with
   | none=>simp [hq] at h
   | some x=>exact ⟨x,rfl⟩
  rw [hx]
  refine ⟨fun h=>?_,fun h=>?_⟩
  ·have hne:¬ x.owner=ow:=by simpa using h
   have e:ownR its m k ow=(Ob.zero,Item.zero,15):=by simp [ownR,hx,hne]
   refine ⟨_,_,⟨rfl,rfl⟩,by kernel_rfl,?_,⟨rf,rf,rf,rf,rfl,tv⟩,⟨rfl,rfl⟩,tv⟩
   rw [e]; exact ⟨⟨rf,rf,rf,rf,tv⟩,⟨rf,rf,rf,rf,rf,rf,rf,tv⟩,rf,tv⟩
  ·have hne:x.owner=ow:=by simpa using h
   have e:ownR its m k ow=(x,its.getD x.item.toNat Item.zero,0):=by simp [ownR,hx,hne]
   have hi:=hm k x hx
   refine ⟨eItem (its.getD x.item.toNat Item.zero),fun _=>⟨hi.1,item_at (i:=x.item) (by omega) (by omega)⟩,by kernel_rfl,?_⟩
   refine ⟨_,_,⟨rfl,rfl⟩,by kernel_rfl,?_,⟨rf,rf,rf,rf,rfl,tv⟩,⟨rfl,rfl⟩,tv⟩
   rw [e]; exact ⟨⟨rf,rf,rf,rf,tv⟩,⟨rf,rf,rf,rf,rf,rf,rf,tv⟩,rf,tv⟩
end Go.Proofs.YtpjpdomkcabfcaaGreatDoor
namespace Go.Proofs.YtpjpdomkcabfcaaGreatDoor
open Go.TM
def cmpI (a b:Int):Int:=if a<b then -1 else if b<a then 1 else 0
def cmpK (a b:Ky):Int:=if cmpI a.1 b.1=0 then cmpI a.2 b.2 else cmpI a.1 b.1
def insAt:List Ky→Nat→List Ky
 | l,0=>l
 | l,j+1=>match l[j]?,l[j+1]? with
  | some a,some b=>if cmpK b a<0 then insAt ((l.set (j+1) a).set j b) j else l
  | _,_=>l
def isortN (l:List Ky):Nat→List Ky
 | 0=>l
 | k+1=>insAt (isortN l k) (k+1)
theorem insAt_len:∀(j:Nat) (l:List Ky),(insAt l j).length=l.length
 | 0,l=>rfl
 | j+1,l=>by
  simp only [insAt]
  split
  ·split
   ·rw [insAt_len j]; simp
   ·rfl
  ·rfl
theorem isortN_len (l:List Ky):∀k,(isortN l k).length=l.length
 | 0=>rfl
 | k+1=>by simp only [isortN]; rw [insAt_len,isortN_len l k]
variable [KObj]
theorem isNaN_spec (a:Int):PSpec Tryz.prog 107 [I a] [B false]:=by
 refine pspec_of tab_ok mixed (calls_snd _) (range_snd _) Tryz.func107 rfl (by kernel_rfl) rfl ?_
 exact ⟨DV.Le.of_eq (by simp),tv⟩
theorem cmpI_spec (a b:Int):PSpec Tryz.prog 64 [I a,I b] [I (cmpI a b)]:=by
 refine pspec_of tab_ok mixed (calls_snd _) (range_snd _) Tryz.func64 rfl (by kernel_rfl) rfl ?_
 refine .inl ⟨_,fun _=>(isNaN_spec a).ok,?_⟩
 refine .inl ⟨_,fun _=>(isNaN_spec b).ok,?_⟩
 refine ⟨(fun h=>by cases h),fun _=>⟨(fun h=>by cases h),fun _=>⟨fun h=>?_,fun h=>⟨fun h2=>?_,fun h2=>?_⟩⟩⟩⟩
 ·have h:a<b:=of_decide_eq_true h
  exact ⟨le_int (by simp [cmpI,h]),tv⟩
 ·have h:¬ a<b:=of_decide_eq_false h
  have h2:b<a:=of_decide_eq_true h2
  exact ⟨le_int (by simp [cmpI,h,h2]),tv⟩
 ·have h:¬ a<b:=of_decide_eq_false h
  have h2:¬ b<a:=of_decide_eq_false h2
  exact ⟨le_int (by simp [cmpI,h,h2]),tv⟩
theorem or_spec (a b:Int):PSpec Tryz.prog 63 [Ints [a,b]] [I (if a=0 then b else a)]:=by
 refine pspec_of tab_ok mixed (calls_snd _) (range_snd _) Tryz.func63 rfl (by kernel_rfl) rfl ?_
 refine ⟨Nat,fun j=>⟨0,[(0,.dv (Ints [a,b])),(3,.dv (I 0)),(6,.dv (Ints [a,b])),(7,.dv (I 2)),(8,.dv (I j))],[]⟩,fun j=>j≤2∧(1≤j→a=0)∧(2≤j→b=0),fun j=>2 - j,0,fun _=>rfl,⟨⟨rf,rf,rf,rf,rf,tv⟩,tv,rfl,rfl⟩,⟨by omega,by omega,by omega⟩,?_⟩
 rintro j ⟨h1,h2,h3⟩
 refine ⟨fun h=>?_,fun h=>?_⟩
 ·have h:(j:Int)<2:=of_decide_eq_true h
  obtain rfl | rfl:j=0 ∨ j=1:=by omega
  ·refine ⟨I a,fun _=>⟨by simp,rfl⟩,fun h=>?_,fun h=>⟨fun _=>⟨by omega,by omega⟩,1,⟨⟨rf,rf,rf,rf,le_int (by omega),tv⟩,tv,rfl,rfl⟩,⟨by omega,fun _=>by simpa using h,by omega⟩,by decide⟩⟩
   have h:¬ a=0:=by simpa using h
   exact ⟨le_int (by simp [h]),tv⟩
  ·refine ⟨I b,fun _=>⟨by simp,rfl⟩,fun h=>?_,fun h=>⟨fun _=>⟨by omega,by omega⟩,2,⟨⟨rf,rf,rf,rf,le_int (by omega),tv⟩,tv,rfl,rfl⟩,⟨by omega,fun _=>h2 (by omega),fun _=>by simpa using h⟩,by decide⟩⟩
   have ha:=h2 (by omega)
   exact ⟨le_int (by simp [ha]),tv⟩
 ·have h:¬ (j:Int)<2:=of_decide_eq_false h
  have ha:=h2 (by omega)
  have hb:=h3 (by omega)
  exact ⟨le_int (by simp [ha,hb]),tv⟩
theorem cmpK_spec (a b:Ky):PSpec Tryz.prog 35 [eKy a,eKy b] [I (cmpK a b)]:=by
 refine pspec_of tab_ok mixed (calls_snd _) (range_snd _) Tryz.func35 rfl (by kernel_rfl) rfl ?_
 refine .inl ⟨_,fun _=>(cmpI_spec a.1 b.1).ok,?_⟩
 refine .inl ⟨_,fun _=>(cmpI_spec a.2 b.2).ok,?_⟩
 refine .inl ⟨[I (cmpI a.1 b.1),I (cmpI a.2 b.2)],rfl,⟨rf,rf,tv⟩,(by simp [DV.cells]; rfl),?_⟩
 refine .inl ⟨_,fun _=>(or_spec (cmpI a.1 b.1) (cmpI a.2 b.2)).ok,?_⟩
 exact ⟨by kernel_rfl,rf,tv⟩
structure InI2 where
 j:Nat
 c:List Ky
set_option maxRecDepth 100000
set_option maxHeartbeats 4000000 in
theorem insSort_spec (l:List Ky) (hl:l.length≤1000):CSpec Tryz.prog 97 [.own 0 0 0 [],.dv (I 0),.dv (I l.length),.dv (.fn 35 [])] 1 [(0,.tree 0 0 (.osl 2 (l.map eKy)))] 0 [] [(0,.tree 0 0 (.osl 2 ((isortN l (l.length - 1)).map eKy)))]:=by
 refine cspec_of tab_ok mixed (calls_snd _) (range_snd _) Tryz.func97 rfl rfl (by kernel_rfl) ?_
 refine ⟨fun _=>⟨by omega,by omega⟩,?_⟩
 refine ⟨Nat,fun k=>⟨1,[(0,.own 0 0 0 []),(1,.dv (I 0)),(2,.dv (I l.length)),(3,.dv (.fn 35 [])),(8,.dv (I (1+k)))],[(0,.tree 0 0 (.osl 2 ((isortN l k).map eKy)))]⟩,fun k=>k≤l.length - 1,fun k=>l.length - k,0,fun _=>rfl,⟨⟨rfl,rf,rf,rf,rf,tv⟩,⟨⟨rfl,rfl⟩,tv⟩,rfl,rfl⟩,by omega,?_⟩
 intro k hk
 refine ⟨fun h=>?_,fun h=>?_⟩
 ·have hkl:1+k<l.length:=by
   have:(1+(k:Int))<l.length:=of_decide_eq_true h
   omega
  clear h
  have hcl:=isortN_len l k
  refine ⟨InI2,fun z=>⟨1,[(0,.own 0 0 0 []),(1,.dv (I 0)),(2,.dv (I l.length)),(3,.dv (.fn 35 [])),(8,.dv (I (1+k))),(9,.dv (I z.j))],[(0,.tree 0 0 (.osl 2 (z.c.map eKy)))]⟩,fun z=>z.j≤k+1∧z.c.length=l.length∧insAt z.c z.j=isortN l (k+1),fun z=>z.j,⟨k+1,isortN l k⟩,fun _=>rfl,⟨⟨rfl,rf,rf,rf,rf,le_int (by simp; omega),tv⟩,⟨⟨rfl,rfl⟩,tv⟩,rfl,rfl⟩,⟨by simp,hcl,rfl⟩,?_⟩
  rintro ⟨j,c⟩ ⟨hj1,hj2,hj3⟩
  dsimp only at hj1 hj2 hj3
  cases j with
  | zero =>
   refine ⟨id,id,(fun h=>by cases h),id,eKy (0,0),(fun h=>by cases h),?_⟩
   refine ⟨id,(fun h=>by cases h),id,id,(fun h=>by cases h),id,eKy (0,0),(fun h=>by cases h),?_⟩
   refine ⟨id,id,id,.inl ⟨[I 0],(fun h=>by cases h),.inl ⟨id,fun _ h=>bw_t h,by kernel_rfl,(fun h=>by cases h),fun _=>?_⟩⟩⟩
   exact ⟨fun _=>⟨by omega,by omega⟩,k+1,⟨⟨rfl,rf,rf,rf,le_int (by omega),tv⟩,⟨⟨rfl,by rw [←hj3]; rfl⟩,tv⟩,rfl,rfl⟩,by omega,by dsimp only; omega⟩
  | succ j =>
   obtain ⟨b,hb⟩:∃b,c[j+1]?=some b:=⟨_,List.getElem?_eq_getElem (by omega)⟩
   obtain ⟨a,ha⟩:∃a,c[j]?=some a:=⟨_,List.getElem?_eq_getElem (by omega)⟩
   have e1:(((j+1:Nat):Int)).toNat=j+1:=by omega
   have e2:(((j+1:Nat):Int) - 1).toNat=j:=by omega
   refine ⟨id,id,fun _=>⟨by dsimp only; omega,by dsimp only; simp; omega⟩,id,eKy b,fun _=>by dsimp only; rw [e1,List.getElem?_map,hb]; rfl,?_⟩
   refine ⟨id,fun _=>⟨by dsimp only; omega,by dsimp only; omega⟩,id,id,fun _=>⟨by dsimp only; omega,by dsimp only; simp; omega⟩,id,eKy a,fun _=>by dsimp only; rw [e2,List.getElem?_map,ha]; rfl,?_⟩
   refine ⟨id,id,id,.inl ⟨_,fun _=>(cmpK_spec b a).ok,.inl ⟨id,fun _ h=>bw_t h,by kernel_rfl,fun h=>?_,fun h=>?_⟩⟩⟩
   ·obtain ⟨-,h2⟩:=bif_t h
    have hlt:cmpK b a<0:=of_decide_eq_true h2
    clear h h2
    have hins:insAt c (j+1)=insAt ((c.set (j+1) a).set j b) j:=by simp only [insAt,ha,hb,if_pos hlt]
    have hm2:(c.set (j+1) a)[j]?=some a:=by rw [List.getElem?_set,if_neg (by omega),ha]
    have har:true=true→-9223372036854775808≤(((j+1:Nat):Int)) - 1∧(((j+1:Nat):Int)) - 1≤9223372036854775807:=fun _=>⟨by omega,by omega⟩
    refine ⟨har,har,fun _=>⟨by dsimp only; omega,by dsimp only; simp; omega⟩,eKy a,fun _=>by dsimp only; rw [e2,List.getElem?_map,ha]; rfl,?_⟩
    refine ⟨fun _=>⟨by dsimp only; omega,by dsimp only; simp; omega⟩,eKy b,fun _=>by dsimp only; rw [e1,List.getElem?_map,hb]; rfl,?_⟩
    refine ⟨fun _=>⟨by dsimp only; omega,by dsimp only; simp; omega⟩,[I a.1,I a.2],⟨rf,rf,tv⟩,eKy b,(by dsimp only; rw [e1,List.getElem?_map,hb]; rfl),?_⟩
    refine ⟨fun _=>⟨by dsimp only; omega,by dsimp only; simp; omega⟩,[I b.1,I b.2],⟨rf,rf,tv⟩,eKy a,?_,by kernel_rfl,?_⟩
    ·show ((c.map eKy).set (((j+1:Nat):Int)).toNat (eKy a))[(((j+1:Nat):Int) - 1).toNat]?=some (eKy a)
     rw [e1,e2,←List.map_set,List.getElem?_map,hm2]; rfl
    refine ⟨fun _=>⟨by dsimp only; omega,by dsimp only; omega⟩,⟨j,(c.set (j+1) a).set j b⟩,⟨⟨rfl,rf,rf,rf,rf,le_int (by dsimp only; omega),tv⟩,⟨⟨rfl,?_⟩,tv⟩,rfl,rfl⟩,⟨by dsimp only; omega,by simp [hj2],by dsimp only; rw [←hins]; exact hj3⟩,by dsimp only; omega⟩
    show DV.osl 2 (((c.map eKy).set (((j+1:Nat):Int)).toNat (eKy a)).set (((j+1:Nat):Int) - 1).toNat (eKy b))=.osl 2 (((c.set (j+1) a).set j b).map eKy)
    rw [e1,e2,List.map_set,List.map_set]
   ·have hlt:¬ cmpK b a<0:=fun hlt=>by
     have:=bif_f h
     exact this ⟨by first | simp | (simp; omega),decide_eq_true hlt⟩
    have hins:insAt c (j+1)=c:=by simp only [insAt,ha,hb,if_neg hlt]
    exact ⟨fun _=>⟨by omega,by omega⟩,k+1,⟨⟨rfl,rf,rf,rf,le_int (by omega),tv⟩,⟨⟨rfl,by rw [←hj3,hins]⟩,tv⟩,rfl,rfl⟩,by omega,by dsimp only; omega⟩
 ·have hke:k=l.length - 1:=by
   have:¬ (1+(k:Int))<l.length:=of_decide_eq_false h
   omega
  subst hke
  exact ⟨_,_,⟨rfl,rfl⟩,by kernel_rfl,tv,⟨rfl,rfl⟩,tv⟩
def lens:List Int:=[0,1,2,2,3,3,3,3,4,4,4,4,4]
theorem upto12 {m:Nat} (h:m≤12):m=0 ∨ m=1 ∨ m=2 ∨ m=3 ∨ m=4 ∨ m=5 ∨ m=6 ∨ m=7 ∨ m=8 ∨ m=9 ∨ m=10 ∨ m=11 ∨ m=12:=by omega
set_option maxHeartbeats 4000000 in
theorem len64_spec (m:Nat) (hm:m≤12):PSpec Tryz.prog 106 [.int .u64 m] [I (lens.getD m 0)]:=by
 refine pspec_of tab_ok mixed (calls_snd _) (range_snd _) Tryz.func106 rfl (by kernel_rfl) rfl ?_
 obtain rfl | rfl | rfl | rfl | rfl | rfl | rfl | rfl | rfl | rfl | rfl | rfl | rfl:=upto12 hm
 all_goals
  refine ⟨(fun h=>by cases h),fun _=>⟨(fun h=>by cases h),fun _=>⟨(fun h=>by cases h),fun _=>?_⟩⟩⟩
  exact ⟨_,fun _=>⟨by decide,rfl⟩,fun _=>⟨by decide,by decide⟩,le_int (by decide),tv⟩
theorem len_spec (m:Nat) (hm:m≤12):PSpec Tryz.prog 62 [.int .u64 m] [I (lens.getD m 0)]:=by
 refine pspec_of tab_ok mixed (calls_snd _) (range_snd _) Tryz.func62 rfl (by kernel_rfl) rfl ?_
 exact ⟨(fun h=>by cases h),fun _=>.inl ⟨_,fun _=>(len64_spec m hm).ok,rf,tv⟩⟩
set_option maxHeartbeats 4000000 in
theorem pdq_spec (l:List Ky) (hl:l.length≤12) (q:Int):CSpec Tryz.prog 61 [.own 0 0 0 [],.dv (I 0),.dv (I l.length),.dv (I q),.dv (.fn 35 [])] 1 [(0,.tree 0 0 (.osl 2 (l.map eKy)))] 0 [] [(0,.tree 0 0 (.osl 2 ((isortN l (l.length - 1)).map eKy)))]:=by
 refine cspec_of tab_ok mixed (calls_snd _) (range_snd _) Tryz.func61 rfl rfl (by kernel_rfl) ?_
 refine ⟨Unit,fun _=>⟨1,[(0,.own 0 0 0 []),(1,.dv (I 0)),(2,.dv (I l.length)),(4,.dv (.fn 35 []))],[(0,.tree 0 0 (.osl 2 (l.map eKy)))]⟩,fun _=>True,fun _=>0,(),fun _=>rfl,⟨⟨rfl,rf,rf,rf,tv⟩,⟨⟨rfl,rfl⟩,tv⟩,rfl,rfl⟩,tv,?_⟩
 intro _ _
 refine ⟨fun _=>⟨by omega,by omega⟩,fun _=>?_,fun h=>?_⟩
 ·refine .inr ⟨[0],[.own 0 0 0 [],.dv (I 0),.dv (I l.length),.dv (.fn 35 [])],[(0,.tree 0 0 (.osl 2 (l.map eKy)))],0,_,_,insSort_spec l (by omega),by kernel_rfl,by kernel_rfl,⟨rfl,rf,rf,rf,tv⟩,⟨⟨rfl,rfl⟩,tv⟩,?_⟩
  exact ⟨_,_,⟨rfl,rfl⟩,by kernel_rfl,tv,⟨rfl,rfl⟩,tv⟩
 ·exfalso
  have h:¬ (l.length:Int) - 0≤12:=of_decide_eq_false h
  omega
set_option maxHeartbeats 4000000 in
theorem sort_spec (l:List Ky) (hl:l.length≤12):CSpec Tryz.prog 34 [.own 0 0 0 [],.dv (.fn 35 [])] 1 [(0,.tree 0 0 (.osl 2 (l.map eKy)))] 0 [] [(0,.tree 0 0 (.osl 2 ((isortN l (l.length - 1)).map eKy)))]:=by
 refine cspec_of tab_ok mixed (calls_snd _) (range_snd _) Tryz.func34 rfl rfl (by kernel_rfl) ?_
 have hwr:IntKind.u64.wrap ((l.map eKy).length:Int)=(l.length:Int):=by
  rw [List.length_map]
  obtain h | h | h | h | h | h | h | h | h | h | h | h | h:=upto12 hl <;> rw [h] <;> decide
 have hok:CallOk Tryz.prog 62 [.int .u64 (IntKind.u64.wrap ((l.map eKy).length:Int))] [I (lens.getD l.length 0)]:=by
  rw [hwr]; exact (len_spec l.length hl).ok
 refine .inl ⟨_,fun _=>hok,?_⟩
 have hp:=pdq_spec l hl (lens.getD l.length 0)
 refine .inr ⟨[0],[.own 0 0 0 [],.dv (I 0),.dv (I l.length),.dv (I (lens.getD l.length 0)),.dv (.fn 35 [])],[(0,.tree 0 0 (.osl 2 (l.map eKy)))],0,_,_,hp,by kernel_rfl,by kernel_rfl,⟨rfl,rf,le_int (by simp),rf,rf,tv⟩,⟨⟨rfl,rfl⟩,tv⟩,?_⟩
 exact ⟨_,_,⟨rfl,rfl⟩,by kernel_rfl,tv,⟨rfl,rfl⟩,tv⟩
end Go.Proofs.YtpjpdomkcabfcaaGreatDoor
namespace Go.Proofs.YtpjpdomkcabfcaaGreatDoor
open Go.TM
variable [KObj]
def odel:OM→Ky→OM
 | [],_=>[]
 | p::r,k=>if p.1=k then r else p::odel r k
theorem mdel_ky (k:Ky):∀m:OM,mdel (m.map eEnt) (eKy k)=(odel m k).map eEnt
 | []=>rfl
 | p::r=>by
  simp only [List.map_cons,eEnt,mdel,keq_ky,odel]
  by_cases h:p.1=k
  ·simp [h,eEnt]
  ·simp only [h,decide_false,cond_false,if_false,List.map_cons]
   have:=mdel_ky k r
   rw [this]
   rfl
theorem odel_none {k:Ky}:∀{m:OM},oget m k=none→odel m k=m
 | [],_=>rfl
 | p::r,h=>by
  simp only [oget] at h
  simp only [odel]
  by_cases e:p.1=k
  ·simp [e] at h
  ·simp only [e,if_false] at h ⊢
   rw [odel_none h]
set_option maxRecDepth 100000
set_option maxHeartbeats 4000000 in
theorem remove_spec (its:List Item) (m:OM) (k:Ky):CSpec Tryz.prog 24 [.ptr 0 0,ofD (eKy k)] 2 (stK its m) 0 [ofD (eOb ((oget m k).getD Ob.zero)),.dv (I (if (oget m k).isSome then 0 else 7))] (stK its (odel m k)):=by
 refine cspec_of tab_ok mixed (calls_snd _) (range_snd _) Tryz.func24 rfl rfl (by kernel_rfl) ?_
 refine ⟨keyTI,eKy k,rfl,rfl,eOb ((oget m k).getD Ob.zero),(oget m k).isSome,fun _=>mget_b m k,mget_z,rfl,?_⟩
 refine ⟨by kernel_rfl,fun h=>?_,fun h=>?_⟩
 ·have e:oget m k=none:=by
   cases hq:oget m k with
   | none=>rfl
   | some x=>simp [hq] at h
  rw [odel_none e,e]
  exact ⟨_,_,⟨rfl,rfl⟩,by kernel_rfl,⟨⟨rf,rf,rf,rf,tv⟩,rf,tv⟩,⟨rf,rf,rf,rf,rfl,tv⟩,⟨rfl,rfl⟩,tv⟩
 ·have e:(oget m k).isSome=true:=by cases hq:(oget m k).isSome <;> simp_all
  refine ⟨keyTI,eKy k,rfl,rfl,by kernel_rfl,?_⟩
  refine ⟨_,_,⟨rfl,rfl⟩,by kernel_rfl,⟨⟨rf,rf,rf,rf,tv⟩,?_,tv⟩,⟨rf,rf,rf,rf,rfl,tv⟩,⟨rfl,?_⟩,tv⟩
  ·rw [e]; exact rf
  ·rw [←mdel_ky]
end Go.Proofs.YtpjpdomkcabfcaaGreatDoor
namespace Go.Proofs.YtpjpdomkcabfcaaGreatDoor
open Go.TM
def kle (a b:Ky):Prop:=a.1<b.1 ∨ a.1=b.1∧a.2≤b.2
def klt (a b:Ky):Prop:=a.1<b.1 ∨ a.1=b.1∧a.2<b.2
theorem cmpI_neg {a b:Int}:cmpI a b<0 ↔ a<b:=by
 unfold cmpI
 split
 ·simp [*]
 ·split <;> simp <;> omega
theorem cmpI_zero {a b:Int}:cmpI a b=0 ↔ a=b:=by
 unfold cmpI
 split
 ·simp; omega
 ·split <;> simp <;> omega
theorem cmpK_neg {a b:Ky}:cmpK a b<0 ↔ klt a b:=by
 unfold cmpK klt
 by_cases h:cmpI a.1 b.1=0
 ·rw [if_pos h,cmpI_neg]
  have:=cmpI_zero.1 h
  omega
 ·rw [if_neg h,cmpI_neg]
  have:¬ a.1=b.1:=fun e=>h (cmpI_zero.2 e)
  omega
theorem swap_form {l:List Ky} {j:Nat} {a b:Ky} (ha:l[j]?=some a) (hb:l[j+1]?=some b):∃p q,l=p++a::b::q∧p.length=j∧(l.set (j+1) a).set j b=p++b::a::q:=by
 have hj:j+1<l.length:=(List.getElem?_eq_some_iff.1 hb).1
 refine ⟨l.take j,l.drop (j+2),?_,by simp; omega,?_⟩
 ·have h1:=List.drop_eq_getElem_cons (show j<l.length by omega)
  have h2:=List.drop_eq_getElem_cons hj
  rw [List.getElem?_eq_getElem (by omega)] at ha hb
  injection ha with ha; injection hb with hb
  rw [ha] at h1; rw [hb] at h2
  rw [show j+2=j+1+1 from rfl,←h2,←h1,List.take_append_drop]
 ·have h1:=List.drop_eq_getElem_cons (show j<l.length by omega)
  have h2:=List.drop_eq_getElem_cons hj
  rw [List.getElem?_eq_getElem (by omega)] at ha hb
  injection ha with ha; injection hb with hb
  rw [ha] at h1; rw [hb] at h2
  have e:l=l.take j++a::b::l.drop (j+2):=by rw [show j+2=j+1+1 from rfl,←h2,←h1,List.take_append_drop]
  generalize hp:l.take j=p at *
  generalize hq:l.drop (j+2)=q at *
  have hpl:p.length=j:=by rw [←hp]; simp; omega
  rw [e,List.set_append_right _ _ (by omega),hpl,show j+1 - j=1 by omega,List.set_append_right _ _ (by omega),hpl,Nat.sub_self]
  rfl
theorem insAt_perm:∀(j:Nat) (l:List Ky),(insAt l j).Perm l
 | 0,l=>.refl _
 | j+1,l=>by
  simp only [insAt]
  split
  ·rename_i a b ha hb
   split
   ·obtain ⟨p,q,h1,h2,h3⟩:=swap_form ha hb
    refine (insAt_perm j _).trans ?_
    rw [h3]
    conv=>rhs; rw [h1]
    exact List.Perm.append_left p (List.Perm.swap a b q)
   ·exact .refl _
  ·exact .refl _
theorem isortN_perm (l:List Ky):∀k,(isortN l k).Perm l
 | 0=>.refl _
 | k+1=>(insAt_perm _ _).trans (isortN_perm l k)
abbrev at' (l:List Ky) (i:Nat):Ky:=l.getD i (0,0)
theorem at_set {l:List Ky} {k i:Nat} {x:Ky} (hk:k<l.length):at' (l.set k x) i=if i=k then x else at' l i:=by
 unfold at'
 rw [List.getD_eq_getElem?_getD,List.getD_eq_getElem?_getD,List.getElem?_set]
 by_cases h:k=i
 ·subst h; simp [hk]
 ·rw [if_neg h,if_neg (fun e=>h e.symm)]
theorem at_some {l:List Ky} {i:Nat} {a:Ky} (h:l[i]?=some a):at' l i=a:=by
 unfold at'; rw [List.getD_eq_getElem?_getD,h]; rfl
structure Near' (l:List Ky) (j m:Nat):Prop where
 adj:∀i,i+1<m→i+1 ≠ j→kle (at' l i) (at' l (i+1))
 skip:∀i,i+1=j→j+1<m→kle (at' l i) (at' l (j+1))
theorem insAt_sorted:∀(j:Nat) (l:List Ky) (m:Nat),j<m→m≤l.length→Near' l j m→∀i,i+1<m→kle (at' (insAt l j) i) (at' (insAt l j) (i+1))
 | 0,l,m,_,_,h=>fun i hi=>h.adj i hi (by omega)
 | j+1,l,m,hj,hm,h=>by
  obtain ⟨a,ha⟩:∃a,l[j]?=some a:=⟨_,List.getElem?_eq_getElem (by omega)⟩
  obtain ⟨b,hb⟩:∃b,l[j+1]?=some b:=⟨_,List.getElem?_eq_getElem (by omega)⟩
  have hA:=at_some ha
  have hB:=at_some hb
  by_cases hlt:cmpK b a<0
  ·have e:insAt l (j+1)=insAt ((l.set (j+1) a).set j b) j:=by simp only [insAt,ha,hb,if_pos hlt]
   rw [e]
   have hl1:j+1<l.length:=by omega
   have hba:=cmpK_neg.1 hlt
   have hat:∀i,at' ((l.set (j+1) a).set j b) i=if i=j then b else if i=j+1 then a else at' l i:=fun i=>by
    rw [at_set (by simp; omega),at_set hl1]
   refine insAt_sorted j _ m (by omega) (by simpa using hm) ⟨fun i hi hne=>?_,fun i hij hjm=>?_⟩
   ·rw [hat,hat]
    by_cases h1:i=j
    ·subst h1
     rw [if_pos rfl,if_neg (by omega),if_pos rfl]
     unfold kle; unfold klt at hba; omega
    ·by_cases h2:i=j+1
     ·subst h2
      have:=h.skip j rfl hi
      rw [hA] at this
      rw [if_neg (by omega),if_pos rfl,if_neg (by omega),if_neg (by omega)]
      exact this
     ·rw [if_neg h1,if_neg h2,if_neg hne,if_neg (by omega)]
      exact h.adj i hi (by omega)
   ·rw [hat,hat,if_neg (by omega),if_neg (by omega),if_neg (by omega),if_pos rfl]
    have:=h.adj i (by omega) (by omega)
    rw [hij,hA] at this
    exact this
  ·have e:insAt l (j+1)=l:=by simp only [insAt,ha,hb,if_neg hlt]
   rw [e]
   have hba:¬ klt b a:=fun hh=>hlt (cmpK_neg.2 hh)
   intro i hi
   by_cases hij:i=j
   ·subst hij; rw [hA,hB]; unfold kle; unfold klt at hba; omega
   ·exact h.adj i hi (by omega)
theorem isortN_sorted (l:List Ky):∀k,k<l.length→∀i,i+1<k+1→kle (at' (isortN l k) i) (at' (isortN l k) (i+1))
 | 0,_,i,hi=>by omega
 | k+1,hk,i,hi=>by
  have ih:=isortN_sorted l k (by omega)
  refine insAt_sorted (k+1) (isortN l k) (k+2) (by omega) (by rw [isortN_len]; omega) ⟨fun i hi hne=>ih i (by omega),fun i hij h=>by omega⟩ i hi
theorem klt_of {a b:Ky} (h:kle a b) (hne:a ≠ b):klt a b:=by
 obtain ⟨a1,a2⟩:=a
 obtain ⟨b1,b2⟩:=b
 unfold kle at h
 unfold klt
 simp only [ne_eq,Prod.mk.injEq] at *
 omega
theorem klt_tr {a b c:Ky} (h1:klt a b) (h2:klt b c):klt a c:=by unfold klt at *; omega
theorem klt_irr {a:Ky}:¬ klt a a:=by unfold klt; omega
theorem pair_of:∀{l:List Ky},(∀i,i+1<l.length→kle (at' l i) (at' l (i+1)))→l.Nodup→l.Pairwise klt
 | [],_,_=>.nil
 | [x],_,_=>by simp
 | x::y::l,h,hn=>by
  have hn2:=(List.nodup_cons.1 hn)
  have ih:=pair_of (l:=y::l) (fun i hi=>h (i+1) (by simpa using hi)) hn2.2
  have hxy:klt x y:=klt_of (h 0 (by simp)) (fun e=>hn2.1 (by rw [e]; simp))
  refine List.pairwise_cons.2 ⟨fun z hz=>?_,ih⟩
  rcases List.mem_cons.1 hz with rfl | hz
  ·exact hxy
  ·exact klt_tr hxy ((List.pairwise_cons.1 ih).1 z hz)
theorem sorted_ext:∀{a b:List Ky},a.Pairwise klt→b.Pairwise klt→(∀x,x∈a ↔ x∈b)→a=b
 | [],[],_,_,_=>rfl
 | [],y::b,_,_,h=>by have:=(h y).2 (by simp); simp at this
 | x::a,[],_,_,h=>by have:=(h x).1 (by simp); simp at this
 | x::a,y::b,ha,hb,h=>by
  rw [List.pairwise_cons] at ha hb
  have hxy:x=y:=by
   have h1:=(h x).1 (by simp)
   have h2:=(h y).2 (by simp)
   rcases List.mem_cons.1 h1 with h1 | h1
   ·exact h1
   ·rcases List.mem_cons.1 h2 with h2 | h2
    ·exact h2.symm
    ·exact absurd (klt_tr (hb.1 x h1) (ha.1 y h2)) klt_irr
  subst hxy
  rw [sorted_ext ha.2 hb.2 fun z=>?_]
  constructor
  ·intro hz
   rcases List.mem_cons.1 ((h z).1 (List.mem_cons_of_mem _ hz)) with e | h1
   ·have:=ha.1 z hz; rw [e] at this; exact absurd this klt_irr
   ·exact h1
  ·intro hz
   rcases List.mem_cons.1 ((h z).2 (List.mem_cons_of_mem _ hz)) with e | h1
   ·have:=hb.1 z hz; rw [e] at this; exact absurd this klt_irr
   ·exact h1
theorem isort_pair {l:List Ky} (hn:l.Nodup):(isortN l (l.length - 1)).Pairwise klt:=by
 have hp:=isortN_perm l (l.length - 1)
 refine pair_of (fun i hi=>?_) (hp.nodup_iff.2 hn)
 rw [isortN_len] at hi
 exact isortN_sorted l (l.length - 1) (by omega) i (by omega)
theorem isort_perm {l r:List Ky} (h:l.Perm r) (hn:r.Nodup):isortN l (l.length - 1)=isortN r (r.length - 1) :=
 sorted_ext (isort_pair (h.nodup_iff.2 hn)) (isort_pair hn) fun x=>by rw [(isortN_perm l _).mem_iff,(isortN_perm r _).mem_iff,h.mem_iff]
def NdK (m:OM):Prop:=(m.map Prod.fst).Nodup
theorem oget_mem {k:Ky} {x:Ob}:∀{m:OM},oget m k=some x→(k,x)∈m
 | [],h=>by cases h
 | p::r,h=>by
  simp only [oget] at h
  split at h
  ·rename_i e
   injection h with h
   subst h; subst e
   simp
  ·exact List.mem_cons_of_mem _ (oget_mem h)
theorem mem_oget {k:Ky} {x:Ob}:∀{m:OM},NdK m→(k,x)∈m→oget m k=some x
 | [],_,h=>by simp at h
 | p::r,hn,h=>by
  have hn2:=List.nodup_cons.1 hn
  simp only [oget]
  rcases List.mem_cons.1 h with rfl | h
  ·simp
  ·rw [if_neg (fun e=>hn2.1 (List.mem_map.2 ⟨_,h,e.symm⟩))]
   exact mem_oget hn2.2 h
theorem oput_keys {k:Ky} {x:Ob}:∀{m:OM},∀q,q∈(oput m k x).map Prod.fst ↔ q=k ∨ q∈m.map Prod.fst
 | [],q=>by simp [oput]
 | p::r,q=>by
  simp only [oput]
  by_cases e:p.1=k
  ·simp [e]
  ·simp only [e,if_false,List.map_cons,List.mem_cons]
   rw [oput_keys (m:=r) q]
   constructor
   ·rintro (h | h | h)
    ·exact .inr (.inl h)
    ·exact .inl h
    ·exact .inr (.inr h)
   ·rintro (h | h | h)
    ·exact .inr (.inl h)
    ·exact .inl h
    ·exact .inr (.inr h)
theorem oput_nd {k:Ky} {x:Ob}:∀{m:OM},NdK m→NdK (oput m k x)
 | [],_=>by simp [oput,NdK]
 | p::r,hn=>by
  have hn2:=List.nodup_cons.1 hn
  simp only [oput]
  by_cases e:p.1=k
  ·rw [if_pos e]
   refine List.nodup_cons.2 ⟨?_,hn2.2⟩
   rw [←e]; exact hn2.1
  ·rw [if_neg e]
   refine List.nodup_cons.2 ⟨fun hm=>?_,oput_nd hn2.2⟩
   rcases (oput_keys _).1 hm with h | h
   ·exact e h
   ·exact hn2.1 h
theorem odel_sub {k:Ky}:∀{m:OM},(odel m k).Sublist m
 | []=>.slnil
 | p::r=>by
  simp only [odel]
  split
  ·exact List.sublist_cons_self p r
  ·exact odel_sub.cons_cons p
theorem odel_nd {k:Ky} {m:OM} (h:NdK m):NdK (odel m k):=h.sublist (odel_sub.map _)
def ownK (m:OM) (ow:Int):List Ky:=(m.filter fun p=>p.2.owner == ow).map Prod.fst
def ofL (m:OM) (ow:Int):List Ky:=isortN (ownK m ow) ((ownK m ow).length - 1)
theorem ownK_nd {m:OM} (h:NdK m) (ow:Int):(ownK m ow).Nodup:=h.sublist ((List.filter_sublist).map _)
theorem mem_ofL {m:OM} (h:NdK m) {ow:Int} {k:Ky}:k∈ofL m ow ↔ ∃x,oget m k=some x∧x.owner=ow:=by
 unfold ofL
 rw [(isortN_perm _ _).mem_iff]
 unfold ownK
 simp only [List.mem_map,List.mem_filter]
 constructor
 ·rintro ⟨⟨k',x⟩,⟨h1,h2⟩,rfl⟩
  exact ⟨x,mem_oget h h1,by simpa using h2⟩
 ·rintro ⟨x,h1,h2⟩
  exact ⟨(k,x),⟨oget_mem h1,by simpa using h2⟩,rfl⟩
theorem erase_perm {α:Type}:∀{l:List α} {i:Nat} {x:α},l[i]?=some x→l.Perm (x::l.eraseIdx i)
 | [],i,x,h=>by simp at h
 | y::l,0,x,h=>by simp at h; subst h; simp
 | y::l,i+1,x,h=>by
  simp only [List.getElem?_cons_succ] at h
  simp only [List.eraseIdx_cons_succ]
  exact ((erase_perm h).cons y).trans (List.Perm.swap x y _)
end Go.Proofs.YtpjpdomkcabfcaaGreatDoor
namespace Go.Proofs.YtpjpdomkcabfcaaGreatDoor
open Go.TM
variable [KObj]
def isOwner (n:Int):Bool:=decide (1≤n) && decide (n≤1073741824)
theorem isOwner_spec (n:Int):PSpec Tryz.prog 40 [I n] [B (isOwner n)]:=by
 refine pspec_of tab_ok mixed (calls_snd _) (range_snd _) Tryz.func40 rfl (by kernel_rfl) rfl ?_
 repeat first | refine ⟨id,?_⟩ | refine ⟨fun _ h=>bw_f h,?_⟩ | refine ⟨fun _ h=>bw_t h,?_⟩ | refine ⟨fun h=>⟨h,fun h2=>bw_and h h2⟩,?_⟩ | refine ⟨fun h=>⟨h,fun h2=>bw_andf h h2⟩,?_⟩
 refine ⟨DV.Le.of_eq ?_,tv⟩
 unfold isOwner
 cases decide (1≤n) <;> rfl
def putE (its:List Item) (m:OM) (k:Ky) (x:Ob):Int :=
 if k.1<0 ∨ k.2<0 ∨ 1099511627776≤k.2 ∨ isOwner x.owner=false then 1
 else match typeOf its x.item with
 | none=>9
 | some t=>if x.wear<0 ∨ t.wear<x.wear then 5 else if (oget m k).isSome then 8 else 0
def putM (its:List Item) (m:OM) (k:Ky) (x:Ob):OM:=if putE its m k x=0 then oput m k x else m
theorem closed_eOb (x:Ob):(eOb x).closedCells:=fun d hd=>by
 simp only [eOb,DV.cells,List.mem_cons,List.not_mem_nil,or_false] at hd
 rcases hd with rfl | rfl | rfl | rfl <;> rfl
theorem old_closed (m:OM) (k:Ky):∀x,mget (m.map eEnt) (eKy k)=some x→x.closedCells:=by
 intro x hx
 rw [mget_ky] at hx
 cases hq:oget m k with
 | none=>rw [hq] at hx; cases hx
 | some y=>rw [hq] at hx; injection hx with hx; subst hx; exact closed_eOb y
set_option maxRecDepth 100000
set_option maxHeartbeats 4000000 in
theorem put_spec (its:List Item) (m:OM) (k:Ky) (x:Ob):CSpec Tryz.prog 16 [.ptr 0 0,ofD (eKy k),ofD (eOb x)] 2 (stK its m) 0 [.dv (I (putE its m k x))] (stK its (putM its m k x)):=by
 refine cspec_of tab_ok mixed (calls_snd _) (range_snd _) Tryz.func16 rfl rfl (by kernel_rfl) ?_
 repeat first | refine ⟨id,?_⟩ | refine ⟨fun _ h=>bw_f h,?_⟩ | refine ⟨fun _ h=>bw_t h,?_⟩ | refine ⟨fun h=>⟨h,fun h2=>bw_and h h2⟩,?_⟩ | refine ⟨fun h=>⟨h,fun h2=>bw_andf h h2⟩,?_⟩
 refine .inl ⟨_,fun _=>(isOwner_spec x.owner).ok,?_⟩
 repeat first | refine ⟨id,?_⟩ | refine ⟨fun _ h=>bw_f h,?_⟩ | refine ⟨fun _ h=>bw_t h,?_⟩ | refine ⟨fun h=>⟨h,fun h2=>bw_and h h2⟩,?_⟩ | refine ⟨fun h=>⟨h,fun h2=>bw_andf h h2⟩,?_⟩
 refine ⟨fun h=>?_,fun h=>?_⟩
 ·have e:putE its m k x=1:=by
   unfold putE
   rw [if_pos]
   simp only [Bool.cond_true_left,Bool.cond_eq_ite] at h
   by_cases h1:k.1<0
   ·exact .inl h1
   by_cases h2:k.2<0
   ·exact .inr (.inl h2)
   by_cases h3:1099511627776≤k.2
   ·exact .inr (.inr (.inl h3))
   simp [h1,h2,h3] at h
   exact .inr (.inr (.inr h))
  refine ⟨_,_,⟨rfl,rfl⟩,by kernel_rfl,⟨?_,tv⟩,⟨rf,rf,rf,rf,rfl,tv⟩,⟨rfl,?_⟩,tv⟩
  ·rw [e]; exact rf
  ·rw [putM,e]; rfl
 ·have hbad:¬ (k.1<0 ∨ k.2<0 ∨ 1099511627776≤k.2 ∨ isOwner x.owner=false):=by
   rintro (h1 | h1 | h1 | h1) <;> simp [h1] at h
  have hty:=typeOf_spec its m x.item
  cases ht:typeOf its x.item with
  | none =>
   rw [ht] at hty
   have e:putE its m k x=9:=by simp only [putE,if_neg hbad,ht]
   refine .inr ⟨[0,1],[.ptr 0 0,.dv (I x.item)],stK its m,0,_,_,hty,by kernel_rfl,by kernel_rfl,⟨rfl,rf,tv⟩,⟨⟨rf,rf,rf,rf,rfl,tv⟩,⟨rfl,rfl⟩,tv⟩,?_⟩
   refine ⟨fun _=>?_,fun h=>by cases h⟩
   refine ⟨_,_,⟨rfl,rfl⟩,by kernel_rfl,⟨?_,tv⟩,⟨rf,rf,rf,rf,rfl,tv⟩,⟨rfl,?_⟩,tv⟩
   ·rw [e]; exact rf
   ·rw [putM,e]; rfl
  | some t =>
   rw [ht] at hty
   refine .inr ⟨[0,1],[.ptr 0 0,.dv (I x.item)],stK its m,0,_,_,hty,by kernel_rfl,by kernel_rfl,⟨rfl,rf,tv⟩,⟨⟨rf,rf,rf,rf,rfl,tv⟩,⟨rfl,rfl⟩,tv⟩,?_⟩
   refine ⟨fun h=>(by cases h),fun _=>?_⟩
   repeat first | refine ⟨id,?_⟩ | refine ⟨fun _ h=>bw_f h,?_⟩ | refine ⟨fun _ h=>bw_t h,?_⟩ | refine ⟨fun h=>⟨h,fun h2=>bw_and h h2⟩,?_⟩ | refine ⟨fun h=>⟨h,fun h2=>bw_andf h h2⟩,?_⟩
   refine ⟨fun h=>?_,fun h=>?_⟩
   ·have hw:x.wear<0 ∨ t.wear<x.wear:=by
     by_cases h1:x.wear<0
     ·exact .inl h1
     ·simp [h1,tyI] at h; exact .inr (of_decide_eq_true h)
    have e:putE its m k x=5:=by simp only [putE,if_neg hbad,ht,if_pos hw]
    refine ⟨_,_,⟨rfl,rfl⟩,by kernel_rfl,⟨?_,tv⟩,⟨rf,rf,rf,rf,rfl,tv⟩,⟨rfl,?_⟩,tv⟩
    ·rw [e]; exact rf
    ·rw [putM,e]; rfl
   ·have hw:¬ (x.wear<0 ∨ t.wear<x.wear):=by
     rintro (h1 | h1) <;> simp [h1,tyI] at h
    refine ⟨keyTI,eKy k,rfl,rfl,eOb ((oget m k).getD Ob.zero),(oget m k).isSome,fun _=>mget_b m k,mget_z,rfl,?_⟩
    refine ⟨by kernel_rfl,fun h=>?_,fun h=>?_⟩
    ·have e:putE its m k x=8:=by simp only [putE,if_neg hbad,ht,if_neg hw,if_pos h]
     refine ⟨_,_,⟨rfl,rfl⟩,by kernel_rfl,⟨?_,tv⟩,⟨rf,rf,rf,rf,rfl,tv⟩,⟨rfl,?_⟩,tv⟩
     ·rw [e]; exact rf
     ·rw [putM,e]; rfl
    ·have h0:¬ (oget m k).isSome=true:=by rw [h]; simp
     have e:putE its m k x=0:=by simp only [putE,if_neg hbad,ht,if_neg hw,if_neg h0]
     refine ⟨keyTI,eKy k,rfl,rfl,eOb x,⟨rf,rf,rf,rf,tv⟩,rfl,false,fun _=>⟨old_closed m k,closed_eOb x⟩,?_⟩
     refine ⟨by kernel_rfl,_,_,⟨rfl,rfl⟩,by kernel_rfl,⟨?_,tv⟩,⟨rf,rf,rf,rf,rfl,tv⟩,⟨rfl,?_⟩,tv⟩
     ·rw [e]; exact rf
     ·rw [putM,e,if_pos rfl,mput_ky]
end Go.Proofs.YtpjpdomkcabfcaaGreatDoor
namespace Go.Proofs.YtpjpdomkcabfcaaGreatDoor
open Go.TM
variable [KObj]
theorem ownK_perm {m r:OM} {ow:Int} (h:m.Perm r):(ownK m ow).Perm (ownK r ow):=(h.filter _).map _
theorem ownK_own {k:Ky} {x:Ob} {r:OM} {ow:Int} (h:x.owner=ow):ownK ((k,x)::r) ow=k::ownK r ow:=by simp [ownK,h]
theorem ownK_not {k:Ky} {x:Ob} {r:OM} {ow:Int} (h:¬ x.owner=ow):ownK ((k,x)::r) ow=ownK r ow:=by simp [ownK,h]
theorem erase_map {α β:Type} {f:α→β}:∀(l:List α) (i:Nat),(l.map f).eraseIdx i=(l.eraseIdx i).map f
 | [],_=>rfl
 | _::_,0=>rfl
 | x::l,i+1=>by simp only [List.map_cons,List.eraseIdx_cons_succ]; rw [erase_map l i]
structure OfSt where
 left:OM
 ids:List Ky
theorem by29:(nth tab (nth tab 29).elem).bytes=16:=rfl
set_option maxRecDepth 100000
set_option maxHeartbeats 4000000 in
theorem of_spec (its:List Item) (m:OM) (ow:Int) (hn:NdK m) (hl:m.length≤12):CSpec Tryz.prog 11 [.ptr 0 0,.dv (I ow)] 2 (stK its m) 2 [.own 3 0 0 []] (stK its m++[(3,.tree 0 0 (.osl 2 ((ofL m ow).map eKy)))]):=by
 refine cspec_of tab_ok mixed (calls_snd _) (range_snd _) Tryz.func11 rfl rfl (by kernel_rfl) ?_
 refine ⟨OfSt,fun z=>⟨4,[(0,.ptr 0 0),(1,.dv (I ow)),(5,.own 3 0 0 []),(12,.ptr 2 0)],[(0,.cells (stC its)),(1,.held),(2,.itr 1 [] (.omap pairK (m.map eEnt)) (z.left.map eEnt) none),(3,.tree 0 0 (.osl 2 (z.ids.map eKy)))]⟩,fun z=>(ownK z.left ow++z.ids).Perm (ownK m ow)∧z.left.length+z.ids.length≤m.length,fun z=>z.left.length,⟨m,[]⟩,fun _=>rfl,?_,?_,?_⟩
 ·exact ⟨⟨rfl,rf,⟨rfl,rfl,rfl,rfl,2,rfl⟩,rfl,tv⟩,⟨⟨rf,rf,rf,rf,rfl,tv⟩,tv,⟨rfl,rfl,rfl,rfl,.inl rfl,tv⟩,⟨rfl,rfl,2,rfl⟩,tv⟩,rfl,rfl⟩
 ·exact ⟨by simp,by simp⟩
 ·rintro ⟨left,ids⟩ ⟨h1,h2⟩
  dsimp only at h1 h2
  refine ⟨tv,fun h=>⟨(fun h=>by cases h),fun _=>?_⟩,fun pos c hc=>⟨fun _=>?_,fun h=>by cases h⟩⟩
  ·have hz:left=[]:=by simpa using h
   subst hz
   have hle:ids.length≤12:=by simp at h2; omega
   have hs:=sort_spec ids hle
   refine .inr ⟨[3],[.own 0 0 0 [],.dv (.fn 35 [])],[(0,.tree 0 0 (.osl 2 (ids.map eKy)))],0,_,_,hs,by kernel_rfl,by kernel_rfl,⟨rfl,rf,tv⟩,⟨⟨rfl,rfl⟩,tv⟩,?_⟩
   have he:isortN ids (ids.length - 1)=ofL m ow:=isort_perm (by simpa [ownK] using h1) (ownK_nd hn ow)
   exact ⟨_,_,⟨rfl,rfl⟩,by kernel_rfl,⟨rfl,tv⟩,⟨rf,rf,rf,rf,rfl,tv⟩,⟨rfl,rfl⟩,⟨rfl,by rw [he]⟩,tv⟩
  ·dsimp only at hc
   rw [List.getElem?_map] at hc
   obtain ⟨⟨k,x⟩,hk,rfl⟩:∃p,left[pos]?=some p∧c=eEnt p:=by
    cases hq:left[pos]? with
    | none=>rw [hq] at hc; cases hc
    | some p=>rw [hq] at hc; exact ⟨p,rfl,by simpa using hc.symm⟩
   refine ⟨closed_eOb x,fun h=>?_,fun h=>?_⟩
   ·have hx:x.owner=ow:=by simpa using h
    refine .inl ⟨[eKy k],rfl,⟨rf,rf,tv⟩,(by simp; rfl),?_⟩
    refine .inr ⟨[eKy k],ELes.refl _,(by rw [by29]; simp; omega),(by simp; omega),⟨left.eraseIdx pos,ids++[k]⟩,?_,⟨?_,?_⟩,?_⟩
    ·exact ⟨⟨rfl,rf,rfl,rfl,tv⟩,⟨⟨rf,rf,rf,rf,rfl,tv⟩,tv,⟨rfl,rfl,rfl,erase_map _ _,.inl rfl,tv⟩,⟨rfl,by simp⟩,tv⟩,rfl,rfl⟩
    ·refine List.Perm.trans ?_ h1
     have h3:=ownK_perm (ow:=ow) (erase_perm hk)
     rw [ownK_own hx] at h3
     refine List.Perm.trans ?_ (h3.symm.append_right ids)
     rw [←List.append_assoc]
     exact List.perm_append_singleton _ _
    ·have:=(List.getElem?_eq_some_iff.1 hk).1
     simp only [List.length_append,List.length_singleton,List.length_eraseIdx]
     split <;> omega
    ·have:=(List.getElem?_eq_some_iff.1 hk).1
     simp only [List.length_eraseIdx]
     split <;> omega
   ·have hx:¬ x.owner=ow:=by simpa using h
    refine ⟨⟨left.eraseIdx pos,ids⟩,?_,⟨?_,?_⟩,?_⟩
    ·exact ⟨⟨rfl,rf,rfl,rfl,tv⟩,⟨⟨rf,rf,rf,rf,rfl,tv⟩,tv,⟨rfl,rfl,rfl,erase_map _ _,.inl rfl,tv⟩,⟨rfl,rfl⟩,tv⟩,rfl,rfl⟩
    ·refine List.Perm.trans ?_ h1
     have h3:=ownK_perm (ow:=ow) (erase_perm hk)
     rw [ownK_not hx] at h3
     exact h3.symm.append_right ids
    ·have:=(List.getElem?_eq_some_iff.1 hk).1
     simp only [List.length_eraseIdx]
     split <;> omega
    ·have:=(List.getElem?_eq_some_iff.1 hk).1
     simp only [List.length_eraseIdx]
     split <;> omega
end Go.Proofs.YtpjpdomkcabfcaaGreatDoor
