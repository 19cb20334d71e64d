import Derived.Test.YtfcfbfkjdenpdaaK4Q7
import Derived.Test.YtfcfbfkjdenpdaaK4Q9
set_option linter.unusedVariables false
set_option linter.unusedSimpArgs false
set_option linter.unusedSectionVars false
namespace Go.Proofs.Ytfcfbfkjdenpdaa
open Go.TM
def posB (e:Int):Bool:=decide (0<e)
def holdP (x:Sta) (m:Rows) (p:Nat):Bool:=((m[p]?).getD []).any posB && !(x.opts.any (prtB p))
def stuckR (x:Sta) (m:Rows):Int:=if x.final || decide (0<x.wait) then -1 else idxB (List.range m.length) (holdP x m)
def subE (acc:List Int) (i:Nat) (x:Int):List Int:=match acc[i]? with
 | some e=>acc.set i (e - x)
 | none=>acc
def gSub (acc:List Int) (g:Giv):List Int:=subE acc g.item.toNat g.n
def leftR (pot:List Int) (x:Sta):List Int:=x.gives.foldl gSub pot
def unevR (n:Nat) (m:Rows) (x:Sta):Bool:=(leftR (sumR n m) x).any (fun e=>e != 0)
theorem sumR_ok {n p:Nat} {m:Rows} (hr:Rect p n 1099511627776000000 m):RowOk n (m.length * 1099511627776000000) (sumR n m):=by
 have:∀k,k≤m.length→RowOk n (k * 1099511627776000000) (sumR n (m.take k)):=by
  intro k
  induction k with
  | zero=>intro _; exact ⟨by simp [sumR],fun e he=>by simp [sumR] at he; omega⟩
  | succ k ih =>
   intro hk
   have hro:m[k]?=some m[k]:=List.getElem?_eq_getElem (by omega)
   have h1:=rowOk_add (ih (by omega)) (hr.at (List.mem_of_getElem? hro))
   have e:sumR n (m.take (k+1))=addRow (sumR n (m.take k)) m[k]:=by
    rw [List.take_add_one,hro,sumR,List.foldl_append]; rfl
   rw [e]
   exact ⟨h1.len,fun e he=>by have:=h1.bd e he; omega⟩
 have h:=this m.length (Nat.le_refl _)
 rw [List.take_length] at h
 exact h
end Go.Proofs.Ytfcfbfkjdenpdaa
namespace Go.Proofs.Ytfcfbfkjdenpdaa
open Go.TM
def lossF (f:Int) (p:Int) (way:List Int) (t:Stp):Option Fau:=if t.next=f∧t.party ≠ p then some ⟨17,f,p,way++[t.label]⟩ else none
def lossS (d:Dea) (f p:Int) (z:Int × List Int):Option Fau:=match d.states[z.1.toNat]? with
 | none=>none
 | some x=>(stepsOf d x).findSome? (lossF f p z.2)
def lossR (d:Dea) (f p:Int):Option Fau:=((disc d).order.zip (disc d).ways).findSome? (lossS d f p)
def lossA (n:Nat) (d:Dea) (x:Sta) (v:List Int) (f:Int) (p:Nat):Option Fau:=if x.final && lostR (outR (folM n d v) x p) then lossR d f p else none
def lossAll (n:Nat) (d:Dea) (x:Sta) (v:List Int) (f:Int):Option Fau:=(List.range d.parties.length).findSome? (lossA n d x v f)
def zFau:Fau:=⟨0,0,0,[]⟩
def orZ:Option Fau→Fau
 | some f=>f
 | none=>zFau
theorem gAdd_len (p:Int) (acc:List Int) (g:Giv):(gAdd p acc g).length=acc.length:=by
 unfold gAdd addE
 split
 ·split <;> simp
 ·rfl
theorem gAdds_len (p:Int):∀(l:List Giv) (acc:List Int),(l.foldl (gAdd p) acc).length=acc.length
 | [],_=>rfl
 | g::l,acc=>by rw [List.foldl_cons,gAdds_len p l,gAdd_len]
theorem outR_len {n:Nat} {m:Rows} {b:Int} {q:Nat} (hr:Rect q n b m) (x:Sta) (p:Int):(outR m x p).length≤n:=by
 unfold outR
 rw [gAdds_len]
 cases h:m[p.toNat]? with
 | none=>simp [negR]
 | some r=>simp [negR,hr.row r (List.mem_of_getElem? h)]
def deadB (x:Sta):Bool:=bif (bif !x.final then ((x.opts.length:Int) == 0) else false) then (x.wait == 0) else false
def condS (n:Nat) (d:Dea) (w:Nat) (s:Int) (v:List Int) (x:Sta):Fau:=match w with
 | 0=>if deadB x then ⟨24,s,-1,v⟩ else ⟨0,s,-1,v⟩
 | 1=>if !endsR d s then ⟨18,s,-1,v⟩ else ⟨0,s,-1,v⟩
 | 2=>if 0≤stuckR x (folM n d v) then ⟨13,s,stuckR x (folM n d v),v⟩ else ⟨0,s,-1,v⟩
 | 3=>if x.final && unevR n (folM n d v) x then ⟨10,s,-1,v⟩ else ⟨0,s,-1,v⟩
 | _=>if x.final then orZ (lossAll n d x v s) else ⟨0,s,-1,v⟩
end Go.Proofs.Ytfcfbfkjdenpdaa
namespace Go.Proofs.Ytfcfbfkjdenpdaa
open Go.TM
def zsub (a b:List Int):List Int:=List.zipWith (fun x y=>x - y) a b
theorem zsub_set {pot G:List Int} (hl:G.length=pot.length) (i:Nat) (x:Int):subE (zsub pot G) i x=zsub pot (addE G i x):=by
 unfold subE addE
 by_cases hi:i<pot.length
 ·have h1:pot[i]?=some pot[i]:=List.getElem?_eq_getElem hi
  have h2:G[i]?=some (G[i]'(by omega)):=List.getElem?_eq_getElem (by omega)
  have h3:(zsub pot G)[i]?=some (pot[i] - G[i]'(by omega)):=by simp [zsub,List.getElem?_zipWith,h1,h2]
  rw [h2,h3]
  apply List.ext_getElem?
  intro j
  by_cases hj:j=i
  ·subst hj
   rw [List.getElem?_set_self (by simp [zsub]; omega)]
   unfold zsub
   rw [List.getElem?_zipWith,h1,List.getElem?_set_self (by omega)]
   simp; omega
  ·rw [List.getElem?_set_ne (fun e=>hj e.symm)]
   unfold zsub
   rw [List.getElem?_zipWith,List.getElem?_zipWith,List.getElem?_set_ne (fun e=>hj e.symm)]
 ·have h2:G[i]?=none:=List.getElem?_eq_none (by omega)
  have h3:(zsub pot G)[i]?=none:=List.getElem?_eq_none (by simp [zsub]; omega)
  rw [h2,h3]
theorem addE_len (acc:List Int) (i:Nat) (x:Int):(addE acc i x).length=acc.length:=by
 unfold addE; split <;> simp
theorem zsub_fold {pot:List Int}:∀(l:List Giv) {G:List Int},G.length=pot.length→l.foldl gSub (zsub pot G)=zsub pot (l.foldl gSum G)
 | [],_,_=>rfl
 | g::l,G,hl=>by
  rw [List.foldl_cons,List.foldl_cons]
  have:gSub (zsub pot G) g=zsub pot (gSum G g):=zsub_set hl _ _
  rw [this]
  exact zsub_fold l (by rw [gSum,addE_len]; exact hl)
theorem zsub_zero:∀(pot:List Int),zsub pot (List.replicate pot.length 0)=pot
 | []=>rfl
 | x::l=>by
  show (x - 0)::zsub l (List.replicate l.length 0)=_
  rw [zsub_zero l]; simp
theorem zsub_any:∀{a b:List Int},b.length=a.length→(zsub a b).any (fun e=>e != 0)=!(b == a)
 | [],[],_=>rfl
 | x::a,y::b,h=>by
  have ih:=zsub_any (a:=a) (b:=b) (by simpa using h)
  show ((x - y != 0) || (zsub a b).any (fun e=>e != 0))=!(y == x && b == a)
  rw [ih]
  by_cases e:y=x
  ·subst e; simp
  ·have h1:(x - y != 0)=true:=by simp; omega
   have h2:(y == x)=false:=by simpa using e
   rw [h1,h2]; rfl
 | [],_::_,h=>by simp at h
 | _::_,[],h=>by simp at h
theorem gSums_len:∀(l:List Giv) (G:List Int),(l.foldl gSum G).length=G.length
 | [],_=>rfl
 | g::l,G=>by rw [List.foldl_cons,gSums_len l,gSum,addE_len]
theorem uneven_law {n p:Nat} {m:Rows} (hr:Rect p n 1099511627776000000 m) (x:Sta):unevR n m x=!(givR n x == sumR n m):=by
 have hl:=(sumR_ok hr).len
 unfold unevR leftR givR
 have h0:sumR n m=zsub (sumR n m) (List.replicate n 0):=by
  have h:=zsub_zero (sumR n m)
  rw [hl] at h
  exact h.symm
 have h1:x.gives.foldl gSub (sumR n m)=zsub (sumR n m) (x.gives.foldl gSum (List.replicate n 0)):=by
  conv=>lhs; rw [h0]
  exact zsub_fold _ (by simp [hl])
 rw [h1]
 exact zsub_any (by rw [gSums_len]; simp [hl])
def codeN (f:Fau):Option Fau:=if f.code=0 then none else some f
def condZ (n:Nat) (d:Dea) (w:Nat) (z:Int × List Int):Option Fau:=match d.states[z.1.toNat]? with
 | some x=>codeN (condS n d w z.1 z.2 x)
 | none=>none
def condW (n:Nat) (d:Dea) (w:Nat):Option Fau:=((disc d).order.zip (disc d).ways).findSome? (condZ n d w)
def chk (n:Nat) (d:Dea):Option Fau:=(List.range 5).findSome? (condW n d)
def checkF (n:Int) (d:Dea):Fau:=if (analyze n d).code=0 then orZ (chk n.toNat d) else analyze n d
end Go.Proofs.Ytfcfbfkjdenpdaa
