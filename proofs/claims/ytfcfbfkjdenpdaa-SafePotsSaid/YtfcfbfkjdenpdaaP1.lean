/- Contracts: well-formed deals, of the reference. -/
import Derived.Test.YtfcfbfkjdenpdaaA3
set_option linter.unusedVariables false
set_option linter.unusedSimpArgs false
set_option linter.unusedSectionVars false
namespace Go.Proofs.Ytfcfbfkjdenpdaa
open Go.TM

def amtBad (n : Int) (a : Int × Int) : Bool := bif (bif (bif decide (a.1 < 0) then true else decide (n ≤ a.1)) then true else decide (a.2 < 1)) then true else decide (1099511627776 < a.2)
def amtsOk (n : Int) (l : List (Int × Int)) : Bool := l.all fun a => !amtBad n a
theorem all_at {α : Type} {l : List α} {f : α → Bool} {k : Nat} {x : α} (hx : l[k]? = some x) (hf : f x = true) : l.all (fun a => !f a) = false := by
  rw [List.all_eq_false]
  exact ⟨x, List.mem_of_getElem? hx, by simp [hf]⟩
theorem all_take {α : Type} {l : List α} {f : α → Bool} {k : Nat} {x : α} (hx : l[k]? = some x) (h : (l.take k).all (fun a => !f a) = true) (hf : f x = false) : (l.take (k + 1)).all (fun a => !f a) = true := by
  rw [List.take_add_one, hx, List.all_append, h]
  simp [hf]

theorem amounts1_spec (n : Int) (l : List (Int × Int)) (hl : l.length ≤ 1000000) : PSpec Try.prog 98 [I n, ePut l] [B (amtsOk n l)] := by
  refine pspec_of tab_ok mixed (calls_snd _) (range_snd _) Try.func98 rfl (by kernel_rfl) rfl ?_
  refine ⟨Nat, fun k => ⟨0, [(0, .dv (I n)), (1, .dv (ePut l)), (5, .dv (I k))], []⟩, fun k => k ≤ l.length ∧ (l.take k).all (fun a => !amtBad n a) = true, fun k => l.length - k, 0, fun _ => rfl, ⟨⟨rf, rf, rf, trivial⟩, trivial, rfl, rfl⟩, ⟨by omega, by simp⟩, ?_⟩
  rintro k ⟨hk1, hk2⟩
  refine ⟨fun h => ?_, fun h => ?_⟩
  · have hk : k < l.length := by simpa using h
    clear h
    generalize ha' : l[k] = a at *
    have ha : l[k]? = some a := by rw [List.getElem?_eq_getElem hk, ha']
    have hx : ∀ b : Bool, b = true → 0 ≤ (k : Int) ∧ (l.map eAmt)[((k : Int)).toNat]? = some (eAmt a) := fun _ _ => ⟨by omega, by simp [ha]⟩
    repeat first | refine ⟨id, ?_⟩ | refine ⟨fun _ h => bw_f h, ?_⟩ | refine ⟨fun _ h => bw_t h, ?_⟩ | refine ⟨eAmt a, hx _, ?_⟩
    refine ⟨fun h => ?_, fun h => ?_⟩
    · have hb : amtBad n a = true := h
      exact ⟨DV.Le.of_eq (by rw [amtsOk, all_at ha hb]), trivial⟩
    · have hb : amtBad n a = false := h
      exact ⟨fun _ => ⟨by omega, by omega⟩, k + 1, ⟨⟨rf, rf, le_int (by omega), trivial⟩, trivial, rfl, rfl⟩, ⟨by omega, all_take ha hk2 hb⟩, by dsimp only; omega⟩
  · have hk : k = l.length := by
      have : ¬ k < l.length := by simpa using h
      omega
    subst hk
    rw [List.take_length] at hk2
    exact ⟨DV.Le.of_eq (by rw [amtsOk, hk2]), trivial⟩

def badTop (d : Dea) (x : Sta) : Bool := bif (bif (bif decide (x.wait < 0) then true else bif decide (0 < x.wait) then (bif decide (x.late < 0) then true else decide ((d.states.length : Int) ≤ x.late)) else false) then true else (bif x.final then (bif decide (0 < (x.opts.length : Int)) then true else decide (0 < x.wait)) else false)) then true else bif !x.final then decide (0 < (x.gives.length : Int)) else false
def optBad (n : Int) (d : Dea) (o : Opt) : Bool := bif (bif (bif (bif !amtsOk n o.put then true else decide (o.party < 0)) then true else decide ((d.parties.length : Int) ≤ o.party)) then true else decide (o.next < 0)) then true else decide ((d.states.length : Int) ≤ o.next)
def givBad (n : Int) (d : Dea) (g : Giv) : Bool := bif (bif !amtsOk n [(g.item, g.n)] then true else decide (g.party < 0)) then true else decide ((d.parties.length : Int) ≤ g.party)
def staBad (n : Int) (d : Dea) (x : Sta) : Bool := badTop d x || x.opts.any (optBad n d) || x.gives.any (givBad n d)
theorem not_all {α : Type} {l : List α} {f : α → Bool} : l.any f = !l.all (fun a => !f a) := by
  induction l with
  | nil => rfl
  | cons x r ih => simp [ih]

set_option maxHeartbeats 4000000 in
theorem state1_spec (n : Int) (d : Dea) (x : Sta) (ho : x.opts.length ≤ 1000) (hp : ∀ o, o ∈ x.opts → o.put.length ≤ 1000) (hg : x.gives.length ≤ 100000) : PSpec Try.prog 84 [I n, eDea d, eSta x] [B (!staBad n d x)] := by
  refine pspec_of tab_ok mixed (calls_snd _) (range_snd _) Try.func84 rfl (by kernel_rfl) rfl ?_
  repeat first | refine ⟨id, ?_⟩ | refine ⟨fun _ h => bw_f h, ?_⟩ | refine ⟨fun _ h => bw_t h, ?_⟩ | refine ⟨fun h => ⟨h, fun h2 => bw_and h h2⟩, ?_⟩ | refine ⟨fun h => ⟨h, fun h2 => bw_andf h h2⟩, ?_⟩
  refine ⟨fun h => ?_, fun h => ?_⟩
  · have hb : badTop d x = true := by simpa [badTop] using h
    exact ⟨DV.Le.of_eq (by rw [staBad, hb]; rfl), trivial⟩
  have hb : badTop d x = false := by simpa [badTop] using h
  clear h
  refine ⟨Nat, fun k => ⟨2, [(0, .dv (I n)), (4, .ptr 0 0), (5, .ptr 1 0), (7, .dv (I k))], [(0, .cells (dvs (dcells d))), (1, .cells (dvs (eSta x).cells))]⟩, fun k => k ≤ x.opts.length ∧ (x.opts.take k).all (fun a => !optBad n d a) = true, fun k => x.opts.length - k, 0, fun _ => rfl, ?_, ⟨by omega, by simp⟩, ?_⟩
  · exact ⟨⟨rf, rfl, rfl, rf, trivial⟩, ⟨subWs_dvs _ _ _ (dcells d), subWs_dvs _ _ _ (eSta x).cells, trivial⟩, rfl, rfl⟩
  rintro k ⟨hk1, hk2⟩
  refine ⟨fun h => ?_, fun h => ?_⟩
  · have hk : k < x.opts.length := by simpa using h
    clear h
    generalize ha' : x.opts[k] = a at *
    have ha : x.opts[k]? = some a := by rw [List.getElem?_eq_getElem hk, ha']
    have hpl := hp a (List.mem_of_getElem? ha)
    refine ⟨eOpt a, fun _ => ⟨by omega, by simp [ha]⟩, .inl ⟨_, fun _ => (amounts1_spec n a.put (by omega)).ok, ?_⟩⟩
    repeat first | refine ⟨id, ?_⟩ | refine ⟨fun _ h => bw_f h, ?_⟩ | refine ⟨fun _ h => bw_t h, ?_⟩ | refine ⟨fun h => ⟨h, fun h2 => bw_and h h2⟩, ?_⟩ | refine ⟨fun h => ⟨h, fun h2 => bw_andf h h2⟩, ?_⟩
    refine ⟨fun h => ?_, fun h => ?_⟩
    · have hb2 : optBad n d a = true := by simpa [optBad] using h
      exact ⟨DV.Le.of_eq (by rw [staBad, not_all, all_at ha hb2]; simp), trivial⟩
    · have hb2 : optBad n d a = false := by simpa [optBad] using h
      exact ⟨fun _ => ⟨by omega, by omega⟩, k + 1, ⟨⟨rf, rfl, rfl, le_int (by omega), trivial⟩, ⟨subWs_dvs _ _ _ (dcells d), subWs_dvs _ _ _ (eSta x).cells, trivial⟩, rfl, rfl⟩, ⟨by omega, all_take ha hk2 hb2⟩, by dsimp only; omega⟩
  have hk : k = x.opts.length := by
    have : ¬ k < x.opts.length := by simpa using h
    omega
  clear h
  subst hk
  rw [List.take_length] at hk2
  refine ⟨Nat, fun k => ⟨2, [(0, .dv (I n)), (4, .ptr 0 0), (5, .ptr 1 0), (10, .dv (I k))], [(0, .cells (dvs (dcells d))), (1, .cells (dvs (eSta x).cells))]⟩, fun k => k ≤ x.gives.length ∧ (x.gives.take k).all (fun a => !givBad n d a) = true, fun k => x.gives.length - k, 0, fun _ => rfl, ?_, ⟨by omega, by simp⟩, ?_⟩
  · exact ⟨⟨rf, rfl, rfl, rf, trivial⟩, ⟨subWs_dvs _ _ _ (dcells d), subWs_dvs _ _ _ (eSta x).cells, trivial⟩, rfl, rfl⟩
  rintro k ⟨hk1, hk3⟩
  refine ⟨fun h => ?_, fun h => ?_⟩
  · have hk : k < x.gives.length := by simpa using h
    clear h
    generalize ha' : x.gives[k] = a at *
    have ha : x.gives[k]? = some a := by rw [List.getElem?_eq_getElem hk, ha']
    have hx : ∀ b : Bool, b = true → 0 ≤ (k : Int) ∧ (x.gives.map eGiv)[((k : Int)).toNat]? = some (eGiv a) := fun _ _ => ⟨by omega, by simp [ha]⟩
    refine ⟨eGiv a, hx _, ?_⟩
    refine .inl ⟨[eAmt (a.item, a.n)], rfl, ⟨rf, rf, trivial⟩, fun y hy => (by rcases List.mem_singleton.1 hy with rfl; rfl), .inl ⟨_, fun _ => (amounts1_spec n [(a.item, a.n)] (by simp)).ok, ?_⟩⟩
    repeat first | refine ⟨id, ?_⟩ | refine ⟨fun _ h => bw_f h, ?_⟩ | refine ⟨fun _ h => bw_t h, ?_⟩ | refine ⟨fun h => ⟨h, fun h2 => bw_and h h2⟩, ?_⟩ | refine ⟨fun h => ⟨h, fun h2 => bw_andf h h2⟩, ?_⟩ | refine ⟨eGiv a, hx _, ?_⟩
    refine ⟨by kernel_rfl, fun h => ?_, fun h => ?_⟩
    · have hb2 : givBad n d a = true := by simpa [givBad] using h
      exact ⟨DV.Le.of_eq (by rw [staBad, not_all, not_all, all_at ha hb2]; simp), trivial⟩
    · have hb2 : givBad n d a = false := by simpa [givBad] using h
      exact ⟨fun _ => ⟨by omega, by omega⟩, k + 1, ⟨⟨rf, rfl, rfl, le_int (by omega), trivial⟩, ⟨subWs_dvs _ _ _ (dcells d), subWs_dvs _ _ _ (eSta x).cells, trivial⟩, rfl, rfl⟩, ⟨by omega, all_take ha hk3 hb2⟩, by dsimp only; omega⟩
  · have hk : k = x.gives.length := by
      have : ¬ k < x.gives.length := by simpa using h
      omega
    subst hk
    rw [List.take_length] at hk3
    exact ⟨DV.Le.of_eq (by rw [staBad, not_all, not_all, hk2, hk3, hb]; rfl), trivial⟩

def badAll (n : Int) (d : Dea) : Bool := bif (bif (bif (bif (bif decide (n < 0) then true else decide (64 < n)) then true else decide ((d.parties.length : Int) < 1)) then true else decide (4 < (d.parties.length : Int))) then true else decide ((d.states.length : Int) < 1)) then true else decide (32 < (d.states.length : Int))
/-- The first state that is not well-formed. -/
def malf (n : Int) (d : Dea) : Option Nat := if badAll n d then some 0 else d.states.findIdx? (staBad n d)
def eMalf : Option Nat → List DV
  | some s => [I s, B true]
  | none => [I 0, B false]
/-- Sizes of a deal's parts. -/
structure Parts (d : Dea) : Prop where
  st : d.states.length ≤ 1000
  op : ∀ x, x ∈ d.states → x.opts.length ≤ 1000
  pu : ∀ x, x ∈ d.states → ∀ o, o ∈ x.opts → o.put.length ≤ 1000
  gi : ∀ x, x ∈ d.states → x.gives.length ≤ 100000
theorem findIdx_at {α : Type} {l : List α} {f : α → Bool} {k : Nat} {x : α} (hx : l[k]? = some x) (h : (l.take k).all (fun a => !f a) = true) (hf : f x = true) : l.findIdx? f = some k := by
  have hk : k < l.length := (List.getElem?_eq_some_iff.1 hx).1
  rw [List.findIdx?_eq_some_iff_getElem]
  refine ⟨hk, ?_, fun j hj => ?_⟩
  · rw [List.getElem?_eq_getElem hk] at hx; injection hx with hx; rw [hx]; exact hf
  · rw [List.all_eq_true] at h
    have := h l[j] (by rw [List.mem_take_iff_getElem]; exact ⟨j, by omega, rfl⟩)
    simpa using this
theorem findIdx_no {α : Type} {l : List α} {f : α → Bool} (h : l.all (fun a => !f a) = true) : l.findIdx? f = none := by
  rw [List.findIdx?_eq_none_iff]
  intro x hx
  rw [List.all_eq_true] at h
  simpa using h x hx
set_option maxHeartbeats 4000000 in
theorem malformed_spec (n : Int) (d : Dea) (hs : Parts d) : PSpec Try.prog 61 [I n, eDea d] (eMalf (malf n d)) := by
  refine pspec_of tab_ok mixed (calls_snd _) (range_snd _) Try.func61 rfl (by kernel_rfl) rfl ?_
  repeat first | refine ⟨id, ?_⟩ | refine ⟨fun _ h => bw_f h, ?_⟩ | refine ⟨fun _ h => bw_t h, ?_⟩ | refine ⟨fun h => ⟨h, fun h2 => bw_and h h2⟩, ?_⟩ | refine ⟨fun h => ⟨h, fun h2 => bw_andf h h2⟩, ?_⟩
  refine ⟨fun h => ?_, fun h => ?_⟩
  · have hb : badAll n d = true := by simpa [badAll] using h
    rw [malf, if_pos hb]
    exact ⟨rf, rf, trivial⟩
  have hb : badAll n d = false := by simpa [badAll] using h
  clear h
  have hst := hs.st
  refine ⟨Nat, fun k => ⟨1, [(0, .dv (I n)), (3, .ptr 0 0), (6, .dv (I k))], [(0, .cells (dvs (dcells d)))]⟩, fun k => k ≤ d.states.length ∧ (d.states.take k).all (fun a => !staBad n d a) = true, fun k => d.states.length - k, 0, fun _ => rfl, ?_, ⟨by omega, by simp⟩, ?_⟩
  · exact ⟨⟨rf, rfl, rf, trivial⟩, ⟨subWs_dvs _ _ _ (dcells d), trivial⟩, rfl, rfl⟩
  rintro k ⟨hk1, hk2⟩
  refine ⟨fun h => ?_, fun h => ?_⟩
  · have hk : k < d.states.length := by simpa using h
    clear h
    generalize ha' : d.states[k] = a at *
    have ha : d.states[k]? = some a := by rw [List.getElem?_eq_getElem hk, ha']
    have hm := List.mem_of_getElem? ha
    refine ⟨eSta a, fun _ => ⟨by omega, by simp [ha]⟩, .inl ⟨_, fun _ => (state1_spec n d a (hs.op a hm) (hs.pu a hm) (hs.gi a hm)).ok, by kernel_rfl, ?_⟩⟩
    refine ⟨fun h => ?_, fun h => ?_⟩
    · have hb2 : staBad n d a = true := by simpa using h
      rw [malf, if_neg (by simp [hb]), findIdx_at ha hk2 hb2]
      exact ⟨rf, rf, trivial⟩
    · have hb2 : staBad n d a = false := by simpa using h
      exact ⟨fun _ => ⟨by omega, by omega⟩, k + 1, ⟨⟨rf, rfl, le_int (by omega), trivial⟩, ⟨subWs_dvs _ _ _ (dcells d), trivial⟩, rfl, rfl⟩, ⟨by omega, all_take ha hk2 hb2⟩, by dsimp only; omega⟩
  have hk : k = d.states.length := by
    have : ¬ k < d.states.length := by simpa using h
    omega
  clear h
  subst hk
  rw [List.take_length] at hk2
  rw [malf, if_neg (by simp [hb]), findIdx_no hk2]
  exact ⟨rf, rf, trivial⟩
end Go.Proofs.Ytfcfbfkjdenpdaa
