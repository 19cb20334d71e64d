/- Contract: the body of analyse's loop over the steps. -/
import Derived.Test.YtfcfbfkjdenpdaaP8
import Derived.Test.YtfcfbfkjdenpdaaP6
set_option linter.unusedVariables false
set_option linter.unusedSimpArgs false
set_option linter.unusedSectionVars false
namespace Go.Proofs.Ytfcfbfkjdenpdaa
open Go.TM

/-- Contributions as they lie in the map: the first state's are owned. -/
def cVal (k : Int) (r : Rows) : DV := if k = 0 then .osl 1 (r.map oRow) else eRows r
def eCon (m : List (Int × Rows)) : DV := .omap intK (m.map fun x => .ent (I x.1) (cVal x.1 x.2))
theorem mget_con (k : Int) : ∀ m : List (Int × Rows), mget (m.map fun x => .ent (I x.1) (cVal x.1 x.2)) (I k) = (lookI m k).map (cVal k)
  | [] => rfl
  | x :: m => by
    simp only [List.map_cons, mget, keq_int, lookI, List.find?_cons]
    by_cases h : x.1 = k
    · subst h; simp
    · have hb : (x.1 == k) = false := by simpa using h
      simp only [h, decide_false, hb, cond_false]
      exact mget_con k m
theorem mput_con (k : Int) (v : DV) : ∀ m : List (Int × Rows), k ∉ m.map (·.1) → mput (m.map fun x => .ent (I x.1) (cVal x.1 x.2)) (I k) v = (m.map fun x => .ent (I x.1) (cVal x.1 x.2)) ++ [.ent (I k) v]
  | [], _ => rfl
  | x :: m, h => by
    simp only [List.map_cons, List.mem_cons, not_or] at h
    have h1 : ¬ x.1 = k := fun e => h.1 e.symm
    simp only [List.map_cons, mput, keq_int, decide_eq_false h1, cond_false, List.cons_append]
    rw [mput_con k v m h.2]

/-- The slots of the record: the results, the analysis, the state. -/
def aSl : List AV := ((((List.replicate 171 .any).set 4 (.ptr 1 0)).set 5 (.ptr 2 0)).set 8 (.ptr 3 0)).set 13 (.ptr 4 0)
def zF : List AV := dvs [I 0, I 0, I 0, .nils]
def aK (rc : RC) (st : RSt) (n : Nat) (d : Dea) (s : Int) (f : List AV) : Boxes := [(0, .rcd rc st aSl), (1, .cells [.dv .nilp]), (2, .cells f), (3, .cells [.ptr 5 0]), (4, .cells [.dv (I s)]), (5, .cells [.ptr 6 0, .dv (I n), .own 7 0 0 []]), (6, .cells (wC d (.own 8 0 0 []) (.own 9 0 0 []) (.own 10 0 0 []))), (7, .tree 0 0 (eCon (conAt n d (disc d).order.length))), (8, .tree 0 0 (eFrom (pD d).from_)), (9, .tree 0 0 (eStps (pD d).steps)), (10, .tree 0 0 (.osl 1 ((keysF (pD d)).map I)))]
/-- What the body's contracts lean on. -/
structure AbF (n : Nat) (d : Dea) (s : Int) (v : List Int) (t : Stp) (u : List Int) : Prop where
  tw : TW (pD d) s v
  vl : v.length ≤ 32
  wn : wayOf d t.next = some u
  g1 : mget ((conAt n d (disc d).order.length).map fun x => .ent (I x.1) (cVal x.1 x.2)) (I s) = some (cVal s (folM n d v))
  g2 : mget ((conAt n d (disc d).order.length).map fun x => .ent (I x.1) (cVal x.1 x.2)) (I t.next) = some (cVal t.next (folM n d u))
  af : PSpec Try.prog 58 [eRows (folM n d v), eSs t] [eRows (folM n d (v ++ [t.label]))]
  af2 : s = 0 → CSpec Try.prog 58 [.own 0 0 0 [.key (I s) 0], sA t] 1 [(0, .tree 0 0 (eCon (conAt n d (disc d).order.length)))] 0 [.dv (eRows (folM n d (v ++ [t.label])))] [(0, .tree 0 0 (eCon (conAt n d (disc d).order.length)))]
  ra : Rect d.parties.length n 1099511627776000000 (folM n d (v ++ [t.label]))
  rb : Rect d.parties.length n 1099511627776000000 (folM n d u)
  sf : stepF n d v t = match ((folM n d (v ++ [t.label])).zip (folM n d u)).findIdx? rowNe with
            | some p => some ⟨17, t.next, p, v ++ [t.label]⟩
            | none => none
theorem stepsOf_put {d : Dea} {x : Sta} {t : Stp} (h : t ∈ stepsOf d x) (ht : t.put ≠ []) : ∃ o, o ∈ x.opts ∧ o.party = t.party ∧ o.put = t.put := by
  have hopt : ∀ k (t : Stp), t ∈ optSteps d x k → ∃ o, o ∈ x.opts ∧ o.party = t.party ∧ o.put = t.put := by
    intro k
    induction k with
    | zero => intro t h; simp [optSteps] at h
    | succ k ih =>
      intro t h
      simp only [optSteps] at h
      split at h
      · rename_i o ho
        split at h
        · rcases List.mem_append.1 h with h | h
          · exact ih t h
          · rcases List.mem_singleton.1 h with rfl
            exact ⟨o, List.mem_of_getElem? ho, rfl, rfl⟩
        · exact ih t h
      · exact ih t h
  unfold stepsOf at h
  rcases List.mem_append.1 h with h | h
  · split at h
    · simp at h
    · exact hopt _ t h
  · split at h
    · rcases List.mem_singleton.1 h with rfl; exact absurd rfl ht
    · simp at h
theorem abF (n : Nat) (d : Dea) (hwf : WF n d) (i : Nat) (s : Int) (v : List Int) (hso : (disc d).order[i]? = some s) (hvo : (disc d).ways[i]? = some v) (x : Sta) (hx : d.states[s.toNat]? = some x) (t : Stp) (ht : t ∈ stepsOf d x) : ∃ u, AbF n d s v t u := by
  have hb := disc_ok d
  have hol := hb.le
  have hsl := hwf.sl
  have hvw := wayOf_at d hso hvo
  have hvl := way_len hvw
  have hrg := hb.rng _ (List.mem_of_getElem? hso)
  have hpv := leads_disc d i _ v hso hvo
  have hed := stepsOf_edge hrg.1 hx ht
  have hpt := hpv.snoc hed
  obtain ⟨u, hu, hul⟩ := way_near hwf.ne hvw hx ht
  have hul2 := way_len hu
  obtain ⟨ku, hku1, hku2⟩ := wayOf_inv hu
  have hpu := leads_disc d ku _ u hku1 hku2
  have hn64 := hwf.n64
  have hra0 := rect_folM hwf.opt hpv (by omega)
  have hg1 : mget ((conAt n d (disc d).order.length).map fun x => .ent (I x.1) (cVal x.1 x.2)) (I s) = some (cVal s (folM n d v)) := by
    rw [mget_con, conAt_look n hb (List.getElem?_eq_some_iff.1 hso).1 hso hvo]; rfl
  have hput : ∀ (P : Prop), (∀ o, o ∈ x.opts → o.party = t.party → o.put = t.put → P) → t.put ≠ [] → P := fun P h hne => by
    obtain ⟨o, h1, h2, h3⟩ := stepsOf_put ht hne
    exact h o h1 h2 h3
  have p1 : t.put ≠ [] → 0 ≤ t.party ∧ t.party < d.parties.length := fun hne => hput _ (fun o h1 h2 h3 => by
    have := hwf.opt.opt x (List.mem_of_getElem? hx) o h1
    rw [h2] at this; exact ⟨this.1, this.2.1⟩) hne
  have p2 : t.put.length ≤ 1000 := by
    by_cases hne : t.put = []
    · rw [hne]; simp
    · refine hput _ (fun o h1 h2 h3 => ?_) hne
      have := hwf.opt.opt x (List.mem_of_getElem? hx) o h1
      rw [h3] at this; exact this.2.2.1
  have p3 : ∀ a, a ∈ t.put → 0 ≤ a.1 ∧ a.1 < n ∧ 0 ≤ a.2 ∧ a.2 ≤ 1099511627776 := by
    intro a ha
    refine hput _ (fun o h1 h2 h3 => ?_) (by intro e; rw [e] at ha; simp at ha)
    have := hwf.opt.opt x (List.mem_of_getElem? hx) o h1
    rw [h3] at this; exact this.2.2.2 a ha
  refine ⟨u, (wok_disc d hwf.ne).tw i s v hso hvo, by omega, hu, hg1, ?_, ?_, ?_, rect_folM hwf.opt hpt (by simp; omega), rect_folM hwf.opt hpu (by omega), ?_⟩
  · rw [mget_con, conAt_look n hb (List.getElem?_eq_some_iff.1 hku1).1 hku1 hku2]; rfl
  · rw [fol_step n hpv hx ht]
    exact after_spec n (by omega) _ _ hwf.p4 hra0 t p1 p2 p3
  · intro h0
    rw [fol_step n hpv hx ht]
    rw [cVal, if_pos h0] at hg1
    exact after2_spec _ s n (by omega) _ _ hwf.p4 hra0 t p1 p2 p3 hg1
  · have hwt : wayTo d t.next = u := by simp [wayTo, hu]
    simp only [stepF, hwt]
    generalize List.findIdx? rowNe (List.zip (folM n d (v ++ [t.label])) (folM n d u)) = z
    cases z <;> rfl
def abR : Option Fau → Bool
  | none => true
  | some _ => false
def abS : Option Fau → RSt
  | none => .ready
  | some _ => .done .ret
def abC : Option Fau → List AV
  | none => zF
  | some f => dvs (eFau f).cells
def aK1 (rc : RC) (n : Nat) (d : Dea) (s : Int) (t : Stp) : Boxes := aK rc .busy n d s zF ++ [(11, .cells (dvs (eSs t).cells))]
set_option maxRecDepth 100000 in
set_option maxHeartbeats 4000000 in
theorem abody_spec (n : Nat) (d : Dea) (hwf : WF n d) (s : Int) (v : List Int) (t : Stp) (u : List Int) (hF : AbF n d s v t u) (o : Option Fau) (ho : stepF n d v t = o) :
    YSpecR Try.prog [sA t] 11 (aK (rcF Try.f31) .ready n d s zF) 0 fun r k => r = [.dv (.bool (abR o))] ∧ k = aK (rcF Try.f31) (abS o) n d s (abC o) := by
  refine yspecR_of tab_ok mixed rfl (by kernel_rfl) ?_
  obtain ⟨htw, hvl, hwn, hg1, hg2, haf, haf2, hra, hrb, hsf⟩ := hF
  generalize folM n d (v ++ [t.label]) = ma at *
  generalize folM n d u = mb at *
  generalize folM n d v = m0 at *
  by_cases hs0 : s = 0
  case' pos =>
    refine ⟨keyT3, I s, rfl, rfl, .osl 1 (m0.map oRow), true, fun _ => (by rw [hg1, cVal, if_pos hs0]; rfl), (fun h => by cases h), rfl, ?_⟩
    refine .inr ⟨[7], [.own 0 0 0 [.key (I s) 0], sA t], [(0, .tree 0 0 (eCon (conAt n d (disc d).order.length)))], 0, _, _, haf2 hs0, by kernel_rfl, by kernel_rfl, ⟨rfl, ⟨rf, rf, rf, rf, trivial⟩, trivial⟩, ⟨⟨rfl, rfl⟩, trivial⟩, by kernel_rfl, ?_⟩
  case' neg =>
    refine ⟨keyT3, I s, rfl, rfl, eRows m0, true, fun _ => (by rw [hg1, cVal, if_neg hs0]; rfl), (fun h => by cases h), rfl, ?_⟩
    refine .inl ⟨_, fun _ => haf.ok, by kernel_rfl, ?_⟩
  all_goals
    have hal := hra.len
    have hbl := hrb.len
    have hp4 := hwf.p4
    have hn64 := hwf.n64
    refine ⟨Nat, fun p => ⟨12, [(4, .ptr 1 0), (5, .ptr 2 0), (8, .ptr 3 0), (13, .ptr 4 0), (14, .ptr 11 0), (133, .dv (eRows ma)), (134, .dv (I ma.length)), (135, .dv (I p))], aK1 (rcF Try.f31) n d s t⟩, fun p => p ≤ ma.length ∧ ((ma.zip mb).take p).all (fun a => !rowNe a) = true, fun p => ma.length - p, 0, (fun _ => by kernel_rfl), ?_, ⟨by omega, by simp⟩, ?_⟩
    · exact ⟨⟨rfl, rfl, rfl, rfl, rfl, rf, le_int (by simp), rf, trivial⟩, ⟨⟨rfl, rfl, subWs_ok (by kernel_rfl)⟩, ⟨rf, trivial⟩, ⟨rf, rf, rf, rf, trivial⟩, ⟨rfl, trivial⟩, ⟨rf, trivial⟩, ⟨rfl, rf, rfl, trivial⟩, ⟨rf, rf, rf, rfl, rfl, rfl, trivial⟩, ⟨rfl, rfl⟩, ⟨rfl, rfl⟩, ⟨rfl, rfl⟩, ⟨rfl, rfl⟩, ⟨rf, rf, rf, rf, trivial⟩, trivial⟩, by kernel_rfl, by kernel_rfl⟩
    rintro p ⟨hp1, hp2⟩
    refine ⟨fun h => ?_, fun h => ?_⟩
    · have hp : p < ma.length := by
        have : (p : Int) < ma.length := of_decide_eq_true h
        omega
      clear h
      generalize hr' : ma[p] = ra at *
      have hrao : ma[p]? = some ra := by rw [List.getElem?_eq_getElem hp, hr']
      generalize hr2' : mb[p]'(by omega) = rb at *
      have hrbo : mb[p]? = some rb := by rw [List.getElem?_eq_getElem (by omega), hr2']
      have hrl := hra.row ra (List.mem_of_getElem? hrao)
      have hzo := zip_at hrao hrbo
      have heq := equal_spec ra rb (by omega)
      refine ⟨Ints ra, fun _ => ⟨by omega, by simp [hrao]⟩, ?_⟩
      by_cases hn0 : t.next = 0
      case' pos =>
        have hq : true = true → mget ((conAt n d (disc d).order.length).map fun x => .ent (I x.1) (cVal x.1 x.2)) (I t.next) = some (.osl 1 (mb.map oRow)) := fun _ => by rw [hg2, cVal, if_pos hn0]
        refine ⟨keyT3, I t.next, rfl, rfl, .osl 1 (mb.map oRow), true, hq, (fun h => by cases h), rfl, ?_⟩
        refine ⟨.osl 1 (mb.map oRow), hq, fun _ => ⟨by omega, by simp; omega⟩, .osl 1 (mb.map oRow), hq, oRow rb, fun _ => by simp [hrbo], ?_⟩
        refine .inl ⟨.osl 1 (mb.map oRow), hq, oRow rb, fun _ => by simp [hrbo], ?_⟩
        have hok : CallOk Try.prog 60 [Ints ra, fzD (oRow rb)] [B (ra == rb)] := by
          have e : fzD (oRow rb) = Ints rb := by show DV.sl 1 (fzL (rb.map I)) = _; rw [fzL_map fun _ => rfl]
          rw [e]; exact heq.ok
        refine ⟨_, fun _ => hok, rfl, by kernel_rfl, ?_⟩
      case' neg =>
        refine ⟨keyT3, I t.next, rfl, rfl, eRows mb, true, fun _ => (by rw [hg2, cVal, if_neg hn0]; rfl), (fun h => by cases h), rfl, ?_⟩
        refine ⟨Ints rb, fun _ => ⟨by omega, by simp [hrbo]⟩, .inl ⟨_, fun _ => heq.ok, by kernel_rfl, ?_⟩⟩
      all_goals
        refine ⟨fun h => ?_, fun h => ?_⟩
        · have hne : rowNe (ra, rb) = true := h
          clear h
          rw [findIdx_at hzo hp2 hne] at hsf
          have hon : o = some ⟨17, t.next, p, v ++ [t.label]⟩ := by rw [← ho]; exact hsf
          subst hon
          refine .inr ⟨[8, 9, 6, 10], [.ptr 2 0, .dv (I s)], tK d (pD d) (keysF (pD d)), 1, _, _, to2_spec d (pD d) (keysF (pD d)) s v htw (by omega), by kernel_rfl, by kernel_rfl, ⟨rfl, rf, trivial⟩, ⟨⟨rfl, rfl⟩, ⟨rfl, rfl⟩, ⟨rf, rf, rf, rfl, rfl, rfl, trivial⟩, ⟨rfl, rfl⟩, trivial⟩, ?_⟩
          refine .inl ⟨[I t.label], rfl, ⟨rf, trivial⟩, fun y hy => (by rcases List.mem_singleton.1 hy with rfl; rfl), .inr ⟨[I t.label], ELes.refl _, (by rw [by22]; simp; omega), (by simp; omega), ?_⟩⟩
          refine ⟨by kernel_rfl, ?_⟩
          refine ⟨_, _, ⟨rfl, rfl⟩, by kernel_rfl, ⟨rf, trivial⟩, ⟨rfl, rfl, subWs_ok (by kernel_rfl)⟩, ⟨rf, trivial⟩, ⟨rf, rf, rf, DV.Le.of_eq ?_, trivial⟩, ⟨rfl, trivial⟩, ⟨rf, trivial⟩, ⟨rfl, rf, rfl, trivial⟩, ⟨rf, rf, rf, rfl, rfl, rfl, trivial⟩, ⟨rfl, rfl⟩, ⟨rfl, rfl⟩, ⟨rfl, rfl⟩, ⟨rfl, rfl⟩, trivial⟩
          show DV.sl 1 (fzL (v.map I ++ [I t.label])) = .sl 1 ((v ++ [t.label]).map I)
          have e : v.map I ++ [I t.label] = (v ++ [t.label]).map I := by simp
          rw [e, fzL_map fun _ => rfl]
        · have hne : rowNe (ra, rb) = false := h
          clear h
          exact ⟨fun _ => ⟨by omega, by omega⟩, p + 1, ⟨⟨rfl, rfl, rfl, rfl, rfl, rf, rf, le_int (by omega), trivial⟩, ⟨⟨rfl, rfl, subWs_ok (by kernel_rfl)⟩, ⟨rf, trivial⟩, ⟨rf, rf, rf, rf, trivial⟩, ⟨rfl, trivial⟩, ⟨rf, trivial⟩, ⟨rfl, rf, rfl, trivial⟩, ⟨rf, rf, rf, rfl, rfl, rfl, trivial⟩, ⟨rfl, rfl⟩, ⟨rfl, rfl⟩, ⟨rfl, rfl⟩, ⟨rfl, rfl⟩, ⟨rf, rf, rf, rf, trivial⟩, trivial⟩, by kernel_rfl, by kernel_rfl⟩, ⟨by omega, all_take hzo hp2 hne⟩, by dsimp only; omega⟩
    · have hp : p = ma.length := by
        have : ¬ (p : Int) < ma.length := of_decide_eq_false h
        omega
      clear h
      subst hp
      rw [List.take_of_length_le (by simp; omega)] at hp2
      rw [findIdx_no hp2] at hsf
      have hon : o = none := by rw [← ho]; exact hsf
      subst hon
      exact ⟨_, _, ⟨rfl, rfl⟩, by kernel_rfl, ⟨rf, trivial⟩, ⟨⟨rfl, rfl, subWs_ok (by kernel_rfl)⟩, ⟨rf, trivial⟩, ⟨rf, rf, rf, rf, trivial⟩, ⟨rfl, trivial⟩, ⟨rf, trivial⟩, ⟨rfl, rf, rfl, trivial⟩, ⟨rf, rf, rf, rfl, rfl, rfl, trivial⟩, ⟨rfl, rfl⟩, ⟨rfl, rfl⟩, ⟨rfl, rfl⟩, ⟨rfl, rfl⟩, trivial⟩⟩
end Go.Proofs.Ytfcfbfkjdenpdaa
