/- Contracts: well-formed deals, of the package. -/
import Derived.Test.YtfcfbfkjdenpdaaP1
import Derived.Test.YtfcfbfkjdenpdaaD1
set_option linter.unusedVariables false
set_option linter.unusedSimpArgs false
set_option linter.unusedSectionVars false
namespace Go.Proofs.Ytfcfbfkjdenpdaa
open Go.TM

def partyOk (d : Dea) (i : Int) : Bool := bif decide (0 ≤ i) then decide (i < (d.parties.length : Int)) else false
theorem isParty_spec (d : Dea) (i : Int) : CSpec Try.prog 95 [.dv (I i), .ptr 0 0] 1 [(0, .cells (dvs (dcells d)))] 0 [.dv (B (partyOk d i))] [(0, .cells (dvs (dcells d)))] := by
  refine cspec_of tab_ok mixed (calls_snd _) (range_snd _) Try.func95 rfl rfl (by kernel_rfl) ?_
  refine ⟨id, id, id, id, fun _ h => bw_t h, _, _, ⟨rfl, rfl⟩, rfl, ⟨DV.Le.of_eq ?_, trivial⟩, subWs_dvs _ _ _ (dcells d), trivial⟩
  simp only [partyOk, List.length_map]
theorem isState_spec (d : Dea) (i : Int) : CSpec Try.prog 96 [.dv (I i), .ptr 0 0] 1 [(0, .cells (dvs (dcells d)))] 0 [.dv (B (okNext d i))] [(0, .cells (dvs (dcells d)))] := by
  refine cspec_of tab_ok mixed (calls_snd _) (range_snd _) Try.func96 rfl rfl (by kernel_rfl) ?_
  refine ⟨id, id, id, id, fun _ h => bw_t h, _, _, ⟨rfl, rfl⟩, rfl, ⟨DV.Le.of_eq ?_, trivial⟩, subWs_dvs _ _ _ (dcells d), trivial⟩
  simp only [okNext, List.length_map]
  cases decide (0 ≤ i) <;> rfl
theorem isAmount_spec (n : Int) (a : Int × Int) : CSpec Try.prog 97 [.agg (dvs [I a.1, I a.2]), .ptr 0 0] 1 [(0, .cells [.dv (I n)])] 0 [.dv (B (!amtBad n a))] [(0, .cells [.dv (I n)])] := by
  refine cspec_of tab_ok mixed (calls_snd _) (range_snd _) Try.func97 rfl rfl (by kernel_rfl) ?_
  repeat first | refine ⟨id, ?_⟩ | refine ⟨fun _ h => bw_f h, ?_⟩ | refine ⟨fun _ h => bw_t h, ?_⟩ | refine ⟨fun h => ⟨h, fun h2 => bw_and h h2⟩, ?_⟩ | refine ⟨fun h => ⟨h, fun h2 => bw_andf h h2⟩, ?_⟩
  refine ⟨_, _, ⟨rfl, rfl⟩, rfl, ⟨DV.Le.of_eq ?_, trivial⟩, ⟨rf, trivial⟩, trivial⟩
  congr 1
  simp only [amtBad]
  by_cases h1 : a.1 < 0
  · simp [h1, show ¬ 0 ≤ a.1 by omega]
  · by_cases h2 : n ≤ a.1
    · simp [h1, h2, show ¬ a.1 < n by omega]
    · by_cases h3 : a.2 < 1
      · simp [h1, h2, h3, show ¬ 1 ≤ a.2 by omega]
      · by_cases h4 : 1099511627776 < a.2
        · simp [h1, h2, h3, h4, show ¬ a.2 ≤ 1099511627776 by omega]
        · simp [h1, h2, h3, h4, show 0 ≤ a.1 by omega, show a.1 < n by omega, show 1 ≤ a.2 by omega, show a.2 ≤ 1099511627776 by omega]

def top1 (d : Dea) (x : Sta) : Bool := bif decide (x.wait < 0) then true else bif decide (0 < x.wait) then !okNext d x.late else false
def top2 (x : Sta) : Bool := bif (bif x.final then (bif decide (0 < (x.opts.length : Int)) then true else (x.wait != 0)) else false) then true else bif !x.final then decide (0 < (x.gives.length : Int)) else false
theorem badTop_eq (d : Dea) (x : Sta) : badTop d x = (top1 d x || top2 x) := by
  simp only [badTop, top1, top2, okNext]
  by_cases h1 : x.wait < 0
  · simp [h1]
  · by_cases h2 : 0 < x.wait
    · have h3 : x.wait ≠ 0 := by omega
      by_cases h4 : x.late < 0
      · simp [h1, h2, h4]
      · by_cases h5 : (d.states.length : Int) ≤ x.late
        · simp [h1, h2, h4, h5]
        · cases x.final <;> simp [h1, h2, h3, h4, h5, show 0 ≤ x.late by omega, show x.late < d.states.length by omega]
    · have h3 : x.wait = 0 := by omega
      cases x.final <;> simp [h3]
theorem optBad_eq (n : Int) (d : Dea) (o : Opt) : optBad n d o = (!amtsOk n o.put || !partyOk d o.party || !okNext d o.next) := by
  simp only [optBad, partyOk, okNext]
  cases amtsOk n o.put with
  | false => simp
  | true =>
    by_cases h1 : o.party < 0
    · simp [h1, show ¬ 0 ≤ o.party by omega]
    · by_cases h2 : (d.parties.length : Int) ≤ o.party
      · simp [h1, h2, show ¬ o.party < d.parties.length by omega]
      · by_cases h3 : o.next < 0
        · simp [h1, h2, h3]
        · by_cases h4 : o.next < d.states.length
          · simp [h1, h2, h3, h4, show ¬ (d.states.length : Int) ≤ o.next by omega, show 0 ≤ o.party by omega, show o.party < d.parties.length by omega, show 0 ≤ o.next by omega]
          · simp [h1, h2, h3, h4, show (d.states.length : Int) ≤ o.next by omega]
theorem givBad_eq (n : Int) (d : Dea) (g : Giv) : givBad n d g = (amtBad n (g.item, g.n) || !partyOk d g.party) := by
  simp only [givBad, partyOk, amtsOk, List.all_cons, List.all_nil, Bool.and_true, Bool.not_not]
  cases amtBad n (g.item, g.n) with
  | true => simp
  | false =>
    by_cases h1 : g.party < 0
    · simp [h1, show ¬ 0 ≤ g.party by omega]
    · by_cases h4 : g.party < d.parties.length
      · simp [h1, h4, show ¬ (d.parties.length : Int) ≤ g.party by omega, show 0 ≤ g.party by omega]
      · simp [h1, h4, show (d.parties.length : Int) ≤ g.party by omega]
set_option maxHeartbeats 4000000 in
theorem wellFormed_spec (n : Int) (d : Dea) (x : Sta) (ho : x.opts.length ≤ 1000) (hp : ∀ o, o ∈ x.opts → o.put.length ≤ 1000) (hg : x.gives.length ≤ 100000) : PSpec Try.prog 80 [I n, eDea d, eSta x] [B (!staBad n d x)] := by
  refine pspec_of tab_ok mixed (calls_snd _) (range_snd _) Try.func80 rfl (by kernel_rfl) rfl ?_
  repeat first | refine ⟨id, ?_⟩ | refine ⟨fun _ h => bw_f h, ?_⟩ | refine ⟨fun _ h => bw_t h, ?_⟩ | refine ⟨fun h => ⟨h, fun h2 => bw_and h h2⟩, ?_⟩ | refine ⟨fun h => ⟨h, fun h2 => bw_andf h h2⟩, ?_⟩
  refine if hw : 0 < x.wait then
    have hw0 : ¬ x.wait < 0 := by omega
    have hgd : (bw (decide (x.wait < 0)) false && bw (decide (0 < x.wait)) true) = true := by simp [bw, hw, hw0]
    .inr ⟨[1], [.dv (I x.late), .ptr 0 0], [(0, .cells (dvs (dcells d)))], 0, _, _, isState_spec d x.late, rfl, rfl, ⟨rf, rfl, trivial⟩, ⟨subWs_dvs _ _ _ (dcells d), trivial⟩, hgd, ?_⟩
  else
    have hgd : (bw (decide (x.wait < 0)) false && bw (decide (0 < x.wait)) true) = false := by simp [bw, hw]
    .inl ⟨hgd, [B false], (fun h => absurd (hgd.symm.trans h) (by decide)), rfl, ?_⟩
  all_goals
    repeat first | refine ⟨id, ?_⟩ | refine ⟨fun _ h => bw_f h, ?_⟩ | refine ⟨fun _ h => bw_t h, ?_⟩ | refine ⟨fun h => ⟨h, fun h2 => bw_and h h2⟩, ?_⟩ | refine ⟨fun h => ⟨h, fun h2 => bw_andf h h2⟩, ?_⟩ | refine ⟨fun _ => rfl, ?_⟩
    refine ⟨fun h => ?_, fun h => ?_⟩
    · have h1 : top1 d x = true := by simpa [top1, hw] using h
      exact ⟨DV.Le.of_eq (by rw [staBad, badTop_eq, h1]; rfl), trivial⟩
    have h1 : top1 d x = false := by simpa [top1, hw] using h
    clear h
    repeat first | refine ⟨id, ?_⟩ | refine ⟨fun _ h => bw_f h, ?_⟩ | refine ⟨fun _ h => bw_t h, ?_⟩ | refine ⟨fun h => ⟨h, fun h2 => bw_and h h2⟩, ?_⟩ | refine ⟨fun h => ⟨h, fun h2 => bw_andf h h2⟩, ?_⟩ | refine ⟨fun _ => rfl, ?_⟩
    refine ⟨fun h => ?_, fun h => ?_⟩
    · have h2 : top2 x = true := by simpa [top2] using h
      exact ⟨DV.Le.of_eq (by rw [staBad, badTop_eq, h1, h2]; rfl), trivial⟩
    have h2 : top2 x = false := by simpa [top2] using h
    clear h
    have hb : badTop d x = false := by rw [badTop_eq, h1, h2]; rfl
    refine ⟨Nat, fun k => ⟨3, [(7, .fn 95 [.ptr 1 0]), (8, .fn 96 [.ptr 1 0]), (9, .fn 97 [.ptr 0 0]), (5, .ptr 2 0), (59, .dv (.sl 3 (x.opts.map eOpt))), (60, .dv (I x.opts.length)), (61, .dv (I k))], [(0, .cells [.dv (I n)]), (1, .cells (dvs (dcells d))), (2, .cells (dvs (eSta x).cells))]⟩, fun k => k ≤ x.opts.length ∧ (x.opts.take k).all (fun a => !optBad n d a) = true, fun k => x.opts.length - k, 0, fun _ => rfl, ?_, ⟨by omega, by simp⟩, ?_⟩
    · exact ⟨⟨⟨rfl, rfl, trivial⟩, ⟨rfl, rfl, trivial⟩, ⟨rfl, rfl, trivial⟩, rfl, rf, le_int (by simp), rf, trivial⟩, ⟨⟨rf, trivial⟩, subWs_dvs _ _ _ (dcells d), subWs_dvs _ _ _ (eSta x).cells, trivial⟩, rfl, rfl⟩
    rintro k ⟨hk1, hk2⟩
    refine ⟨fun h => ?_, fun h => ?_⟩
    · have hk : k < x.opts.length := by
        have : (k : Int) < x.opts.length := of_decide_eq_true h
        omega
      clear h
      generalize ha' : x.opts[k] = a at *
      have ha : x.opts[k]? = some a := by rw [List.getElem?_eq_getElem hk, ha']
      have hpl := hp a (List.mem_of_getElem? ha)
      refine ⟨eOpt a, fun _ => ⟨by omega, by simp [ha]⟩, ?_⟩
      refine .inr ⟨[1], [.dv (I a.party), .ptr 0 0], [(0, .cells (dvs (dcells d)))], 0, _, _, isParty_spec d a.party, rfl, rfl, ⟨rf, rfl, trivial⟩, ⟨subWs_dvs _ _ _ (dcells d), trivial⟩, ?_⟩
      have hob := optBad_eq n d a
      generalize partyOk d a.party = e at hob ⊢
      cases e
      · refine ⟨id, id, id, .inl ⟨rfl, [B false], (fun h => by cases h), rfl, ?_⟩⟩
        repeat first | refine ⟨id, ?_⟩ | refine ⟨fun _ h => bw_f h, ?_⟩ | refine ⟨fun _ h => bw_t h, ?_⟩ | refine ⟨fun h => ⟨h, fun h2 => bw_and h h2⟩, ?_⟩ | refine ⟨fun h => ⟨h, fun h2 => bw_andf h h2⟩, ?_⟩ | refine ⟨fun _ => rfl, ?_⟩
        refine ⟨fun _ => ?_, fun h => by cases h⟩
        have hb2 : optBad n d a = true := by rw [hob]; simp
        exact ⟨DV.Le.of_eq (by rw [staBad, not_all, all_at ha hb2]; simp), trivial⟩
      · refine ⟨id, id, id, .inr ⟨[1], [.dv (I a.next), .ptr 0 0], [(0, .cells (dvs (dcells d)))], 0, _, _, isState_spec d a.next, rfl, rfl, ⟨rf, rfl, trivial⟩, ⟨subWs_dvs _ _ _ (dcells d), trivial⟩, rfl, ?_⟩⟩
        generalize okNext d a.next = e2 at hob ⊢
        refine ⟨fun _ => rfl, fun _ _ => rfl, fun h => ?_, fun h => ?_⟩
        · have he : e2 = false := by simpa using h
          have hb2 : optBad n d a = true := by rw [hob, he]; simp
          exact ⟨DV.Le.of_eq (by rw [staBad, not_all, all_at ha hb2]; simp), trivial⟩
        have he : e2 = true := by simpa using h
        clear h
        rw [he] at hob
        refine ⟨Nat, fun j => ⟨4, [(7, .fn 95 [.ptr 1 0]), (8, .fn 96 [.ptr 1 0]), (9, .fn 97 [.ptr 0 0]), (5, .ptr 2 0), (59, .dv (.sl 3 (x.opts.map eOpt))), (60, .dv (I x.opts.length)), (61, .dv (I k)), (78, .dv (ePut a.put)), (79, .dv (I a.put.length)), (80, .dv (I j))], [(0, .cells [.dv (I n)]), (1, .cells (dvs (dcells d))), (2, .cells (dvs (eSta x).cells))]⟩, fun j => j ≤ a.put.length ∧ (a.put.take j).all (fun a => !amtBad n a) = true, fun j => a.put.length - j, 0, fun _ => rfl, ?_, ⟨by omega, by simp⟩, ?_⟩
        · exact ⟨⟨⟨rfl, rfl, trivial⟩, ⟨rfl, rfl, trivial⟩, ⟨rfl, rfl, trivial⟩, rfl, rf, rf, rf, rf, le_int (by simp), rf, trivial⟩, ⟨⟨rf, trivial⟩, subWs_dvs _ _ _ (dcells d), subWs_dvs _ _ _ (eSta x).cells, trivial⟩, rfl, rfl⟩
        rintro j ⟨hj1, hj2⟩
        refine ⟨fun h => ?_, fun h => ?_⟩
        · have hj : j < a.put.length := by
            have : (j : Int) < a.put.length := of_decide_eq_true h
            omega
          clear h
          generalize hm' : a.put[j] = m at *
          have hm : a.put[j]? = some m := by rw [List.getElem?_eq_getElem hj, hm']
          refine ⟨eAmt m, fun _ => ⟨by omega, by simp [hm]⟩, ?_⟩
          refine .inr ⟨[0], [.agg (dvs [I m.1, I m.2]), .ptr 0 0], [(0, .cells [.dv (I n)])], 0, _, _, isAmount_spec n m, rfl, rfl, ⟨⟨rf, rf, trivial⟩, rfl, trivial⟩, ⟨⟨rf, trivial⟩, trivial⟩, ?_⟩
          refine ⟨fun h => ?_, fun h => ?_⟩
          · have hm2 : amtBad n m = true := by simpa using h
            have hb2 : optBad n d a = true := by rw [hob, amtsOk, all_at hm hm2]; rfl
            exact ⟨DV.Le.of_eq (by rw [staBad, not_all, all_at ha hb2]; simp), trivial⟩
          · have hm2 : amtBad n m = false := by simpa using h
            exact ⟨fun _ => ⟨by omega, by omega⟩, j + 1, ⟨⟨⟨rfl, rfl, trivial⟩, ⟨rfl, rfl, trivial⟩, ⟨rfl, rfl, trivial⟩, rfl, rf, rf, rf, rf, rf, le_int (by omega), trivial⟩, ⟨⟨rf, trivial⟩, subWs_dvs _ _ _ (dcells d), subWs_dvs _ _ _ (eSta x).cells, trivial⟩, rfl, rfl⟩, ⟨by omega, all_take hm hj2 hm2⟩, by dsimp only; omega⟩
        · have hj : j = a.put.length := by
            have : ¬ (j : Int) < a.put.length := of_decide_eq_false h
            omega
          clear h
          subst hj
          rw [List.take_length] at hj2
          have hb2 : optBad n d a = false := by rw [hob, amtsOk, hj2]; rfl
          exact ⟨fun _ => ⟨by omega, by omega⟩, k + 1, ⟨⟨⟨rfl, rfl, trivial⟩, ⟨rfl, rfl, trivial⟩, ⟨rfl, rfl, trivial⟩, rfl, rf, rf, le_int (by omega), trivial⟩, ⟨⟨rf, trivial⟩, subWs_dvs _ _ _ (dcells d), subWs_dvs _ _ _ (eSta x).cells, trivial⟩, rfl, rfl⟩, ⟨by omega, all_take ha hk2 hb2⟩, by dsimp only; omega⟩
    have hk : k = x.opts.length := by
      have : ¬ (k : Int) < x.opts.length := of_decide_eq_false h
      omega
    clear h
    subst hk
    rw [List.take_length] at hk2
    refine ⟨Nat, fun k => ⟨3, [(7, .fn 95 [.ptr 1 0]), (8, .fn 96 [.ptr 1 0]), (9, .fn 97 [.ptr 0 0]), (5, .ptr 2 0), (91, .dv (.sl 3 (x.gives.map eGiv))), (92, .dv (I x.gives.length)), (93, .dv (I k))], [(0, .cells [.dv (I n)]), (1, .cells (dvs (dcells d))), (2, .cells (dvs (eSta x).cells))]⟩, fun k => k ≤ x.gives.length ∧ (x.gives.take k).all (fun a => !givBad n d a) = true, fun k => x.gives.length - k, 0, fun _ => rfl, ?_, ⟨by omega, by simp⟩, ?_⟩
    · exact ⟨⟨⟨rfl, rfl, trivial⟩, ⟨rfl, rfl, trivial⟩, ⟨rfl, rfl, trivial⟩, rfl, rf, le_int (by simp), rf, trivial⟩, ⟨⟨rf, trivial⟩, subWs_dvs _ _ _ (dcells d), subWs_dvs _ _ _ (eSta x).cells, trivial⟩, rfl, rfl⟩
    rintro k ⟨hk1, hk3⟩
    refine ⟨fun h => ?_, fun h => ?_⟩
    · have hk : k < x.gives.length := by
        have : (k : Int) < x.gives.length := of_decide_eq_true h
        omega
      clear h
      generalize ha' : x.gives[k] = a at *
      have ha : x.gives[k]? = some a := by rw [List.getElem?_eq_getElem hk, ha']
      refine ⟨eGiv a, fun _ => ⟨by omega, by simp [ha]⟩, ?_⟩
      refine .inr ⟨[1], [.dv (I a.party), .ptr 0 0], [(0, .cells (dvs (dcells d)))], 0, _, _, isParty_spec d a.party, rfl, rfl, ⟨rf, rfl, trivial⟩, ⟨subWs_dvs _ _ _ (dcells d), trivial⟩, ?_⟩
      have hob := givBad_eq n d a
      generalize partyOk d a.party = e at hob ⊢
      cases e
      · refine ⟨id, id, id, .inl ⟨rfl, [B false], (fun h => by cases h), rfl, ?_⟩⟩
        repeat first | refine ⟨id, ?_⟩ | refine ⟨fun _ h => bw_f h, ?_⟩ | refine ⟨fun _ h => bw_t h, ?_⟩ | refine ⟨fun h => ⟨h, fun h2 => bw_and h h2⟩, ?_⟩ | refine ⟨fun h => ⟨h, fun h2 => bw_andf h h2⟩, ?_⟩ | refine ⟨fun _ => rfl, ?_⟩
        refine ⟨fun _ => ?_, fun h => by cases h⟩
        have hb2 : givBad n d a = true := by rw [hob]; simp
        exact ⟨DV.Le.of_eq (by rw [staBad, not_all, not_all, all_at ha hb2]; simp), trivial⟩
      · refine ⟨id, id, id, .inr ⟨[0], [.agg (dvs [I a.item, I a.n]), .ptr 0 0], [(0, .cells [.dv (I n)])], 0, _, _, isAmount_spec n (a.item, a.n), rfl, rfl, ⟨⟨rf, rf, trivial⟩, rfl, trivial⟩, ⟨⟨rf, trivial⟩, trivial⟩, rfl, ?_⟩⟩
        generalize amtBad n (a.item, a.n) = e2 at hob ⊢
        refine ⟨fun _ => rfl, fun _ _ => rfl, fun h => ?_, fun h => ?_⟩
        · have he : e2 = true := by simpa using h
          have hb2 : givBad n d a = true := by rw [hob, he]; simp
          exact ⟨DV.Le.of_eq (by rw [staBad, not_all, not_all, all_at ha hb2]; simp), trivial⟩
        · have he : e2 = false := by simpa using h
          have hb2 : givBad n d a = false := by rw [hob, he]; simp
          exact ⟨fun _ => ⟨by omega, by omega⟩, k + 1, ⟨⟨⟨rfl, rfl, trivial⟩, ⟨rfl, rfl, trivial⟩, ⟨rfl, rfl, trivial⟩, rfl, rf, rf, le_int (by omega), trivial⟩, ⟨⟨rf, trivial⟩, subWs_dvs _ _ _ (dcells d), subWs_dvs _ _ _ (eSta x).cells, trivial⟩, rfl, rfl⟩, ⟨by omega, all_take ha hk3 hb2⟩, by dsimp only; omega⟩
    · have hk : k = x.gives.length := by
        have : ¬ (k : Int) < x.gives.length := of_decide_eq_false h
        omega
      subst hk
      rw [List.take_length] at hk3
      exact ⟨DV.Le.of_eq (by rw [staBad, not_all, not_all, hk2, hk3, hb]; rfl), trivial⟩

set_option maxHeartbeats 4000000 in
theorem faulty_spec (n : Int) (d : Dea) (hs : Parts d) : PSpec Try.prog 57 [I n, eDea d] (eMalf (malf n d)) := by
  refine pspec_of tab_ok mixed (calls_snd _) (range_snd _) Try.func57 rfl (by kernel_rfl) rfl ?_
  repeat first | refine ⟨id, ?_⟩ | refine ⟨fun _ h => bw_f h, ?_⟩ | refine ⟨fun _ h => bw_t h, ?_⟩ | refine ⟨fun h => ⟨h, fun h2 => bw_and h h2⟩, ?_⟩ | refine ⟨fun h => ⟨h, fun h2 => bw_andf h h2⟩, ?_⟩
  refine ⟨fun h => ?_, fun h => ?_⟩
  · have hb : badAll n d = true := by simpa [badAll] using h
    rw [malf, if_pos hb]
    exact ⟨rf, rf, trivial⟩
  have hb : badAll n d = false := by simpa [badAll] using h
  clear h
  have hst := hs.st
  refine ⟨Nat, fun k => ⟨1, [(0, .dv (I n)), (3, .ptr 0 0), (39, .dv (.sl 6 (d.states.map eSta))), (40, .dv (I d.states.length)), (41, .dv (I k))], [(0, .cells (dvs (dcells d)))]⟩, fun k => k ≤ d.states.length ∧ (d.states.take k).all (fun a => !staBad n d a) = true, fun k => d.states.length - k, 0, fun _ => rfl, ?_, ⟨by omega, by simp⟩, ?_⟩
  · exact ⟨⟨rf, rfl, rf, le_int (by simp), rf, trivial⟩, ⟨subWs_dvs _ _ _ (dcells d), trivial⟩, rfl, rfl⟩
  rintro k ⟨hk1, hk2⟩
  refine ⟨fun h => ?_, fun h => ?_⟩
  · have hk : k < d.states.length := by
      have : (k : Int) < d.states.length := of_decide_eq_true h
      omega
    clear h
    generalize ha' : d.states[k] = a at *
    have ha : d.states[k]? = some a := by rw [List.getElem?_eq_getElem hk, ha']
    have hm := List.mem_of_getElem? ha
    refine ⟨eSta a, fun _ => ⟨by omega, by simp [ha]⟩, .inl ⟨_, fun _ => (wellFormed_spec n d a (hs.op a hm) (hs.pu a hm) (hs.gi a hm)).ok, ?_⟩⟩
    refine ⟨fun h => ?_, fun h => ?_⟩
    · have hb2 : staBad n d a = true := by simpa using h
      rw [malf, if_neg (by simp [hb]), findIdx_at ha hk2 hb2]
      exact ⟨rf, rf, trivial⟩
    · have hb2 : staBad n d a = false := by simpa using h
      exact ⟨fun _ => ⟨by omega, by omega⟩, k + 1, ⟨⟨rf, rfl, rf, rf, le_int (by omega), trivial⟩, ⟨subWs_dvs _ _ _ (dcells d), trivial⟩, rfl, rfl⟩, ⟨by omega, all_take ha hk2 hb2⟩, by dsimp only; omega⟩
  have hk : k = d.states.length := by
    have : ¬ (k : Int) < d.states.length := of_decide_eq_false h
    omega
  clear h
  subst hk
  rw [List.take_length] at hk2
  rw [malf, if_neg (by simp [hb]), findIdx_no hk2]
  exact ⟨rf, rf, trivial⟩
end Go.Proofs.Ytfcfbfkjdenpdaa
