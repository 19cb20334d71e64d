/- Contract of the package's Pots. -/
import Derived.Test.YtfcfbfkjdenpdaaP11
set_option linter.unusedVariables false
set_option linter.unusedSimpArgs false
set_option linter.unusedSectionVars false
namespace Go.Proofs.Ytfcfbfkjdenpdaa
open Go.TM

theorem anF_code {n : Nat} {d : Dea} {f : Fau} (h : anF n d = some f) : f.code = 17 := by
  unfold anF at h
  obtain ⟨z, -, h⟩ := List.exists_of_findSome?_eq_some h
  unfold stF at h
  split at h
  · cases h
  · obtain ⟨t, -, h⟩ := List.exists_of_findSome?_eq_some h
    unfold stepF at h
    split at h
    · injection h with h; rw [← h]
    · cases h
/-- The boxes of Pots in its loop. -/
def pK (n : Nat) (d : Dea) (m : Rows) : Boxes := [(0, .cells (dvs (dcells d))), (1, .cells zF), (6, .tree 0 0 (eFrom (pD d).from_)), (7, .tree 0 0 (eStps (pD d).steps)), (8, .cells (wC d (.own 6 0 0 []) (.own 7 0 0 []) (.own 14 0 0 []))), (14, .tree 0 0 (.osl 1 ((keysF (pD d)).map I))), (15, .tree 0 0 (.omap intK (conM n d))), (16, .cells [.ptr 8 0, .dv (I n), .own 15 0 0 []]), (19, .tree 0 0 (.osl 1 (m.map Ints)))]
set_option maxRecDepth 100000 in
set_option maxHeartbeats 4000000 in
theorem sPots_spec (n : Int) (d : Dea) (hs : Parts d) : PSpec Try.prog 10 [I n, eDea d] [eRows (potsF n d).1, eFau (potsF n d).2] := by
  refine pspec_of tab_ok mixed (calls_snd _) (range_snd _) Try.func10 rfl (by kernel_rfl) rfl ?_
  cases hm : malf n d with
  | some k =>
    have hc : (analyze n d).code = 1 := by simp [analyze, hm]
    refine .inl ⟨_, fun _ => (analyse_bad n d hs k hm).ok, ?_⟩
    simp only [potsF, hc, if_false, show ¬ (1 : Int) = 0 by omega]
    refine ⟨fun _ => ?_, (fun h => by rw [hc] at h; cases h)⟩
    exact ⟨by kernel_rfl, DV.nils_le 1, rf, trivial⟩
  | none =>
    obtain ⟨hn0, hwf⟩ := malf_none hs hm
    obtain ⟨N, rfl⟩ : ∃ N : Nat, n = N := ⟨n.toNat, by omega⟩
    rw [Int.toNat_natCast] at hwf
    have han := analyse_spec N d hs hm
    have haz : analyze (N : Int) d = match anF N d with
        | some f => f
        | none => ⟨0, 0, 0, []⟩ := by simp only [analyze, hm, Int.toNat_natCast]; cases anF N d <;> rfl
    cases hf : anF N d with
    | some f =>
      rw [hf] at han haz
      have hc := anF_code hf
      have haz : analyze (N : Int) d = f := haz
      have hpf : potsF (N : Int) d = ([], f) := by simp [potsF, haz, hc]
      rw [hpf]
      refine .inr ⟨[], [.dv (I N), .agg (dvs (dcells d))], [], 16, _, _, han, rfl, rfl, ⟨rf, ⟨rf, rf, rf, trivial⟩, trivial⟩, trivial, ?_⟩
      refine ⟨fun _ => ?_, (fun h => ?_)⟩
      · exact ⟨by kernel_rfl, DV.nils_le 1, rf, trivial⟩
      · exfalso
        have h : (f.code != 0) = false := h
        rw [hc] at h; cases h
    | none =>
      rw [hf] at han haz
      have haz : analyze (N : Int) d = ⟨0, 0, 0, []⟩ := haz
      simp only [potsF, haz, if_true, Int.toNat_natCast]
      refine .inr ⟨[], [.dv (I N), .agg (dvs (dcells d))], [], 16, _, _, han, rfl, rfl, ⟨rf, ⟨rf, rf, rf, trivial⟩, trivial⟩, trivial, ?_⟩
      refine ⟨(fun h => by cases h), fun _ => ?_⟩
      have hb := disc_ok d
      have hol := hb.le
      have hsl := hwf.sl
      have hln := hb.len
      have hw := wok_disc d hwf.ne
      have hkl : (keysF (pD d)).length = (disc d).order.length := by rw [hw.keys]
      refine ⟨Ints [], ⟨DV.nils_le 1, trivial⟩, by simp, by simp, by rw [by26]; simp; omega, by simp; omega, false, (fun h => by cases h), ?_⟩
      refine ⟨PoI, fun z => ⟨20, [(3, .ptr 0 0), (5, .ptr 1 0), (6, .ptr 16 0), (8, .own 19 0 0 []), (31, .own 14 0 0 []), (32, .dv (I (disc d).order.length)), (33, .dv (I z.i))], pK N d z.m⟩, fun z => z.i ≤ (disc d).order.length ∧ z.m = potsAt N d z.i, fun z => (disc d).order.length - z.i, ⟨0, potsAt N d 0⟩, (fun _ => by kernel_rfl), ?_, ⟨by simp, rfl⟩, ?_⟩
      · refine ⟨⟨rfl, rfl, rfl, rfl, rfl, le_int (by simp [hkl]), rf, trivial⟩, ⟨subWs_dvs _ _ _ (dcells d), ⟨rf, rf, rf, rf, trivial⟩, ⟨rfl, rfl⟩, ⟨rfl, rfl⟩, ⟨rf, rf, rf, rfl, rfl, rfl, trivial⟩, ⟨rfl, rfl⟩, ⟨rfl, rfl⟩, ⟨rfl, rf, rfl, trivial⟩, ⟨rfl, ?_⟩, trivial⟩, by kernel_rfl, by kernel_rfl⟩
        show DV.osl 1 (List.replicate ((d.states.map eSta).length : Int).toNat (Ints [])) = .osl 1 ((List.replicate d.states.length []).map Ints)
        simp
      rintro ⟨i, m⟩ ⟨hi1, hi2⟩
      dsimp only at hi1 hi2
      refine ⟨fun h => ?_, fun h => ?_⟩
      · have hi : i < (disc d).order.length := by
          have : (i : Int) < (disc d).order.length := of_decide_eq_true h
          omega
        clear h
        generalize hs' : (disc d).order[i] = s at *
        have hso : (disc d).order[i]? = some s := by rw [List.getElem?_eq_getElem hi, hs']
        generalize hv' : (disc d).ways[i]'(by omega) = v at *
        have hvo : (disc d).ways[i]? = some v := by rw [List.getElem?_eq_getElem (by omega), hv']
        have hko : (keysF (pD d))[i]? = some s := by rw [hw.keys]; exact hso
        have hrg := hb.rng _ (List.mem_of_getElem? hso)
        have hml := potsAt_len N d i
        rw [← hi2] at hml
        have hnx : potsAt N d (i + 1) = m.set s.toNat (sumR N (folM N d v)) := by simp only [potsAt, hso, hvo, ← hi2]
        have hpo := pot_spec N d hwf i s v hso hvo
        obtain ⟨old, hold⟩ : ∃ o, m[s.toNat]? = some o := ⟨_, List.getElem?_eq_getElem (by omega)⟩
        refine ⟨fun _ => ⟨by dsimp only; omega, by simp; omega⟩, I s, fun _ => by simp [hko], ?_⟩
        refine .inr ⟨[6, 7, 8, 14, 15, 16], [.ptr 5 0, .dv (I s)], qK N d (conM N d), 0, _, _, hpo, by kernel_rfl, by kernel_rfl, ⟨rfl, rf, trivial⟩, ⟨⟨rfl, rfl⟩, ⟨rfl, rfl⟩, ⟨rf, rf, rf, rfl, rfl, rfl, trivial⟩, ⟨rfl, rfl⟩, ⟨rfl, rfl⟩, ⟨rfl, rf, rfl, trivial⟩, trivial⟩, ?_⟩
        refine ⟨fun _ => ⟨by omega, by simp; omega⟩, [Ints (sumR N (folM N d v))], ⟨rf, trivial⟩, Ints old, by simp [hold], ?_⟩
        refine ⟨fun _ => ⟨by dsimp only; omega, by dsimp only; omega⟩, ⟨i + 1, m.set s.toNat (sumR N (folM N d v))⟩, ⟨⟨rfl, rfl, rfl, rfl, rfl, rf, le_int (by simp), trivial⟩, ⟨subWs_dvs _ _ _ (dcells d), ⟨rf, rf, rf, rf, trivial⟩, ⟨rfl, rfl⟩, ⟨rfl, rfl⟩, ⟨rf, rf, rf, rfl, rfl, rfl, trivial⟩, ⟨rfl, rfl⟩, ⟨rfl, rfl⟩, ⟨rfl, rf, rfl, trivial⟩, ⟨rfl, ?_⟩, trivial⟩, by kernel_rfl, by kernel_rfl⟩, ⟨by dsimp only; omega, hnx.symm⟩, by dsimp only; omega⟩
        show DV.osl 1 ((m.map Ints).set s.toNat (Ints (sumR N (folM N d v)))) = .osl 1 ((m.set s.toNat (sumR N (folM N d v))).map Ints)
        rw [List.map_set]
      · have hi : i = (disc d).order.length := by
          have : ¬ (i : Int) < (disc d).order.length := of_decide_eq_false h
          omega
        clear h
        subst hi
        refine ⟨DV.Le.of_eq ?_, DV.agg_le ⟨rf, rf, rf, DV.nils_le 1, trivial⟩ (by simp [DV.isCell]), trivial⟩
        show DV.sl 1 (fzL (m.map Ints)) = .sl 1 ((potsR N d).map Ints)
        rw [hi2, potsR]
        rw [fzL_map fun _ => rfl]
end Go.Proofs.Ytfcfbfkjdenpdaa
