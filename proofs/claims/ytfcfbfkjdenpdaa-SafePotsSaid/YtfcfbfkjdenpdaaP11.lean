/- Contract of pot (written by gen11.py). -/
import Derived.Test.YtfcfbfkjdenpdaaP10
import Derived.Test.YtfcfbfkjdenpdaaP4
set_option linter.unusedVariables false
set_option linter.unusedSimpArgs false
set_option linter.unusedSectionVars false
namespace Go.Proofs.Ytfcfbfkjdenpdaa
open Go.TM

/-- The analysis: its boxes as they are handed to its methods. -/
def qK (n : Nat) (d : Dea) (M : List DV) : Boxes := [(0, .tree 0 0 (eFrom (pD d).from_)), (1, .tree 0 0 (eStps (pD d).steps)), (2, .cells (wC d (.own 0 0 0 []) (.own 1 0 0 []) (.own 3 0 0 []))), (3, .tree 0 0 (.osl 1 ((keysF (pD d)).map I))), (4, .tree 0 0 (.omap intK M)), (5, .cells [.ptr 2 0, .dv (I n), .own 4 0 0 []])]
set_option maxHeartbeats 4000000 in
theorem pot1_spec (n : Nat) (hn : n ≤ 1000) (d : Dea) (M : List DV) (s : Int) (m : Rows) (p : Nat) (hp : p ≤ 4) (hr : Rect p n 1099511627776000000 m) (hM : mget M (I s) = some (eRows m)) : CSpec Try.prog 32 [.ptr 5 0, .dv (I s)] 6 (qK n d M) 0 [.dv (Ints (sumR n m))] (qK n d M) := by
  refine cspec_of tab_ok mixed (calls_snd _) (range_snd _) Try.func32 rfl rfl (by kernel_rfl) ?_
  have hq : true = true → mget M (I s) = some (eRows m) := fun _ => hM
  have hml := hr.len
  refine ⟨I 0, ⟨rf, trivial⟩, by omega, by omega, by rw [by22]; omega, by omega, false, (fun h => by cases h), ?_⟩
  refine ⟨keyT3, I s, rfl, rfl, eRows m, true, hq, (fun h => by cases h), rfl, ?_⟩
  refine ⟨SuI, fun z => ⟨7, [(5, .own 6 0 0 []), (20, .dv (eRows m)), (21, .dv (I m.length)), (22, .dv (I z.p))], qK n d M ++ [(6, Box.tree 0 0 (.osl 1 (z.acc.map I)))]⟩, fun z => z.p ≤ m.length ∧ z.acc = sumR n (m.take z.p) ∧ RowOk n (z.p * 1099511627776000000) z.acc, fun z => m.length - z.p, ⟨0, List.replicate n 0⟩, fun _ => rfl, ?_, ⟨by simp, by simp [sumR], ⟨by simp, fun e he => by simp at he; omega⟩⟩, ?_⟩
  · refine ⟨⟨rfl, rf, le_int (by simp), rf, trivial⟩, ⟨⟨rfl, rfl⟩, ⟨rfl, rfl⟩, ⟨rf, rf, rf, rfl, rfl, rfl, trivial⟩, ⟨rfl, rfl⟩, ⟨rfl, rfl⟩, ⟨rfl, rf, rfl, trivial⟩, ⟨rfl, ?_⟩, trivial⟩, rfl, rfl⟩
    show DV.osl 1 (List.replicate (n : Int).toNat (I 0)) = .osl 1 ((List.replicate n 0).map I)
    simp
  rintro ⟨q, acc⟩ ⟨hq1, hq2, hq3⟩
  dsimp only at hq1 hq2 hq3
  refine ⟨fun h => ?_, fun h => ?_⟩
  · have hql : q < m.length := by
      have : (q : Int) < m.length := of_decide_eq_true h
      omega
    clear h
    generalize hr' : m[q] = r at *
    have hro : m[q]? = some r := by rw [List.getElem?_eq_getElem hql, hr']
    have hrk := hr.at (List.mem_of_getElem? hro)
    have hle : acc.length = r.length := by rw [hq3.len, hrk.len]
    have hal := hq3.len
    have hrl := hrk.len
    refine ⟨Ints r, fun _ => ⟨by dsimp only; omega, by simp [hro]⟩, ?_⟩
    refine ⟨SvI, fun z => ⟨7, [(5, .own 6 0 0 []), (20, .dv (eRows m)), (21, .dv (I m.length)), (22, .dv (I q)), (26, .dv (Ints r)), (27, .dv (I n)), (28, .dv (I z.i))], qK n d M ++ [(6, Box.tree 0 0 (.osl 1 (z.cur.map I)))]⟩, fun z => z.i ≤ n ∧ z.cur = addTo acc r z.i, fun z => n - z.i, ⟨0, acc⟩, fun _ => rfl, ?_, ⟨by simp, by rw [addTo_zero]⟩, ?_⟩
    · exact ⟨⟨rfl, rf, rf, rf, rf, le_int (by simp [hrl]), rf, trivial⟩, ⟨⟨rfl, rfl⟩, ⟨rfl, rfl⟩, ⟨rf, rf, rf, rfl, rfl, rfl, trivial⟩, ⟨rfl, rfl⟩, ⟨rfl, rfl⟩, ⟨rfl, rf, rfl, trivial⟩, ⟨rfl, rfl⟩, trivial⟩, rfl, rfl⟩
    rintro ⟨i, cur⟩ ⟨hi1, hi2⟩
    dsimp only at hi1 hi2
    refine ⟨fun h => ?_, fun h => ?_⟩
    · have hi : i < n := by
        have : (i : Int) < n := of_decide_eq_true h
        omega
      clear h
      obtain ⟨e, he⟩ : ∃ e, acc[i]? = some e := ⟨_, List.getElem?_eq_getElem (by omega)⟩
      obtain ⟨f, hf⟩ : ∃ f, r[i]? = some f := ⟨_, List.getElem?_eq_getElem (by omega)⟩
      have hb1 := hq3.bd e (List.mem_of_getElem? he)
      have hb2 := hrk.bd f (List.mem_of_getElem? hf)
      have hc := addTo_at hle he
      have hcs := addTo_set hle he hf
      have hcl := addTo_len hle i (by omega)
      rw [← hi2] at hc hcs hcl
      refine ⟨I f, fun _ => ⟨by omega, by simp [hf]⟩, ?_⟩
      refine ⟨fun _ => ⟨by omega, by simp; omega⟩, I e, fun _ => by simp [hc], fun _ => ⟨by omega, by omega⟩, ?_⟩
      refine ⟨fun _ => ⟨by omega, by simp; omega⟩, [I (e + f)], ⟨rf, trivial⟩, I e, by simp [hc], ?_⟩
      refine ⟨fun _ => ⟨by dsimp only; omega, by dsimp only; omega⟩, ⟨i + 1, cur.set i (e + f)⟩, ⟨⟨rfl, rf, rf, rf, rf, rf, le_int (by simp), trivial⟩, ⟨⟨rfl, rfl⟩, ⟨rfl, rfl⟩, ⟨rf, rf, rf, rfl, rfl, rfl, trivial⟩, ⟨rfl, rfl⟩, ⟨rfl, rfl⟩, ⟨rfl, rf, rfl, trivial⟩, ⟨rfl, ?_⟩, trivial⟩, rfl, rfl⟩, ⟨by dsimp only; omega, hcs⟩, by dsimp only; omega⟩
      show DV.osl 1 ((cur.map I).set (i : Int).toNat (I (e + f))) = .osl 1 ((cur.set i (e + f)).map I)
      rw [List.map_set]; rfl
    · have hi : i = n := by
        have : ¬ (i : Int) < n := of_decide_eq_false h
        omega
      clear h
      subst hi
      rw [← hq3.len, addTo_end hle] at hi2
      refine ⟨fun _ => ⟨by omega, by omega⟩, ⟨q + 1, cur⟩, ⟨⟨rfl, rf, rf, le_int (by simp), trivial⟩, ⟨⟨rfl, rfl⟩, ⟨rfl, rfl⟩, ⟨rf, rf, rf, rfl, rfl, rfl, trivial⟩, ⟨rfl, rfl⟩, ⟨rfl, rfl⟩, ⟨rfl, rf, rfl, trivial⟩, ⟨rfl, rfl⟩, trivial⟩, rfl, rfl⟩, ⟨by dsimp only; omega, ?_, ?_⟩, by dsimp only; omega⟩
      · dsimp only
        rw [List.take_add_one, hro, sumR, List.foldl_append]
        show cur = addRow (sumR _ (m.take q)) r
        rw [← hq2, hi2]
      · dsimp only
        rw [hi2]
        have := rowOk_add hq3 hrk
        exact ⟨this.len, fun e he => by have := this.bd e he; omega⟩
  · have hql : q = m.length := by
      have : ¬ (q : Int) < m.length := of_decide_eq_false h
      omega
    clear h
    subst hql
    rw [List.take_length] at hq2
    refine ⟨_, _, ⟨rfl, rfl⟩, by kernel_rfl, ⟨DV.Le.of_eq ?_, trivial⟩, ⟨rfl, rfl⟩, ⟨rfl, rfl⟩, ⟨rf, rf, rf, rfl, rfl, rfl, trivial⟩, ⟨rfl, rfl⟩, ⟨rfl, rfl⟩, ⟨rfl, rf, rfl, trivial⟩, trivial⟩
    show DV.sl 1 (fzL (acc.map I)) = _
    rw [fzL_map fun _ => rfl, hq2]
set_option maxHeartbeats 4000000 in
theorem pot0_spec (n : Nat) (hn : n ≤ 1000) (d : Dea) (M : List DV) (s : Int) (m : Rows) (p : Nat) (hp : p ≤ 4) (hr : Rect p n 1099511627776000000 m) (hM : mget M (I s) = some (.osl 1 (m.map oRow))) : CSpec Try.prog 32 [.ptr 5 0, .dv (I s)] 6 (qK n d M) 0 [.dv (Ints (sumR n m))] (qK n d M) := by
  refine cspec_of tab_ok mixed (calls_snd _) (range_snd _) Try.func32 rfl rfl (by kernel_rfl) ?_
  have hq : true = true → mget M (I s) = some (.osl 1 (m.map oRow)) := fun _ => hM
  have hml := hr.len
  refine ⟨I 0, ⟨rf, trivial⟩, by omega, by omega, by rw [by22]; omega, by omega, false, (fun h => by cases h), ?_⟩
  refine ⟨keyT3, I s, rfl, rfl, .osl 1 (m.map oRow), true, hq, (fun h => by cases h), rfl, ?_⟩
  refine ⟨.osl 1 (m.map oRow), hq, ?_⟩
  refine ⟨SuI, fun z => ⟨7, [(5, .own 6 0 0 []), (20, .own 4 0 0 [.key (I s) 0]), (21, .dv (I m.length)), (22, .dv (I z.p))], qK n d M ++ [(6, Box.tree 0 0 (.osl 1 (z.acc.map I)))]⟩, fun z => z.p ≤ m.length ∧ z.acc = sumR n (m.take z.p) ∧ RowOk n (z.p * 1099511627776000000) z.acc, fun z => m.length - z.p, ⟨0, List.replicate n 0⟩, fun _ => rfl, ?_, ⟨by simp, by simp [sumR], ⟨by simp, fun e he => by simp at he; omega⟩⟩, ?_⟩
  · refine ⟨⟨rfl, rfl, le_int (by simp), rf, trivial⟩, ⟨⟨rfl, rfl⟩, ⟨rfl, rfl⟩, ⟨rf, rf, rf, rfl, rfl, rfl, trivial⟩, ⟨rfl, rfl⟩, ⟨rfl, rfl⟩, ⟨rfl, rf, rfl, trivial⟩, ⟨rfl, ?_⟩, trivial⟩, rfl, rfl⟩
    show DV.osl 1 (List.replicate (n : Int).toNat (I 0)) = .osl 1 ((List.replicate n 0).map I)
    simp
  rintro ⟨q, acc⟩ ⟨hq1, hq2, hq3⟩
  dsimp only at hq1 hq2 hq3
  refine ⟨fun h => ?_, fun h => ?_⟩
  · have hql : q < m.length := by
      have : (q : Int) < m.length := of_decide_eq_true h
      omega
    clear h
    generalize hr' : m[q] = r at *
    have hro : m[q]? = some r := by rw [List.getElem?_eq_getElem hql, hr']
    have hrk := hr.at (List.mem_of_getElem? hro)
    have hle : acc.length = r.length := by rw [hq3.len, hrk.len]
    have hal := hq3.len
    have hrl := hrk.len
    have hro2 : true = true → (m.map oRow)[q]? = some (oRow r) := fun _ => by simp [hro]
    refine ⟨.osl 1 (m.map oRow), hq, fun _ => ⟨by dsimp only; omega, by dsimp only; simp; omega⟩, .osl 1 (m.map oRow), hq, oRow r, fun _ => by simp [hro], ?_⟩
    refine ⟨.osl 1 (m.map oRow), hq, oRow r, fun _ => by simp [hro], ?_⟩
    refine ⟨SvI, fun z => ⟨7, [(5, .own 6 0 0 []), (20, .own 4 0 0 [.key (I s) 0]), (21, .dv (I m.length)), (22, .dv (I q)), (26, .own 4 0 0 [.key (I s) 0, .el q 0]), (27, .dv (I n)), (28, .dv (I z.i))], qK n d M ++ [(6, Box.tree 0 0 (.osl 1 (z.cur.map I)))]⟩, fun z => z.i ≤ n ∧ z.cur = addTo acc r z.i, fun z => n - z.i, ⟨0, acc⟩, fun _ => rfl, ?_, ⟨by simp, by rw [addTo_zero]⟩, ?_⟩
    · exact ⟨⟨rfl, rfl, rf, rf, rfl, le_int (by simp [hrl]), rf, trivial⟩, ⟨⟨rfl, rfl⟩, ⟨rfl, rfl⟩, ⟨rf, rf, rf, rfl, rfl, rfl, trivial⟩, ⟨rfl, rfl⟩, ⟨rfl, rfl⟩, ⟨rfl, rf, rfl, trivial⟩, ⟨rfl, rfl⟩, trivial⟩, rfl, rfl⟩
    rintro ⟨i, cur⟩ ⟨hi1, hi2⟩
    dsimp only at hi1 hi2
    refine ⟨fun h => ?_, fun h => ?_⟩
    · have hi : i < n := by
        have : (i : Int) < n := of_decide_eq_true h
        omega
      clear h
      obtain ⟨e, he⟩ : ∃ e, acc[i]? = some e := ⟨_, List.getElem?_eq_getElem (by omega)⟩
      obtain ⟨f, hf⟩ : ∃ f, r[i]? = some f := ⟨_, List.getElem?_eq_getElem (by omega)⟩
      have hb1 := hq3.bd e (List.mem_of_getElem? he)
      have hb2 := hrk.bd f (List.mem_of_getElem? hf)
      have hc := addTo_at hle he
      have hcs := addTo_set hle he hf
      have hcl := addTo_len hle i (by omega)
      rw [← hi2] at hc hcs hcl
      refine ⟨.osl 1 (m.map oRow), hq, oRow r, hro2, fun _ => ⟨by omega, by simp; omega⟩, .osl 1 (m.map oRow), hq, oRow r, hro2, I f, fun _ => by simp [hf], ?_⟩
      refine ⟨fun _ => ⟨by omega, by simp; omega⟩, I e, fun _ => by simp [hc], fun _ => ⟨by omega, by omega⟩, ?_⟩
      refine ⟨fun _ => ⟨by omega, by simp; omega⟩, [I (e + f)], ⟨rf, trivial⟩, I e, by simp [hc], ?_⟩
      refine ⟨fun _ => ⟨by dsimp only; omega, by dsimp only; omega⟩, ⟨i + 1, cur.set i (e + f)⟩, ⟨⟨rfl, rfl, rf, rf, rfl, rf, le_int (by simp), trivial⟩, ⟨⟨rfl, rfl⟩, ⟨rfl, rfl⟩, ⟨rf, rf, rf, rfl, rfl, rfl, trivial⟩, ⟨rfl, rfl⟩, ⟨rfl, rfl⟩, ⟨rfl, rf, rfl, trivial⟩, ⟨rfl, ?_⟩, trivial⟩, rfl, rfl⟩, ⟨by dsimp only; omega, hcs⟩, by dsimp only; omega⟩
      show DV.osl 1 ((cur.map I).set (i : Int).toNat (I (e + f))) = .osl 1 ((cur.set i (e + f)).map I)
      rw [List.map_set]; rfl
    · have hi : i = n := by
        have : ¬ (i : Int) < n := of_decide_eq_false h
        omega
      clear h
      subst hi
      rw [← hq3.len, addTo_end hle] at hi2
      refine ⟨fun _ => ⟨by omega, by omega⟩, ⟨q + 1, cur⟩, ⟨⟨rfl, rfl, rf, le_int (by simp), trivial⟩, ⟨⟨rfl, rfl⟩, ⟨rfl, rfl⟩, ⟨rf, rf, rf, rfl, rfl, rfl, trivial⟩, ⟨rfl, rfl⟩, ⟨rfl, rfl⟩, ⟨rfl, rf, rfl, trivial⟩, ⟨rfl, rfl⟩, trivial⟩, rfl, rfl⟩, ⟨by dsimp only; omega, ?_, ?_⟩, by dsimp only; omega⟩
      · dsimp only
        rw [List.take_add_one, hro, sumR, List.foldl_append]
        show cur = addRow (sumR _ (m.take q)) r
        rw [← hq2, hi2]
      · dsimp only
        rw [hi2]
        have := rowOk_add hq3 hrk
        exact ⟨this.len, fun e he => by have := this.bd e he; omega⟩
  · have hql : q = m.length := by
      have : ¬ (q : Int) < m.length := of_decide_eq_false h
      omega
    clear h
    subst hql
    rw [List.take_length] at hq2
    refine ⟨_, _, ⟨rfl, rfl⟩, by kernel_rfl, ⟨DV.Le.of_eq ?_, trivial⟩, ⟨rfl, rfl⟩, ⟨rfl, rfl⟩, ⟨rf, rf, rf, rfl, rfl, rfl, trivial⟩, ⟨rfl, rfl⟩, ⟨rfl, rfl⟩, ⟨rfl, rf, rfl, trivial⟩, trivial⟩
    show DV.sl 1 (fzL (acc.map I)) = _
    rw [fzL_map fun _ => rfl, hq2]
/-- The contributions' map. -/
def conM (n : Nat) (d : Dea) : List DV := (conAt n d (disc d).order.length).map fun x => .ent (I x.1) (cVal x.1 x.2)
theorem pot_spec (n : Nat) (d : Dea) (hwf : WF n d) (i : Nat) (s : Int) (v : List Int) (hso : (disc d).order[i]? = some s) (hvo : (disc d).ways[i]? = some v) : CSpec Try.prog 32 [.ptr 5 0, .dv (I s)] 6 (qK n d (conM n d)) 0 [.dv (Ints (sumR n (folM n d v)))] (qK n d (conM n d)) := by
  have hb := disc_ok d
  have hvl := way_len (wayOf_at d hso hvo)
  have hsl := hwf.sl
  have hn64 := hwf.n64
  have hra := rect_folM hwf.opt (leads_disc d i _ v hso hvo) (by omega)
  have hg : mget (conM n d) (I s) = some (cVal s (folM n d v)) := by
    unfold conM
    rw [mget_con, conAt_look n hb (List.getElem?_eq_some_iff.1 hso).1 hso hvo]; rfl
  by_cases hs : s = 0
  · rw [cVal, if_pos hs] at hg
    exact pot0_spec n (by omega) d _ s _ _ hwf.p4 hra hg
  · rw [cVal, if_neg hs] at hg
    exact pot1_spec n (by omega) d _ s _ _ hwf.p4 hra hg
end Go.Proofs.Ytfcfbfkjdenpdaa
