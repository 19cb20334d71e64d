/- Contracts: the reference sum and Pots. -/
import Derived.Test.YtfcfbfkjdenpdaaP3
set_option linter.unusedVariables false
set_option linter.unusedSimpArgs false
set_option linter.unusedSectionVars false
namespace Go.Proofs.Ytfcfbfkjdenpdaa
open Go.TM

def addRow (acc r : List Int) : List Int := List.zipWith (· + ·) acc r
def addTo (acc r : List Int) (i : Nat) : List Int := (addRow acc r).take i ++ acc.drop i
def sumR (n : Nat) (m : Rows) : List Int := m.foldl addRow (List.replicate n 0)
theorem addTo_zero (acc r : List Int) : addTo acc r 0 = acc := by simp [addTo]
theorem addRow_len {acc r : List Int} (h : acc.length = r.length) : (addRow acc r).length = acc.length := by simp [addRow, h]
theorem addTo_len {acc r : List Int} (h : acc.length = r.length) (i : Nat) (hi : i ≤ acc.length) : (addTo acc r i).length = acc.length := by
  simp [addTo, addRow, h]; omega
theorem addTo_end {acc r : List Int} (h : acc.length = r.length) : addTo acc r acc.length = addRow acc r := by
  unfold addTo
  rw [List.take_of_length_le (by rw [addRow_len h]; omega)]; simp
theorem addTo_at {acc r : List Int} (h : acc.length = r.length) {i : Nat} {e : Int} (he : acc[i]? = some e) : (addTo acc r i)[i]? = some e := by
  have hi : i < acc.length := (List.getElem?_eq_some_iff.1 he).1
  unfold addTo
  have hl : ((addRow acc r).take i).length = i := by rw [List.length_take, addRow_len h]; omega
  rw [List.getElem?_append_right (by omega), hl]
  simp [he]
theorem addTo_set {acc r : List Int} (h : acc.length = r.length) {i : Nat} {e f : Int} (he : acc[i]? = some e) (hf : r[i]? = some f) : (addTo acc r i).set i (e + f) = addTo acc r (i + 1) := by
  have hi : i < acc.length := (List.getElem?_eq_some_iff.1 he).1
  have hl : ((addRow acc r).take i).length = i := by rw [List.length_take, addRow_len h]; omega
  have hz : (addRow acc r)[i]? = some (e + f) := by simp [addRow, List.getElem?_zipWith, he, hf]
  unfold addTo
  rw [List.set_append_right _ _ (by omega), hl, List.take_add_one, hz, List.append_assoc]
  have hd := List.drop_eq_getElem_cons hi
  simp only [Nat.sub_self]
  rw [hd, List.set_cons_zero]
  rfl
/-- A row: its length, and how large its numbers are. -/
structure RowOk (n : Nat) (b : Int) (r : List Int) : Prop where
  len : r.length = n
  bd : ∀ e, e ∈ r → 0 ≤ e ∧ e ≤ b
theorem rowOk_add {n : Nat} {b c : Int} {acc r : List Int} (h : RowOk n b acc) (k : RowOk n c r) : RowOk n (b + c) (addRow acc r) := by
  refine ⟨by rw [addRow_len (by rw [h.len, k.len]), h.len], fun e he => ?_⟩
  obtain ⟨i, hi⟩ := List.getElem?_of_mem he
  unfold addRow at hi
  rw [List.getElem?_zipWith] at hi
  cases ha : acc[i]? with
  | none => rw [ha] at hi; cases hi
  | some x =>
    cases hr : r[i]? with
    | none => rw [ha, hr] at hi; cases hi
    | some y =>
      rw [ha, hr] at hi
      simp at hi
      have h1 := h.bd x (List.mem_of_getElem? ha)
      have h2 := k.bd y (List.mem_of_getElem? hr)
      omega
theorem Rect.at {p n : Nat} {b : Int} {m : Rows} (h : Rect p n b m) {r : List Int} (hr : r ∈ m) : RowOk n b r := ⟨h.row r hr, h.bd r hr⟩
structure SuI where
  p : Nat
  acc : List Int
structure SvI where
  i : Nat
  cur : List Int
set_option maxHeartbeats 4000000 in
theorem sum_spec (n : Nat) (hn : n ≤ 1000) (m : Rows) (p : Nat) (hp : p ≤ 4) (hr : Rect p n 1099511627776000000 m) : PSpec Try.prog 35 [I n, eRows m] [Ints (sumR n m)] := by
  refine pspec_of tab_ok mixed (calls_snd _) (range_snd _) Try.func35 rfl (by kernel_rfl) rfl ?_
  refine ⟨I 0, ⟨rf, trivial⟩, by omega, by omega, by rw [by22]; omega, by omega, false, (fun h => by cases h), ?_⟩
  have hml := hr.len
  refine ⟨SuI, fun z => ⟨1, [(0, .dv (I n)), (1, .dv (eRows m)), (5, .own 0 0 0 []), (6, .dv (I z.p))], [(0, .tree 0 0 (.osl 1 (z.acc.map I)))]⟩, fun z => z.p ≤ m.length ∧ z.acc = sumR n (m.take z.p) ∧ RowOk n (z.p * 1099511627776000000) z.acc, fun z => m.length - z.p, ⟨0, List.replicate n 0⟩, fun _ => rfl, ?_, ⟨by simp, by simp [sumR], ⟨by simp, fun e he => by simp at he; omega⟩⟩, ?_⟩
  · refine ⟨⟨rf, rf, rfl, rf, trivial⟩, ⟨⟨rfl, ?_⟩, trivial⟩, rfl, rfl⟩
    show DV.osl 1 (List.replicate (n : Int).toNat (I 0)) = .osl 1 ((List.replicate n 0).map I)
    simp
  rintro ⟨q, acc⟩ ⟨hq1, hq2, hq3⟩
  dsimp only at hq1 hq2 hq3
  refine ⟨fun h => ?_, fun h => ?_⟩
  · have hq : q < m.length := by simpa using h
    clear h
    generalize hr' : m[q] = r at *
    have hro : m[q]? = some r := by rw [List.getElem?_eq_getElem hq, hr']
    have hrk := hr.at (List.mem_of_getElem? hro)
    have hle : acc.length = r.length := by rw [hq3.len, hrk.len]
    refine ⟨SvI, fun z => ⟨1, [(0, .dv (I n)), (1, .dv (eRows m)), (5, .own 0 0 0 []), (6, .dv (I q)), (7, .dv (I z.i))], [(0, .tree 0 0 (.osl 1 (z.cur.map I)))]⟩, fun z => z.i ≤ n ∧ z.cur = addTo acc r z.i, fun z => n - z.i, ⟨0, acc⟩, fun _ => rfl, ⟨⟨rf, rf, rfl, rf, rf, trivial⟩, ⟨⟨rfl, rfl⟩, trivial⟩, rfl, rfl⟩, ⟨by simp, by rw [addTo_zero]⟩, ?_⟩
    rintro ⟨i, cur⟩ ⟨hi1, hi2⟩
    dsimp only at hi1 hi2
    refine ⟨fun h => ?_, fun h => ?_⟩
    · have hi : i < n := by
        have : (i : Int) < n := of_decide_eq_true h
        omega
      clear h
      have hal := hq3.len
      have hrl := hrk.len
      obtain ⟨e, he⟩ : ∃ e, acc[i]? = some e := ⟨_, List.getElem?_eq_getElem (by omega)⟩
      obtain ⟨f, hf⟩ : ∃ f, r[i]? = some f := ⟨_, List.getElem?_eq_getElem (by omega)⟩
      have hb1 := hq3.bd e (List.mem_of_getElem? he)
      have hb2 := hrk.bd f (List.mem_of_getElem? hf)
      have hc := addTo_at hle he
      have hcs := addTo_set hle he hf
      have hcl := addTo_len hle i (by omega)
      rw [← hi2] at hc hcs hcl
      refine ⟨fun _ => ⟨by omega, by simp; omega⟩, I e, fun _ => by simp [hc], ?_⟩
      refine ⟨Ints r, fun _ => ⟨by omega, by simp [hro]⟩, I f, fun _ => ⟨by omega, by simp [hf]⟩, fun _ => ⟨by omega, by omega⟩, ?_⟩
      refine ⟨fun _ => ⟨by omega, by simp; omega⟩, [I (e + f)], ⟨rf, trivial⟩, I e, by simp [hc], by kernel_rfl, ?_⟩
      refine ⟨fun _ => ⟨by dsimp only; omega, by dsimp only; omega⟩, ⟨i + 1, cur.set i (e + f)⟩, ⟨⟨rf, rf, rfl, rf, le_int (by simp), trivial⟩, ⟨⟨rfl, ?_⟩, trivial⟩, rfl, rfl⟩, ⟨by dsimp only; omega, hcs⟩, by dsimp only; omega⟩
      show DV.osl 1 ((cur.map I).set (i : Int).toNat (I (e + f))) = .osl 1 ((cur.set i (e + f)).map I)
      rw [List.map_set]; rfl
    · have hi : i = n := by
        have : ¬ (i : Int) < n := of_decide_eq_false h
        omega
      clear h
      subst hi
      rw [← hq3.len, addTo_end hle] at hi2
      refine ⟨fun _ => ⟨by omega, by omega⟩, ⟨q + 1, cur⟩, ⟨⟨rf, rf, rfl, le_int (by simp), trivial⟩, ⟨⟨rfl, rfl⟩, trivial⟩, rfl, rfl⟩, ⟨by dsimp only; omega, ?_, ?_⟩, by dsimp only; omega⟩
      · dsimp only
        rw [List.take_add_one, hro, sumR, List.foldl_append]
        show cur = addRow (sumR _ (m.take q)) r
        rw [← hq2, hi2]
      · dsimp only
        rw [hi2]
        have := rowOk_add hq3 hrk
        exact ⟨this.len, fun e he => by have := this.bd e he; omega⟩
  · have hq : q = m.length := by
      have : ¬ q < m.length := by simpa using h
      omega
    clear h
    subst hq
    rw [List.take_length] at hq2
    refine ⟨DV.Le.of_eq ?_, trivial⟩
    show DV.sl 1 (fzL (acc.map I)) = _
    rw [fzL_map fun _ => rfl, hq2]

/-- The pots: of each state that is reached. -/
def potsAt (n : Nat) (d : Dea) : Nat → Rows
  | 0 => List.replicate d.states.length []
  | k + 1 => match (disc d).order[k]?, (disc d).ways[k]? with
    | some s, some v => (potsAt n d k).set s.toNat (sumR n (folM n d v))
    | _, _ => potsAt n d k
def potsR (n : Nat) (d : Dea) : Rows := potsAt n d (disc d).order.length
theorem potsAt_len (n : Nat) (d : Dea) : ∀ k, (potsAt n d k).length = d.states.length
  | 0 => by simp [potsAt]
  | k + 1 => by
    have := potsAt_len n d k
    simp only [potsAt]
    split
    · simp [this]
    · exact this
/-- What Pots answers. -/
def eRowsN (m : Rows) : DV := .sl 1 (m.map Ints)
def potsF (n : Int) (d : Dea) : Rows × Fau := if (analyze n d).code = 0 then (potsR n.toNat d, analyze n d) else ([], analyze n d)
theorem analyze_code {n : Int} {d : Dea} (h : (analyze n d).code = 0) : malf n d = none := by
  unfold analyze at h
  cases hm : malf n d with
  | none => rfl
  | some s => rw [hm] at h; simp at h
structure PoI where
  i : Nat
  m : Rows
set_option maxRecDepth 100000 in
set_option maxHeartbeats 4000000 in
theorem Pots_spec (n : Int) (d : Dea) (hs : Parts d) : PSpec Try.prog 12 [I n, eDea d] [eRows (potsF n d).1, eFau (potsF n d).2] := by
  refine pspec_of tab_ok mixed (calls_snd _) (range_snd _) Try.func12 rfl (by kernel_rfl) rfl ?_
  refine .inl ⟨_, fun _ => (Analyze_spec n d hs).ok, ?_⟩
  refine ⟨fun h => ?_, fun h => ?_⟩
  · have hc : (analyze n d).code ≠ 0 := by simpa using h
    clear h
    simp only [potsF, hc, if_false]
    refine ⟨by kernel_rfl, DV.nils_le 1, rf, trivial⟩
  have hc : (analyze n d).code = 0 := by simpa using h
  clear h
  obtain ⟨hn0, hwf⟩ := malf_none hs (analyze_code hc)
  simp only [potsF, hc, if_true]
  have hsm := small_of hs hwf
  obtain ⟨N, rfl⟩ : ∃ N : Nat, n = N := ⟨n.toNat, by omega⟩
  simp only [Int.toNat_natCast] at *
  generalize analyze N d = fa at *
  refine .inl ⟨_, fun _ => (discover_spec d hsm).ok, ?_⟩
  have hb := disc_ok d
  have hol := hb.le
  have hsl := hwf.sl
  have hln := hb.len
  have hn64 := hwf.n64
  have hp4 := hwf.p4
  refine ⟨Ints [], ⟨DV.nils_le 1, trivial⟩, by simp, by simp, by rw [by26]; simp; omega, by simp; omega, false, (fun h => by cases h), ?_⟩
  refine ⟨PoI, fun z => ⟨5, [(0, .dv (I N)), (3, .ptr 0 0), (5, .ptr 1 0), (6, .ptr 2 0), (7, .ptr 3 0), (8, .own 4 0 0 []), (9, .dv (I z.i))], [(0, .cells (dvs (dcells d))), (1, .cells (dvs [I 0, I 0, I 0, .nils])), (2, .cells (dvs (eFau fa).cells)), (3, .cells (dvs [Ints (disc d).order, .sl 1 ((disc d).ways.map Ints)])), (4, .tree 0 0 (.osl 1 (z.m.map Ints)))]⟩, fun z => z.i ≤ (disc d).order.length ∧ z.m = potsAt N d z.i, fun z => (disc d).order.length - z.i, ⟨0, potsAt N d 0⟩, fun _ => rfl, ?_, ⟨by simp, rfl⟩, ?_⟩
  · refine ⟨⟨rf, rfl, rfl, rfl, rfl, rfl, rf, trivial⟩, ⟨subWs_dvs _ _ _ (dcells d), ⟨rf, rf, rf, rf, trivial⟩, ⟨le_int hc.symm, rf, rf, rf, trivial⟩, ⟨rf, rf, trivial⟩, ⟨rfl, ?_⟩, trivial⟩, rfl, rfl⟩
    show DV.osl 1 (List.replicate ((d.states.map eSta).length : Int).toNat (Ints [])) = .osl 1 ((List.replicate d.states.length []).map Ints)
    simp
  rintro ⟨i, m⟩ ⟨hi1, hi2⟩
  dsimp only at hi1 hi2
  refine ⟨fun h => ?_, fun h => ?_⟩
  · have hi : i < (disc d).order.length := by simpa using h
    clear h
    generalize hs' : (disc d).order[i] = s at *
    have hso : (disc d).order[i]? = some s := by rw [List.getElem?_eq_getElem hi, hs']
    generalize hv' : (disc d).ways[i]'(by omega) = v at *
    have hvo : (disc d).ways[i]? = some v := by rw [List.getElem?_eq_getElem (by omega), hv']
    have hrg := hb.rng _ (List.mem_of_getElem? hso)
    have hvl := way_len (wayOf_at d hso hvo)
    have hpv := leads_disc d i _ v hso hvo
    have hml := potsAt_len N d i
    rw [← hi2] at hml
    have hfa := Follow_spec N (by omega) d (by omega) hwf.opt v s hpv (by omega)
    have hra := rect_folM hwf.opt hpv (by omega)
    have hnx : potsAt N d (i + 1) = m.set s.toNat (sumR N (folM N d v)) := by simp only [potsAt, hso, hvo, ← hi2]
    have hsu := sum_spec N (by omega) (folM N d v) _ hp4 hra
    obtain ⟨old, hold⟩ : ∃ o, m[s.toNat]? = some o := ⟨_, List.getElem?_eq_getElem (by omega)⟩
    refine ⟨I s, fun _ => ⟨by dsimp only; omega, by simp [hso]⟩, Ints v, fun _ => ⟨by dsimp only; omega, by simp [hvo]⟩, .inl ⟨_, fun _ => hfa.ok, .inl ⟨_, fun _ => hsu.ok, ?_⟩⟩⟩
    refine ⟨fun _ => ⟨by omega, by simp; omega⟩, [Ints (sumR N (folM N d v))], ⟨rf, trivial⟩, Ints old, by simp [hold], by kernel_rfl, ?_⟩
    refine ⟨fun _ => ⟨by dsimp only; omega, by dsimp only; omega⟩, ⟨i + 1, m.set s.toNat (sumR N (folM N d v))⟩, ⟨⟨rf, rfl, rfl, rfl, rfl, rfl, le_int (by simp), trivial⟩, ⟨subWs_dvs _ _ _ (dcells d), ⟨rf, rf, rf, rf, trivial⟩, ⟨rf, rf, rf, rf, trivial⟩, ⟨rf, rf, trivial⟩, ⟨rfl, ?_⟩, trivial⟩, rfl, rfl⟩, ⟨by dsimp only; omega, hnx.symm⟩, by dsimp only; omega⟩
    show DV.osl 1 ((m.map Ints).set s.toNat (Ints (sumR N (folM N d v)))) = .osl 1 ((m.set s.toNat (sumR N (folM N d v))).map Ints)
    rw [List.map_set]
  · have hi : i = (disc d).order.length := by
      have : ¬ i < (disc d).order.length := by simpa using h
      omega
    clear h
    subst hi
    refine ⟨by kernel_rfl, DV.Le.of_eq ?_, rf, trivial⟩
    show DV.sl 1 (fzL (m.map Ints)) = .sl 1 ((potsR N d).map Ints)
    rw [hi2, potsR]
    rw [fzL_map fun _ => rfl]
end Go.Proofs.Ytfcfbfkjdenpdaa
