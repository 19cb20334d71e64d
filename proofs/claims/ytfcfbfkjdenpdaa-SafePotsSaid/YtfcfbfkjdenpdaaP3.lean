/- Contracts: the reference Analyze, sum, Pots. -/
import Derived.Test.YtfcfbfkjdenpdaaP1
import Derived.Test.YtfcfbfkjdenpdaaD4
import Derived.Test.YtfcfbfkjdenpdaaB1
set_option linter.unusedVariables false
set_option linter.unusedSimpArgs false
set_option linter.unusedSectionVars false
namespace Go.Proofs.Ytfcfbfkjdenpdaa
open Go.TM

structure Fau where
  code : Int
  state : Int
  party : Int
  way : List Int
def eFau (f : Fau) : DV := .agg [I f.code, I f.state, I f.party, Ints f.way]
def wayTo (d : Dea) (s : Int) : List Int := (wayOf d s).getD []
def rowNe (x : List Int × List Int) : Bool := !(x.1 == x.2)
def stepF (n : Nat) (d : Dea) (way : List Int) (t : Stp) : Option Fau := match ((folM n d (way ++ [t.label])).zip (folM n d (wayTo d t.next))).findIdx? rowNe with
  | some p => some ⟨17, t.next, p, way ++ [t.label]⟩
  | none => none
def stF (n : Nat) (d : Dea) (z : Int × List Int) : Option Fau := match d.states[z.1.toNat]? with
  | none => none
  | some x => (stepsOf d x).findSome? (stepF n d z.2)
def anF (n : Nat) (d : Dea) : Option Fau := ((disc d).order.zip (disc d).ways).findSome? (stF n d)
def analyze (n : Int) (d : Dea) : Fau := match malf n d with
  | some s => ⟨1, s, -1, []⟩
  | none => match anF n.toNat d with
    | some f => f
    | none => ⟨0, 0, 0, []⟩
theorem findSome_at {α β : Type} {l : List α} {f : α → Option β} {k : Nat} {x : α} {v : β} (hx : l[k]? = some x) (h : (l.take k).findSome? f = none) (hf : f x = some v) : l.findSome? f = some v := by
  have hk : k < l.length := (List.getElem?_eq_some_iff.1 hx).1
  have e : l = l.take k ++ x :: l.drop (k + 1) := by
    have h1 := List.drop_eq_getElem_cons hk
    rw [List.getElem?_eq_getElem hk] at hx; injection hx with hx
    rw [hx] at h1
    rw [← h1, List.take_append_drop]
  rw [e, List.findSome?_append, h]
  simp [hf]
theorem findSome_take {α β : Type} {l : List α} {f : α → Option β} {k : Nat} {x : α} (hx : l[k]? = some x) (h : (l.take k).findSome? f = none) (hf : f x = none) : (l.take (k + 1)).findSome? f = none := by
  rw [List.take_add_one, hx, List.findSome?_append, h]
  simp [hf]

/-- What a well-formed deal is. -/
structure WF (n : Nat) (d : Dea) : Prop where
  n64 : n ≤ 64
  ne : d.states ≠ []
  sl : d.states.length ≤ 32
  p1 : 1 ≤ d.parties.length
  p4 : d.parties.length ≤ 4
  opt : OptOk d.parties.length n d
  nxt : ∀ x, x ∈ d.states → ∀ o, o ∈ x.opts → okNext d o.next = true
  giv : ∀ x, x ∈ d.states → ∀ g, g ∈ x.gives → 0 ≤ g.party ∧ g.party < d.parties.length ∧ 0 ≤ g.item ∧ g.item < n ∧ 1 ≤ g.n ∧ g.n ≤ 1099511627776
  top : ∀ x, x ∈ d.states → badTop d x = false
theorem amtBad_false {n : Int} {a : Int × Int} (h : amtBad n a = false) : 0 ≤ a.1 ∧ a.1 < n ∧ 1 ≤ a.2 ∧ a.2 ≤ 1099511627776 := by
  unfold amtBad at h
  by_cases h1 : a.1 < 0
  · simp [h1] at h
  · by_cases h2 : n ≤ a.1
    · simp [h2] at h
    · by_cases h3 : a.2 < 1
      · simp [h3] at h
      · by_cases h4 : 1099511627776 < a.2
        · simp [h4] at h
        · omega
theorem malf_none {n : Int} {d : Dea} (hs : Parts d) (h : malf n d = none) : 0 ≤ n ∧ WF n.toNat d := by
  unfold malf at h
  cases hb : badAll n d with
  | true => rw [hb] at h; cases h
  | false =>
    rw [hb] at h
    simp only [Bool.false_eq_true, if_false] at h
    rw [List.findIdx?_eq_none_iff] at h
    unfold badAll at hb
    by_cases h1 : n < 0
    · simp [h1] at hb
    by_cases h2 : 64 < n
    · simp [h2] at hb
    by_cases h3 : (d.parties.length : Int) < 1
    · simp [h3] at hb
    by_cases h4 : 4 < (d.parties.length : Int)
    · simp [h4] at hb
    by_cases h5 : (d.states.length : Int) < 1
    · simp [h5] at hb
    by_cases h6 : 32 < (d.states.length : Int)
    · simp [h6] at hb
    have hsb : ∀ x, x ∈ d.states → badTop d x = false ∧ (∀ o, o ∈ x.opts → optBad n d o = false) ∧ ∀ g, g ∈ x.gives → givBad n d g = false := by
      intro x hx
      have := h x hx
      simp only [staBad, Bool.or_eq_false_iff, List.any_eq_false] at this
      exact ⟨this.1.1, fun o ho => by simpa using this.1.2 o ho, fun g hg => by simpa using this.2 g hg⟩
    have hob : ∀ x, x ∈ d.states → ∀ o, o ∈ x.opts → (amtsOk n o.put = true ∧ 0 ≤ o.party ∧ o.party < d.parties.length) ∧ okNext d o.next = true := by
      intro x hx o ho
      have := (hsb x hx).2.1 o ho
      unfold optBad at this
      cases ha : amtsOk n o.put with
      | false => simp [ha] at this
      | true =>
        by_cases k1 : o.party < 0
        · simp [k1] at this
        by_cases k2 : (d.parties.length : Int) ≤ o.party
        · simp [k2] at this
        by_cases k3 : o.next < 0
        · simp [k3] at this
        by_cases k4 : (d.states.length : Int) ≤ o.next
        · simp [k4] at this
        refine ⟨⟨rfl, by omega, by omega⟩, ?_⟩
        simp only [okNext, Bool.and_eq_true, decide_eq_true_eq]
        omega
    refine ⟨by omega, ⟨by omega, fun e => h5 (by rw [e]; decide), by omega, by omega, by omega, ⟨fun x hx o ho => ?_⟩, fun x hx o ho => (hob x hx o ho).2, fun x hx g hg => ?_, fun x hx => (hsb x hx).1⟩⟩
    · obtain ⟨⟨h7, h8, h9⟩, -⟩ := hob x hx o ho
      refine ⟨h8, by omega, hs.pu x hx o ho, fun a ha => ?_⟩
      unfold amtsOk at h7
      rw [List.all_eq_true] at h7
      have := amtBad_false (by simpa using h7 a ha)
      omega
    · have := (hsb x hx).2.2 g hg
      unfold givBad at this
      cases ha : amtsOk n [(g.item, g.n)] with
      | false => simp [ha] at this
      | true =>
        by_cases k1 : g.party < 0
        · simp [k1] at this
        by_cases k2 : (d.parties.length : Int) ≤ g.party
        · simp [k2] at this
        simp only [amtsOk, List.all_cons, List.all_nil, Bool.and_true, Bool.not_eq_true'] at ha
        have := amtBad_false ha
        dsimp only at this
        omega

theorem idxOf_way {d : Dea} {s : Int} {v : List Int} (h : wayOf d s = some v) : 0 ≤ idxOf (disc d).order s ∧ (disc d).ways[(idxOf (disc d).order s).toNat]? = some v := by
  unfold wayOf at h
  unfold idxOf
  split at h
  · rename_i i hi
    try rw [hi]
    exact ⟨by simp, by simpa using h⟩
  · cases h
theorem folW_s (n : Nat) {d : Dea} {way : List Int} : ∀ {s t : Int} {m : Rows}, Path d s way t → (way.foldl (fstep d) ⟨s, m⟩).s = t := by
  induction way with
  | nil => intro s t m h; cases h; rfl
  | cons a w ih =>
    intro s t m h
    obtain ⟨u, he, hq⟩ := h.head
    obtain ⟨x, h0, hx, hf, hn, hor⟩ := he.inv
    rw [List.foldl_cons]
    have : ∃ m', fstep d ⟨s, m⟩ a = ⟨u, m'⟩ := by
      unfold fstep
      simp only [hx]
      rcases hor with ⟨o, h1, ho, hu⟩ | ⟨h1, -, hu⟩
      · rw [if_neg (by omega), ho]
        exact ⟨_, by rw [← hu]⟩
      · rw [if_pos h1]
        exact ⟨_, by rw [← hu]⟩
    obtain ⟨m', e⟩ := this
    rw [e]
    exact ih hq
theorem rect_fol {n : Nat} {d : Dea} (hok : OptOk d.parties.length n d) {p : Nat} : ∀ {way : List Int} {s t : Int} {m : Rows} {b : Int}, Path d s way t → Rect d.parties.length n b m → Rect d.parties.length n (b + way.length * 1099511627776000) (way.foldl (fstep d) ⟨s, m⟩).m := by
  intro way
  induction way with
  | nil => intro s t m b _ hr; exact hr.mono (by simp)
  | cons a w ih =>
    intro s t m b h hr
    obtain ⟨u, he, hq⟩ := h.head
    obtain ⟨x, h0, hx, hf, hn, hor⟩ := he.inv
    rw [List.foldl_cons]
    have : ∃ m', fstep d ⟨s, m⟩ a = ⟨u, m'⟩ ∧ Rect d.parties.length n (b + 1099511627776000) m' := by
      unfold fstep
      simp only [hx]
      rcases hor with ⟨o, h1, ho, hu⟩ | ⟨h1, -, hu⟩
      · rw [if_neg (by omega), ho]
        obtain ⟨hp0, hp1, hpl, hpa⟩ := hok.opt x (List.mem_of_getElem? hx) o (List.mem_of_getElem? ho)
        refine ⟨_, by rw [← hu], (Rect.puts (m := m) o.party o.put hr fun a ha => ⟨(hpa a ha).2.2.1, (hpa a ha).2.2.2⟩).mono (by omega)⟩
      · rw [if_pos h1]
        exact ⟨_, by rw [← hu], hr.mono (by omega)⟩
    obtain ⟨m', e, hr'⟩ := this
    rw [e]
    exact (ih hq hr').mono (by simp only [List.length_cons]; omega)
theorem rect_folM {n : Nat} {d : Dea} (hok : OptOk d.parties.length n d) {way : List Int} {t : Int} (h : Path d 0 way t) (hw : way.length ≤ 1000) : Rect d.parties.length n 1099511627776000000 (folM n d way) :=
  (rect_fol (p := 0) hok h (rect_z _ _)).mono (by omega)

theorem zip_at {α β : Type} {a : List α} {b : List β} {k : Nat} {x : α} {y : β} (hx : a[k]? = some x) (hy : b[k]? = some y) : (a.zip b)[k]? = some (x, y) := by
  rw [List.getElem?_zip_eq_some]; exact ⟨hx, hy⟩
theorem small_of {n : Nat} {d : Dea} (hs : Parts d) (hw : WF n d) : Small d := ⟨hs.st, hs.op⟩
set_option maxRecDepth 100000 in
set_option maxHeartbeats 4000000 in
theorem Analyze_spec (n : Int) (d : Dea) (hs : Parts d) : PSpec Try.prog 33 [I n, eDea d] [eFau (analyze n d)] := by
  refine pspec_of tab_ok mixed (calls_snd _) (range_snd _) Try.func33 rfl (by kernel_rfl) rfl ?_
  refine .inl ⟨_, fun _ => (malformed_spec n d hs).ok, ?_⟩
  cases hm : malf n d with
  | some s =>
    refine ⟨fun _ => ?_, (fun h => by cases h)⟩
    simp only [analyze, hm]
    exact ⟨DV.agg_le ⟨rf, rf, rf, DV.nils_le 1, trivial⟩ (by simp [DV.isCell]), trivial⟩
  | none =>
    refine ⟨(fun h => by cases h), fun _ => ?_⟩
    obtain ⟨hn0, hwf⟩ := malf_none hs hm
    have hsm := small_of hs hwf
    simp only [analyze, hm]
    obtain ⟨N, rfl⟩ : ∃ N : Nat, n = N := ⟨n.toNat, by omega⟩
    simp only [Int.toNat_natCast] at *
    refine .inl ⟨_, fun _ => (discover_spec d hsm).ok, ?_⟩
    have hb := disc_ok d
    have hol := hb.le
    have hsl := hwf.sl
    have hln := hb.len
    have hZ : ∀ {k : Nat} {s : Int} {v : List Int}, (disc d).order[k]? = some s → (disc d).ways[k]? = some v → ((disc d).order.zip (disc d).ways)[k]? = some (s, v) := fun h1 h2 => zip_at h1 h2
    have hzl : ((disc d).order.zip (disc d).ways).length = (disc d).order.length := by simp [hln]
    refine ⟨Nat, fun i => ⟨3, [(0, .dv (I N)), (3, .ptr 0 0), (4, .ptr 1 0), (7, .ptr 2 0), (8, .dv (I i))], [(0, .cells (dvs (dcells d))), (1, .cells (dvs [I 0, I 0, I 0, .nils])), (2, .cells (dvs [Ints (disc d).order, .sl 1 ((disc d).ways.map Ints)]))]⟩, fun i => i ≤ (disc d).order.length ∧ (((disc d).order.zip (disc d).ways).take i).findSome? (stF N d) = none, fun i => (disc d).order.length - i, 0, fun _ => rfl, ?_, ⟨by omega, by simp⟩, ?_⟩
    · exact ⟨⟨rf, rfl, rfl, rfl, rf, trivial⟩, ⟨subWs_dvs _ _ _ (dcells d), ⟨rf, rf, rf, rf, trivial⟩, ⟨rf, rf, trivial⟩, trivial⟩, rfl, rfl⟩
    rintro i ⟨hi1, hi2⟩
    refine ⟨fun h => ?_, fun h => ?_⟩
    · have hi : i < (disc d).order.length := by simpa using h
      clear h
      generalize hs' : (disc d).order[i] = s at *
      have hso : (disc d).order[i]? = some s := by rw [List.getElem?_eq_getElem hi, hs']
      generalize hv' : (disc d).ways[i]'(by omega) = v at *
      have hvo : (disc d).ways[i]? = some v := by rw [List.getElem?_eq_getElem (by omega), hv']
      have hrg := hb.rng _ (List.mem_of_getElem? hso)
      have hcl : s.toNat < d.states.length := by omega
      obtain ⟨x, hx⟩ : ∃ x, d.states[s.toNat]? = some x := ⟨_, List.getElem?_eq_getElem hcl⟩
      have hopl := hs.op x (List.mem_of_getElem? hx)
      have hst := steps_spec d s.toNat x hx (by omega)
      rw [Int.toNat_of_nonneg hrg.1] at hst
      have hsn := stepsOf_len d x
      have hstf : stF N d (s, v) = (stepsOf d x).findSome? (stepF N d v) := by simp [stF, hx]
      refine ⟨I s, fun _ => ⟨by omega, by simp [hso]⟩, .inl ⟨_, fun _ => hst.ok, by kernel_rfl, ?_⟩⟩
      have hvw := wayOf_at d hso hvo
      have hvl := way_len hvw
      have hpv := leads_disc d i _ v hso hvo
      refine ⟨Nat, fun k => ⟨3, [(0, .dv (I N)), (3, .ptr 0 0), (4, .ptr 1 0), (7, .ptr 2 0), (8, .dv (I i)), (9, .dv (.sl 4 ((stepsOf d x).map eStp))), (10, .dv (I k))], [(0, .cells (dvs (dcells d))), (1, .cells (dvs [I 0, I 0, I 0, .nils])), (2, .cells (dvs [Ints (disc d).order, .sl 1 ((disc d).ways.map Ints)]))]⟩, fun k => k ≤ (stepsOf d x).length ∧ ((stepsOf d x).take k).findSome? (stepF N d v) = none, fun k => (stepsOf d x).length - k, 0, fun _ => rfl, ?_, ⟨by omega, by simp⟩, ?_⟩
      · exact ⟨⟨rf, rfl, rfl, rfl, rf, rf, rf, trivial⟩, ⟨subWs_dvs _ _ _ (dcells d), ⟨rf, rf, rf, rf, trivial⟩, ⟨rf, rf, trivial⟩, trivial⟩, rfl, rfl⟩
      rintro k ⟨hk1, hk2⟩
      refine ⟨fun h => ?_, fun h => ?_⟩
      · have hk : k < (stepsOf d x).length := by simpa using h
        clear h
        generalize ht' : (stepsOf d x)[k] = t at *
        have hto : (stepsOf d x)[k]? = some t := by rw [List.getElem?_eq_getElem hk, ht']
        have hed := stepsOf_edge hrg.1 hx (List.mem_of_getElem? hto)
        have hpt := hpv.snoc hed
        obtain ⟨u, hu, hul⟩ := way_near hwf.ne hvw hx (List.mem_of_getElem? hto)
        have hul2 := way_len hu
        obtain ⟨hid0, hid1⟩ := idxOf_way hu
        obtain ⟨ku, hku1, hku2⟩ := wayOf_inv hu
        have hpu := leads_disc d ku _ u hku1 hku2
        have hfa := Follow_spec N (by have := hwf.n64; omega) d (by have := hwf.p4; omega) hwf.opt (v ++ [t.label]) t.next hpt (by simp; omega)
        have hfb := Follow_spec N (by have := hwf.n64; omega) d (by have := hwf.p4; omega) hwf.opt u t.next hpu (by omega)
        have hra := rect_folM hwf.opt hpt (by simp; omega)
        have hrb := rect_folM hwf.opt hpu (by omega)
        have hwt : wayTo d t.next = u := by simp [wayTo, hu]
        have hsf : stepF N d v t = match ((folM N d (v ++ [t.label])).zip (folM N d u)).findIdx? rowNe with
            | some p => some ⟨17, t.next, p, v ++ [t.label]⟩
            | none => none := by rw [stepF, hwt]
        generalize folM N d (v ++ [t.label]) = ma at *
        generalize folM N d u = mb at *
        refine ⟨Ints v, fun _ => ⟨by omega, by simp [hvo]⟩, eStp t, fun _ => ⟨by omega, by simp [hto]⟩, .inl ⟨_, fun _ => (longer_spec v t.label (by omega)).ok, by kernel_rfl, ?_⟩⟩
        refine .inl ⟨_, fun _ => hfa.ok, ?_⟩
        refine ⟨eStp t, fun _ => ⟨by omega, by simp [hto]⟩, .inl ⟨_, fun _ => (index_spec (disc d).order t.next (by omega)).ok, ?_⟩⟩
        refine ⟨Ints u, fun _ => ⟨hid0, by simp [hid1]⟩, .inl ⟨_, fun _ => hfb.ok, by kernel_rfl, ?_⟩⟩
        have hp4 := hwf.p4
        refine ⟨Nat, fun p => ⟨3, [(0, .dv (I N)), (3, .ptr 0 0), (4, .ptr 1 0), (7, .ptr 2 0), (8, .dv (I i)), (9, .dv (.sl 4 ((stepsOf d x).map eStp))), (10, .dv (I k)), (11, .dv (Ints (v ++ [t.label]))), (12, .dv (eRows ma)), (13, .dv (eRows mb)), (14, .dv (I p))], [(0, .cells (dvs (dcells d))), (1, .cells (dvs [I 0, I 0, I 0, .nils])), (2, .cells (dvs [Ints (disc d).order, .sl 1 ((disc d).ways.map Ints)]))]⟩, fun p => p ≤ ma.length ∧ ((ma.zip mb).take p).all (fun a => !rowNe a) = true, fun p => ma.length - p, 0, fun _ => rfl, ?_, ⟨by omega, by simp⟩, ?_⟩
        · exact ⟨⟨rf, rfl, rfl, rfl, rf, rf, rf, rf, rf, rf, rf, trivial⟩, ⟨subWs_dvs _ _ _ (dcells d), ⟨rf, rf, rf, rf, trivial⟩, ⟨rf, rf, trivial⟩, trivial⟩, rfl, rfl⟩
        have hal := hra.len
        have hbl := hrb.len
        rintro p ⟨hp1, hp2⟩
        refine ⟨fun h => ?_, fun h => ?_⟩
        · have hp : p < ma.length := by simpa using h
          clear h
          generalize hr' : ma[p] = ra at *
          have hrao : ma[p]? = some ra := by rw [List.getElem?_eq_getElem hp, hr']
          generalize hr2' : mb[p]'(by omega) = rb at *
          have hrbo : mb[p]? = some rb := by rw [List.getElem?_eq_getElem (by omega), hr2']
          have hrl := hra.row ra (List.mem_of_getElem? hrao)
          have hn64 := hwf.n64
          refine ⟨Ints ra, fun _ => ⟨by omega, by simp [hrao]⟩, Ints rb, fun _ => ⟨by omega, by simp [hrbo]⟩, .inl ⟨_, fun _ => (same_spec ra rb (by omega)).ok, by kernel_rfl, ?_⟩⟩
          have hzo := zip_at hrao hrbo
          refine ⟨fun h => ?_, fun h => ?_⟩
          · have hne : rowNe (ra, rb) = true := h
            have hfi := findIdx_at hzo hp2 hne
            rw [hfi] at hsf
            have hstf2 := findSome_at hto hk2 hsf
            rw [← hstf] at hstf2
            have hall := findSome_at (hZ hso hvo) hi2 hstf2
            simp only [anF, hall]
            refine ⟨eStp t, fun _ => ⟨by omega, by simp [hto]⟩, ?_⟩
            exact ⟨rf, trivial⟩
          · have hne : rowNe (ra, rb) = false := h
            exact ⟨fun _ => ⟨by omega, by omega⟩, p + 1, ⟨⟨rf, rfl, rfl, rfl, rf, rf, rf, rf, rf, rf, le_int (by omega), trivial⟩, ⟨subWs_dvs _ _ _ (dcells d), ⟨rf, rf, rf, rf, trivial⟩, ⟨rf, rf, trivial⟩, trivial⟩, rfl, rfl⟩, ⟨by omega, all_take hzo hp2 hne⟩, by dsimp only; omega⟩
        · have hp : p = ma.length := by
            have : ¬ p < ma.length := by simpa using h
            omega
          clear h
          subst hp
          rw [List.take_of_length_le (by simp; omega)] at hp2
          rw [findIdx_no hp2] at hsf
          exact ⟨fun _ => ⟨by omega, by omega⟩, k + 1, ⟨⟨rf, rfl, rfl, rfl, rf, rf, le_int (by omega), trivial⟩, ⟨subWs_dvs _ _ _ (dcells d), ⟨rf, rf, rf, rf, trivial⟩, ⟨rf, rf, trivial⟩, trivial⟩, rfl, rfl⟩, ⟨by omega, findSome_take hto hk2 hsf⟩, by dsimp only; omega⟩
      · have hk : k = (stepsOf d x).length := by
          have : ¬ k < (stepsOf d x).length := by simpa using h
          omega
        clear h
        subst hk
        rw [List.take_length, ← hstf] at hk2
        exact ⟨fun _ => ⟨by omega, by omega⟩, i + 1, ⟨⟨rf, rfl, rfl, rfl, le_int (by omega), trivial⟩, ⟨subWs_dvs _ _ _ (dcells d), ⟨rf, rf, rf, rf, trivial⟩, ⟨rf, rf, trivial⟩, trivial⟩, rfl, rfl⟩, ⟨by omega, findSome_take (hZ hso hvo) hi2 hk2⟩, by dsimp only; omega⟩
    · have hi : i = (disc d).order.length := by
        have : ¬ i < (disc d).order.length := by simpa using h
        omega
      clear h
      subst hi
      rw [List.take_of_length_le (by omega)] at hi2
      simp only [anF, hi2]
      exact ⟨DV.agg_le ⟨rf, rf, rf, DV.nils_le 1, trivial⟩ (by simp [DV.isCell]), trivial⟩
end Go.Proofs.Ytfcfbfkjdenpdaa
