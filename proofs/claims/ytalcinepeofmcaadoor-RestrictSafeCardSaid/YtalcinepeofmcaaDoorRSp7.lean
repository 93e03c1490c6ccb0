/- Plain law of layer 9: a run of a plan, channel by channel. No program is named here. -/
import Derived.Test.YtalcinepeofmcaaDoorRSp6
import Derived.Test.YtalcinepeofmcaaDoorProg
import Derived.Test.YtalcinepeofmcaaDoorRSp0
set_option linter.unusedVariables false
set_option linter.unusedSimpArgs false
namespace Go.Proofs.YtalcinepeofmcaaDoor.Pt
open Sp

/-- what a right port and plan have -/
structure Val (p : Prt) (l : Pln) : Prop where
  nc : 1 ≤ p.chs.length ∧ p.chs.length ≤ 6
  nb : 1 ≤ p.bts.length ∧ p.bts.length ≤ 4
  h : 1 ≤ l.hours ∧ l.hours ≤ 100
  nx : l.calls.length ≤ 60 ∧ l.swps.length ≤ 200
  chf : ∀ c ∈ p.chs, 0 ≤ c.grow ∧ c.grow ≤ 100 ∧ 0 ≤ c.frost ∧ c.frost ≤ 20 ∧ 1 ≤ c.clear ∧ c.clear ≤ 200
  btf : ∀ b ∈ p.bts, b.path ≠ [] ∧ b.path.Nodup ∧ ∀ x ∈ b.path, 0 ≤ x ∧ x < p.chs.length
  ca : ∀ c ∈ l.calls, 0 ≤ c.berth ∧ c.berth < p.bts.length ∧ 0 ≤ c.most ∧ c.most ≤ 1000000 ∧ 0 ≤ c.hour ∧ c.hour < l.hours
  sw : ∀ s ∈ l.swps, 0 ≤ s.channel ∧ s.channel < p.chs.length ∧ 1 ≤ s.tugs ∧ s.tugs ≤ 20 ∧ 0 ≤ s.hour ∧ s.hour < l.hours

theorem ch_mem {p : Prt} {i : Int} (h0 : 0 ≤ i) (h1 : i < p.chs.length) : ch p i ∈ p.chs := by
  unfold ch
  have : i.toNat < p.chs.length := by omega
  rw [List.getD_eq_getElem?_getD, List.getElem?_eq_getElem this]
  exact List.getElem_mem _
theorem bt_mem {p : Prt} {i : Int} (h0 : 0 ≤ i) (h1 : i < p.bts.length) : bt p i ∈ p.bts := by
  unfold bt
  have : i.toNat < p.bts.length := by omega
  rw [List.getD_eq_getElem?_getD, List.getElem?_eq_getElem this]
  exact List.getElem_mem _
theorem getI_set {l : List Int} {i c x : Int} (hi : 0 ≤ i) (hc : 0 ≤ c) (hl : i < l.length) : getI (setI l i x) c = if i = c then x else getI l c := by
  unfold getI setI
  simp only [List.getD_eq_getElem?_getD, List.getElem?_set]
  by_cases e : i = c
  · subst e
    rw [if_pos rfl, if_pos (by omega), if_pos rfl]; rfl
  · rw [if_neg (by omega), if_neg e]

/-- the maps of sweeps, and of calls, of an hour, for a channel -/
def swMaps (p : Prt) (c h : Int) (l : List Swp) : List Mp := (l.filter fun s => decide (s.hour = h) && decide (s.channel = c)).map fun s => ⟨-s.tugs * (ch p c).clear, 0, NL⟩
def caMaps (p : Prt) (c h : Int) (l : List Cal) : List Mp := (l.filter fun x => decide (x.hour = h) && (bt p x.berth).path.contains c).map fun x => ⟨(ch p c).grow, (ch p c).grow, x.most⟩
theorem swpN_length (p : Prt) (h : Int) (l : List Swp) (b : List Int) : (swpN p h l b).length = b.length := by
  induction l generalizing b with
  | nil => rfl
  | cons s l ih =>
    have e : swpN p h (s :: l) b = swpN p h l (swp1 p h b s) := rfl
    rw [e, ih]; unfold swp1; split
    · exact setI_length _ _ _
    · rfl
theorem swp_sem {p : Prt} {h c : Int} (hc : 0 ≤ c) {l : List Swp} : ∀ {b : List Int}, (∀ s ∈ l, 0 ≤ s.channel ∧ s.channel < b.length) → getI (swpN p h l b) c = seqAp (swMaps p c h l) (getI b c) := by
  induction l with
  | nil => intro b _; rfl
  | cons s l ih =>
    intro b hl
    have e : swpN p h (s :: l) b = swpN p h l (swp1 p h b s) := rfl
    have hlen : (swp1 p h b s).length = b.length := by unfold swp1; split; exact setI_length _ _ _; rfl
    obtain ⟨s1, s2⟩ := hl s (by simp)
    rw [e, ih (fun x hx => by rw [hlen]; exact hl x (by simp [hx]))]
    have e2 : getI (swp1 p h b s) c = if s.hour = h ∧ s.channel = c then max 0 (getI b c - s.tugs * (ch p c).clear) else getI b c := by
      unfold swp1
      by_cases h1 : s.hour = h
      · rw [if_pos h1, getI_set s1 hc s2]
        by_cases h2 : s.channel = c
        · rw [if_pos h2, if_pos ⟨h1, h2⟩, h2]
        · rw [if_neg h2, if_neg (fun q => h2 q.2)]
      · rw [if_neg h1, if_neg (fun q => h1 q.1)]
    rw [e2]
    unfold swMaps
    by_cases h1 : s.hour = h ∧ s.channel = c
    · rw [if_pos h1, List.filter_cons_of_pos (by simp [h1.1, h1.2])]
      simp only [List.map_cons, seqAp, List.foldl_cons]
      congr 1
      simp only [ap]
      have : -s.tugs * (ch p c).clear = -(s.tugs * (ch p c).clear) := Int.neg_mul _ _
      rw [this]
      omega
    · rw [if_neg h1, List.filter_cons_of_neg (by simpa using h1)]

theorem growN_length (p : Prt) (l : List Int) (b : List Int) : (growN p l b).length = b.length := by
  induction l generalizing b with
  | nil => rfl
  | cons s l ih => exact (ih _).trans (setI_length _ _ _)
theorem grow_sem {p : Prt} {c : Int} (hc : 0 ≤ c) {l : List Int} : ∀ {b : List Int}, l.Nodup → (∀ s ∈ l, 0 ≤ s ∧ s < b.length) → getI (growN p l b) c = if c ∈ l then getI b c + (ch p c).grow else getI b c := by
  induction l with
  | nil => intro b _ _; simp [growN]
  | cons s l ih =>
    intro b hn hl
    obtain ⟨h1, h2⟩ := List.nodup_cons.1 hn
    obtain ⟨s1, s2⟩ := hl s (by simp)
    have e : growN p (s :: l) b = growN p l (grow1 p b s) := rfl
    have hlen : (grow1 p b s).length = b.length := setI_length _ _ _
    rw [e, ih h2 (fun x hx => by rw [hlen]; exact hl x (by simp [hx]))]
    have e2 : getI (grow1 p b s) c = if s = c then getI b c + (ch p c).grow else getI b c := by
      unfold grow1
      rw [getI_set s1 hc s2]
      by_cases q : s = c
      · rw [if_pos q, if_pos q, q]
      · rw [if_neg q, if_neg q]
    rw [e2]
    by_cases q : s = c
    · subst q; rw [if_neg h1, if_pos rfl, if_pos (by simp)]
    · rw [if_neg q]
      by_cases q2 : c ∈ l
      · rw [if_pos q2, if_pos (by simp [q2])]
      · rw [if_neg q2, if_neg (by simp [q2]; exact fun e => q e.symm)]

/-- berths are as the calls of an hour need them -/
def bOk (h : Int) : List Cal → List Bool → Prop
  | [], _ => True
  | c :: l, b => if c.hour ≠ h then bOk h l b else b.getD c.berth.toNat false = c.out ∧ bOk h l (b.set c.berth.toNat (!c.out))
def bAft (h : Int) : List Cal → List Bool → List Bool
  | [], b => b
  | c :: l, b => if c.hour ≠ h then bAft h l b else bAft h l (b.set c.berth.toNat (!c.out))

/-- a list of brash: long enough, and none below 0 -/
def bGe (n : Nat) (b : List Int) : Prop := b.length = n ∧ ∀ c : Int, 0 ≤ c → c < n → 0 ≤ getI b c
/-- the calls that are looked at are right -/
structure CalOk (p : Prt) (c : Cal) : Prop where
  b0 : 0 ≤ c.berth
  b1 : c.berth < p.bts.length
  nd : (bt p c.berth).path.Nodup
  rng : ∀ x ∈ (bt p c.berth).path, 0 ≤ x ∧ x < p.chs.length
  hm : c.most ≤ 1000000

theorem calls_sem {p : Prt} {h : Int} (hg : ∀ c : Int, 0 ≤ c → c < p.chs.length → 0 ≤ (ch p c).grow) {l : List Cal} : ∀ {i : Nat} {s : Stt}, (∀ c ∈ l, CalOk p c) → bGe p.chs.length s.brash → bOk h l s.busy →
    ((callsN p h l i s).2.1 = 0 ∧ (callsN p h l i s).1 = i + l.length ∧ bGe p.chs.length (callsN p h l i s).2.2.brash ∧ (callsN p h l i s).2.2.busy = bAft h l s.busy ∧
      ∀ c : Int, 0 ≤ c → c < p.chs.length → seqOk (caMaps p c h l) (getI s.brash c) ∧ getI (callsN p h l i s).2.2.brash c = seqAp (caMaps p c h l) (getI s.brash c)) ∨
    ((callsN p h l i s).2.1 = 8 ∧ i ≤ (callsN p h l i s).1 ∧ ∃ x c, l[(callsN p h l i s).1 - i]? = some x ∧ x.hour = h ∧ c ∈ (bt p x.berth).path ∧ ¬ seqOk (caMaps p c h l) (getI s.brash c)) := by
  induction l with
  | nil =>
    intro i s _ hb _
    exact .inl ⟨rfl, rfl, hb, rfl, fun c _ _ => ⟨trivial, rfl⟩⟩
  | cons x l ih =>
    intro i s hl hb ho
    have hx := hl x (by simp)
    have hl' : ∀ c ∈ l, CalOk p c := fun c hc => hl c (by simp [hc])
    have shift : ∀ {j : Nat} {y : Cal}, i + 1 ≤ j → l[j - (i + 1)]? = some y → (x :: l)[j - i]? = some y := by
      intro j y hj hy
      rw [show j - i = (j - (i + 1)) + 1 from by omega]; simpa using hy
    by_cases h1' : x.hour ≠ h
    · have h1 := h1'
      have e : callsN p h (x :: l) i s = callsN p h l (i + 1) s := by rw [callsN, if_pos h1]
      have eb : bAft h (x :: l) s.busy = bAft h l s.busy := by rw [bAft, if_pos h1]
      have em : ∀ c, caMaps p c h (x :: l) = caMaps p c h l := fun c => by unfold caMaps; rw [List.filter_cons_of_neg (by simp [h1])]
      rw [bOk, if_pos h1] at ho
      rw [e, eb]
      simp only [em]
      rcases ih (i := i + 1) hl' hb ho with ⟨q1, q2, q3⟩ | ⟨q1, q2, y, c, q3, q4⟩
      · exact .inl ⟨q1, by rw [q2, List.length_cons]; omega, q3⟩
      · exact .inr ⟨q1, by omega, y, c, shift q2 q3, q4⟩
    · have h1 : x.hour = h := by omega
      rw [bOk, if_neg (by simp [h1])] at ho
      have eb : bAft h (x :: l) s.busy = bAft h l (s.busy.set x.berth.toNat (!x.out)) := by rw [bAft, if_neg (by simp [h1])]
      have em : ∀ c, caMaps p c h (x :: l) = if c ∈ (bt p x.berth).path then ⟨(ch p c).grow, (ch p c).grow, x.most⟩ :: caMaps p c h l else caMaps p c h l := by
        intro c
        unfold caMaps
        by_cases q : c ∈ (bt p x.berth).path
        · rw [List.filter_cons_of_pos (by simp [h1, q]), if_pos q]; rfl
        · rw [List.filter_cons_of_neg (by simp [h1, q]), if_neg q]
      by_cases h2 : (bt p x.berth).path.any (fun n => decide (x.most < getI s.brash n)) = true
      · have e : callsN p h (x :: l) i s = (i, 8, s) := by rw [callsN, if_neg (by simp [h1]), if_neg (fun q => q ho.1), if_pos h2]
        rw [e]
        obtain ⟨c, hc, hd⟩ := List.any_eq_true.1 h2
        refine .inr ⟨rfl, Nat.le_refl _, x, c, by simp, h1, hc, ?_⟩
        rw [em, if_pos hc]
        intro hq
        have := hq.1
        have hd' : x.most < getI s.brash c := by simpa using hd
        have := hx.hm
        simp only [limOk, NL] at *
        omega
      · have e : callsN p h (x :: l) i s = callsN p h l (i + 1) ⟨growN p (bt p x.berth).path s.brash, s.busy.set x.berth.toNat (!x.out)⟩ := by
          rw [callsN, if_neg (by simp [h1]), if_neg (fun q => q ho.1), if_neg h2]
        have hgr : ∀ c : Int, 0 ≤ c → getI (growN p (bt p x.berth).path s.brash) c = if c ∈ (bt p x.berth).path then getI s.brash c + (ch p c).grow else getI s.brash c :=
          fun c hc => grow_sem hc hx.nd (fun y hy => by rw [hb.1]; exact hx.rng y hy)
        have hb' : bGe p.chs.length (growN p (bt p x.berth).path s.brash) := by
          refine ⟨by rw [growN_length]; exact hb.1, fun c c0 c1 => ?_⟩
          rw [hgr c c0]
          have := hb.2 c c0 c1
          have := hg c c0 c1
          split <;> omega
        have h2' : ∀ c ∈ (bt p x.berth).path, getI s.brash c ≤ x.most := by
          intro c hc
          have : ¬ x.most < getI s.brash c := fun hq => h2 (List.any_eq_true.2 ⟨c, hc, by simpa using hq⟩)
          omega
        have eo : ∀ c : Int, 0 ≤ c → c < p.chs.length → ((seqOk (caMaps p c h (x :: l)) (getI s.brash c) ↔ seqOk (caMaps p c h l) (getI (growN p (bt p x.berth).path s.brash) c)) ∧
            seqAp (caMaps p c h (x :: l)) (getI s.brash c) = seqAp (caMaps p c h l) (getI (growN p (bt p x.berth).path s.brash) c)) := by
          intro c c0 c1
          rw [em, hgr c c0]
          have := hb.2 c c0 c1
          by_cases q : c ∈ (bt p x.berth).path
          · rw [if_pos q, if_pos q]
            have ea : ap ⟨(ch p c).grow, (ch p c).grow, x.most⟩ (getI s.brash c) = getI s.brash c + (ch p c).grow := by simp only [ap]; omega
            refine ⟨?_, ?_⟩
            · simp only [seqOk, ea]
              exact ⟨fun z => z.2, fun z => ⟨.inr (h2' c q), z⟩⟩
            · simp only [seqAp, List.foldl_cons, ea]
          · rw [if_neg q, if_neg q]; exact ⟨Iff.rfl, rfl⟩
        rw [e, eb]
        rcases ih (i := i + 1) (s := ⟨growN p (bt p x.berth).path s.brash, s.busy.set x.berth.toNat (!x.out)⟩) hl' hb' ho.2 with ⟨q1, q2, q3, q4, q5⟩ | ⟨q1, q2, y, c, q3, q4, q5, q6⟩
        · refine .inl ⟨q1, by rw [q2, List.length_cons]; omega, q3, q4, fun c c0 c1 => ?_⟩
          obtain ⟨o1, o2⟩ := eo c c0 c1
          rw [o1, o2]
          exact q5 c c0 c1
        · refine .inr ⟨q1, by omega, y, c, shift q2 q3, q4, q5, ?_⟩
          have hy : y ∈ l := List.mem_of_getElem? q3
          obtain ⟨c0, c1⟩ := (hl' y hy).rng c q5
          rw [(eo c c0 c1).1]
          exact q6

theorem frostN_length (p : Prt) (b : List Int) : ∀ k, (frostN p b k).length = b.length
  | 0 => rfl
  | k + 1 => by rw [frostN, setI_length, frostN_length]
theorem frostN_sem {p : Prt} {b : List Int} {c : Nat} : ∀ {k : Nat}, k ≤ b.length → c < b.length → getI (frostN p b k) c = if c < k then getI b c + (ch p c).frost else getI b c
  | 0, _, _ => by rw [if_neg (by omega)]; rfl
  | k + 1, hk, hc => by
    rw [frostN, getI_set (by omega) (by omega) (by rw [frostN_length]; omega)]
    rw [frostN_sem (by omega) (by omega : k < b.length), frostN_sem (by omega) hc]
    by_cases e : k = c
    · subst e; rw [if_pos rfl, if_neg (by omega), if_pos (by omega)]
    · rw [if_neg (by omega)]
      by_cases q : c < k
      · rw [if_pos q, if_pos (by omega)]
      · rw [if_neg q, if_neg (by omega)]
theorem frost_sem {p : Prt} {b : List Int} (hb : b.length = p.chs.length) {c : Int} (c0 : 0 ≤ c) (c1 : c < p.chs.length) : getI (frostL p b) c = getI b c + (ch p c).frost := by
  obtain ⟨k, rfl⟩ : ∃ k : Nat, c = k := ⟨c.toNat, by omega⟩
  unfold frostL
  rw [frostN_sem (by omega) (by omega), if_pos (by omega)]

theorem mapsH_eq (p : Prt) (l : Pln) (c : Int) (h : Nat) : mapsH p l c h = swMaps p c h l.swps ++ (caMaps p c h l.calls ++ [⟨(ch p c).frost, (ch p c).frost, NL⟩]) := rfl
theorem Val.calOk {p : Prt} {l : Pln} (v : Val p l) : ∀ c ∈ l.calls, CalOk p c := by
  intro c hc
  have h1 := v.ca c hc
  have h2 := v.btf _ (bt_mem h1.1 h1.2.1)
  exact ⟨h1.1, h1.2.1, h2.2.1, h2.2.2, h1.2.2.2.1⟩
theorem Val.chn {p : Prt} {l : Pln} (v : Val p l) {c : Int} (c0 : 0 ≤ c) (c1 : c < p.chs.length) : 0 ≤ (ch p c).grow ∧ (ch p c).grow ≤ 100 ∧ 0 ≤ (ch p c).frost ∧ (ch p c).frost ≤ 20 ∧ 1 ≤ (ch p c).clear ∧ (ch p c).clear ≤ 200 := v.chf _ (ch_mem c0 c1)
theorem swMaps_gm {p : Prt} {l : Pln} (v : Val p l) {c : Int} (c0 : 0 ≤ c) (c1 : c < p.chs.length) (h : Int) : ∀ m ∈ swMaps p c h l.swps, Gm m := by
  intro m hm
  unfold swMaps at hm
  obtain ⟨s, hs, rfl⟩ := List.mem_map.1 hm
  have h1 := v.sw s (List.mem_filter.1 hs).1
  have h2 := v.chn c0 c1
  have h3 : s.tugs * (ch p c).clear ≤ 20 * 200 := Int.mul_le_mul (by omega) (by omega) (by omega) (by omega)
  have h4 : 0 ≤ s.tugs * (ch p c).clear := Int.mul_nonneg (by omega) (by omega)
  refine ⟨?_, ⟨Int.le_refl _, by simp only; omega⟩, by simp [NL], .inl rfl⟩
  simp only
  rw [Int.neg_mul]
  omega
theorem caMaps_gm {p : Prt} {l : Pln} (v : Val p l) {c : Int} (c0 : 0 ≤ c) (c1 : c < p.chs.length) (h : Int) : ∀ m ∈ caMaps p c h l.calls, Gm m := by
  intro m hm
  unfold caMaps at hm
  obtain ⟨x, hx, rfl⟩ := List.mem_map.1 hm
  have h1 := v.ca x (List.mem_filter.1 hx).1
  have h2 := v.chn c0 c1
  exact ⟨⟨by simp only; omega, by simp only; omega⟩, ⟨by simp only; omega, by simp only; omega⟩, by simp only; omega, .inr (by simp only; omega)⟩
theorem frMap_gm {p : Prt} {l : Pln} (v : Val p l) {c : Int} (c0 : 0 ≤ c) (c1 : c < p.chs.length) : Gm ⟨(ch p c).frost, (ch p c).frost, NL⟩ := by
  have h2 := v.chn c0 c1
  exact ⟨⟨by simp only; omega, by simp only; omega⟩, ⟨by simp only; omega, by simp only; omega⟩, by simp [NL], .inl rfl⟩
theorem mapsH_gm {p : Prt} {l : Pln} (v : Val p l) {c : Int} (c0 : 0 ≤ c) (c1 : c < p.chs.length) (h : Nat) : ∀ m ∈ mapsH p l c h, Gm m := by
  intro m hm
  rw [mapsH_eq] at hm
  rcases List.mem_append.1 hm with q | q
  · exact swMaps_gm v c0 c1 h m q
  rcases List.mem_append.1 q with q | q
  · exact caMaps_gm v c0 c1 h m q
  · rw [List.mem_singleton.1 q]; exact frMap_gm v c0 c1

/-- an hour, channel by channel -/
theorem hour_sem {p : Prt} {l : Pln} (v : Val p l) (h : Nat) {s : Stt} (hb : bGe p.chs.length s.brash) (ho : bOk h l.calls s.busy) :
    ((hourR p l h s).2.1 = 0 ∧ bGe p.chs.length (hourS p l h s).brash ∧ (hourS p l h s).busy = bAft h l.calls s.busy ∧
      ∀ c : Int, 0 ≤ c → c < p.chs.length → seqOk (mapsH p l c h) (getI s.brash c) ∧ getI (hourS p l h s).brash c = seqAp (mapsH p l c h) (getI s.brash c)) ∨
    ((hourR p l h s).2.1 = 8 ∧ ∃ x c, l.calls[(hourR p l h s).1]? = some x ∧ x.hour = h ∧ c ∈ (bt p x.berth).path ∧ ¬ seqOk (mapsH p l c h) (getI s.brash c)) := by
  have hsw : ∀ c : Int, 0 ≤ c → getI (swpN p h l.swps s.brash) c = seqAp (swMaps p c h l.swps) (getI s.brash c) :=
    fun c c0 => swp_sem c0 (fun x hx => by have := v.sw x hx; rw [hb.1]; omega)
  have hswk : ∀ c : Int, ∀ b, seqOk (swMaps p c h l.swps) b := by
    intro c b
    unfold swMaps
    generalize l.swps.filter _ = L
    induction L generalizing b with
    | nil => trivial
    | cons x L ih => exact ⟨.inl rfl, ih _⟩
  have hb1 : bGe p.chs.length (swpN p h l.swps s.brash) := by
    refine ⟨by rw [swpN_length]; exact hb.1, fun c c0 c1 => ?_⟩
    rw [hsw c c0]
    exact seqAp_ge (swMaps_gm v c0 c1 h) (hb.2 c c0 c1)
  rcases calls_sem (h := h) (fun c c0 c1 => (v.chn c0 c1).1) (i := 0) (s := ⟨swpN p h l.swps s.brash, s.busy⟩) v.calOk hb1 ho with ⟨q1, q2, q3, q4, q5⟩ | ⟨q1, q2, x, c, q3, q4, q5, q6⟩
  · have hf : ∀ c : Int, 0 ≤ c → c < p.chs.length → getI (hourS p l h s).brash c = getI (hourR p l h s).2.2.brash c + (ch p c).frost := fun c c0 c1 => frost_sem q3.1 c0 c1
    refine .inl ⟨q1, ⟨?_, fun c c0 c1 => ?_⟩, q4, fun c c0 c1 => ?_⟩
    · show (frostN _ _ _).length = _
      rw [frostN_length]; exact q3.1
    · rw [hf c c0 c1]
      have := (v.chn c0 c1).2.2.1
      have := q3.2 c c0 c1
      simp only [hourR]
      omega
    · obtain ⟨o1, o2⟩ := q5 c c0 c1
      simp only at o1 o2
      rw [hsw c c0] at o1 o2
      refine ⟨?_, ?_⟩
      · rw [mapsH_eq, seqOk_append, seqOk_append]
        exact ⟨hswk c _, o1, .inl rfl, trivial⟩
      · rw [hf c c0 c1, mapsH_eq, seqAp_append, seqAp_append]
        have e : getI (hourR p l h s).2.2.brash c = _ := o2
        rw [e]
        have h3 := q3.2 c c0 c1
        rw [o2] at h3
        generalize seqAp (caMaps p c h l.calls) (seqAp (swMaps p c h l.swps) (getI s.brash c)) = z at *
        simp only [seqAp, List.foldl_cons, List.foldl_nil, ap]
        omega
  · refine .inr ⟨q1, x, c, by simpa [hourR] using q3, q4, q5, fun hq => q6 ?_⟩
    obtain ⟨c0, c1⟩ := (v.calOk x (List.mem_of_getElem? q3)).rng c q5
    rw [mapsH_eq, seqOk_append, seqOk_append] at hq
    simp only
    rw [hsw c c0]
    exact hq.2.1

/-- the maps of n hours, from hour k on -/
def mapsF (p : Prt) (l : Pln) (c : Int) (k n : Nat) : List Mp := (List.range' k n).flatMap (mapsH p l c)
theorem mapsF_succ (p : Prt) (l : Pln) (c : Int) (k n : Nat) : mapsF p l c k (n + 1) = mapsH p l c k ++ mapsF p l c (k + 1) n := by simp [mapsF, List.range'_succ]
theorem mapsS_eq (p : Prt) (l : Pln) (c : Int) : mapsS p l c = mapsF p l c 0 l.hours.toNat := by unfold mapsS mapsF; rw [List.range_eq_range']
/-- berths, hour by hour -/
def bOkF (l : Pln) : Nat → Nat → List Bool → Prop
  | _, 0, _ => True
  | k, n + 1, b => bOk k l.calls b ∧ bOkF l (k + 1) n (bAft k l.calls b)
def bAftF (l : Pln) : Nat → Nat → List Bool → List Bool
  | _, 0, b => b
  | k, n + 1, b => bAftF l (k + 1) n (bAft k l.calls b)

theorem runF_sem {p : Prt} {l : Pln} (v : Val p l) (s : Stt) : ∀ {n k : Nat}, bGe p.chs.length (stN p l s k).brash → bOkF l k n (stN p l s k).busy →
    ((runF p l s k n).2 = 0 ∧ (runF p l s k n).1 = l.calls.length ∧ bGe p.chs.length (stN p l s (k + n)).brash ∧ (stN p l s (k + n)).busy = bAftF l k n (stN p l s k).busy ∧
      ∀ c : Int, 0 ≤ c → c < p.chs.length → seqOk (mapsF p l c k n) (getI (stN p l s k).brash c) ∧ getI (stN p l s (k + n)).brash c = seqAp (mapsF p l c k n) (getI (stN p l s k).brash c)) ∨
    ((runF p l s k n).2 = 8 ∧ ∃ x c, l.calls[(runF p l s k n).1]? = some x ∧ c ∈ (bt p x.berth).path ∧ ¬ seqOk (mapsF p l c k n) (getI (stN p l s k).brash c)) := by
  intro n
  induction n with
  | zero => intro k hb _; exact .inl ⟨rfl, rfl, hb, rfl, fun c _ _ => ⟨trivial, rfl⟩⟩
  | succ n ih =>
    intro k hb ho
    rcases hour_sem v k hb ho.1 with ⟨q1, q2, q3, q4⟩ | ⟨q1, x, c, q2, _, q3, q4⟩
    · have e : runF p l s k (n + 1) = runF p l s (k + 1) n := by rw [runF, if_neg (by rw [q1]; simp)]
      have e1 : stN p l s (k + 1) = hourS p l k (stN p l s k) := rfl
      have ho2 : bOkF l (k + 1) n (stN p l s (k + 1)).busy := by rw [e1, q3]; exact ho.2
      rcases ih (k := k + 1) q2 ho2 with ⟨r1, r2, r3, r4, r5⟩ | ⟨r1, x, c, r2, r3, r4⟩
      · rw [e, show k + (n + 1) = k + 1 + n from by omega]
        refine .inl ⟨r1, r2, r3, by rw [r4, e1, q3]; rfl, fun c c0 c1 => ?_⟩
        obtain ⟨o1, o2⟩ := q4 c c0 c1
        obtain ⟨o3, o4⟩ := r5 c c0 c1
        rw [mapsF_succ, seqOk_append, seqAp_append]
        rw [e1, o2] at o3 o4
        exact ⟨⟨o1, o3⟩, o4⟩
      · rw [e]
        refine .inr ⟨r1, x, c, r2, r3, fun hq => r4 ?_⟩
        obtain ⟨c0, c1⟩ := (v.calOk x (List.mem_of_getElem? r2)).rng c r3
        rw [mapsF_succ, seqOk_append] at hq
        rw [e1, (q4 c c0 c1).2]
        exact hq.2
    · have e : runF p l s k (n + 1) = ((hourR p l k (stN p l s k)).1, (hourR p l k (stN p l s k)).2.1) := by rw [runF, if_pos (by rw [q1]; simp)]
      rw [e]
      refine .inr ⟨q1, x, c, q2, q3, fun hq => q4 ?_⟩
      rw [mapsF_succ, seqOk_append] at hq
      exact hq.1

/-- berths are as a whole plan needs them -/
def busyOk (l : Pln) (b : List Bool) : Prop := bOkF l 0 l.hours.toNat b
def busyAft (l : Pln) (b : List Bool) : List Bool := bAftF l 0 l.hours.toNat b
theorem run_sem {p : Prt} {l : Pln} (v : Val p l) {s : Stt} (hb : bGe p.chs.length s.brash) (ho : busyOk l s.busy) :
    ((runR p l s).2 = 0 ∧ (runR p l s).1 = l.calls.length ∧ bGe p.chs.length (stN p l s l.hours.toNat).brash ∧ (stN p l s l.hours.toNat).busy = busyAft l s.busy ∧
      ∀ c : Int, 0 ≤ c → c < p.chs.length → seqOk (mapsS p l c) (getI s.brash c) ∧ getI (stN p l s l.hours.toNat).brash c = seqAp (mapsS p l c) (getI s.brash c)) ∨
    ((runR p l s).2 = 8 ∧ ∃ x c, l.calls[(runR p l s).1]? = some x ∧ c ∈ (bt p x.berth).path ∧ ¬ seqOk (mapsS p l c) (getI s.brash c)) := by
  have h := runF_sem v s (n := l.hours.toNat) (k := 0) hb ho
  rw [Nat.zero_add] at h
  simp only [mapsS_eq]
  exact h

/-! how many maps there are -/
theorem filt_two {T : Type} (f : T → Int) (k n : Int) (hn : 0 ≤ n) (l : List T) : (l.filter fun x => decide (f x = k)).length + (l.filter fun x => decide (k + 1 ≤ f x) && decide (f x < k + 1 + n)).length = (l.filter fun x => decide (k ≤ f x) && decide (f x < k + (n + 1))).length := by
  induction l with
  | nil => rfl
  | cons x l ih =>
    by_cases h1 : f x = k
    · rw [List.filter_cons_of_pos (by simp [h1]), List.filter_cons_of_neg (by simp; omega), List.filter_cons_of_pos (by simp; omega), List.length_cons, List.length_cons]; omega
    · by_cases h2 : k + 1 ≤ f x ∧ f x < k + 1 + n
      · rw [List.filter_cons_of_neg (by simp [h1]), List.filter_cons_of_pos (by simpa using h2), List.filter_cons_of_pos (by simp; omega), List.length_cons, List.length_cons]; omega
      · rw [List.filter_cons_of_neg (by simp [h1]), List.filter_cons_of_neg (by simpa using h2), List.filter_cons_of_neg (by simp; omega)]; exact ih
theorem filt_and_le {T : Type} (f g : T → Bool) (l : List T) : (l.filter fun x => f x && g x).length ≤ (l.filter f).length := by
  induction l with
  | nil => exact Nat.le_refl _
  | cons x l ih => cases h1 : f x <;> cases h2 : g x <;> simp [List.filter_cons, h1, h2] <;> omega
theorem mapsF_length (p : Prt) (l : Pln) (c : Int) : ∀ (n k : Nat), (mapsF p l c k n).length ≤ (l.swps.filter fun x => decide ((k : Int) ≤ x.hour) && decide (x.hour < (k : Int) + n)).length + (l.calls.filter fun x => decide ((k : Int) ≤ x.hour) && decide (x.hour < (k : Int) + n)).length + n
  | 0, k => by simp [mapsF]
  | n + 1, k => by
    have ih := mapsF_length p l c n (k + 1)
    have e1 := filt_two (fun x : Swp => x.hour) k n (by omega) l.swps
    have e2 := filt_two (fun x : Cal => x.hour) k n (by omega) l.calls
    have e3 := filt_and_le (fun x : Swp => decide (x.hour = (k : Int))) (fun x => decide (x.channel = c)) l.swps
    have e4 := filt_and_le (fun x : Cal => decide (x.hour = (k : Int))) (fun x => (bt p x.berth).path.contains c) l.calls
    rw [mapsF_succ, List.length_append, mapsH_eq, List.length_append, List.length_append]
    simp only [swMaps, caMaps, List.length_map, List.length_singleton]
    simp only [Int.natCast_add, Int.natCast_one] at *
    omega
theorem mapsS_length {p : Prt} {l : Pln} (v : Val p l) (c : Int) : (mapsS p l c).length ≤ 360 := by
  rw [mapsS_eq]
  have h := mapsF_length p l c l.hours.toNat 0
  have h1 := List.length_filter_le (fun x : Swp => decide (((0 : Nat) : Int) ≤ x.hour) && decide (x.hour < ((0 : Nat) : Int) + (l.hours.toNat : Nat))) l.swps
  have h2 := List.length_filter_le (fun x : Cal => decide (((0 : Nat) : Int) ≤ x.hour) && decide (x.hour < ((0 : Nat) : Int) + (l.hours.toNat : Nat))) l.calls
  have := v.nx
  have := v.h
  omega
theorem mapsS_gm {p : Prt} {l : Pln} (v : Val p l) {c : Int} (c0 : 0 ≤ c) (c1 : c < p.chs.length) : ∀ m ∈ mapsS p l c, Gm m := by
  intro m hm
  unfold mapsS at hm
  obtain ⟨h, _, h2⟩ := List.mem_flatMap.1 hm
  exact mapsH_gm v c0 c1 h m h2
theorem foldS_sem {p : Prt} {l : Pln} (v : Val p l) {c : Int} (c0 : 0 ≤ c) (c1 : c < p.chs.length) {b : Int} (hb : 0 ≤ b) :
    (limOk (foldS p l c) b ↔ seqOk (mapsS p l c) b) ∧ ap (foldS p l c) b = seqAp (mapsS p l c) b :=
  fold_id (mapsS_gm v c0 c1) (by have := mapsS_length v c; omega) hb
theorem foldS_jm {p : Prt} {l : Pln} (v : Val p l) {c : Int} (c0 : 0 ≤ c) (c1 : c < p.chs.length) : Jm 360 (foldS p l c) := by
  have h := fold_jm (mapsS_gm v c0 c1) id_jm (by have := mapsS_length v c; omega)
  have hl := mapsS_length v c
  obtain ⟨⟨a, a'⟩, ⟨b, b'⟩, d, e, f⟩ := h
  refine ⟨⟨?_, ?_⟩, ⟨b, ?_⟩, d, e, ?_⟩ <;> simp only [foldS] at * <;> omega
/-- a run, by the maps of the plan -/
theorem run_folds {p : Prt} {l : Pln} (v : Val p l) {s : Stt} (hb : bGe p.chs.length s.brash) (ho : busyOk l s.busy) :
    ((runR p l s).2 = 0 ∧ (runR p l s).1 = l.calls.length ∧ bGe p.chs.length (stN p l s l.hours.toNat).brash ∧ (stN p l s l.hours.toNat).busy = busyAft l s.busy ∧
      ∀ c : Int, 0 ≤ c → c < p.chs.length → limOk (foldS p l c) (getI s.brash c) ∧ getI (stN p l s l.hours.toNat).brash c = ap (foldS p l c) (getI s.brash c)) ∨
    ((runR p l s).2 = 8 ∧ ∃ (x : Cal) (c : Int), l.calls[(runR p l s).1]? = some x ∧ 0 ≤ c ∧ c < p.chs.length ∧ c ∈ (bt p x.berth).path ∧ ¬ limOk (foldS p l c) (getI s.brash c)) := by
  rcases run_sem v hb ho with ⟨q1, q2, q3, q4, q5⟩ | ⟨q1, x, c, q2, q3, q4⟩
  · refine .inl ⟨q1, q2, q3, q4, fun c c0 c1 => ?_⟩
    obtain ⟨e1, e2⟩ := foldS_sem v c0 c1 (hb.2 c c0 c1)
    rw [e1, e2]
    exact q5 c c0 c1
  · obtain ⟨c0, c1⟩ := (v.calOk x (List.mem_of_getElem? q2)).rng c q3
    exact .inr ⟨q1, x, c, q2, c0, c1, q3, fun hq => q4 ((foldS_sem v c0 c1 (hb.2 c c0 c1)).1.1 hq)⟩
end Go.Proofs.YtalcinepeofmcaaDoor.Pt
/- What a port and a plan that are right have. No program is named here. -/
namespace Go.Proofs.YtalcinepeofmcaaDoor.Pt
open Sp

theorem within_iff {n a b : Int} : within n a b = true ↔ a ≤ n ∧ n ≤ b := by simp [within]
theorem pathOk_get {n : Int} {l : List Int} : ∀ {m : Nat}, pathOk n l m = true → ∀ k, k < m → within (l.getD k 0) 0 (n - 1) = true ∧ (l.take k).contains (l.getD k 0) = false
  | 0, _, k, hk => absurd hk (by omega)
  | m + 1, h, k, hk => by
    rw [pathOk, Bool.and_eq_true, Bool.and_eq_true] at h
    by_cases e : k = m
    · subst e; exact ⟨h.2.1, by simpa using h.2.2⟩
    · exact pathOk_get h.1 k (by omega)
theorem path_ok {n : Int} {l : List Int} (h : pathOk n l l.length = true) : l.Nodup ∧ ∀ x ∈ l, 0 ≤ x ∧ x < n := by
  refine ⟨?_, fun x hx => ?_⟩
  · rw [List.nodup_iff_pairwise_ne]
    rw [List.pairwise_iff_getElem]
    intro i j hi hj hij e
    have := (pathOk_get h j hj).2
    rw [List.getD_eq_getElem?_getD, List.getElem?_eq_getElem hj, Option.getD_some, ← e] at this
    simp only [List.contains_eq_mem, decide_eq_false_iff_not] at this
    exact this (List.mem_take_iff_getElem.2 ⟨i, by omega, rfl⟩)
  · obtain ⟨k, hk, rfl⟩ := List.mem_iff_getElem.1 hx
    have := (pathOk_get h k hk).1
    rw [List.getD_eq_getElem?_getD, List.getElem?_eq_getElem hk, Option.getD_some, within_iff] at this
    omega
theorem nodup_range_le : ∀ {n : Nat} {l : List Int}, l.Nodup → (∀ x ∈ l, 0 ≤ x ∧ x < n) → l.length ≤ n
  | 0, l, _, h => by
    cases l with
    | nil => exact Nat.le_refl _
    | cons x l => have := h x (by simp); omega
  | n + 1, l, hn, h => by
    have h1 := nodup_range_le (n := n) (l := l.filter (fun x => decide (x ≠ (n : Int)))) (hn.filter _) (fun x hx => by
      have h2 := List.mem_filter.1 hx
      have h3 := h x h2.1
      have h4 : x ≠ (n : Int) := by simpa using h2.2
      omega)
    have h5 : l.length ≤ (l.filter (fun x => decide (x ≠ (n : Int)))).length + 1 := by
      clear h h1
      induction l with
      | nil => simp
      | cons x l ih =>
        obtain ⟨h6, h7⟩ := List.nodup_cons.1 hn
        by_cases e : x = (n : Int)
        · subst e
          have : l.filter (fun x => decide (x ≠ (n : Int))) = l := List.filter_eq_self.2 fun y hy => by
            simp only [ne_eq, decide_eq_true_eq]
            rintro rfl
            exact h6 hy
          rw [List.filter_cons_of_neg (by simp), this, List.length_cons]
          omega
        · rw [List.filter_cons_of_pos (by simpa using e), List.length_cons, List.length_cons]
          have := ih h7
          omega
    omega
/-- a right port -/
structure PVal (p : Prt) : Prop where
  nc : 1 ≤ p.chs.length ∧ p.chs.length ≤ 6
  nb : 1 ≤ p.bts.length ∧ p.bts.length ≤ 4
  tg : 0 ≤ p.tugs ∧ p.tugs ≤ 20
  chf : ∀ c ∈ p.chs, 0 ≤ c.grow ∧ c.grow ≤ 100 ∧ 0 ≤ c.frost ∧ c.frost ≤ 20 ∧ 1 ≤ c.clear ∧ c.clear ≤ 200
  btf : ∀ b ∈ p.bts, 10 ≤ b.depth ∧ b.depth ≤ 3000 ∧ b.path ≠ [] ∧ b.path.Nodup ∧ ∀ x ∈ b.path, 0 ≤ x ∧ x < p.chs.length
theorem checkP_ok {p : Prt} (h : checkP p = 0) : PVal p := by
  unfold checkP at h
  split at h
  · cases h
  split at h
  · cases h
  split at h
  · cases h
  split at h
  · cases h
  rename_i h1 h2 h3 h4
  simp only [Bool.not_eq_false] at h1 h2 h3 h4
  rw [Bool.and_eq_true, within_iff, within_iff] at h1
  rw [within_iff] at h2
  refine ⟨by omega, by omega, h2, fun c hc => ?_, fun b hb => ?_⟩
  · have := List.all_eq_true.1 h3 c hc
    unfold Pt.chOk at this
    simp only [Bool.and_eq_true, within_iff] at this
    omega
  · have := List.all_eq_true.1 h4 b hb
    unfold btOk at this
    simp only [Bool.and_eq_true, within_iff] at this
    obtain ⟨a1, a2, a3⟩ := this
    obtain ⟨q1, q2⟩ := path_ok a3
    exact ⟨a1.1, a1.2, by rintro e; rw [e] at a2; simp at a2, q1, q2⟩
theorem callE_ok {p : Prt} {h : Int} {c : Cal} {f : Int} (e : callE p h c f = 0) : 0 ≤ c.berth ∧ c.berth < p.bts.length ∧ 0 ≤ c.most ∧ c.most ≤ 1000000 ∧ 0 ≤ c.tugs ∧ c.tugs ≤ 20 ∧ 10 ≤ c.draught ∧ c.draught ≤ (bt p c.berth).depth ∧ 0 ≤ c.hour ∧ c.hour < h ∧ f ≤ c.hour := by
  unfold callE at e
  split at e
  · cases e
  split at e
  · cases e
  split at e
  · cases e
  split at e
  · cases e
  rename_i h1 h2 h3 h4
  simp only [Bool.not_eq_false, Bool.and_eq_true, within_iff] at h1 h2 h3
  omega
theorem callsE_ok {p : Prt} {h : Int} : ∀ {l : List Cal} {f : Int}, callsE p h f l = 0 → (∀ c ∈ l, 0 ≤ c.berth ∧ c.berth < p.bts.length ∧ 0 ≤ c.most ∧ c.most ≤ 1000000 ∧ 0 ≤ c.tugs ∧ c.tugs ≤ 20 ∧ 10 ≤ c.draught ∧ c.draught ≤ (bt p c.berth).depth ∧ 0 ≤ c.hour ∧ c.hour < h ∧ f ≤ c.hour) ∧ l.Pairwise (fun a b => a.hour ≤ b.hour)
  | [], _, _ => ⟨by simp, List.Pairwise.nil⟩
  | c :: l, f, e => by
    rw [callsE] at e
    split at e
    · rename_i h1; exact absurd e h1
    · rename_i h1
      have h1 : callE p h c f = 0 := by simpa using h1
      have h2 := callE_ok h1
      obtain ⟨h3, h4⟩ := callsE_ok e
      refine ⟨fun x hx => ?_, List.pairwise_cons.2 ⟨fun x hx => by have := h3 x hx; omega, h4⟩⟩
      rcases List.mem_cons.1 hx with rfl | hx
      · exact h2
      · have := h3 x hx; omega
theorem swpsE_ok {p : Prt} {h : Int} : ∀ {l : List Swp}, swpsE p h l = 0 → ∀ s ∈ l, 0 ≤ s.channel ∧ s.channel < p.chs.length ∧ 1 ≤ s.tugs ∧ s.tugs ≤ 20 ∧ 0 ≤ s.hour ∧ s.hour < h
  | [], _, s, hs => by simp at hs
  | x :: l, e, s, hs => by
    rw [swpsE] at e
    split at e
    · rename_i h1; exact absurd e h1
    · rename_i h1
      have h1 : swpE p h x = 0 := by simpa using h1
      rcases List.mem_cons.1 hs with rfl | hs
      · unfold swpE at h1
        split at h1
        · cases h1
        split at h1
        · cases h1
        rename_i h2 h3
        simp only [Bool.not_eq_false, Bool.and_eq_true, within_iff] at h2 h3
        omega
      · exact swpsE_ok e s hs
theorem checkL_ok {p : Prt} {l : Pln} (h : checkL p l = 0) : checkP p = 0 ∧ (l.calls.length ≤ 60 ∧ l.swps.length ≤ 200) ∧ (1 ≤ l.hours ∧ l.hours ≤ 100) ∧ callsE p l.hours 0 l.calls = 0 ∧ swpsE p l.hours l.swps = 0 ∧
    finE p.tugs (l.swps.foldl addSwp (tlyCalls p l.hours.toNat l.calls).tugs) (tlyCalls p l.hours.toNat l.calls).twice 0 l.hours.toNat = 0 := by
  unfold checkL at h
  split at h
  · rename_i h1; exact absurd h h1
  split at h
  · cases h
  split at h
  · cases h
  split at h
  · rename_i h1; exact absurd h h1
  split at h
  · rename_i h1; exact absurd h h1
  rename_i h1 h2 h3 h4 h5
  simp only [Bool.not_eq_false, within_iff] at h3
  exact ⟨by simpa using h1, by omega, h3, by simpa using h4, by simpa using h5, h⟩
theorem val_of {p : Prt} {l : Pln} (h : checkL p l = 0) : Val p l := by
  obtain ⟨h1, h2, h3, h4, h5, _⟩ := checkL_ok h
  have hp := checkP_ok h1
  obtain ⟨h6, _⟩ := callsE_ok h4
  have h7 := swpsE_ok h5
  exact ⟨hp.nc, hp.nb, h3, h2, hp.chf, fun b hb => (hp.btf b hb).2.2, fun c hc => by have := h6 c hc; omega, fun s hs => by have := h7 s hs; omega⟩

/-! bounds of the tallies -/
theorem hit_tugs (h : Int) (l : List Int) : ∀ t : Tly, (l.foldl (hit1 h) t).tugs = t.tugs := by
  induction l with
  | nil => intro t; rfl
  | cons n l ih => intro t; rw [List.foldl_cons, ih]; rfl
theorem getI_setI_bd {l : List Int} {k x B : Int} (hk : 0 ≤ k) (hl : ∀ j, -B ≤ getI l j ∧ getI l j ≤ B) (hx : -B ≤ x ∧ x ≤ B) : ∀ j, -B ≤ getI (setI l k x) j ∧ getI (setI l k x) j ≤ B := by
  intro j
  have h0 := hl j
  unfold getI setI at *
  simp only [List.getD_eq_getElem?_getD, List.getElem?_set] at *
  split
  · split
    · simpa using hx
    · have := hl (l.length : Int); simp at this; simpa using (by omega : -B ≤ 0 ∧ 0 ≤ B)
  · exact h0
theorem tly_bd (p : Prt) : ∀ (l : List Cal) (t : Tly) (B : Int), (∀ j, -B ≤ getI t.tugs j ∧ getI t.tugs j ≤ B) → (∀ c ∈ l, 0 ≤ c.hour ∧ 0 ≤ c.tugs ∧ c.tugs ≤ 20) →
    ∀ j, -(B + 20 * l.length) ≤ getI (l.foldl (tlyCall p) t).tugs j ∧ getI (l.foldl (tlyCall p) t).tugs j ≤ B + 20 * l.length
  | [], t, B, h, _, j => by simpa using h j
  | c :: l, t, B, h, hc, j => by
    obtain ⟨c1, c2, c3⟩ := hc c (by simp)
    have h1 : ∀ j, -(B + 20) ≤ getI (tlyCall p t c).tugs j ∧ getI (tlyCall p t c).tugs j ≤ B + 20 := by
      rw [tlyCall, hit_tugs]
      refine getI_setI_bd c1 (fun j => by have := h j; omega) ?_
      have := h c.hour
      omega
    have := tly_bd p l (tlyCall p t c) (B + 20) h1 (fun x hx => hc x (by simp [hx])) j
    rw [List.foldl_cons, List.length_cons]
    omega
theorem swp_bd : ∀ (l : List Swp) (t : List Int) (B : Int), (∀ j, -B ≤ getI t j ∧ getI t j ≤ B) → (∀ s ∈ l, 0 ≤ s.hour ∧ 0 ≤ s.tugs ∧ s.tugs ≤ 20) →
    ∀ j, -(B + 20 * l.length) ≤ getI (l.foldl addSwp t) j ∧ getI (l.foldl addSwp t) j ≤ B + 20 * l.length
  | [], t, B, h, _, j => by simpa using h j
  | c :: l, t, B, h, hc, j => by
    obtain ⟨c1, c2, c3⟩ := hc c (by simp)
    have h1 : ∀ j, -(B + 20) ≤ getI (addSwp t c) j ∧ getI (addSwp t c) j ≤ B + 20 := by
      refine getI_setI_bd c1 (fun j => by have := h j; omega) ?_
      have := h c.hour
      omega
    have := swp_bd l (addSwp t c) (B + 20) h1 (fun x hx => hc x (by simp [hx])) j
    rw [List.foldl_cons, List.length_cons]
    omega
theorem tly0_get (H : Nat) (j : Int) : getI (tly0 H).tugs j = 0 := by
  unfold getI tly0
  simp only [List.getD_eq_getElem?_getD, List.getElem?_replicate]
  split <;> rfl
end Go.Proofs.YtalcinepeofmcaaDoor.Pt
/- Plain law of hull: what ships are right; what a binary search finds; when a ship is beset. No program is named here. -/
namespace Go.Proofs.YtalcinepeofmcaaDoor.Hu
open Sp (within)
set_option linter.unusedVariables false

def incB : List Pnt → Bool
  | a :: b :: l => decide (a.x < b.x) && incB (b :: l)
  | _ => true
def wayB (k : Int) : List Pnt → Bool
  | a :: b :: l => decide (0 ≤ (b.y - a.y) * k) && wayB k (b :: l)
  | _ => true
def pntB (p : Pnt) : Bool := within p.x 0 400 && within p.y 0 20000
def curveB (l : List Pnt) : Bool := within l.length 2 8 && decide ((l.headD ⟨1, 0⟩).x = 0) && l.all pntB && incB l
def steadyB (l : List Pnt) (k : Int) : Bool := curveB l && wayB k l
def shipE (s : Shp) : Int :=
  if within s.cls 1 6 = false then 41
  else if (within s.pow 100 100000 && within s.dra 10 2000 && within s.ton 10 500000) = false then 40
  else if (within s.slow 0 20 && within s.brash 0 100 && within s.ridge 0 500 && within s.press 0 5000) = false then 40
  else if (steadyB s.thr (-1) && within (endX s.thr) 10 250) = false then 40
  else if (steadyB s.wat 1 && decide (endX s.wat ≤ 250)) = false then 40
  else if (steadyB s.ice 1 && decide ((s.ice.headD ⟨0, 1⟩).y = 0) && decide (endX s.ice = 400)) = false then 40
  else 0
theorem incB_iff : ∀ {l : List Pnt}, incB l = true ↔ l.Pairwise (fun a b => a.x < b.x)
  | [] => by simp [incB]
  | [a] => by simp [incB]
  | a :: b :: l => by
    rw [incB, Bool.and_eq_true, incB_iff (l := b :: l), decide_eq_true_eq]
    constructor
    · rintro ⟨h1, h2⟩
      refine List.pairwise_cons.2 ⟨fun x hx => ?_, h2⟩
      rcases List.mem_cons.1 hx with rfl | hx
      · exact h1
      · have := (List.pairwise_cons.1 h2).1 x hx; omega
    · intro h
      exact ⟨(List.pairwise_cons.1 h).1 b (by simp), (List.pairwise_cons.1 h).2⟩
theorem wayB_iff {k : Int} : ∀ {l : List Pnt}, wayB k l = true ↔ l.Pairwise (fun a b => a.y * k ≤ b.y * k)
  | [] => by simp [wayB]
  | [a] => by simp [wayB]
  | a :: b :: l => by
    rw [wayB, Bool.and_eq_true, wayB_iff (l := b :: l), decide_eq_true_eq, Int.sub_mul]
    constructor
    · rintro ⟨h1, h2⟩
      refine List.pairwise_cons.2 ⟨fun x hx => ?_, h2⟩
      rcases List.mem_cons.1 hx with rfl | hx
      · omega
      · have := (List.pairwise_cons.1 h2).1 x hx; omega
    · intro h
      have := (List.pairwise_cons.1 h).1 b (by simp)
      exact ⟨by omega, (List.pairwise_cons.1 h).2⟩
theorem curveB_crv {l : List Pnt} (h : curveB l = true) : Crv l ∧ l.length ≤ 8 := by
  unfold curveB at h
  simp only [Bool.and_eq_true, Pt.within_iff, decide_eq_true_eq, List.all_eq_true, pntB] at h
  obtain ⟨⟨⟨h1, h2⟩, h3⟩, h4⟩ := h
  refine ⟨⟨by omega, fun p hp => ?_, fun p hp => ?_, incB_iff.1 h4⟩, by omega⟩
  · cases l with
    | nil => cases hp
    | cons a l => simp at hp; subst hp; exact h2
  · have := h3 p hp; omega
theorem crv_curveB {l : List Pnt} (h : Crv l) (hl : l.length ≤ 8) : curveB l = true := by
  unfold curveB
  simp only [Bool.and_eq_true, Pt.within_iff, decide_eq_true_eq, List.all_eq_true, pntB]
  refine ⟨⟨⟨by have := h.two; omega, ?_⟩, fun p hp => by have := h.rng p hp; omega⟩, incB_iff.2 h.inc⟩
  cases l with
  | nil => exact absurd rfl h.ne
  | cons a l => exact h.hd a rfl
theorem shipE_ok {s : Shp} (h : shipE s = 0) : ShOk s ∧ 10 ≤ endX s.thr ∧ endX s.thr ≤ 250 ∧ endX s.wat ≤ 250 ∧ endX s.ice = 400 ∧ s.thr.length ≤ 8 ∧ s.wat.length ≤ 8 ∧ s.ice.length ≤ 8 ∧ (1 ≤ s.cls ∧ s.cls ≤ 6) ∧ (100 ≤ s.pow ∧ s.pow ≤ 100000) := by
  unfold shipE at h
  split at h
  · cases h
  next h1 =>
  split at h
  · cases h
  next h2 =>
  split at h
  · cases h
  next h3 =>
  split at h
  · cases h
  next h4 =>
  split at h
  · cases h
  next h5 =>
  split at h
  · cases h
  next h6 =>
  simp only [steadyB, Bool.not_eq_false, Bool.and_eq_true, Pt.within_iff, decide_eq_true_eq] at h1 h2 h3 h4 h5 h6
  obtain ⟨⟨a1, a2⟩, a3⟩ := h4
  obtain ⟨⟨b1, b2⟩, b3⟩ := h5
  obtain ⟨⟨⟨c1, c2⟩, c3⟩, c4⟩ := h6
  refine ⟨⟨(curveB_crv a1).1, (curveB_crv b1).1, (curveB_crv c1).1, ?_, ?_, ?_, by omega, by omega, by omega, by omega⟩, by omega, by omega, by omega, by omega, (curveB_crv a1).2, (curveB_crv b1).2, (curveB_crv c1).2, by omega, by omega⟩
  · exact (wayB_iff.1 a2).imp fun h => by omega
  · exact (wayB_iff.1 b2).imp fun h => by omega
  · exact (wayB_iff.1 c2).imp fun h => by omega
/-- what the search finds: so at lo, and the greatest number up to hi at which it is so -/
structure Grt (so : Int → Bool) (lo hi r : Int) : Prop where
  ge : lo ≤ r
  le : r ≤ hi
  yes : so r = true
  no : ∀ n, r < n → n ≤ hi → so n = false
def GrtP (so : Int → Bool) (lo hi r : Int) (b : Bool) : Prop := (b = true ∧ Grt so lo hi r) ∨ (b = false ∧ so lo = false ∧ r = 0)
theorem speed_iff {s : Shp} (h : ShOk s) {i : Ic} (hi : IcOk i) {ch : Bool} {v : Int} {b : Bool} (hg : GrtP (makes s i ch) 0 250 v b) : (0 ≤ v ∧ v ≤ 250) ∧ (v < 10 ↔ makes s i ch 10 = false) := by
  rcases hg with ⟨_, h1, h2, h3, h4⟩ | ⟨_, h1, rfl⟩
  · refine ⟨⟨h1, h2⟩, fun hv => h4 10 hv (by decide), fun hm => ?_⟩
    rcases Int.lt_or_le v 10 with g | g
    · exact g
    · have := makes_v h hi ch (u := 10) (v := v) (by decide) g h3
      rw [hm] at this; cases this
  · refine ⟨by decide, fun _ => ?_, fun _ => by decide⟩
    cases hm : makes s i ch 10 with
    | false => rfl
    | true => rw [makes_v h hi ch (u := 0) (v := 10) (by decide) (by decide) hm] at h1; cases h1
def lvl (n : Int) : Ic := ⟨100, n, 0, 0⟩
theorem lvl_ok {n : Int} (h : 0 ≤ n ∧ n ≤ 400) : IcOk (lvl n) := ⟨by simp [lvl], h, by simp [lvl], by simp [lvl]⟩
/-- the greatest thickness: just up to it the ship makes 10 -/
theorem takes_iff {s : Shp} (h : ShOk s) {t : Int} (hg : Grt (fun n => makes s (lvl n) true 10) 0 400 t) {n : Int} (hn : 0 ≤ n ∧ n ≤ 400) : makes s (lvl n) true 10 = true ↔ n ≤ t := by
  constructor
  · intro hm
    rcases Int.lt_or_le t n with g | g
    · have h2 := hg.no n g hn.2
      have h3 : makes s (lvl n) true 10 = false := h2
      rw [hm] at h3; cases h3
    · exact g
  · intro hle
    exact makes_t h (by decide) true (v := 10) (by decide) hn.1 hle (by decide) hg.yes
/-- curves that are being made: a point more -/
structure Mk (l : List Pnt) (x y : Int) : Prop where
  hd : ∀ p, l.head? = some p → p.x = 0
  ne : l ≠ []
  rng : ∀ p ∈ l, 0 ≤ p.x ∧ p.x ≤ x ∧ 0 ≤ p.y ∧ p.y ≤ 20000
  inc : l.Pairwise (fun a b => a.x < b.x)
  last : l.getLast? = some ⟨x, y⟩
theorem Mk.one {y : Int} (hy : 0 ≤ y ∧ y ≤ 20000) : Mk [⟨0, y⟩] 0 y := ⟨by simp, by simp, by simpa using hy, by simp, rfl⟩
theorem Mk.snoc {l : List Pnt} {x y x' y' : Int} (h : Mk l x y) (hx : x < x') (hy : 0 ≤ y' ∧ y' ≤ 20000) (h0 : 0 ≤ x) : Mk (l ++ [⟨x', y'⟩]) x' y' := by
  refine ⟨fun p hp => ?_, by simp, fun p hp => ?_, List.pairwise_append.2 ⟨h.inc, by simp, fun a ha b hb => ?_⟩, by simp⟩
  · rw [List.head?_append] at hp
    cases e : l.head? with
    | none => rw [List.head?_eq_none_iff] at e; exact absurd e h.ne
    | some q => rw [e] at hp; simp at hp; subst hp; exact h.hd q e
  · rcases List.mem_append.1 hp with e | e
    · have := h.rng p e; omega
    · rw [List.mem_singleton.1 e]; simp only; omega
  · rw [List.mem_singleton.1 hb]
    have := h.rng a ha
    simp only; omega
theorem Mk.endX {l : List Pnt} {x y : Int} (h : Mk l x y) : endX l = x := by
  unfold Hu.endX
  rw [List.getLastD_eq_getLast?, h.last]; rfl
theorem Mk.crv {l : List Pnt} {x y : Int} (h : Mk l x y) (hx : x ≤ 400) (hl : 2 ≤ l.length) : Crv l := ⟨hl, h.hd, fun p hp => by have := h.rng p hp; omega, h.inc⟩
theorem pw_last {R : Int → Int → Prop} (hR : ∀ a b c, R a b → R b c → R a c) (hr : ∀ a, R a a) : ∀ {l : List Pnt} {x y : Int}, l.Pairwise (fun a b => R a.y b.y) → l.getLast? = some ⟨x, y⟩ → ∀ p ∈ l, R p.y y
  | [], _, _, _, h, _, _ => by cases h
  | [a], x, y, _, h, p, hp => by simp at h hp; subst hp; subst h; exact hr _
  | a :: b :: l, x, y, hw, h, p, hp => by
    rw [List.getLast?_cons_cons] at h
    obtain ⟨h1, h2⟩ := List.pairwise_cons.1 hw
    have ih := pw_last hR hr h2 h
    rcases List.mem_cons.1 hp with rfl | hp
    · exact hR _ _ _ (h1 b (by simp)) (ih b (by simp))
    · exact ih p hp
theorem up_snoc {l : List Pnt} {x y x' y' : Int} (h : Up l) (hl : l.getLast? = some ⟨x, y⟩) (hy : y ≤ y') : Up (l ++ [⟨x', y'⟩]) := by
  refine List.pairwise_append.2 ⟨h, by simp, fun a ha b hb => ?_⟩
  rw [List.mem_singleton.1 hb]
  have := pw_last (R := fun a b => a ≤ b) (fun _ _ _ => Int.le_trans) Int.le_refl h hl a ha
  simp only at this ⊢; omega
theorem dn_snoc {l : List Pnt} {x y x' y' : Int} (h : Dn l) (hl : l.getLast? = some ⟨x, y⟩) (hy : y' ≤ y) : Dn (l ++ [⟨x', y'⟩]) := by
  refine List.pairwise_append.2 ⟨h, by simp, fun a ha b hb => ?_⟩
  rw [List.mem_singleton.1 hb]
  have := pw_last (R := fun a b => b ≤ a) (fun _ _ _ h1 h2 => Int.le_trans h2 h1) Int.le_refl h hl a ha
  simp only at this ⊢; omega
theorem shipE_of {s : Shp} (h : ShOk s) (h1 : 10 ≤ endX s.thr ∧ endX s.thr ≤ 250) (h2 : endX s.wat ≤ 250) (h3 : endX s.ice = 400) (l1 : s.thr.length ≤ 8) (l2 : s.wat.length ≤ 8) (l3 : s.ice.length ≤ 8) (hc : 1 ≤ s.cls ∧ s.cls ≤ 6) (hp : 100 ≤ s.pow ∧ s.pow ≤ 100000) (hd : 10 ≤ s.dra ∧ s.dra ≤ 2000) (ht : 10 ≤ s.ton ∧ s.ton ≤ 500000) (hi : (s.ice.headD ⟨0, 1⟩).y = 0) : shipE s = 0 := by
  have q1 := crv_curveB h.thr l1
  have q2 := crv_curveB h.wat l2
  have q3 := crv_curveB h.ice l3
  have w1 : wayB (-1) s.thr = true := wayB_iff.2 (h.thrd.imp fun h => by omega)
  have w2 : wayB 1 s.wat = true := wayB_iff.2 (h.watu.imp fun h => by omega)
  have w3 : wayB 1 s.ice = true := wayB_iff.2 (h.iceu.imp fun h => by omega)
  have a1 := h.slow
  have a2 := h.brash
  have a3 := h.ridge
  have a4 := h.press
  unfold shipE steadyB
  rw [if_neg (by simp only [Bool.not_eq_false, Pt.within_iff]; omega), if_neg (by simp only [Bool.not_eq_false, Bool.and_eq_true, Pt.within_iff]; omega), if_neg (by simp only [Bool.not_eq_false, Bool.and_eq_true, Pt.within_iff]; omega),
    if_neg (by simp only [Bool.not_eq_false, Bool.and_eq_true, Pt.within_iff, q1, w1]; exact ⟨⟨trivial, trivial⟩, h1⟩), if_neg (by simp only [Bool.not_eq_false, Bool.and_eq_true, decide_eq_true_eq, q2, w2]; exact ⟨⟨trivial, trivial⟩, h2⟩), if_neg (by simp only [Bool.not_eq_false, Bool.and_eq_true, decide_eq_true_eq, q3, w3]; exact ⟨⟨⟨trivial, trivial⟩, hi⟩, h3⟩)]
end Go.Proofs.YtalcinepeofmcaaDoor.Hu
/- Drawn: a function that yields numbers below a bound, one after the other -/
namespace Go.Proofs.YtalcinepeofmcaaDoor
open Go Go.RowKit Sp

def byts (l : List Int) : List Value := l.map (Value.int .u8)
theorem byts_get {l : List Int} {k : Nat} (h : k < l.length) : (byts l)[k]? = some (.int .u8 (l.getD k 0)) := by simp [byts, h]
/-- the bytes l, k of which have been drawn; ib, lb: the closure's cells -/
structure DrawSt (w : World) (ib lb : Nat) (A : Option Addr) (c : Nat) (l : List Int) (k : Nat) : Prop where
  cnt : w.heap[ib]? = some (.cells #[.int .i64 (min k l.length : Nat)] 3 (0, 0))
  lst : w.heap[lb]? = some (.cells #[.slice A l.length c] 22 (0, 0))
  rd : Rd w 1 A l.length (byts l)
theorem DrawSt.keep {w w' : World} {ib lb : Nat} {A : Option Addr} {c : Nat} {l : List Int} {k : Nat} (h : DrawSt w ib lb A c l k) {S : List Nat} (hk : Keep S w w') (h1 : ib ∉ S) (h2 : lb ∉ S) (h3 : 0 < l.length → ∀ b off, A = some ⟨b, off, none⟩ → b ∉ S) : DrawSt w' ib lb A c l k :=
  ⟨(hk.block _ (heap_lt h.cnt) h1).trans h.cnt, (hk.block _ (heap_lt h.lst) h2).trans h.lst, h.rd.1, fun h0 => (hk.rd h.rd (h3 h0)).2 h0⟩
def draw (l : List Int) (k : Nat) (n : Int) : Int := l.getD k 0 % n
theorem draw_range {l : List Int} (k : Nat) {n : Int} (hn : 0 < n) : 0 ≤ draw l k n ∧ draw l k n < n := ⟨Int.emod_nonneg _ (by omega), Int.emod_lt_of_pos _ hn⟩

def Bytes (l : List Int) : Prop := ∀ x ∈ l, 0 ≤ x ∧ x ≤ 255
theorem Bytes.get {l : List Int} (h : Bytes l) (k : Nat) : 0 ≤ l.getD k 0 ∧ l.getD k 0 ≤ 255 := by
  rw [List.getD_eq_getElem?_getD]
  cases hk : l[k]? with
  | none => simp
  | some x => exact h x (List.mem_of_getElem? hk)

def NextPost (w : World) (ib lb : Nat) (A : Option Addr) (c : Nat) (l : List Int) (k : Nat) (n : Int) (e : Ending) (w' : World) : Prop :=
  e = .returned (.int .i64 (draw l k n)) ∧ DrawSt w' ib lb A c l (k + 1) ∧ Keep [ib] w w' ∧ w'.heap.size = w.heap.size

set_option maxHeartbeats 1000000 in
theorem next_any (ib lb : Nat) (A : Option Addr) (c : Nat) (l : List Int) (k : Nat) (n : Int) (w : World) (h : DrawSt w ib lb A c l k) (hl : Bytes l) (hm : l.length ≤ 9223372036854775806) (hne : ib ≠ lb) (hA : 0 < l.length → ∀ b off, A = some ⟨b, off, none⟩ → b ≠ ib) (hn : 0 < n ∧ n ≤ 1000) :
    Calls Tryd.prog 45 #[.int .i64 n, .pointer (some ⟨ib, 0, none⟩), .pointer (some ⟨lb, 0, none⟩)] w (NextPost w ib lb A c l k n) := by
  have ci : w.cell? ⟨ib, 0, none⟩ = some (.int .i64 (min k l.length : Nat)) := (cell_of_heap h.cnt 0).trans rfl
  have cl : w.cell? ⟨lb, 0, none⟩ = some (.slice A l.length c) := (cell_of_heap h.lst 0).trans rfl
  have fi := frozen_of_heap h.cnt 0
  have zi := heap_lt h.cnt
  have zl := heap_lt h.lst
  obtain ⟨hn1, hn2⟩ := hn
  have H := Lib.hid h
  by_cases hk : k < l.length
  · obtain ⟨b, off, u, rfl, hb, hu, hc⟩ := h.rd.one hk
    rw [byts_get hk] at hu
    obtain rfl : Value.int .u8 (l.getD k 0) = u := by injection hu
    obtain ⟨x, hx⟩ : ∃ x, x = l.getD k 0 := ⟨_, rfl⟩
    have hxr := hl.get k
    rw [← hx] at hc hxr
    have hbi : b ≠ ib := hA (by omega) b off rfl
    have e1 : (min k l.length : Nat) = k := by omega
    rw [e1] at ci
    have e2 := World.cell?_setCell_same w ⟨ib, 0, none⟩ (.int .i64 ((k : Int) + 1)) ci
    have HX := Lib.hid hx
    clear h hx hu e1
    go_enter Tryd.func45, Tryd.ntmps45
    go_wp2
    go_ret
    have K : Keep [ib] w (w.setCell ⟨ib, 0, none⟩ (.int .i64 ((k : Int) + 1))) := (Keep.refl _ _).setCell (.inl (by simp)) _
    refine ⟨by rw [draw, ← HX.out]; rfl, ⟨?_, (K.block _ zl (by simp; omega)).trans H.out.lst, K.rd H.out.rd fun b' off' e => by have := hA (by omega) b' off' e; simpa using this⟩, K, by simp [World.setCell]⟩
    rw [heap_set H.out.cnt, show min (k + 1) l.length = k + 1 from by omega]
    rfl
  · have e1 : (min k l.length : Nat) = l.length := by omega
    rw [e1] at ci
    have HE := Lib.hid e1
    clear h e1
    go_enter Tryd.func45, Tryd.ntmps45
    go_wp2
    go_ret
    refine ⟨?_, ⟨?_, H.out.lst, H.out.rd⟩, Keep.refl _ _, rfl⟩
    · rw [draw, List.getD_eq_getElem?_getD, List.getElem?_eq_none (by omega)]; simp
    · rw [H.out.cnt, show min (k + 1) l.length = min k l.length from by omega]

theorem Drawn_any (A : Option Addr) (c : Nat) (l : List Int) (w : World) (hr : Rd w 1 A l.length (byts l)) :
    Calls Tryd.prog 14 #[.slice A l.length c] w fun e w' => e = .returned (.func (.func 45) #[] #[.pointer (some ⟨w.heap.size + 1, 0, none⟩), .pointer (some ⟨w.heap.size, 0, none⟩)]) ∧ DrawSt w' (w.heap.size + 1) w.heap.size A c l 0 ∧ Below w.heap.size w w' ∧ w'.heap.size = w.heap.size + 2 := by
  go_enter Tryd.func14, Tryd.ntmps14
  go_wp2
  go_ret
  have b : Below w.heap.size w ((w.alloc (.cells #[.slice A l.length c] 22)).alloc (.cells #[.int .i64 0] 3)) := ((Below.refl _ _).alloc (Nat.le_refl _) _).alloc (by simp) _
  refine ⟨rfl, ⟨?_, heap_alloc' (heap_alloc_new _ _) _, hr.below b⟩, b, by simp⟩
  have := heap_alloc_new (w.alloc (.cells #[.slice A l.length c] 22)) (.cells #[.int .i64 0] 3)
  rw [World.size_alloc] at this
  rw [this]; simp
end Go.Proofs.YtalcinepeofmcaaDoor
/- a function that yields numbers: what a call of it gives, and what stays -/
namespace Go.Proofs.YtalcinepeofmcaaDoor
open Go Go.RowKit Go.Lib Sp
set_option linter.unusedVariables false

/-- a function that yields numbers; its bytes lie below D, its cells from D on -/
def NxS (D : Nat) (w : World) (ib lb : Nat) : Prop := ∃ A c l k, DrawSt w ib lb A c l k ∧ Bytes l ∧ l.length ≤ 9223372036854775806 ∧ ib ≠ lb ∧ D ≤ ib ∧ D ≤ lb ∧ (0 < l.length → ∀ b off, A = some ⟨b, off, none⟩ → b < D)
theorem NxS.keep {D : Nat} {w w' : World} {ib lb : Nat} (h : NxS D w ib lb) {S : List Nat} (hk : Keep S w w') (hS : ∀ x ∈ S, D ≤ x ∧ x ≠ ib ∧ x ≠ lb) : NxS D w' ib lb := by
  obtain ⟨A, c, l, k, h1, h2, h3, h4, h5, h6, h7⟩ := h
  exact ⟨A, c, l, k, h1.keep hk (fun e => (hS _ e).2.1 rfl) (fun e => (hS _ e).2.2 rfl) (fun h0 b off e hm => by have := h7 h0 b off e; have := (hS _ hm).1; omega), h2, h3, h4, h5, h6, h7⟩
theorem NxS.below {D : Nat} {w w' : World} {ib lb : Nat} (h : NxS D w ib lb) (hb : Below w.heap.size w w') : NxS D w' ib lb := h.keep (S := []) (Keep.of_below hb) (by simp)
theorem NxS.lt {D : Nat} {w : World} {ib lb : Nat} (h : NxS D w ib lb) : ib < w.heap.size ∧ lb < w.heap.size ∧ D ≤ ib ∧ D ≤ lb ∧ ib ≠ lb := by
  obtain ⟨A, c, l, k, h1, h2, h3, h4, h5, h6, h7⟩ := h
  exact ⟨heap_lt h1.cnt, heap_lt h1.lst, h5, h6, h4⟩
def SomePost (D : Nat) (w : World) (ib lb : Nat) (n : Int) (e : Ending) (w' : World) : Prop := ∃ x : Int, e = .returned (.int .i64 x) ∧ (0 ≤ x ∧ x < n) ∧ NxS D w' ib lb ∧ Keep [ib] w w' ∧ w'.heap.size = w.heap.size
theorem next_some {D : Nat} {ib lb : Nat} (n : Int) {w : World} (h : NxS D w ib lb) (hn : 0 < n ∧ n ≤ 1000) :
    Calls Tryd.prog 45 #[.int .i64 n, .pointer (some ⟨ib, 0, none⟩), .pointer (some ⟨lb, 0, none⟩)] w (SomePost D w ib lb n) := by
  obtain ⟨A, c, l, k, h1, h2, h3, h4, h5, h6, h7⟩ := h
  refine (next_any ib lb A c l k n w h1 h2 h3 h4 (fun h0 b off e => by have := h7 h0 b off e; omega) hn).mono ?_
  rintro e w' ⟨rfl, q1, q2, q3⟩
  exact ⟨_, rfl, draw_range k hn.1, ⟨A, c, l, k + 1, q1, h2, h3, h4, h5, h6, h7⟩, q2, q3⟩
def DrawnPost (D : Nat) (w : World) (e : Ending) (w' : World) : Prop := ∃ ib lb, e = .returned (.func (.func 45) #[] #[.pointer (some ⟨ib, 0, none⟩), .pointer (some ⟨lb, 0, none⟩)]) ∧ NxS D w' ib lb ∧ w.heap.size ≤ ib ∧ w.heap.size ≤ lb ∧ Below w.heap.size w w'
theorem Drawn_some (D : Nat) (A : Option Addr) (c : Nat) (l : List Int) (w : World) (hr : Rd w 1 A l.length (byts l)) (hb : Bytes l) (hl : l.length ≤ 9223372036854775806) (hD : D ≤ w.heap.size) (hA : 0 < l.length → ∀ b off, A = some ⟨b, off, none⟩ → b < D) :
    Calls Tryd.prog 14 #[.slice A l.length c] w (DrawnPost D w) := by
  refine (Drawn_any A c l w hr).mono ?_
  rintro e w' ⟨rfl, h1, h2, h3⟩
  exact ⟨_, _, rfl, ⟨A, c, l, 0, h1, hb, hl, by omega, by omega, hD, hA⟩, by omega, Nat.le_refl _, h2⟩
end Go.Proofs.YtalcinepeofmcaaDoor
