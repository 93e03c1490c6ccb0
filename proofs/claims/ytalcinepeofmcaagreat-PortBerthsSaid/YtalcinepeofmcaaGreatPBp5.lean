import Derived.Test.YtalcinepeofmcaaGreatPBp4
set_option linter.unusedVariables false
set_option linter.unusedSimpArgs false
set_option maxRecDepth 100000
set_option maxHeartbeats 40000000
namespace Go.Proofs.YtalcinepeofmcaaGreat.Pt
open Sp
def mustOf (l : List Vst) (a d : Vst) : Nat := l.countP fun v => decide (d.dra ≤ v.dra) && (decide (v.last ≤ a.last) && decide (a.last < v.arr + v.stay))
def bertOf (p : Prt) (d : Vst) : Nat := p.bts.countP fun b => decide (d.dra ≤ b.depth)
def crowd1 (p : Prt) (l : List Vst) (a : Vst) (s : Int × Int) (d : Vst) : Int × Int :=
  if bertOf p d < mustOf l a d ∧ (s.1 < 0 ∨ a.last < s.1 ∨ (a.last = s.1 ∧ s.2 < d.dra)) then (a.last, d.dra) else s
def crowdA (p : Prt) (l : List Vst) (s : Int × Int) (a : Vst) : Int × Int := l.foldl (crowd1 p l a) s
def crowdS (p : Prt) (l : List Vst) : Int × Int := l.foldl (crowdA p l) (-1, 0)
def crowdE (p : Prt) (l : List Vst) : Int := if askedE p l ≠ 0 then askedE p l else if (crowdS p l).1 < 0 then 4 else 0
def crowdH (p : Prt) (l : List Vst) : Int := if crowdE p l = 0 then (crowdS p l).1 else 0
def crowdD (p : Prt) (l : List Vst) : Int := if crowdE p l = 0 then (crowdS p l).2 else 0
def pc (a : List Plc) (i : Nat) : Plc := a.getD i ⟨0, 0⟩
def clash (l : List Vst) (a : List Plc) (i k : Nat) : Bool :=
  decide ((pc a k).berth = (pc a i).berth) && (decide ((pc a k).start < (pc a i).start + (vs l i).stay) && decide ((pc a i).start < (pc a k).start + (vs l k).stay))
def verX (p : Prt) (l : List Vst) (a : List Plc) (i : Nat) : Int :=
  if within (pc a i).berth 0 ((p.bts.length : Int) - 1) = false then 6
  else if (bt p (pc a i).berth).depth < (vs l i).dra then 100
  else if within (pc a i).start (vs l i).arr (vs l i).last = false then 12
  else if (List.range i).any (clash l a i) = true then 9 else 0
def verF (p : Prt) (l : List Vst) (a : List Plc) : Nat → Int
  | 0 => 0
  | k + 1 => if verF p l a k ≠ 0 then verF p l a k else verX p l a k
def waitOf (l : List Vst) (a : List Plc) (i : Nat) : Int := (pc a i).start - (vs l i).arr
def wsum (f : Nat → Int) : Nat → Int
  | 0 => 0
  | k + 1 => wsum f k + f k
def verE (p : Prt) (l : List Vst) (a : List Plc) : Int :=
  if askedE p l ≠ 0 then askedE p l else if a.length ≠ l.length then 1
  else if verF p l a l.length ≠ 0 then verF p l a l.length
  else if (bestS p l).found = a then 0 else 7
def verN (p : Prt) (l : List Vst) (a : List Plc) : Int := if verE p l a = 0 then wsum (waitOf l a) l.length else 0
theorem wsum_congr {f g : Nat → Int} : ∀ n, (∀ i, i < n → f i = g i) → wsum f n = wsum g n
  | 0, _ => rfl
  | n + 1, h => by simp only [wsum]; rw [wsum_congr n (fun i hi => h i (by omega)), h n (by omega)]
theorem wsum_upd {f g : Nat → Int} {i : Nat} : ∀ n, i < n → (∀ k, k < n → k ≠ i → g k = f k) → wsum g n = wsum f n + (g i - f i)
  | 0, h, _ => absurd h (by omega)
  | n + 1, h, e => by
    simp only [wsum];by_cases hi : i = n
    · subst hi;rw [wsum_congr i (fun k hk => e k (by omega) (by omega))]; omega
    · rw [wsum_upd n (by omega) (fun k hk hne => e k (by omega) hne), e n (by omega) (fun h => hi h.symm)]; omega
theorem verF_zero {p : Prt} {l : List Vst} {a : List Plc} : ∀ n, verF p l a n = 0 ↔ ∀ i, i < n → verX p l a i = 0
  | 0 => by simp [verF]
  | n + 1 => by
    have ih := verF_zero (p := p) (l := l) (a := a) n;simp only [verF];constructor
    · intro h;split at h
      · rename_i h2; exact absurd h h2
      · rename_i h2
        have h2 : verF p l a n = 0 := by simpa using h2
        intro i hi;by_cases e : i = n
        · subst e; exact h
        · exact ih.1 h2 i (by omega)
    · intro h;rw [if_neg (by rw [ih.2 (fun i hi => h i (by omega))]; simp)];exact h n (by omega)
structure Fits (p : Prt) (l : List Vst) (o : Nat → Plc) (i : Nat) : Prop where
  b0 : 0 ≤ (o i).berth
  b1 : (o i).berth < p.bts.length
  dep : (vs l i).dra ≤ (bt p (o i).berth).depth
  lo : (vs l i).arr ≤ (o i).start
  hi : (o i).start ≤ (vs l i).last
def Apart (l : List Vst) (o : Nat → Plc) (i k : Nat) : Prop := (o i).berth = (o k).berth → (o i).start + (vs l i).stay ≤ (o k).start ∨ (o k).start + (vs l k).stay ≤ (o i).start
theorem verX_zero {p : Prt} {l : List Vst} {a : List Plc} {i : Nat} : verX p l a i = 0 ↔ Fits p l (pc a) i ∧ ∀ k, k < i → Apart l (pc a) i k := by
  unfold verX;constructor
  · intro h;split at h
    · exact absurd h (by decide)
    split at h
    · exact absurd h (by decide)
    split at h
    · exact absurd h (by decide)
    split at h
    · exact absurd h (by decide)
    rename_i h1 h2 h3 h4
    simp only [within, Bool.and_eq_false_iff, decide_eq_false_iff_not] at h1 h3;refine ⟨⟨by omega, by omega, by omega, by omega, by omega⟩, fun k hk he => ?_⟩;simp only [List.any_eq_true, List.mem_range, not_exists, clash, Bool.and_eq_true, decide_eq_true_eq] at h4;have := h4 k;omega
  · rintro ⟨F, A⟩;obtain ⟨f1, f2, f3, f4, f5⟩ := F;rw [if_neg (by simp [within]; omega), if_neg (by omega), if_neg (by simp [within]; omega), if_neg];simp only [List.any_eq_true, List.mem_range, not_exists, clash, Bool.and_eq_true, decide_eq_true_eq];rintro k ⟨hk, e1, e2, e3⟩;have := A k hk e1.symm;omega
structure Way (p : Prt) (l : List Vst) (o : Nat → Plc) : Prop where
  fit : ∀ i, i < l.length → Fits p l o i
  ap : ∀ i, i < l.length → ∀ k, k < i → Apart l o i k
theorem Way.apart {p : Prt} {l : List Vst} {o : Nat → Plc} (h : Way p l o) {i k : Nat} (hi : i < l.length) (hk : k < l.length) (ne : i ≠ k) : Apart l o i k := by
  rcases Nat.lt_or_gt_of_ne ne with h1 | h1
  · intro e;have := h.ap k hk i h1 e.symm;omega
  · exact h.ap i hi k h1
theorem verF_way {p : Prt} {l : List Vst} {a : List Plc} : verF p l a l.length = 0 ↔ Way p l (pc a) := by
  rw [verF_zero];constructor
  · intro h;exact ⟨fun i hi => (verX_zero.1 (h i hi)).1, fun i hi => (verX_zero.1 (h i hi)).2⟩
  · intro h i hi;exact verX_zero.2 ⟨h.fit i hi, h.ap i hi⟩
def seekB0 (p : Prt) (l : List Vst) (n : Nat) (waiting : Int) (free : List Int) (done : List Bool) (i : Nat) (s : Bst) (b : Nat) : Bst :=
  if (p.bts.getD b default).depth < (vs l i).dra ∨ (vs l i).last < max (vs l i).arr (free.getD b 0) then s
  else seekS p l n (waiting + max (vs l i).arr (free.getD b 0) - (vs l i).arr) (free.set b (max (vs l i).arr (free.getD b 0) + (vs l i).stay)) (done.set i true)
    ⟨s.least, s.found, s.places.set i ⟨b, max (vs l i).arr (free.getD b 0)⟩⟩
def seekI0 (p : Prt) (l : List Vst) (n : Nat) (waiting : Int) (free : List Int) (done : List Bool) (s : Bst) (i : Nat) : Bst :=
  if done.getD i false then s else (List.range p.bts.length).foldl (seekB0 p l n waiting free done i) s
theorem seekS_succ0 (p : Prt) (l : List Vst) (n : Nat) (waiting : Int) (free : List Int) (done : List Bool) (s : Bst) :
    seekS p l (n + 1) waiting free done s = if 0 ≤ s.least ∧ s.least < waiting then s else (List.range l.length).foldl (seekI0 p l n waiting free done) s := rfl
theorem seekS_zero0 (p : Prt) (l : List Vst) (waiting : Int) (free : List Int) (done : List Bool) (s : Bst) :
    seekS p l 0 waiting free done s = if 0 ≤ s.least ∧ s.least < waiting then s else bestLeaf waiting s := rfl
theorem foldl_pres {S T : Type} (f : S → T → S) (P : S → Prop) : ∀ (l : List T) (s : S), (∀ s x, x ∈ l → P s → P (f s x)) → P s → P (l.foldl f s)
  | [], _, _, h => h
  | x :: l, s, hf, h => foldl_pres f P l (f s x) (fun s y hy => hf s y (by simp [hy])) (hf s x (by simp) h)
theorem least_of (f : Nat → Int) (q : Nat → Bool) : ∀ n, (∃ i, i < n ∧ q i = true) → ∃ i, i < n ∧ q i = true ∧ ∀ k, k < n → q k = true → f i ≤ f k
  | 0, h => by obtain ⟨i, hi, _⟩ := h; omega
  | n + 1, h => by
    by_cases h0 : ∃ i, i < n ∧ q i = true
    · obtain ⟨i, hi, hq, hl⟩ := least_of f q n h0;by_cases h1 : q n = true ∧ f n < f i
      · refine ⟨n, by omega, h1.1, fun k hk hqk => ?_⟩;by_cases e : k = n
        · subst e; omega
        · have := hl k (by omega) hqk; omega
      · refine ⟨i, by omega, hq, fun k hk hqk => ?_⟩;by_cases e : k = n
        · subst e;have : ¬ f k < f i := fun h => h1 ⟨hqk, h⟩;omega
        · exact hl k (by omega) hqk
    · obtain ⟨i, hi, hq⟩ := h;have e : i = n := by
        by_cases e : i = n
        · exact e
        · exact absurd ⟨i, by omega, hq⟩ h0
      subst e;refine ⟨i, by omega, hq, fun k hk hqk => ?_⟩;by_cases e : k = i
      · subst e; omega
      · exact absurd ⟨k, by omega, hqk⟩ h0
theorem count_undone {done : List Bool} {n : Nat} (h : done.count false = n + 1) : ∃ i, i < done.length ∧ (!done.getD i false) = true := by
  have : false ∈ done := by rw [← List.count_pos_iff]; omega
  obtain ⟨i, hi, e⟩ := List.mem_iff_getElem.1 this;exact ⟨i, hi, by simp [List.getD_eq_getElem?_getD, hi, e]⟩
theorem count_done {done : List Bool} {n i : Nat} (h : done.count false = n + 1) (hi : i < done.length) (hd : done.getD i false = false) : (done.set i true).count false = n := by
  have e : done[i] = false := by simpa [List.getD_eq_getElem?_getD, hi] using hd
  rw [List.count_set hi, e];simp; omega
theorem getD_set_self {T : Type} (l : List T) {i : Nat} (x d : T) (hi : i < l.length) : (l.set i x).getD i d = x := by simp [List.getD_eq_getElem?_getD, hi]
theorem getD_set_ne {T : Type} (l : List T) {i k : Nat} (x d : T) (hk : k ≠ i) : (l.set i x).getD k d = l.getD k d := by simp [List.getD_eq_getElem?_getD, hk.symm]
structure Rest (p : Prt) (l : List Vst) (free : List Int) (done : List Bool) (o : Nat → Plc) : Prop where
  fit : ∀ i, i < l.length → done.getD i false = false → Fits p l o i ∧ free.getD (o i).berth.toNat 0 ≤ (o i).start
  ap : ∀ i, i < l.length → done.getD i false = false → ∀ k, k < l.length → done.getD k false = false → i ≠ k → Apart l o i k
structure Part (p : Prt) (l : List Vst) (waiting : Int) (free : List Int) (done : List Bool) (a : List Plc) : Prop where
  dl : done.length = l.length
  fl : free.length = p.bts.length
  al : a.length = l.length
  fit : ∀ i, i < l.length → done.getD i false = true → Fits p l (pc a) i ∧ (pc a i).start + (vs l i).stay ≤ free.getD (pc a i).berth.toNat 0
  ap : ∀ i, i < l.length → done.getD i false = true → ∀ k, k < l.length → done.getD k false = true → i ≠ k → Apart l (pc a) i k
  sum : waiting = wsum (fun i => if done.getD i false then (pc a i).start - (vs l i).arr else 0) l.length
def Good (p : Prt) (l : List Vst) (s : Bst) : Prop := s.least < 0 ∨ (Way p l (pc s.found) ∧ s.found.length = l.length ∧ s.least = wsum (waitOf l s.found) l.length)
def Same (done : List Bool) (a b : List Plc) : Prop := b.length = a.length ∧ ∀ i, done.getD i false = true → pc b i = pc a i
theorem Part.same {p : Prt} {l : List Vst} {waiting : Int} {free : List Int} {done : List Bool} {a b : List Plc} (h : Part p l waiting free done a) (e : Same done a b) : Part p l waiting free done b := by
  refine ⟨h.dl, h.fl, by rw [e.1]; exact h.al, fun i hi hd => ?_, fun i hi hd k hk hdk hne => ?_, ?_⟩
  · obtain ⟨F, hf⟩ := h.fit i hi hd;have e1 := e.2 i hd;refine ⟨⟨by rw [e1]; exact F.b0, by rw [e1]; exact F.b1, by rw [e1]; exact F.dep, by rw [e1]; exact F.lo, by rw [e1]; exact F.hi⟩, by rw [e1]; exact hf⟩
  · have h1 := h.ap i hi hd k hk hdk hne;unfold Apart at h1 ⊢;rw [e.2 i hd, e.2 k hdk];exact h1
  · rw [h.sum];refine wsum_congr _ fun i _ => ?_;split
    · rename_i hd; rw [e.2 i hd]
    · rfl
theorem Same.refl (done : List Bool) (a : List Plc) : Same done a a := ⟨rfl, fun _ _ => rfl⟩
theorem Same.trans {done : List Bool} {a b c : List Plc} (h : Same done a b) (h' : Same done b c) : Same done a c := ⟨h'.1.trans h.1, fun i hd => (h'.2 i hd).trans (h.2 i hd)⟩
theorem Part.done {p : Prt} {l : List Vst} {waiting : Int} {free : List Int} {done : List Bool} {a : List Plc} (h : Part p l waiting free done a) (hc : done.count false = 0) : Way p l (pc a) ∧ waiting = wsum (waitOf l a) l.length := by
  have hall : ∀ i, i < l.length → done.getD i false = true := fun i hi => by
    have hi' : i < done.length := by rw [h.dl]; exact hi
    cases e : done.getD i false with
    | true => rfl
    | false =>
      have : false ∈ done := by
        rw [List.mem_iff_getElem];exact ⟨i, hi', by simpa [List.getD_eq_getElem?_getD, hi'] using e⟩
      rw [← List.count_pos_iff] at this;omega
  refine ⟨⟨fun i hi => (h.fit i hi (hall i hi)).1, fun i hi k hk => h.ap i hi (hall i hi) k (by omega) (hall k (by omega)) (by omega)⟩, ?_⟩;rw [h.sum];refine wsum_congr _ fun i hi => ?_;rw [if_pos (hall i hi)]; rfl
theorem Part.place {p : Prt} {l : List Vst} (hst : ∀ i, i < l.length → 1 ≤ (vs l i).stay) {waiting : Int} {free : List Int} {done : List Bool} {a : List Plc} (h : Part p l waiting free done a) {i b : Nat} (hi : i < l.length) (hd : done.getD i false = false) (hb : b < p.bts.length) {st : Int}
    (hst' : st = max (vs l i).arr (free.getD b 0)) (hdp : (vs l i).dra ≤ (p.bts.getD b default).depth) (hlast : st ≤ (vs l i).last) :
    Part p l (waiting + st - (vs l i).arr) (free.set b (st + (vs l i).stay)) (done.set i true) (a.set i ⟨b, st⟩) := by
  have hdl := h.dl;have hal := h.al;have hfl := h.fl;have pcs : pc (a.set i ⟨b, st⟩) i = ⟨b, st⟩ := getD_set_self _ _ _ (by omega);have pcn : ∀ k, k ≠ i → pc (a.set i ⟨b, st⟩) k = pc a k := fun k hk => getD_set_ne _ _ _ hk;have hs1 := hst i hi;refine ⟨by simpa using hdl, by simpa using hfl, by simpa using hal, fun k hk hdk => ?_, fun k hk hdk m hm hdm hne => ?_, ?_⟩
  · by_cases e : k = i
    · subst e;refine ⟨⟨by rw [pcs]; simp, by rw [pcs]; simp; exact hb, by rw [pcs]; simpa [bt] using hdp, by rw [pcs]; simp only; omega, by rw [pcs]; exact hlast⟩, ?_⟩;rw [pcs];simp only [Int.toNat_natCast];rw [getD_set_self _ _ _ (by omega)];omega
    · rw [getD_set_ne _ _ _ e] at hdk;obtain ⟨F, hf⟩ := h.fit k hk hdk;have e1 := pcn k e;refine ⟨⟨by rw [e1]; exact F.b0, by rw [e1]; exact F.b1, by rw [e1]; exact F.dep, by rw [e1]; exact F.lo, by rw [e1]; exact F.hi⟩, ?_⟩;rw [e1];by_cases eb : (pc a k).berth.toNat = b
      · rw [eb, getD_set_self _ _ _ (by omega)];rw [eb] at hf;omega
      · rw [getD_set_ne _ _ _ eb]; exact hf
  · have key : ∀ k, k < l.length → k ≠ i → done.getD k false = true → Apart l (pc (a.set i ⟨b, st⟩)) k i := by
      intro k hk e hdk he;rw [pcn k e, pcs] at he ⊢;obtain ⟨F, hf⟩ := h.fit k hk hdk;have : (pc a k).berth.toNat = b := by simp only at he; omega
      rw [this] at hf;left;simp only;omega
    by_cases e1 : k = i
    · subst e1;have hmk : m ≠ k := fun h => hne h.symm;rw [getD_set_ne _ _ _ hmk] at hdm;have := key m hm hmk hdm;intro he;have := this he.symm;omega
    · rw [getD_set_ne _ _ _ e1] at hdk;by_cases e2 : m = i
      · subst e2; exact key k hk e1 hdk
      · rw [getD_set_ne _ _ _ e2] at hdm;have := h.ap k hk hdk m hm hdm hne;unfold Apart at this ⊢;rw [pcn k e1, pcn m e2];exact this
  · have e := wsum_upd (f := fun i => if done.getD i false then (pc a i).start - (vs l i).arr else 0) (g := fun k => if (done.set i true).getD k false then (pc (a.set i ⟨b, st⟩) k).start - (vs l k).arr else 0) (i := i) l.length hi (fun k hk hne => by
      simp only [getD_set_ne done true false hne, pcn k hne])
    rw [e, ← h.sum];simp only [getD_set_self done true false (by omega : i < done.length), hd, pcs, if_true, Bool.false_eq_true, if_false];omega
theorem seek_good {p : Prt} {l : List Vst} (hst : ∀ i, i < l.length → 1 ≤ (vs l i).stay) : ∀ (n : Nat) (waiting : Int) (free : List Int) (done : List Bool) (s : Bst), done.count false = n → Part p l waiting free done s.places → Good p l s →
    Good p l (seekS p l n waiting free done s) ∧ Same done s.places (seekS p l n waiting free done s).places
  | 0, waiting, free, done, s, hc, P, G => by
    rw [seekS_zero0];split
    · exact ⟨G, Same.refl _ _⟩
    · unfold bestLeaf;split
      · obtain ⟨h1, h2⟩ := P.done hc;exact ⟨.inr ⟨h1, P.al, h2⟩, Same.refl _ _⟩
      · exact ⟨G, Same.refl _ _⟩
  | n + 1, waiting, free, done, s, hc, P, G => by
    rw [seekS_succ0];split
    · exact ⟨G, Same.refl _ _⟩
    · refine foldl_pres (seekI0 p l n waiting free done) (fun x => Good p l x ∧ Same done s.places x.places) _ _ (fun x i hi hx => ?_) ⟨G, Same.refl _ _⟩;unfold seekI0;split
      · exact hx
      · rename_i hd
        have hd : done.getD i false = false := by simpa using hd
        have hi : i < l.length := List.mem_range.1 hi;refine foldl_pres (seekB0 p l n waiting free done i) (fun x => Good p l x ∧ Same done s.places x.places) _ _ (fun x b hb hx => ?_) hx;have hb : b < p.bts.length := List.mem_range.1 hb;unfold seekB0;obtain ⟨st, hst'⟩ : ∃ st, st = max (vs l i).arr (free.getD b 0) := ⟨_, rfl⟩;rw [← hst'];split
        · exact hx
        · rename_i hno
          have P1 := P.same hx.2;have P2 := P1.place hst hi hd hb hst' (by omega) (by omega);have hdl := P.dl;obtain ⟨g1, g2⟩ := seek_good hst n (waiting + st - (vs l i).arr) (free.set b (st + (vs l i).stay)) (done.set i true) ⟨x.least, x.found, x.places.set i ⟨b, st⟩⟩ (count_done hc (by omega) hd) P2 hx.1;refine ⟨g1, hx.2.trans ⟨by rw [g2.1]; simp, fun k hk => ?_⟩⟩;have hki : k ≠ i := fun e => by subst e; rw [hd] at hk; cases hk
          rw [g2.2 k (by rw [getD_set_ne _ _ _ hki]; exact hk)];exact getD_set_ne _ _ _ hki
section
variable {p : Prt} {l : List Vst}
theorem getD_rep {T : Type} (x d : T) (n i : Nat) : (List.replicate n x).getD i d = if i < n then x else d := by
  simp only [List.getD_eq_getElem?_getD, List.getElem?_replicate];split <;> rfl
theorem vs_mem {i : Nat} (hi : i < l.length) : vs l i ∈ l := by
  unfold vs;rw [List.getD_eq_getElem?_getD, List.getElem?_eq_getElem hi];exact List.getElem_mem _
theorem vs_stay (hl : l.all vstOk = true) : ∀ i, i < l.length → 1 ≤ (vs l i).stay ∧ 0 ≤ (vs l i).arr := fun i hi => by
  have := List.all_eq_true.1 hl _ (vs_mem hi);simp only [vstOk, within, Bool.and_eq_true, decide_eq_true_eq] at this;omega
theorem best_good (hl : l.all vstOk = true) : Good p l (bestS p l) := by
  refine (seek_good (p := p) (fun i hi => (vs_stay hl i hi).1) l.length 0 (List.replicate p.bts.length 0) (List.replicate l.length false) ⟨-1, [], List.replicate l.length ⟨0, 0⟩⟩ (by simp) ?_ (.inl (by simp only; omega))).1;have hf : ∀ i, (List.replicate l.length false).getD i false = false := fun i => by rw [getD_rep, ite_self]
  refine ⟨by simp, by simp, by simp, fun i hi hd => ?_, fun i hi hd => ?_, ?_⟩
  · rw [hf] at hd; cases hd
  · rw [hf] at hd; cases hd
  · have : ∀ n, wsum (fun i => if (List.replicate l.length false).getD i false then (pc (List.replicate l.length ⟨0, 0⟩) i).start - (vs l i).arr else 0) n = 0 := fun n => by
      induction n with
      | zero => rfl
      | succ n ih => rw [wsum, ih, hf]; rfl
    rw [this]
theorem crowd_none (hw : ∀ a d, mustOf l a d ≤ bertOf p d) : crowdS p l = (-1, 0) := by
  unfold crowdS;refine foldl_pres (crowdA p l) (fun s => s = (-1, 0)) l _ (fun s a _ hs => ?_) rfl;unfold crowdA;refine foldl_pres (crowd1 p l a) (fun s => s = (-1, 0)) l _ (fun s d _ hs => ?_) hs;unfold crowd1;rw [if_neg (by have := hw a d; omega)];exact hs
end
end Go.Proofs.YtalcinepeofmcaaGreat.Pt
namespace Go.Proofs.YtalcinepeofmcaaGreat.Pt
open Sp
theorem cmp1_zero {a b : Plc} : cmp1 a b = 0 ↔ a = b := by
  obtain ⟨a1, a2⟩ := a;obtain ⟨b1, b2⟩ := b;unfold cmp1;simp only;constructor
  · intro h;split at h
    · omega
    · have : a1 = b1 := by omega
      have : a2 = b2 := by omega
      subst_vars; rfl
  · intro h;injection h with h1 h2
    subst h1 h2;rw [if_neg (by simp)]; omega
theorem cmp1_neg (a b : Plc) : cmp1 b a = - cmp1 a b := by
  unfold cmp1;by_cases h : a.berth = b.berth
  · rw [if_neg (by simp [h]), if_neg (by simp [h])]; omega
  · rw [if_pos (fun e => h e.symm), if_pos h]; omega
theorem cmp1_trans {a b c : Plc} (h : cmp1 a b ≤ 0) (h' : cmp1 b c ≤ 0) : cmp1 a c ≤ 0 := by
  unfold cmp1 at *;split at h <;> split at h' <;> split <;> omega
theorem cmp1_lt {a b c : Plc} (h : cmp1 a b < 0) (h' : cmp1 b c ≤ 0) : cmp1 a c < 0 := by
  unfold cmp1 at *;split at h <;> split at h' <;> split <;> omega
theorem cmpPl_zero : ∀ {a b : List Plc}, cmpPl a b = 0 ↔ a = b
  | [], [] => by simp [cmpPl]
  | [], _ :: _ => by simp [cmpPl]
  | _ :: _, [] => by simp [cmpPl]
  | x :: a, y :: b => by
    unfold cmpPl;by_cases h : cmp1 x y = 0
    · rw [if_neg (fun e => e h), cmpPl_zero (a := a) (b := b)];have := cmp1_zero.1 h;subst this; simp
    · rw [if_pos h];refine ⟨fun e => absurd e h, fun e => ?_⟩;injection e with e1 _
      exact absurd (cmp1_zero.2 e1) h
theorem cmpPl_neg : ∀ (a b : List Plc), cmpPl b a = - cmpPl a b
  | [], [] => rfl
  | [], _ :: _ => rfl
  | _ :: _, [] => rfl
  | x :: a, y :: b => by
    have h1 := cmp1_neg x y;unfold cmpPl;by_cases h : cmp1 x y = 0
    · rw [if_neg (by omega), if_neg (by omega)];exact cmpPl_neg a b
    · rw [if_pos (by omega), if_pos h, h1]
theorem cmpPl_trans : ∀ {a b c : List Plc}, cmpPl a b ≤ 0 → cmpPl b c ≤ 0 → cmpPl a c ≤ 0
  | [], [], _, _, h' => h'
  | [], _ :: _, [], _, h' => by simp [cmpPl] at h'
  | [], _ :: _, _ :: _, _, _ => by simp [cmpPl]
  | _ :: _, [], _, h, _ => by simp [cmpPl] at h
  | _ :: _, _ :: _, [], _, h' => by simp [cmpPl] at h'
  | x :: a, y :: b, z :: c, h, h' => by
    unfold cmpPl at h h' ⊢;by_cases e1 : cmp1 x y = 0
    · have := cmp1_zero.1 e1;subst this;rw [if_neg (fun e => e e1)] at h;by_cases e2 : cmp1 x z = 0
      · rw [if_neg (fun e => e e2)] at h' ⊢;exact cmpPl_trans h h'
      · rw [if_pos e2] at h' ⊢;exact h'
    · rw [if_pos e1] at h;have hxz : cmp1 x z < 0 := by
        by_cases e2 : cmp1 y z = 0
        · exact cmp1_lt (b := y) (by omega) (by omega)
        · rw [if_pos e2] at h';exact cmp1_lt (b := y) (by omega) h'
      rw [if_pos (by omega)];omega
def LeP (W : Int) (a : List Plc) (V : Int) (b : List Plc) : Prop := W < V ∨ (W = V ∧ cmpPl a b ≤ 0)
theorem LeP.refl (W : Int) (a : List Plc) : LeP W a W a := .inr ⟨rfl, by rw [cmpPl_zero.2 rfl]; omega⟩
theorem LeP.trans {W V U : Int} {a b c : List Plc} (h : LeP W a V b) (h' : LeP V b U c) : LeP W a U c := by
  rcases h with h | ⟨h, k⟩
  · rcases h' with h' | ⟨h', k'⟩
    · exact .inl (by omega)
    · exact .inl (by omega)
  · rcases h' with h' | ⟨h', k'⟩
    · exact .inl (by omega)
    · exact .inr ⟨by omega, cmpPl_trans k k'⟩
theorem LeP.anti {W V : Int} {a b : List Plc} (h : LeP W a V b) (h' : LeP V b W a) : a = b := by
  have := cmpPl_neg a b;rcases h with h | ⟨h, k⟩ <;> rcases h' with h' | ⟨h', k'⟩ <;> first | omega | skip
  exact cmpPl_zero.1 (by omega)
def wt (l : List Vst) (a : List Plc) : Int := wsum (waitOf l a) l.length
def Lf (p : Prt) (l : List Vst) : Nat → List Int → List Bool → List Plc → List Plc → Prop
  | 0, _, _, pl, a => a = pl
  | n + 1, free, done, pl, a => ∃ (i b : Nat) (st : Int), i < l.length ∧ b < p.bts.length ∧ done.getD i false = false ∧ st = max (vs l i).arr (free.getD b 0) ∧ (vs l i).dra ≤ (p.bts.getD b default).depth ∧ st ≤ (vs l i).last ∧
    Lf p l n (free.set b (st + (vs l i).stay)) (done.set i true) (pl.set i ⟨b, st⟩) a
theorem all_done {done : List Bool} (h : done.count false = 0) {i : Nat} (hi : i < done.length) : done.getD i false = true := by
  cases e : done.getD i false with
  | true => rfl
  | false =>
    have : false ∈ done := by
      rw [List.mem_iff_getElem];exact ⟨i, hi, by simpa [List.getD_eq_getElem?_getD, hi] using e⟩
    rw [← List.count_pos_iff] at this;omega
theorem pc_ext {a b : List Plc} (hl : a.length = b.length) (h : ∀ i, i < a.length → pc a i = pc b i) : a = b := by
  apply List.ext_getElem hl;intro i h1 h2;have := h i h1;unfold pc at this;simpa [List.getD_eq_getElem?_getD, h1, h2] using this
theorem Lf_same {p : Prt} {l : List Vst} : ∀ {n : Nat} {free : List Int} {done : List Bool} {pl pl' a : List Plc}, done.count false = n → done.length = l.length → pl.length = l.length → Same done pl pl' → Lf p l n free done pl a → Lf p l n free done pl' a
  | 0, free, done, pl, pl', a, hc, hd, hp, hs, h => by
    have h : a = pl := h;show a = pl';rw [h];refine pc_ext hs.1.symm fun i hi => ?_;exact (hs.2 i (all_done hc (by omega))).symm
  | n + 1, free, done, pl, pl', a, hc, hd, hp, hs, h => by
    obtain ⟨i, b, st, hi, hb, hdi, e, h1, h2, h3⟩ := h;refine ⟨i, b, st, hi, hb, hdi, e, h1, h2, Lf_same (count_done hc (by omega) hdi) (by simpa using hd) (by simpa using hp) ⟨by simp [hs.1], fun k hk => ?_⟩ h3⟩;by_cases e1 : k = i
    · subst e1;have hl := hs.1;unfold pc;rw [getD_set_self _ _ _ (by omega), getD_set_self _ _ _ (by omega)]
    · rw [getD_set_ne _ _ _ e1] at hk;have := hs.2 k hk;unfold pc at this ⊢;rw [getD_set_ne _ _ _ e1, getD_set_ne _ _ _ e1];exact this
theorem Lf_part {p : Prt} {l : List Vst} (hst : ∀ i, i < l.length → 1 ≤ (vs l i).stay) : ∀ {n : Nat} {waiting : Int} {free : List Int} {done : List Bool} {pl a : List Plc}, done.count false = n → Part p l waiting free done pl → Lf p l n free done pl a → waiting ≤ wt l a ∧ Way p l (pc a) ∧ a.length = l.length
  | 0, waiting, free, done, pl, a, hc, P, h => by
    have h : a = pl := h;subst h;obtain ⟨h1, h2⟩ := P.done hc;exact ⟨by unfold wt; omega, h1, P.al⟩
  | n + 1, waiting, free, done, pl, a, hc, P, h => by
    obtain ⟨i, b, st, hi, hb, hdi, e, h1, h2, h3⟩ := h;have P2 := P.place hst hi hdi hb e h1 h2;have := Lf_part hst (count_done hc (by have := P.dl; omega) hdi) P2 h3;exact ⟨by omega, this.2⟩
theorem foldl_hitI {S T : Type} (f : S → T → S) (I P : S → Prop) {x : T} : ∀ (l : List T) (s : S), x ∈ l → I s → (∀ s y, y ∈ l → I s → I (f s y)) → (∀ s, I s → P (f s x)) → (∀ s y, y ∈ l → I s → P s → P (f s y)) → P (l.foldl f s)
  | [], _, hx, _, _, _, _ => absurd hx (by simp)
  | y :: l, s, hx, hI, h0, h1, h2 => by
    rw [List.foldl_cons];rcases List.mem_cons.1 hx with e | e
    · subst e;have key := foldl_pres f (fun s => I s ∧ P s) l (f s x) (fun s z hz hs => ⟨h0 s z (by simp [hz]) hs.1, h2 s z (by simp [hz]) hs.1 hs.2⟩) ⟨h0 s x (by simp) hI, h1 s hI⟩;exact key.2
    · exact foldl_hitI f I P l _ e (h0 s y (by simp) hI) (fun s z hz => h0 s z (by simp [hz])) h1 (fun s z hz => h2 s z (by simp [hz]))
def Nb (W : Int) (a : List Plc) (s : Bst) : Prop := 0 ≤ s.least ∧ LeP s.least s.found W a
theorem leaf_nb {W : Int} {a : List Plc} {waiting : Int} {s : Bst} (hw : 0 ≤ waiting) (hn : ¬ (0 ≤ s.least ∧ s.least < waiting)) (h : Nb W a s) : Nb W a (bestLeaf waiting s) := by
  unfold bestLeaf;split
  · rename_i h1
    refine ⟨hw, ?_⟩;simp only;have h0 := h.1;have h2 : waiting ≤ s.least := by omega
    rcases Int.lt_or_eq_of_le h2 with h3 | h3
    · exact LeP.trans (.inl h3) h.2
    · have h4 : cmpPl s.places s.found < 0 := by
        rcases h1 with h1 | h1 | h1
        · omega
        · omega
        · exact h1
      exact LeP.trans (.inr ⟨h3, by omega⟩) h.2
  · exact h
theorem leaf_self {waiting : Int} {s : Bst} (hw : 0 ≤ waiting) (hn : ¬ (0 ≤ s.least ∧ s.least < waiting)) : Nb waiting s.places (bestLeaf waiting s) := by
  unfold bestLeaf;split
  · exact ⟨hw, LeP.refl _ _⟩
  · rename_i h1
    have h2 : waiting ≤ s.least := by omega
    have h3 : ¬ cmpPl s.places s.found < 0 := fun e => h1 (.inr (.inr e));have := cmpPl_neg s.places s.found;exact ⟨by omega, .inr ⟨by omega, by omega⟩⟩
theorem seek_nb {p : Prt} {l : List Vst} {W : Int} {a : List Plc} : ∀ (n : Nat) (waiting : Int) (free : List Int) (done : List Bool) (s : Bst), 0 ≤ waiting → Nb W a s → Nb W a (seekS p l n waiting free done s)
  | 0, waiting, free, done, s, hw, h => by
    rw [seekS_zero0];split
    · exact h
    · rename_i hn; exact leaf_nb hw hn h
  | n + 1, waiting, free, done, s, hw, h => by
    rw [seekS_succ0];split
    · exact h
    · refine foldl_pres _ _ _ _ (fun s i _ hs => ?_) h;unfold seekI0;split
      · exact hs
      · refine foldl_pres _ _ _ _ (fun s b _ hs => ?_) hs;unfold seekB0;split
        · exact hs
        · exact seek_nb n _ _ _ _ (by omega) hs
theorem seek_same {p : Prt} {l : List Vst} : ∀ (n : Nat) (waiting : Int) (free : List Int) (done : List Bool) (s : Bst), Same done s.places (seekS p l n waiting free done s).places
  | 0, waiting, free, done, s => by
    rw [seekS_zero0];split
    · exact Same.refl _ _
    · unfold bestLeaf;split <;> exact Same.refl _ _
  | n + 1, waiting, free, done, s => by
    rw [seekS_succ0];split
    · exact Same.refl _ _
    · refine foldl_pres _ (fun x : Bst => Same done s.places x.places) _ _ (fun x i _ hx => ?_) (Same.refl _ _);unfold seekI0;split
      · exact hx
      · rename_i hd
        have hd : done.getD i false = false := by simpa using hd
        refine foldl_pres _ (fun x : Bst => Same done s.places x.places) _ _ (fun x b _ hx => ?_) hx;unfold seekB0;split
        · exact hx
        · have g2 := seek_same (p := p) (l := l) n (waiting + max (vs l i).arr (free.getD b 0) - (vs l i).arr) (free.set b (max (vs l i).arr (free.getD b 0) + (vs l i).stay)) (done.set i true) ⟨x.least, x.found, x.places.set i ⟨b, max (vs l i).arr (free.getD b 0)⟩⟩;refine hx.trans ⟨by rw [g2.1]; simp, fun k hk => ?_⟩;have hki : k ≠ i := fun e => by subst e; rw [hd] at hk; cases hk
          rw [g2.2 k (by rw [getD_set_ne _ _ _ hki]; exact hk)];exact getD_set_ne _ _ _ hki
theorem seekB_same {p : Prt} {l : List Vst} {n : Nat} {waiting : Int} {free : List Int} {done : List Bool} {pl : List Plc} {j : Nat} (hj : done.getD j false = false) {s : Bst} (hs : Same done pl s.places) (c : Nat) : Same done pl (seekB0 p l n waiting free done j s c).places := by
  unfold seekB0;split
  · exact hs
  · have g2 := seek_same (p := p) (l := l) n (waiting + max (vs l j).arr (free.getD c 0) - (vs l j).arr) (free.set c (max (vs l j).arr (free.getD c 0) + (vs l j).stay)) (done.set j true) ⟨s.least, s.found, s.places.set j ⟨c, max (vs l j).arr (free.getD c 0)⟩⟩;refine hs.trans ⟨by rw [g2.1]; simp, fun k hk => ?_⟩;have hki : k ≠ j := fun e => by subst e; rw [hj] at hk; cases hk
    rw [g2.2 k (by rw [getD_set_ne _ _ _ hki]; exact hk)];exact getD_set_ne _ _ _ hki
theorem seekI_same {p : Prt} {l : List Vst} {n : Nat} {waiting : Int} {free : List Int} {done : List Bool} {pl : List Plc} {s : Bst} (hs : Same done pl s.places) (j : Nat) : Same done pl (seekI0 p l n waiting free done s j).places := by
  unfold seekI0;split
  · exact hs
  · rename_i hd
    exact foldl_pres _ (fun x : Bst => Same done pl x.places) _ _ (fun x b _ hx => seekB_same (by simpa using hd) hx b) hs
theorem seekB_nb {p : Prt} {l : List Vst} {n : Nat} {waiting : Int} {free : List Int} {done : List Bool} {W : Int} {a : List Plc} (hw : 0 ≤ waiting) {s : Bst} (hs : Nb W a s) (j c : Nat) : Nb W a (seekB0 p l n waiting free done j s c) := by
  unfold seekB0;split
  · exact hs
  · exact seek_nb n _ _ _ _ (by omega) hs
theorem seekI_nb {p : Prt} {l : List Vst} {n : Nat} {waiting : Int} {free : List Int} {done : List Bool} {W : Int} {a : List Plc} (hw : 0 ≤ waiting) {s : Bst} (hs : Nb W a s) (j : Nat) : Nb W a (seekI0 p l n waiting free done s j) := by
  unfold seekI0;split
  · exact hs
  · exact foldl_pres _ _ _ _ (fun x b _ hx => seekB_nb hw hx j b) hs
theorem seek_leaf {p : Prt} {l : List Vst} (hst : ∀ i, i < l.length → 1 ≤ (vs l i).stay) {a : List Plc} : ∀ (n : Nat) (waiting : Int) (free : List Int) (done : List Bool) (s : Bst), 0 ≤ waiting → done.count false = n → Part p l waiting free done s.places → Lf p l n free done s.places a → Nb (wt l a) a (seekS p l n waiting free done s)
  | 0, waiting, free, done, s, hw, hc, P, h => by
    have h : a = s.places := h;subst h;obtain ⟨_, h2⟩ := P.done hc;rw [seekS_zero0];have e : wt l s.places = waiting := h2.symm;split
    · rename_i h3
      exact ⟨h3.1, .inl (by omega)⟩
    · rename_i hn
      rw [e]; exact leaf_self hw hn
  | n + 1, waiting, free, done, s, hw, hc, P, h => by
    rw [seekS_succ0];have hwt := (Lf_part hst hc P h).1;split
    · rename_i h3
      exact ⟨h3.1, .inl (by omega)⟩
    · obtain ⟨i, b, st, hi, hb, hdi, e, h1, h2, h3⟩ := h;have hdl := P.dl;refine foldl_hitI (seekI0 p l n waiting free done) (fun x => Same done s.places x.places) (Nb (wt l a) a) (x := i) _ _ (List.mem_range.2 hi) (Same.refl _ _) (fun x y _ hx => seekI_same hx y) (fun x hx => ?_) (fun x y _ _ hx => seekI_nb hw hx y);unfold seekI0;rw [if_neg (by rw [hdi]; simp)];refine foldl_hitI (seekB0 p l n waiting free done i) (fun x => Same done s.places x.places) (Nb (wt l a) a) (x := b) _ _ (List.mem_range.2 hb) hx (fun x y _ hx => seekB_same hdi hx y) (fun x hx => ?_) (fun x y _ _ hx => seekB_nb hw hx i y);unfold seekB0;rw [← e, if_neg (by omega)];have P1 := P.same hx;have hlo := e;refine seek_leaf hst n (waiting + st - (vs l i).arr) (free.set b (st + (vs l i).stay)) (done.set i true) ⟨x.least, x.found, x.places.set i ⟨b, st⟩⟩ (by omega) (count_done hc (by omega) hdi) (P1.place hst hi hdi hb e h1 h2) ?_;refine Lf_same (pl := s.places.set i ⟨b, st⟩) (count_done hc (by omega) hdi) (by simpa using hdl) (by simpa using P.al) ⟨by simp [hx.1], fun k hk => ?_⟩ h3;have hal := P.al;have hxl := hx.1;by_cases e1 : k = i
      · subst e1;unfold pc;rw [getD_set_self _ _ _ (by omega), getD_set_self _ _ _ (by omega)]
      · rw [getD_set_ne _ _ _ e1] at hk;have := hx.2 k hk;unfold pc at this ⊢;rw [getD_set_ne _ _ _ e1, getD_set_ne _ _ _ e1];exact this
theorem way_leaf {p : Prt} {l : List Vst} (hst : ∀ i, i < l.length → 1 ≤ (vs l i).stay) {o : Nat → Plc} : ∀ (n : Nat) (waiting : Int) (free : List Int) (done : List Bool) (pl : List Plc), done.count false = n → Part p l waiting free done pl → Rest p l free done o →
    ∃ a, Lf p l n free done pl a ∧ a.length = l.length ∧ (∀ i, i < l.length → done.getD i false = false → (pc a i).berth = (o i).berth ∧ (pc a i).start ≤ (o i).start) ∧ ∀ i, done.getD i false = true → pc a i = pc pl i
  | 0, waiting, free, done, pl, hc, P, R => by
    refine ⟨pl, rfl, P.al, fun i hi hd => ?_, fun _ _ => rfl⟩;have hdl := P.dl;rw [all_done hc (by omega)] at hd;cases hd
  | n + 1, waiting, free, done, pl, hc, P, R => by
    have hdl := P.dl;obtain ⟨i, hi, hq, hmin⟩ := least_of (fun i => (o i).start) (fun i => !done.getD i false) l.length (by rw [← hdl]; exact count_undone hc);have hq' : done.getD i false = false := by simpa using hq
    obtain ⟨F, hfr⟩ := R.fit i hi hq';obtain ⟨b, hb⟩ : ∃ b : Nat, (o i).berth = b := ⟨(o i).berth.toNat, by have := F.b0; omega⟩;have hbl : b < p.bts.length := by have := F.b1; omega
    have hfr' : free.getD b 0 ≤ (o i).start := by rw [hb] at hfr; simpa using hfr
    have hlo := F.lo;have hhi := F.hi;have hdp : (vs l i).dra ≤ (p.bts.getD b default).depth := by have := F.dep; rw [hb] at this; simpa [bt] using this
    obtain ⟨st, hst'⟩ : ∃ st, st = max (vs l i).arr (free.getD b 0) := ⟨_, rfl⟩;have hfl := P.fl;have hal := P.al;have R2 : Rest p l (free.set b (st + (vs l i).stay)) (done.set i true) o := by
      refine ⟨fun k hk hdk => ?_, fun k hk hdk m hm hdm hne => ?_⟩
      · have hki : k ≠ i := fun e => by subst e; rw [getD_set_self done true false (by omega)] at hdk; cases hdk
        rw [getD_set_ne done true false hki] at hdk;obtain ⟨Fk, hfk⟩ := R.fit k hk hdk;refine ⟨Fk, ?_⟩;by_cases e : (o k).berth.toNat = b
        · rw [e, getD_set_self _ _ _ (by omega)];have hA := R.ap i hi hq' k hk hdk (fun h => hki h.symm) (by have := Fk.b0; omega);have hm := hmin k hk (by simpa using hdk);have := hst k hk;omega
        · rw [getD_set_ne _ _ _ e]; exact hfk
      · have hki : k ≠ i := fun e => by subst e; rw [getD_set_self done true false (by omega)] at hdk; cases hdk
        have hmi : m ≠ i := fun e => by subst e; rw [getD_set_self done true false (by omega)] at hdm; cases hdm
        rw [getD_set_ne done true false hki] at hdk;rw [getD_set_ne done true false hmi] at hdm;exact R.ap k hk hdk m hm hdm hne
    obtain ⟨a, g1, g2, g3, g4⟩ := way_leaf hst n (waiting + st - (vs l i).arr) (free.set b (st + (vs l i).stay)) (done.set i true) (pl.set i ⟨b, st⟩) (count_done hc (by omega) hq') (P.place hst hi hq' hbl hst' hdp (by omega)) R2;have hpi : pc a i = ⟨b, st⟩ := by
      rw [g4 i (getD_set_self _ _ _ (by omega))];exact getD_set_self _ _ _ (by omega)
    refine ⟨a, ⟨i, b, st, hi, hbl, hq', hst', hdp, by omega, g1⟩, g2, fun k hk hdk => ?_, fun k hk => ?_⟩
    · by_cases e : k = i
      · subst e;rw [hpi];exact ⟨hb.symm, by simp only; omega⟩
      · exact g3 k hk (by rw [getD_set_ne _ _ _ e]; exact hdk)
    · have hki : k ≠ i := fun e => by subst e; rw [hq'] at hk; cases hk
      rw [g4 k (by rw [getD_set_ne _ _ _ hki]; exact hk)];exact getD_set_ne _ _ _ hki
theorem wsum_le {f g : Nat → Int} : ∀ n, (∀ i, i < n → f i ≤ g i) → wsum f n ≤ wsum g n
  | 0, _ => Int.le_refl _
  | n + 1, h => by have := wsum_le n (fun i hi => h i (by omega)); have := h n (by omega); simp only [wsum]; omega
theorem wsum_eq {f g : Nat → Int} : ∀ n, (∀ i, i < n → f i ≤ g i) → wsum f n = wsum g n → ∀ i, i < n → f i = g i
  | 0, _, _, i, hi => absurd hi (by omega)
  | n + 1, h, e, i, hi => by
    have h1 := wsum_le n (fun i hi => h i (by omega));have h2 := h n (by omega);simp only [wsum] at e;by_cases hin : i = n
    · subst hin; omega
    · exact wsum_eq n (fun i hi => h i (by omega)) (by omega) i (by omega)
section
variable {p : Prt} {l : List Vst}
def Leaf (p : Prt) (l : List Vst) (a : List Plc) : Prop := Lf p l l.length (List.replicate p.bts.length 0) (List.replicate l.length false) (List.replicate l.length ⟨0, 0⟩) a
theorem part0 : Part p l 0 (List.replicate p.bts.length 0) (List.replicate l.length false) (List.replicate l.length ⟨0, 0⟩) := by
  have hf : ∀ i, (List.replicate l.length false).getD i false = false := fun i => by rw [getD_rep, ite_self]
  refine ⟨by simp, by simp, by simp, fun i hi hd => ?_, fun i hi hd => ?_, ?_⟩
  · rw [hf] at hd; cases hd
  · rw [hf] at hd; cases hd
  · have : ∀ n, wsum (fun i => if (List.replicate l.length false).getD i false then (pc (List.replicate l.length ⟨0, 0⟩) i).start - (vs l i).arr else 0) n = 0 := fun n => by
      induction n with
      | zero => rfl
      | succ n ih => rw [wsum, ih, hf]; rfl
    rw [this]
theorem Leaf.way (hl : l.all vstOk = true) {a : List Plc} (h : Leaf p l a) : Way p l (pc a) ∧ a.length = l.length := (Lf_part (fun i hi => (vs_stay hl i hi).1) (by simp) part0 h).2
theorem leaf_best (hl : l.all vstOk = true) {a : List Plc} (h : Leaf p l a) : 0 ≤ (bestS p l).least ∧ LeP (bestS p l).least (bestS p l).found (wt l a) a :=
  seek_leaf (fun i hi => (vs_stay hl i hi).1) l.length 0 _ _ ⟨-1, [], List.replicate l.length ⟨0, 0⟩⟩ (by omega) (by simp) part0 h
theorem way_best (hl : l.all vstOk = true) {a : List Plc} (h : Way p l (pc a)) (hlen : a.length = l.length) : ∃ a', Leaf p l a' ∧ wt l a' ≤ wt l a ∧ (wt l a' = wt l a → a' = a) := by
  have hf : ∀ i, (List.replicate l.length false).getD i false = false := fun i => by rw [getD_rep, ite_self]
  obtain ⟨a', g1, g2, g3, _⟩ := way_leaf (p := p) (fun i hi => (vs_stay hl i hi).1) (o := pc a) l.length 0 (List.replicate p.bts.length 0) (List.replicate l.length false) (List.replicate l.length ⟨0, 0⟩) (by simp) part0 (by
    refine ⟨fun i hi _ => ⟨h.fit i hi, ?_⟩, fun i hi _ k hk _ ne => h.apart hi hk ne⟩;rw [getD_rep, ite_self];have := (h.fit i hi).lo;have := (vs_stay hl i hi).2;omega)
  have hle : ∀ i, i < l.length → waitOf l a' i ≤ waitOf l a i := fun i hi => by
    have := (g3 i hi (hf i)).2;unfold waitOf; omega
  refine ⟨a', g1, wsum_le _ hle, fun e => pc_ext (by omega) fun i hi => ?_⟩;have hi' : i < l.length := by omega
  have h1 := wsum_eq _ hle e i hi';obtain ⟨h2, h3⟩ := g3 i hi' (hf i);unfold waitOf at h1;have h4 : (pc a' i).start = (pc a i).start := by omega
  cases ea : pc a' i;cases eb : pc a i;rw [ea, eb] at h2 h4;simp only at h2 h4;rw [h2, h4]
theorem best_lex (hl : l.all vstOk = true) {a : List Plc} (h : Way p l (pc a)) (hlen : a.length = l.length) : 0 ≤ (bestS p l).least ∧ LeP (bestS p l).least (bestS p l).found (wt l a) a := by
  obtain ⟨a', g1, g2, g3⟩ := way_best hl h hlen;obtain ⟨k1, k2⟩ := leaf_best hl g1;refine ⟨k1, ?_⟩;rcases Int.lt_or_eq_of_le g2 with e | e
  · exact k2.trans (.inl e)
  · rw [g3 e] at k2; exact k2
theorem found_leaf (hl : l.all vstOk = true) (h0 : 0 ≤ (bestS p l).least) : Leaf p l (bestS p l).found ∧ (bestS p l).least = wt l (bestS p l).found := by
  rcases best_good (p := p) hl with h | ⟨h1, h2, h3⟩
  · omega
  · obtain ⟨a', g1, g2, g3⟩ := way_best hl h1 h2;obtain ⟨k1, k2⟩ := leaf_best hl g1;have e : wt l (bestS p l).found = (bestS p l).least := h3.symm;have : (bestS p l).least ≤ wt l a' := by rcases k2 with q | ⟨q, _⟩ <;> omega
    rw [g3 (by omega)] at g1;exact ⟨g1, h3⟩
end
end Go.Proofs.YtalcinepeofmcaaGreat.Pt
namespace Go.Proofs.YtalcinepeofmcaaGreat.Pt
open Sp
def ordS (n : Nat) : Nat → List Nat → List (List Nat)
  | 0, sofar => [sofar]
  | k + 1, sofar => (List.range n).flatMap fun i => if sofar.contains i then [] else ordS n k (sofar ++ [i])
theorem ordS_mem {n : Nat} : ∀ {k : Nat} {sofar σ : List Nat}, σ ∈ ordS n k sofar ↔ ∃ τ, σ = sofar ++ τ ∧ τ.length = k ∧ τ.Nodup ∧ ∀ i ∈ τ, i < n ∧ i ∉ sofar
  | 0, sofar, σ => by
    simp only [ordS, List.mem_singleton];constructor
    · rintro rfl; exact ⟨[], by simp, rfl, by simp, by simp⟩
    · rintro ⟨τ, rfl, h, _⟩;rw [List.length_eq_zero_iff.1 h, List.append_nil]
  | k + 1, sofar, σ => by
    simp only [ordS, List.mem_flatMap, List.mem_range];constructor
    · rintro ⟨i, hi, h⟩;split at h
      · cases h
      · rename_i hc
        have hc : i ∉ sofar := by simpa using hc
        obtain ⟨τ, rfl, h1, h2, h3⟩ := ordS_mem.1 h;refine ⟨i :: τ, by simp, by simp [h1], ?_, ?_⟩
        · rw [List.nodup_cons];exact ⟨fun hm => (h3 i hm).2 (by simp), h2⟩
        · intro j hj;rcases List.mem_cons.1 hj with rfl | hj
          · exact ⟨hi, hc⟩
          · have := h3 j hj;exact ⟨this.1, fun hm => this.2 (by simp [hm])⟩
    · rintro ⟨τ, rfl, h1, h2, h3⟩;cases τ with
      | nil => cases h1
      | cons i τ =>
        rw [List.nodup_cons] at h2;have hi := h3 i (by simp);refine ⟨i, hi.1, ?_⟩;rw [if_neg (by simpa using hi.2)];refine ordS_mem.2 ⟨τ, by simp, by simpa using h1, h2.2, fun j hj => ?_⟩;have := h3 j (by simp [hj]);refine ⟨this.1, fun hm => ?_⟩;rcases List.mem_append.1 hm with e | e
        · exact this.2 e
        · rw [List.mem_singleton.1 e] at hj; exact h2.1 hj
structure PlS where
  rest : Nat
  free : List Int
  pl : List Plc
  good : Bool
def plB (p : Prt) (s : PlS) : Nat := s.rest % p.bts.length
def plT (p : Prt) (l : List Vst) (s : PlS) (i : Nat) : Int := max (vs l i).arr (s.free.getD (plB p s) 0)
def plStep (p : Prt) (l : List Vst) (s : PlS) (i : Nat) : PlS :=
  ⟨s.rest / p.bts.length, s.free.set (plB p s) (plT p l s i + (vs l i).stay), s.pl.set i ⟨plB p s, plT p l s i⟩, s.good && (decide ((vs l i).dra ≤ (p.bts.getD (plB p s) default).depth) && decide (plT p l s i ≤ (vs l i).last))⟩
def plRun (p : Prt) (l : List Vst) (σ : List Nat) (s : PlS) : PlS := σ.foldl (plStep p l) s
theorem plRun_bad {p : Prt} {l : List Vst} : ∀ (σ : List Nat) (s : PlS), s.good = false → (plRun p l σ s).good = false
  | [], _, h => h
  | i :: σ, s, h => by
    unfold plRun;rw [List.foldl_cons];exact plRun_bad σ _ (by simp [plStep, h])
theorem Lf_run {p : Prt} {l : List Vst} (hm : 0 < p.bts.length) : ∀ {n : Nat} {free : List Int} {done : List Bool} {pl a : List Plc}, done.length = l.length → done.count false = n →
    (Lf p l n free done pl a ↔ ∃ σ, σ.length = n ∧ σ.Nodup ∧ (∀ i ∈ σ, i < l.length ∧ done.getD i false = false) ∧ ∃ w, w < p.bts.length ^ n ∧ (plRun p l σ ⟨w, free, pl, true⟩).good = true ∧ (plRun p l σ ⟨w, free, pl, true⟩).pl = a)
  | 0, free, done, pl, a, hd, hc => by
    constructor
    · intro h;have h : a = pl := h;subst h;exact ⟨[], rfl, by simp, by simp, 0, by simp, rfl, rfl⟩
    · rintro ⟨σ, h1, _, _, w, _, _, h⟩;rw [List.length_eq_zero_iff.1 h1] at h;exact h.symm
  | n + 1, free, done, pl, a, hd, hc => by
    constructor
    · rintro ⟨i, b, st, hi, hb, hdi, e, h1, h2, h3⟩;obtain ⟨σ, g1, g2, g3, w, g4, g5, g6⟩ := (Lf_run hm (by simpa using hd) (count_done hc (by omega) hdi)).1 h3;have hni : ∀ j ∈ σ, j ≠ i := fun j hj e => by
        have := (g3 j hj).2;rw [e, getD_set_self _ _ _ (by omega)] at this;cases this
      have eb : (b + p.bts.length * w) % p.bts.length = b := by rw [Nat.add_mul_mod_self_left, Nat.mod_eq_of_lt hb]
      have ew : (b + p.bts.length * w) / p.bts.length = w := by rw [Nat.add_mul_div_left _ _ hm, Nat.div_eq_of_lt hb, Nat.zero_add]
      have es : plStep p l ⟨b + p.bts.length * w, free, pl, true⟩ i = ⟨w, free.set b (st + (vs l i).stay), pl.set i ⟨b, st⟩, true⟩ := by
        unfold plStep plT plB;simp only [eb, ew, ← e];rw [decide_eq_true h1, decide_eq_true h2]; rfl
      refine ⟨i :: σ, by simp [g1], ?_, ?_, b + p.bts.length * w, ?_, ?_, ?_⟩
      · rw [List.nodup_cons]; exact ⟨fun h => hni i h rfl, g2⟩
      · intro j hj;rcases List.mem_cons.1 hj with rfl | hj
        · exact ⟨hi, hdi⟩
        · have := g3 j hj;rw [getD_set_ne _ _ _ (hni j hj)] at this;exact this
      · rw [Nat.pow_succ, Nat.mul_comm (p.bts.length ^ n)];have := Nat.mul_le_mul_left p.bts.length (show w + 1 ≤ p.bts.length ^ n from g4);rw [Nat.mul_add, Nat.mul_one] at this;omega
      · unfold plRun at g5 ⊢;rw [List.foldl_cons, es]; exact g5
      · unfold plRun at g6 ⊢;rw [List.foldl_cons, es]; exact g6
    · rintro ⟨σ, g1, g2, g3, w, g4, g5, g6⟩;cases σ with
      | nil => cases g1
      | cons i σ =>
        rw [List.nodup_cons] at g2;obtain ⟨hi, hdi⟩ := g3 i (by simp);obtain ⟨b, hb⟩ : ∃ b, b = w % p.bts.length := ⟨_, rfl⟩;obtain ⟨st, hst⟩ : ∃ st, st = max (vs l i).arr (free.getD b 0) := ⟨_, rfl⟩;obtain ⟨g, hg⟩ : ∃ g, g = (decide ((vs l i).dra ≤ (p.bts.getD b default).depth) && decide (st ≤ (vs l i).last)) := ⟨_, rfl⟩;have es : plStep p l ⟨w, free, pl, true⟩ i = ⟨w / p.bts.length, free.set b (st + (vs l i).stay), pl.set i ⟨b, st⟩, g⟩ := by
          unfold plStep plT plB;simp only [← hb, ← hst, ← hg, Bool.true_and]
        unfold plRun at g5 g6;rw [List.foldl_cons, es] at g5 g6;have hgt : g = true := by
          cases e : g with
          | true => rfl
          | false =>
            have := plRun_bad (p := p) (l := l) σ ⟨w / p.bts.length, free.set b (st + (vs l i).stay), pl.set i ⟨b, st⟩, g⟩ e;unfold plRun at this;rw [this] at g5; cases g5
        rw [hgt] at g5 g6 hg;have hg := hg.symm;simp only [Bool.and_eq_true, decide_eq_true_eq] at hg;refine ⟨i, b, st, hi, by rw [hb]; exact Nat.mod_lt _ hm, hdi, hst, hg.1, hg.2, (Lf_run hm (by simpa using hd) (count_done hc (by omega) hdi)).2 ⟨σ, by simpa using g1, g2.2, fun j hj => ?_, w / p.bts.length, ?_, g5, g6⟩⟩
        · have hji : j ≠ i := fun e => by subst e; exact g2.1 hj
          rw [getD_set_ne _ _ _ hji];exact g3 j (by simp [hj])
        · rw [Nat.pow_succ] at g4;exact Nat.div_lt_of_lt_mul (by rw [Nat.mul_comm]; exact g4)
section
variable {p : Prt} {l : List Vst}
def pl0 (p : Prt) (l : List Vst) (w : Nat) : PlS := ⟨w, List.replicate p.bts.length 0, List.replicate l.length ⟨0, 0⟩, true⟩
def planW (p : Prt) (l : List Vst) (σ : List Nat) (w : Nat) : PlS := plRun p l σ (pl0 p l w)
theorem leaf_iff (hm : 0 < p.bts.length) {a : List Plc} : Leaf p l a ↔ ∃ σ ∈ ordS l.length l.length [], ∃ w, w < p.bts.length ^ l.length ∧ (planW p l σ w).good = true ∧ (planW p l σ w).pl = a := by
  unfold Leaf;rw [Lf_run hm (by simp) (by simp)];constructor
  · rintro ⟨σ, g1, g2, g3, w, g4⟩;exact ⟨σ, ordS_mem.2 ⟨σ, by simp, g1, g2, fun i hi => ⟨(g3 i hi).1, by simp⟩⟩, w, g4⟩
  · rintro ⟨σ, h, w, g4⟩;obtain ⟨τ, rfl, g1, g2, g3⟩ := ordS_mem.1 h;exact ⟨_, g1, g2, fun i hi => ⟨(g3 i hi).1, by rw [getD_rep, ite_self]⟩, w, g4⟩
def lessS (l : List Vst) (a b : List Plc) : Bool := if wt l a ≠ wt l b then decide (wt l a < wt l b) else decide (cmpPl a b < 0)
theorem lessS_yes {a b : List Plc} (h : lessS l a b = true) : LeP (wt l a) a (wt l b) b := by
  unfold lessS at h;split at h
  · exact .inl (by simpa using h)
  · rename_i e
    have : cmpPl a b < 0 := by simpa using h
    exact .inr ⟨by omega, by omega⟩
theorem lessS_no {a b : List Plc} (h : lessS l a b = false) : LeP (wt l b) b (wt l a) a := by
  unfold lessS at h;split at h
  · have : ¬ wt l a < wt l b := by simpa using h
    exact .inl (by omega)
  · rename_i e
    have h1 : ¬ cmpPl a b < 0 := by simpa using h
    have := cmpPl_neg a b;exact .inr ⟨by omega, by omega⟩
def lsStep (p : Prt) (l : List Vst) (σ : List Nat) (s : Bool × List Plc) (w : Nat) : Bool × List Plc :=
  if (planW p l σ w).good && (!s.1 || lessS l (planW p l σ w).pl s.2) then (true, (planW p l σ w).pl) else s
def lsRow (p : Prt) (l : List Vst) (s : Bool × List Plc) (σ : List Nat) : Bool × List Plc := (List.range (p.bts.length ^ l.length)).foldl (lsStep p l σ) s
def leastR (p : Prt) (l : List Vst) : Bool × List Plc := (ordS l.length l.length []).foldl (lsRow p l) (false, [])
def LsI (p : Prt) (l : List Vst) (C : List Plc → Prop) (s : Bool × List Plc) : Prop :=
  (s.1 = true → Leaf p l s.2) ∧ ∀ a, C a → s.1 = true ∧ LeP (wt l s.2) s.2 (wt l a) a
theorem lsStep_ok {C : List Plc → Prop} {σ : List Nat} (hm : 0 < p.bts.length) (hσ : σ ∈ ordS l.length l.length []) {s : Bool × List Plc} (h : LsI p l C s) {w : Nat} (hw : w < p.bts.length ^ l.length) :
    LsI p l (fun a => C a ∨ ((planW p l σ w).good = true ∧ (planW p l σ w).pl = a)) (lsStep p l σ s w) := by
  obtain ⟨h1, h2⟩ := h;unfold lsStep;obtain ⟨f, b⟩ := s;simp only at h1 h2 ⊢;cases hg : (planW p l σ w).good
  · simp only [Bool.false_and, Bool.false_eq_true, if_false];refine ⟨h1, fun a ha => ?_⟩;rcases ha with ha | ha
    · exact h2 a ha
    · cases ha.1
  · have hL : Leaf p l (planW p l σ w).pl := (leaf_iff hm).2 ⟨σ, hσ, w, hw, hg, rfl⟩;simp only [Bool.true_and];cases hf : f
    · simp only [Bool.not_false, Bool.true_or, if_true];refine ⟨fun _ => hL, fun a ha => ?_⟩;rcases ha with ha | ⟨_, ha⟩
      · have := (h2 a ha).1;rw [hf] at this; cases this
      · subst ha; exact ⟨rfl, LeP.refl _ _⟩
    · simp only [Bool.not_true, Bool.false_or];cases hl : lessS l (planW p l σ w).pl b
      · simp only [Bool.false_eq_true, if_false];refine ⟨fun _ => h1 hf, fun a ha => ?_⟩;rcases ha with ha | ⟨_, ha⟩
        · exact ⟨rfl, (h2 a ha).2⟩
        · subst ha; exact ⟨rfl, lessS_no hl⟩
      · simp only [if_true];refine ⟨fun _ => hL, fun a ha => ?_⟩;rcases ha with ha | ⟨_, ha⟩
        · exact ⟨rfl, (lessS_yes hl).trans (h2 a ha).2⟩
        · subst ha; exact ⟨rfl, LeP.refl _ _⟩
theorem LsI.mono {C D : List Plc → Prop} {s : Bool × List Plc} (h : LsI p l C s) (hD : ∀ a, D a → C a) : LsI p l D s := ⟨h.1, fun a ha => h.2 a (hD a ha)⟩
theorem lsRow_ok {σ : List Nat} (hm : 0 < p.bts.length) (hσ : σ ∈ ordS l.length l.length []) : ∀ (ws : List Nat) {C : List Plc → Prop} {s : Bool × List Plc}, (∀ w ∈ ws, w < p.bts.length ^ l.length) → LsI p l C s →
    LsI p l (fun a => C a ∨ ∃ w ∈ ws, (planW p l σ w).good = true ∧ (planW p l σ w).pl = a) (ws.foldl (lsStep p l σ) s)
  | [], C, s, _, h => h.mono fun a ha => by
      rcases ha with ha | ⟨w, hw, _⟩
      · exact ha
      · cases hw
  | w :: ws, C, s, hw, h => by
    rw [List.foldl_cons];refine (lsRow_ok hm hσ ws (fun v hv => hw v (by simp [hv])) (lsStep_ok hm hσ h (hw w (by simp)))).mono fun a ha => ?_;rcases ha with ha | ⟨v, hv, hg⟩
    · exact .inl (.inl ha)
    · rcases List.mem_cons.1 hv with rfl | hv
      · exact .inl (.inr hg)
      · exact .inr ⟨v, hv, hg⟩
theorem lsAll_ok (hm : 0 < p.bts.length) : ∀ (S : List (List Nat)) {C : List Plc → Prop} {s : Bool × List Plc}, (∀ σ ∈ S, σ ∈ ordS l.length l.length []) → LsI p l C s →
    LsI p l (fun a => C a ∨ ∃ σ ∈ S, ∃ w, w < p.bts.length ^ l.length ∧ (planW p l σ w).good = true ∧ (planW p l σ w).pl = a) (S.foldl (lsRow p l) s)
  | [], C, s, _, h => h.mono fun a ha => by
      rcases ha with ha | ⟨w, hw, _⟩
      · exact ha
      · cases hw
  | σ :: S, C, s, hS, h => by
    rw [List.foldl_cons];refine (lsAll_ok hm S (fun v hv => hS v (by simp [hv])) (lsRow_ok hm (hS σ (by simp)) _ (fun w hw => List.mem_range.1 hw) h)).mono fun a ha => ?_;rcases ha with ha | ⟨v, hv, hg⟩
    · exact .inl (.inl ha)
    · rcases List.mem_cons.1 hv with rfl | hv
      · obtain ⟨w, hw, hg⟩ := hg;exact .inl (.inr ⟨w, List.mem_range.2 hw, hg⟩)
      · exact .inr ⟨v, hv, hg⟩
theorem leastR_eq (hm : 0 < p.bts.length) (hl : l.all vstOk = true) : leastR p l = (decide (0 ≤ (bestS p l).least), if 0 ≤ (bestS p l).least then (bestS p l).found else []) := by
  obtain ⟨h1, h2⟩ := lsAll_ok (p := p) (l := l) hm (ordS l.length l.length []) (C := fun _ => False) (s := (false, [])) (fun _ h => h) ⟨fun h => (by cases h), fun a ha => ha.elim⟩;have h2 : ∀ a, Leaf p l a → (leastR p l).1 = true ∧ LeP (wt l (leastR p l).2) (leastR p l).2 (wt l a) a := fun a ha => by
    obtain ⟨σ, hσ, w, hw, hg⟩ := (leaf_iff hm).1 ha;exact h2 a (.inr ⟨σ, hσ, w, hw, hg⟩)
  have h1 : (leastR p l).1 = true → Leaf p l (leastR p l).2 := h1;by_cases h0 : 0 ≤ (bestS p l).least
  · obtain ⟨k1, k2⟩ := found_leaf hl h0;obtain ⟨g1, g2⟩ := h2 _ k1;have g3 := (leaf_best hl (h1 g1)).2;rw [k2] at g3;rw [decide_eq_true h0, if_pos h0];exact Prod.ext g1 (LeP.anti g2 g3)
  · rw [decide_eq_false h0, if_neg h0];have hf : (leastR p l).1 = false := by
      cases e : (leastR p l).1 with
      | false => rfl
      | true => exact absurd (leaf_best hl (h1 e)).1 h0
    refine Prod.ext hf ?_;have key : ∀ s : Bool × List Plc, (s.1 = false → s.2 = []) → ∀ σ, ((lsRow p l s σ).1 = false → (lsRow p l s σ).2 = []) := fun s hs σ => by
      unfold lsRow;refine foldl_pres (lsStep p l σ) (fun s => s.1 = false → s.2 = []) _ _ (fun s w _ hs => ?_) hs;unfold lsStep;split
      · intro h; cases h
      · exact hs
    exact (foldl_pres (lsRow p l) (fun s => s.1 = false → s.2 = []) (ordS l.length l.length []) (false, []) (fun s σ _ hs => key s hs σ) (fun _ => rfl)) hf
end
end Go.Proofs.YtalcinepeofmcaaGreat.Pt
