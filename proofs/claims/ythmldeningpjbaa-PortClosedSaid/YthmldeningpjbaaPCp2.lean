/- What a port and a plan that are right have. No program is named here. -/
import Derived.Test.YthmldeningpjbaaPCp1
import Derived.Test.YthmldeningpjbaaPCp0
set_option linter.unusedVariables false
set_option linter.unusedSimpArgs false
namespace Go.Proofs.Ythmldeningpjbaa.Pt
open Sp

theorem within_iff {n a b : Int} : within n a b = true ↔ a ≤ n ∧ n ≤ b := by simp [within]
theorem pathOk_get {n : Int} {l : List Int} : ∀ {m : Nat}, pathOk n l m = true → ∀ k, k < m → within (l.getD k 0) 0 (n - 1) = true ∧ (l.take k).contains (l.getD k 0) = false
  | 0, _, k, hk => absurd hk (by omega)
  | m + 1, h, k, hk => by
    rw [pathOk, Bool.and_eq_true, Bool.and_eq_true] at h
    by_cases e : k = m
    · subst e; exact ⟨h.2.1, by simpa using h.2.2⟩
    · exact pathOk_get h.1 k (by omega)
theorem path_ok {n : Int} {l : List Int} (h : pathOk n l l.length = true) : l.Nodup ∧ ∀ x ∈ l, 0 ≤ x ∧ x < n := by
  refine ⟨?_, fun x hx => ?_⟩
  · rw [List.nodup_iff_pairwise_ne]
    rw [List.pairwise_iff_getElem]
    intro i j hi hj hij e
    have := (pathOk_get h j hj).2
    rw [List.getD_eq_getElem?_getD, List.getElem?_eq_getElem hj, Option.getD_some, ← e] at this
    simp only [List.contains_eq_mem, decide_eq_false_iff_not] at this
    exact this (List.mem_take_iff_getElem.2 ⟨i, by omega, rfl⟩)
  · obtain ⟨k, hk, rfl⟩ := List.mem_iff_getElem.1 hx
    have := (pathOk_get h k hk).1
    rw [List.getD_eq_getElem?_getD, List.getElem?_eq_getElem hk, Option.getD_some, within_iff] at this
    omega
theorem nodup_range_le : ∀ {n : Nat} {l : List Int}, l.Nodup → (∀ x ∈ l, 0 ≤ x ∧ x < n) → l.length ≤ n
  | 0, l, _, h => by
    cases l with
    | nil => exact Nat.le_refl _
    | cons x l => have := h x (by simp); omega
  | n + 1, l, hn, h => by
    have h1 := nodup_range_le (n := n) (l := l.filter (fun x => decide (x ≠ (n : Int)))) (hn.filter _) (fun x hx => by
      have h2 := List.mem_filter.1 hx
      have h3 := h x h2.1
      have h4 : x ≠ (n : Int) := by simpa using h2.2
      omega)
    have h5 : l.length ≤ (l.filter (fun x => decide (x ≠ (n : Int)))).length + 1 := by
      clear h h1
      induction l with
      | nil => simp
      | cons x l ih =>
        obtain ⟨h6, h7⟩ := List.nodup_cons.1 hn
        by_cases e : x = (n : Int)
        · subst e
          have : l.filter (fun x => decide (x ≠ (n : Int))) = l := List.filter_eq_self.2 fun y hy => by
            simp only [ne_eq, decide_eq_true_eq]
            rintro rfl
            exact h6 hy
          rw [List.filter_cons_of_neg (by simp), this, List.length_cons]
          omega
        · rw [List.filter_cons_of_pos (by simpa using e), List.length_cons, List.length_cons]
          have := ih h7
          omega
    omega
/-- a right port -/
structure PVal (p : Prt) : Prop where
  nc : 1 ≤ p.chs.length ∧ p.chs.length ≤ 6
  nb : 1 ≤ p.bts.length ∧ p.bts.length ≤ 4
  tg : 0 ≤ p.tugs ∧ p.tugs ≤ 20
  chf : ∀ c ∈ p.chs, 0 ≤ c.grow ∧ c.grow ≤ 100 ∧ 0 ≤ c.frost ∧ c.frost ≤ 20 ∧ 1 ≤ c.clear ∧ c.clear ≤ 200
  btf : ∀ b ∈ p.bts, 10 ≤ b.depth ∧ b.depth ≤ 3000 ∧ b.path ≠ [] ∧ b.path.Nodup ∧ ∀ x ∈ b.path, 0 ≤ x ∧ x < p.chs.length
theorem checkP_ok {p : Prt} (h : checkP p = 0) : PVal p := by
  unfold checkP at h
  split at h
  · cases h
  split at h
  · cases h
  split at h
  · cases h
  split at h
  · cases h
  rename_i h1 h2 h3 h4
  simp only [Bool.not_eq_false] at h1 h2 h3 h4
  rw [Bool.and_eq_true, within_iff, within_iff] at h1
  rw [within_iff] at h2
  refine ⟨by omega, by omega, h2, fun c hc => ?_, fun b hb => ?_⟩
  · have := List.all_eq_true.1 h3 c hc
    unfold Pt.chOk at this
    simp only [Bool.and_eq_true, within_iff] at this
    omega
  · have := List.all_eq_true.1 h4 b hb
    unfold btOk at this
    simp only [Bool.and_eq_true, within_iff] at this
    obtain ⟨a1, a2, a3⟩ := this
    obtain ⟨q1, q2⟩ := path_ok a3
    exact ⟨a1.1, a1.2, by rintro e; rw [e] at a2; simp at a2, q1, q2⟩
theorem callE_ok {p : Prt} {h : Int} {c : Cal} {f : Int} (e : callE p h c f = 0) : 0 ≤ c.berth ∧ c.berth < p.bts.length ∧ 0 ≤ c.most ∧ c.most ≤ 1000000 ∧ 0 ≤ c.tugs ∧ c.tugs ≤ 20 ∧ 10 ≤ c.draught ∧ c.draught ≤ (bt p c.berth).depth ∧ 0 ≤ c.hour ∧ c.hour < h ∧ f ≤ c.hour := by
  unfold callE at e
  split at e
  · cases e
  split at e
  · cases e
  split at e
  · cases e
  split at e
  · cases e
  rename_i h1 h2 h3 h4
  simp only [Bool.not_eq_false, Bool.and_eq_true, within_iff] at h1 h2 h3
  omega
theorem callsE_ok {p : Prt} {h : Int} : ∀ {l : List Cal} {f : Int}, callsE p h f l = 0 → (∀ c ∈ l, 0 ≤ c.berth ∧ c.berth < p.bts.length ∧ 0 ≤ c.most ∧ c.most ≤ 1000000 ∧ 0 ≤ c.tugs ∧ c.tugs ≤ 20 ∧ 10 ≤ c.draught ∧ c.draught ≤ (bt p c.berth).depth ∧ 0 ≤ c.hour ∧ c.hour < h ∧ f ≤ c.hour) ∧ l.Pairwise (fun a b => a.hour ≤ b.hour)
  | [], _, _ => ⟨by simp, List.Pairwise.nil⟩
  | c :: l, f, e => by
    rw [callsE] at e
    split at e
    · rename_i h1; exact absurd e h1
    · rename_i h1
      have h1 : callE p h c f = 0 := by simpa using h1
      have h2 := callE_ok h1
      obtain ⟨h3, h4⟩ := callsE_ok e
      refine ⟨fun x hx => ?_, List.pairwise_cons.2 ⟨fun x hx => by have := h3 x hx; omega, h4⟩⟩
      rcases List.mem_cons.1 hx with rfl | hx
      · exact h2
      · have := h3 x hx; omega
theorem swpsE_ok {p : Prt} {h : Int} : ∀ {l : List Swp}, swpsE p h l = 0 → ∀ s ∈ l, 0 ≤ s.channel ∧ s.channel < p.chs.length ∧ 1 ≤ s.tugs ∧ s.tugs ≤ 20 ∧ 0 ≤ s.hour ∧ s.hour < h
  | [], _, s, hs => by simp at hs
  | x :: l, e, s, hs => by
    rw [swpsE] at e
    split at e
    · rename_i h1; exact absurd e h1
    · rename_i h1
      have h1 : swpE p h x = 0 := by simpa using h1
      rcases List.mem_cons.1 hs with rfl | hs
      · unfold swpE at h1
        split at h1
        · cases h1
        split at h1
        · cases h1
        rename_i h2 h3
        simp only [Bool.not_eq_false, Bool.and_eq_true, within_iff] at h2 h3
        omega
      · exact swpsE_ok e s hs
theorem checkL_ok {p : Prt} {l : Pln} (h : checkL p l = 0) : checkP p = 0 ∧ (l.calls.length ≤ 60 ∧ l.swps.length ≤ 200) ∧ (1 ≤ l.hours ∧ l.hours ≤ 100) ∧ callsE p l.hours 0 l.calls = 0 ∧ swpsE p l.hours l.swps = 0 ∧
    finE p.tugs (l.swps.foldl addSwp (tlyCalls p l.hours.toNat l.calls).tugs) (tlyCalls p l.hours.toNat l.calls).twice 0 l.hours.toNat = 0 := by
  unfold checkL at h
  split at h
  · rename_i h1; exact absurd h h1
  split at h
  · cases h
  split at h
  · cases h
  split at h
  · rename_i h1; exact absurd h h1
  split at h
  · rename_i h1; exact absurd h h1
  rename_i h1 h2 h3 h4 h5
  simp only [Bool.not_eq_false, within_iff] at h3
  exact ⟨by simpa using h1, by omega, h3, by simpa using h4, by simpa using h5, h⟩
theorem val_of {p : Prt} {l : Pln} (h : checkL p l = 0) : Val p l := by
  obtain ⟨h1, h2, h3, h4, h5, _⟩ := checkL_ok h
  have hp := checkP_ok h1
  obtain ⟨h6, _⟩ := callsE_ok h4
  have h7 := swpsE_ok h5
  exact ⟨hp.nc, hp.nb, h3, h2, hp.chf, fun b hb => (hp.btf b hb).2.2, fun c hc => by have := h6 c hc; omega, fun s hs => by have := h7 s hs; omega⟩

/-! bounds of the tallies -/
theorem hit_tugs (h : Int) (l : List Int) : ∀ t : Tly, (l.foldl (hit1 h) t).tugs = t.tugs := by
  induction l with
  | nil => intro t; rfl
  | cons n l ih => intro t; rw [List.foldl_cons, ih]; rfl
theorem getI_setI_bd {l : List Int} {k x B : Int} (hk : 0 ≤ k) (hl : ∀ j, -B ≤ getI l j ∧ getI l j ≤ B) (hx : -B ≤ x ∧ x ≤ B) : ∀ j, -B ≤ getI (setI l k x) j ∧ getI (setI l k x) j ≤ B := by
  intro j
  have h0 := hl j
  unfold getI setI at *
  simp only [List.getD_eq_getElem?_getD, List.getElem?_set] at *
  split
  · split
    · simpa using hx
    · have := hl (l.length : Int); simp at this; simpa using (by omega : -B ≤ 0 ∧ 0 ≤ B)
  · exact h0
theorem tly_bd (p : Prt) : ∀ (l : List Cal) (t : Tly) (B : Int), (∀ j, -B ≤ getI t.tugs j ∧ getI t.tugs j ≤ B) → (∀ c ∈ l, 0 ≤ c.hour ∧ 0 ≤ c.tugs ∧ c.tugs ≤ 20) →
    ∀ j, -(B + 20 * l.length) ≤ getI (l.foldl (tlyCall p) t).tugs j ∧ getI (l.foldl (tlyCall p) t).tugs j ≤ B + 20 * l.length
  | [], t, B, h, _, j => by simpa using h j
  | c :: l, t, B, h, hc, j => by
    obtain ⟨c1, c2, c3⟩ := hc c (by simp)
    have h1 : ∀ j, -(B + 20) ≤ getI (tlyCall p t c).tugs j ∧ getI (tlyCall p t c).tugs j ≤ B + 20 := by
      rw [tlyCall, hit_tugs]
      refine getI_setI_bd c1 (fun j => by have := h j; omega) ?_
      have := h c.hour
      omega
    have := tly_bd p l (tlyCall p t c) (B + 20) h1 (fun x hx => hc x (by simp [hx])) j
    rw [List.foldl_cons, List.length_cons]
    omega
theorem swp_bd : ∀ (l : List Swp) (t : List Int) (B : Int), (∀ j, -B ≤ getI t j ∧ getI t j ≤ B) → (∀ s ∈ l, 0 ≤ s.hour ∧ 0 ≤ s.tugs ∧ s.tugs ≤ 20) →
    ∀ j, -(B + 20 * l.length) ≤ getI (l.foldl addSwp t) j ∧ getI (l.foldl addSwp t) j ≤ B + 20 * l.length
  | [], t, B, h, _, j => by simpa using h j
  | c :: l, t, B, h, hc, j => by
    obtain ⟨c1, c2, c3⟩ := hc c (by simp)
    have h1 : ∀ j, -(B + 20) ≤ getI (addSwp t c) j ∧ getI (addSwp t c) j ≤ B + 20 := by
      refine getI_setI_bd c1 (fun j => by have := h j; omega) ?_
      have := h c.hour
      omega
    have := swp_bd l (addSwp t c) (B + 20) h1 (fun x hx => hc x (by simp [hx])) j
    rw [List.foldl_cons, List.length_cons]
    omega
theorem tly0_get (H : Nat) (j : Int) : getI (tly0 H).tugs j = 0 := by
  unfold getI tly0
  simp only [List.getD_eq_getElem?_getD, List.getElem?_replicate]
  split <;> rfl
end Go.Proofs.Ythmldeningpjbaa.Pt
/- Plain law of layer 9: ports that Made makes, plans that Planned makes. No program is named here. -/
namespace Go.Proofs.Ythmldeningpjbaa.Pt
open Sp

def MdPath (n : Nat) (l : List Int) : Prop := (∃ a, l = [a] ∧ 0 ≤ a ∧ a < n) ∨ ∃ a b, l = [a, b] ∧ a ≠ b ∧ 0 ≤ a ∧ a < n ∧ 0 ≤ b ∧ b < n
structure MdP (p : Prt) : Prop where
  tg : 1 ≤ p.tugs ∧ p.tugs ≤ 6
  nc : 1 ≤ p.chs.length ∧ p.chs.length ≤ 3
  nb : 1 ≤ p.bts.length ∧ p.bts.length ≤ 3
  chf : ∀ c ∈ p.chs, 0 ≤ c.grow ∧ c.grow < 30 ∧ 0 ≤ c.frost ∧ c.frost < 4 ∧ 1 ≤ c.clear ∧ c.clear ≤ 40
  btf : ∀ b ∈ p.bts, 300 ≤ b.depth ∧ b.depth ≤ 1065 ∧ MdPath p.chs.length b.path
theorem MdPath.ok {n : Nat} {l : List Int} (h : MdPath n l) : l ≠ [] ∧ l.Nodup ∧ (∀ x ∈ l, 0 ≤ x ∧ x < n) ∧ pathOk n l l.length = true ∧ l.length ≤ 2 := by
  rcases h with ⟨a, rfl, h0, h1⟩ | ⟨a, b, rfl, hne, h0, h1, h2, h3⟩
  · refine ⟨by simp, by simp, by simp; omega, ?_, by simp⟩
    simp [pathOk, within]; omega
  · refine ⟨by simp, by simpa using hne, by simp; omega, ?_, by simp⟩
    simp [pathOk, within]
    exact ⟨by omega, by omega, fun e => hne e.symm⟩
theorem checkP_md {p : Prt} (h : MdP p) : checkP p = 0 := by
  have h1 : within p.chs.length 1 6 = true := by rw [within_iff]; have := h.nc; omega
  have h2 : within p.bts.length 1 4 = true := by rw [within_iff]; have := h.nb; omega
  have h3 : within p.tugs 0 20 = true := by rw [within_iff]; have := h.tg; omega
  have h4 : p.chs.all Pt.chOk = true := List.all_eq_true.2 fun c hc => by
    have := h.chf c hc
    unfold Pt.chOk
    simp only [Bool.and_eq_true, within_iff]; omega
  have h5 : p.bts.all (btOk p.chs.length) = true := List.all_eq_true.2 fun b hb => by
    obtain ⟨a1, a2, a3⟩ := h.btf b hb
    obtain ⟨q1, q2, q3, q4, q5⟩ := a3.ok
    unfold btOk
    simp only [Bool.and_eq_true, within_iff, q4, and_true, Bool.not_eq_true', decide_eq_false_iff_not]
    exact ⟨by omega, by simpa using q1⟩
  unfold checkP
  rw [h1, h2, h3, h4, h5]; rfl

/-- tugs in an hour -/
def tgC (h : Int) : List Cal → Int
  | [] => 0
  | c :: l => (if c.hour = h then c.tugs else 0) + tgC h l
def tgS (h : Int) : List Swp → Int
  | [] => 0
  | c :: l => (if c.hour = h then c.tugs else 0) + tgS h l
theorem tgC_snoc (h : Int) (l : List Cal) (c : Cal) : tgC h (l ++ [c]) = tgC h l + (if c.hour = h then c.tugs else 0) := by
  induction l with
  | nil => simp [tgC]
  | cons x l ih => rw [List.cons_append, tgC, tgC, ih]; omega
theorem tgS_snoc (h : Int) (l : List Swp) (c : Swp) : tgS h (l ++ [c]) = tgS h l + (if c.hour = h then c.tugs else 0) := by
  induction l with
  | nil => simp [tgS]
  | cons x l ih => rw [List.cons_append, tgS, tgS, ih]; omega
theorem tly_get {p : Prt} {h : Int} (h0 : 0 ≤ h) : ∀ {l : List Cal} {t : Tly}, (∀ c ∈ l, 0 ≤ c.hour ∧ c.hour < t.tugs.length) → getI (l.foldl (tlyCall p) t).tugs h = getI t.tugs h + tgC h l ∧ (l.foldl (tlyCall p) t).tugs.length = t.tugs.length
  | [], t, _ => ⟨by simp [tgC], rfl⟩
  | c :: l, t, hc => by
    obtain ⟨c1, c2⟩ := hc c (by simp)
    have e : (tlyCall p t c).tugs = setI t.tugs c.hour (getI t.tugs c.hour + c.tugs) := by rw [tlyCall, hit_tugs]
    have el : (tlyCall p t c).tugs.length = t.tugs.length := by rw [e, setI_length]
    obtain ⟨i1, i2⟩ := tly_get (p := p) h0 (l := l) (t := tlyCall p t c) (fun x hx => by rw [el]; exact hc x (by simp [hx]))
    rw [List.foldl_cons, i1, i2, el, e, getI_set c1 h0 c2, tgC]
    refine ⟨?_, rfl⟩
    by_cases q : c.hour = h
    · subst q; simp; omega
    · rw [if_neg q, if_neg q]; omega
theorem swp_get {h : Int} (h0 : 0 ≤ h) : ∀ {l : List Swp} {t : List Int}, (∀ c ∈ l, 0 ≤ c.hour ∧ c.hour < t.length) → getI (l.foldl addSwp t) h = getI t h + tgS h l
  | [], t, _ => by simp [tgS]
  | c :: l, t, hc => by
    obtain ⟨c1, c2⟩ := hc c (by simp)
    have el : (addSwp t c).length = t.length := setI_length _ _ _
    have i1 := swp_get h0 (l := l) (t := addSwp t c) (fun x hx => by rw [el]; exact hc x (by simp [hx]))
    rw [List.foldl_cons, i1, addSwp, getI_set c1 h0 c2, tgS]
    by_cases q : c.hour = h
    · subst q; simp; omega
    · rw [if_neg q, if_neg q]; omega
theorem set_false {l : List Bool} {k : Nat} (h : ∀ j, l.getD j false = false) (j : Nat) : (l.set k false).getD j false = false := by
  have := h j
  simp only [List.getD_eq_getElem?_getD, List.getElem?_set] at *
  split
  · split <;> rfl
  · exact this
theorem hit_ok {h : Int} : ∀ {l : List Int} {t : Tly}, l.Nodup → (∀ n ∈ l, (h, n) ∉ t.hits) → (∀ k, t.twice.getD k false = false) →
    (∀ k, (l.foldl (hit1 h) t).twice.getD k false = false) ∧ ∀ x ∈ (l.foldl (hit1 h) t).hits, x ∈ t.hits ∨ x.1 = h
  | [], t, _, _, ht => ⟨ht, fun x hx => .inl hx⟩
  | n :: l, t, hn, hh, ht => by
    obtain ⟨n1, n2⟩ := List.nodup_cons.1 hn
    have e0 : t.hits.count (h, n) = 0 := List.count_eq_zero.2 (hh n (by simp))
    have e1 : hit1 h t n = ⟨t.tugs, t.twice.set h.toNat false, (h, n) :: t.hits⟩ := by unfold hit1; rw [e0, ht]; rfl
    rw [List.foldl_cons, e1]
    obtain ⟨i1, i2⟩ := hit_ok (h := h) (l := l) (t := ⟨t.tugs, t.twice.set h.toNat false, (h, n) :: t.hits⟩) n2 (fun m hm => by
      simp only [List.mem_cons, Prod.mk.injEq, true_and, not_or]
      exact ⟨fun e => n1 (e ▸ hm), hh m (by simp [hm])⟩) (fun k => set_false ht k)
    refine ⟨i1, fun x hx => ?_⟩
    rcases i2 x hx with e | e
    · rcases List.mem_cons.1 e with rfl | e
      · exact .inr rfl
      · exact .inl e
    · exact .inr e
theorem tly_twice {p : Prt} : ∀ {l : List Cal} {t : Tly}, (∀ c ∈ l, (bt p c.berth).path.Nodup) → l.Pairwise (fun a b => a.hour < b.hour) → (∀ c ∈ l, ∀ x ∈ t.hits, x.1 < c.hour) → (∀ k, t.twice.getD k false = false) →
    ∀ k, (l.foldl (tlyCall p) t).twice.getD k false = false
  | [], t, _, _, _, ht => ht
  | c :: l, t, hn, hs, hh, ht => by
    obtain ⟨s1, s2⟩ := List.pairwise_cons.1 hs
    have h1 := hit_ok (h := c.hour) (l := (bt p c.berth).path) (t := ⟨setI t.tugs c.hour (getI t.tugs c.hour + c.tugs), t.twice, t.hits⟩) (hn c (by simp)) (fun n _ hm => by have := hh c (by simp) _ hm; simp at this) ht
    rw [List.foldl_cons]
    refine tly_twice (fun x hx => hn x (by simp [hx])) s2 (fun x hx y hy => ?_) h1.1
    rcases h1.2 y hy with e | e
    · exact hh x (by simp [hx]) y e
    · rw [e]; exact s1 x hx
theorem finE_ok {tg : Int} {ts : List Int} {tw : List Bool} : ∀ {n k : Nat}, (∀ j, k ≤ j → j < k + n → tw.getD j false = false ∧ ts.getD j 0 ≤ tg) → finE tg ts tw k n = 0
  | 0, _, _ => rfl
  | n + 1, k, h => by
    obtain ⟨h1, h2⟩ := h k (Nat.le_refl _) (by omega)
    rw [finE, h1, if_neg (by simp), if_neg (by omega)]
    exact finE_ok fun j hj1 hj2 => h j (by omega) (by omega)
theorem callsE_of {p : Prt} {h : Int} : ∀ {l : List Cal} {f : Int}, (∀ c ∈ l, callE p h c c.hour = 0 ∧ f ≤ c.hour) → l.Pairwise (fun a b => a.hour ≤ b.hour) → callsE p h f l = 0
  | [], _, _, _ => rfl
  | c :: l, f, hc, hs => by
    obtain ⟨s1, s2⟩ := List.pairwise_cons.1 hs
    obtain ⟨c1, c2⟩ := hc c (by simp)
    have e : callE p h c f = 0 := by
      unfold callE at c1 ⊢
      split at c1
      · cases c1
      split at c1
      · cases c1
      split at c1
      · cases c1
      rename_i h1 h2 h3
      rw [if_neg h1, if_neg h2, if_neg h3, if_neg (by omega)]
    rw [callsE, if_neg (by simp [e])]
    exact callsE_of (fun x hx => ⟨(hc x (by simp [hx])).1, s1 x hx⟩) s2
theorem swpsE_of {p : Prt} {h : Int} : ∀ {l : List Swp}, (∀ s ∈ l, swpE p h s = 0) → swpsE p h l = 0
  | [], _ => rfl
  | c :: l, hc => by
    rw [swpsE, if_neg (by simp [hc c (by simp)])]
    exact swpsE_of fun x hx => hc x (by simp [hx])

/-- calls that go in and out in turns -/
def outsOk : List Cal → List Bool → Prop
  | [], _ => True
  | c :: l, b => b.getD c.berth.toNat false = c.out ∧ outsOk l (b.set c.berth.toNat (!c.out))
def outsAft : List Cal → List Bool → List Bool
  | [], b => b
  | c :: l, b => outsAft l (b.set c.berth.toNat (!c.out))
theorem outsAft_append : ∀ (a c : List Cal) (b : List Bool), outsAft (a ++ c) b = outsAft c (outsAft a b)
  | [], _, _ => rfl
  | x :: a, c, b => by rw [List.cons_append, outsAft, outsAft, outsAft_append]
theorem outsOk_append : ∀ (a c : List Cal) (b : List Bool), outsOk (a ++ c) b ↔ outsOk a b ∧ outsOk c (outsAft a b)
  | [], _, _ => by simp [outsOk, outsAft]
  | x :: a, c, b => by rw [List.cons_append, outsOk, outsOk, outsAft, outsOk_append, and_assoc]
theorem outsAft_length : ∀ (a : List Cal) (b : List Bool), (outsAft a b).length = b.length
  | [], _ => rfl
  | x :: a, b => by rw [outsAft, outsAft_length, List.length_set]
theorem bOk_outs (h : Int) : ∀ (l : List Cal) (b : List Bool), (bOk h l b ↔ outsOk (l.filter fun c => decide (c.hour = h)) b) ∧ bAft h l b = outsAft (l.filter fun c => decide (c.hour = h)) b
  | [], b => ⟨Iff.rfl, rfl⟩
  | c :: l, b => by
    by_cases q : c.hour = h
    · rw [List.filter_cons_of_pos (by simpa using q), bOk, if_neg (by simpa using q), bAft, if_neg (by simpa using q), outsOk, outsAft, (bOk_outs h l _).1, (bOk_outs h l _).2]
      exact ⟨Iff.rfl, rfl⟩
    · rw [List.filter_cons_of_neg (by simpa using q), bOk, if_pos q, bAft, if_pos q]
      exact bOk_outs h l b
theorem hours_split (k n : Int) (hn : 0 ≤ n) : ∀ {l : List Cal}, l.Pairwise (fun a b => a.hour ≤ b.hour) →
    l.filter (fun c => decide (k ≤ c.hour) && decide (c.hour < k + (n + 1))) = l.filter (fun c => decide (c.hour = k)) ++ l.filter (fun c => decide (k + 1 ≤ c.hour) && decide (c.hour < k + 1 + n))
  | [], _ => rfl
  | c :: l, hs => by
    obtain ⟨s1, s2⟩ := List.pairwise_cons.1 hs
    have ih := hours_split k n hn s2
    by_cases q : c.hour = k
    · rw [List.filter_cons_of_pos (by simp; omega), List.filter_cons_of_pos (by simpa using q), List.filter_cons_of_neg (by simp; omega), ih]; rfl
    · by_cases q2 : k + 1 ≤ c.hour ∧ c.hour < k + 1 + n
      · have e : l.filter (fun c => decide (c.hour = k)) = [] := List.filter_eq_nil_iff.2 fun x hx => by have := s1 x hx; simp; omega
        rw [List.filter_cons_of_pos (by simp; omega), List.filter_cons_of_neg (by simpa using q), List.filter_cons_of_pos (by simp; omega), ih, e]; rfl
      · rw [List.filter_cons_of_neg (by simp; omega), List.filter_cons_of_neg (by simpa using q), List.filter_cons_of_neg (by simp; omega), ih]
theorem bOkF_outs {l : Pln} (hs : l.calls.Pairwise (fun a b => a.hour ≤ b.hour)) : ∀ (n k : Nat) (b : List Bool),
    (bOkF l k n b ↔ outsOk (l.calls.filter fun c => decide ((k : Int) ≤ c.hour) && decide (c.hour < (k : Int) + n)) b) ∧ bAftF l k n b = outsAft (l.calls.filter fun c => decide ((k : Int) ≤ c.hour) && decide (c.hour < (k : Int) + n)) b
  | 0, k, b => by
    have e : l.calls.filter (fun c => decide ((k : Int) ≤ c.hour) && decide (c.hour < (k : Int) + (0 : Nat))) = [] := List.filter_eq_nil_iff.2 fun x hx => by simp <;> omega
    rw [e]; exact ⟨Iff.rfl, rfl⟩
  | n + 1, k, b => by
    have e := hours_split k n (by omega) hs
    obtain ⟨b1, b2⟩ := bOk_outs k l.calls b
    obtain ⟨i1, i2⟩ := bOkF_outs hs n (k + 1) (bAft k l.calls b)
    rw [bOkF, bAftF, b1, i1, i2]
    simp only [Int.natCast_add, Int.natCast_one] at e ⊢
    rw [e, outsOk_append, outsAft_append, ← b2]
    exact ⟨Iff.rfl, rfl⟩
theorem busy_outs {l : Pln} (hs : l.calls.Pairwise (fun a b => a.hour ≤ b.hour)) (hh : ∀ c ∈ l.calls, 0 ≤ c.hour ∧ c.hour < l.hours) (b : List Bool) : (busyOk l b ↔ outsOk l.calls b) ∧ busyAft l b = outsAft l.calls b := by
  have h := bOkF_outs hs l.hours.toNat 0 b
  have e : l.calls.filter (fun c => decide (((0 : Nat) : Int) ≤ c.hour) && decide (c.hour < ((0 : Nat) : Int) + l.hours.toNat)) = l.calls := List.filter_eq_self.2 fun x hx => by
    have := hh x hx
    simp; omega
  rw [e] at h
  exact h

/-- a plan that Planned makes -/
structure MdL (p : Prt) (l : Pln) : Prop where
  h : 4 ≤ l.hours ∧ l.hours ≤ 43
  n1 : l.calls.length ≤ 8
  n2 : l.swps.length ≤ 11
  ca : ∀ c ∈ l.calls, 0 ≤ c.hour ∧ c.hour < l.hours ∧ 0 ≤ c.berth ∧ c.berth < p.bts.length ∧ 10 ≤ c.draught ∧ c.draught < 210 ∧ 10 ≤ c.most ∧ c.most < 130 ∧ 0 ≤ c.tugs ∧ c.tugs ≤ 3
  srt : l.calls.Pairwise (fun a b => a.hour < b.hour)
  out : outsOk l.calls (List.replicate p.bts.length false)
  sw : ∀ s ∈ l.swps, 0 ≤ s.channel ∧ s.channel < p.chs.length ∧ 1 ≤ s.tugs ∧ s.tugs ≤ 6 ∧ 0 ≤ s.hour ∧ s.hour < l.hours
  tg : ∀ h, tgC h l.calls + tgS h l.swps ≤ p.tugs
theorem MdL.checkL {p : Prt} {l : Pln} (hp : MdP p) (hl : MdL p l) : checkL p l = 0 := by
  have h1 := checkP_md hp
  have h2 : within l.hours 1 100 = true := by rw [within_iff]; have := hl.h; omega
  have h3 : callsE p l.hours 0 l.calls = 0 := callsE_of (fun c hc => by
    obtain ⟨c1, c2, c3, c4, c5, c6, c7, c8, c9, c10⟩ := hl.ca c hc
    refine ⟨?_, c1⟩
    have hd := (hp.btf _ (bt_mem c3 c4)).1
    unfold callE
    rw [if_neg (by simp only [Bool.not_eq_false, Bool.and_eq_true, within_iff]; omega), if_neg (by simp only [Bool.not_eq_false, within_iff]; omega), if_neg (by simp only [Bool.not_eq_false, within_iff]; omega), if_neg (by omega)]) (hl.srt.imp fun h => by omega)
  have h4 : swpsE p l.hours l.swps = 0 := swpsE_of fun s hs => by
    have := hl.sw s hs
    unfold swpE
    rw [if_neg (by simp only [Bool.not_eq_false, Bool.and_eq_true, within_iff]; omega), if_neg (by simp only [Bool.not_eq_false, within_iff]; omega)]
  have n1 := hl.n1
  have n2 := hl.n2
  have hh := hl.h
  unfold Pt.checkL
  rw [if_neg (by simp [h1]), if_neg (by omega), if_neg (by simp [h2]), if_neg (by simp [h3]), if_neg (by simp [h4])]
  have ht : (tly0 l.hours.toNat).tugs.length = l.hours.toNat := by simp [tly0]
  refine finE_ok fun j _ hj => ⟨?_, ?_⟩
  · refine tly_twice (fun c hc => ?_) hl.srt (fun c hc x hx => ?_) (fun k => ?_) j
    · obtain ⟨c1, c2, c3, c4, _⟩ := hl.ca c hc
      exact (hp.btf _ (bt_mem c3 c4)).2.2.ok.2.1
    · simp [tly0] at hx
    · simp only [tly0, List.getD_eq_getElem?_getD, List.getElem?_replicate]; split <;> rfl
  · have g1 := tly_get (p := p) (h := j) (by omega) (l := l.calls) (t := tly0 l.hours.toNat) (fun c hc => by have := hl.ca c hc; rw [ht]; omega)
    have g2 := swp_get (h := j) (by omega) (l := l.swps) (t := (tlyCalls p l.hours.toNat l.calls).tugs) (fun s hs => by unfold tlyCalls; rw [g1.2, ht]; have := hl.sw s hs; omega)
    have g3 := hl.tg j
    have e : (l.swps.foldl addSwp (tlyCalls p l.hours.toNat l.calls).tugs).getD j 0 = getI (l.swps.foldl addSwp (tlyCalls p l.hours.toNat l.calls).tugs) j := by unfold getI; simp
    rw [e, g2]
    unfold tlyCalls
    rw [g1.1, tly0_get]
    omega
theorem MdL.busy {p : Prt} {l : Pln} (hl : MdL p l) : busyOk l (List.replicate p.bts.length false) ∧ busyAft l (List.replicate p.bts.length false) = outsAft l.calls (List.replicate p.bts.length false) := by
  have h := busy_outs (l := l) (hl.srt.imp fun h => by omega) (fun c hc => by have := hl.ca c hc; omega) (List.replicate p.bts.length false)
  exact ⟨h.1.2 hl.out, h.2⟩
end Go.Proofs.Ythmldeningpjbaa.Pt
/- What the functions of layer 8 compute, further. -/
namespace Go.Proofs.Ythmldeningpjbaa.Sp

/-- what the window keeps behind the first k numbers -/
def dq (wide : Int) (gr : Bool) (xs : List Int) : Nat → List (Int × Int)
  | 0 => []
  | k + 1 => pushD wide (k : Int) gr (dq wide gr xs k) (xs.getD k 0)

def slideN (wide : Int) (gr : Bool) (xs : List Int) (n : Nat) : List Int := (List.range n).map fun k => headV (dq wide gr xs (k + 1))
/-- the least (or greatest) of the last numbers, at each number -/
def slide (wide : Int) (gr : Bool) (xs : List Int) : List Int := slideN wide gr xs xs.length

theorem slideN_succ (wide : Int) (gr : Bool) (xs : List Int) (n : Nat) : slideN wide gr xs (n + 1) = slideN wide gr xs n ++ [headV (dq wide gr xs (n + 1))] := by
  simp [slideN, List.range_succ]
theorem pushD_length (wide at_ : Int) (gr : Bool) (D : List (Int × Int)) (x : Int) : (pushD wide at_ gr D x).length ≤ D.length + 1 := by
  simp only [pushD]
  split <;> simp <;> omega
theorem dq_length (wide : Int) (gr : Bool) (xs : List Int) (k : Nat) : (dq wide gr xs k).length ≤ k := by
  induction k with
  | zero => exact Nat.le_refl _
  | succ k ih => exact Nat.le_trans (pushD_length _ _ _ _ _) (by omega)

theorem slide_length (wide : Int) (gr : Bool) (xs : List Int) : (slide wide gr xs).length = xs.length := by simp [slide, slideN]

def ups (p : Pol) : List Int := p.steps.map (·.up)
def dns (p : Pol) : List Int := p.steps.map (·.dn)

/-- the first k of the numbers f, then those of l -/
def mixN (f : Nat → Int) (l : List Int) (k : Nat) : List Int := (List.range l.length).map fun i => if i < k then f i else l.getD i 0

theorem mixN_length (f : Nat → Int) (l : List Int) (k : Nat) : (mixN f l k).length = l.length := by simp [mixN]
theorem mixN_zero (f : Nat → Int) (l : List Int) : mixN f l 0 = l := by
  apply List.ext_getElem
  · simp [mixN]
  · intro i h1 h2
    simp [mixN, h2]
theorem mixN_set (f : Nat → Int) (l : List Int) (k : Nat) : (mixN f l k).set k (f k) = mixN f l (k + 1) := by
  apply List.ext_getElem
  · simp [mixN]
  · intro i h1 h2
    have hi : i < l.length := by simpa [mixN] using h2
    rw [List.getElem_set]
    by_cases hik : k = i
    · subst hik; simp [mixN]
    · rw [if_neg hik]
      simp only [mixN, List.getElem_map, List.getElem_range]
      by_cases h3 : i < k
      · rw [if_pos h3, if_pos (by omega)]
      · rw [if_neg h3, if_neg (by omega)]
theorem mixN_get (f : Nat → Int) (l : List Int) (k : Nat) (hk : k < l.length) : (mixN f l k).getD k 0 = l.getD k 0 := by
  simp [mixN, hk]
theorem mixN_all (f : Nat → Int) (l : List Int) : mixN f l l.length = (List.range l.length).map f := by
  unfold mixN
  apply List.map_congr_left
  intro i hi
  rw [if_pos (by simpa using hi)]

/-- the step that each day raises to, the step that each day keeps -/
def raisedAt (p : Pol) (sl : List Int) (i : Nat) : Int := upTo (ups p) (if (i : Int) + 1 < p.hold then 0 else sl.getD i 0)
def raisedS (p : Pol) (days : List Int) : List Int := (List.range days.length).map (raisedAt p (slide p.hold false days))
def keptAt (p : Pol) (sl : List Int) (i : Nat) : Int := upTo (dns p) (sl.getD i 0)
def keptS (p : Pol) (days : List Int) : List Int := (List.range days.length).map (keptAt p (slide p.calm true days))

/-- the step that is decided behind the first k days -/
def decN (up kp : List Int) : Nat → Int
  | 0 => 0
  | k + 1 => max (up.getD k 0) (min (kp.getD k 0) (decN up kp k))
def decL (up kp : List Int) (n : Nat) : List Int := (List.range n).map fun k => decN up kp (k + 1)
theorem decL_succ (up kp : List Int) (n : Nat) : decL up kp (n + 1) = decL up kp n ++ [decN up kp (n + 1)] := by simp [decL, List.range_succ]
def decidedS (p : Pol) (days : List Int) : List Int := decL (raisedS p days) (keptS p days) days.length
/-- the step in force on each day -/
def forceS (p : Pol) (days : List Int) : List Int := (slide (p.notice + 1) false (List.replicate p.notice.toNat 0 ++ decidedS p days)).drop p.notice.toNat

theorem raisedS_length (p : Pol) (days : List Int) : (raisedS p days).length = days.length := by simp [raisedS]
theorem keptS_length (p : Pol) (days : List Int) : (keptS p days).length = days.length := by simp [keptS]
theorem decidedS_length (p : Pol) (days : List Int) : (decidedS p days).length = days.length := by simp [decidedS, decL]
theorem forceS_length (p : Pol) (days : List Int) : (forceS p days).length = days.length := by
  simp [forceS, slide_length, decidedS_length]

end Go.Proofs.Ythmldeningpjbaa.Sp
/- What a window yields: the least (or greatest) of the last numbers. No program is named here. -/
namespace Go.Proofs.Ythmldeningpjbaa.Sp

/-- a comes first, or is as good as b -/
def lead (gr : Bool) (a b : Int) : Prop := if gr then b ≤ a else a ≤ b
theorem lead_trans {gr : Bool} {a b c : Int} (h : lead gr a b) (k : lead gr b c) : lead gr a c := by
  unfold lead at *; cases gr <;> simp at * <;> omega
theorem lead_refl (gr : Bool) (a : Int) : lead gr a a := by unfold lead; cases gr <;> simp
theorem drop_iff {gr : Bool} {v x : Int} : (((v == x) || (decide (x < v) != gr)) = true) ↔ lead gr x v := by
  unfold lead; cases gr <;> simp <;> omega
theorem drop_not {gr : Bool} {v x : Int} (h : ¬ (((v == x) || (decide (x < v) != gr)) = true)) : lead gr v x := by
  unfold lead; cases gr <;> simp at * <;> omega

theorem popLen_le (gr : Bool) (x : Int) (V : List Int) : ∀ k, popLen gr x V k ≤ k
  | 0 => Nat.le_refl _
  | k + 1 => by
    unfold popLen; split
    · have := popLen_le gr x V k; omega
    · omega
theorem popLen_dropped (gr : Bool) (x : Int) (V : List Int) : ∀ k j, popLen gr x V k ≤ j → j < k → lead gr x (V.getD j 0)
  | 0, j, _, h => absurd h (by omega)
  | k + 1, j, h, hj => by
    unfold popLen at h
    split at h
    · rename_i hc
      by_cases e : j = k
      · subst e; exact drop_iff.1 hc
      · exact popLen_dropped gr x V k j h (by omega)
    · omega
theorem popLen_last (gr : Bool) (x : Int) (V : List Int) : ∀ k m, popLen gr x V k = m + 1 → lead gr (V.getD m 0) x
  | 0, m, h => by simp [popLen] at h
  | k + 1, m, h => by
    unfold popLen at h
    split at h
    · exact popLen_last gr x V k m h
    · rename_i hc
      obtain rfl : k = m := by omega
      exact drop_not hc

/-- what a window keeps behind n numbers -/
structure WInv (wide : Int) (gr : Bool) (xs : List Int) (n : Nat) (D : List (Int × Int)) : Prop where
  at_ : ∀ e ∈ D, ∃ i : Nat, e.2 = i ∧ i < n ∧ (n : Int) - wide ≤ i ∧ e.1 = xs.getD i 0
  sorted : D.Pairwise fun a b => a.2 < b.2 ∧ lead gr a.1 b.1
  all : ∀ j : Nat, j < n → (n : Int) - wide ≤ j → ∃ e ∈ D, (j : Int) ≤ e.2 ∧ lead gr e.1 (xs.getD j 0)

theorem wInv_push {wide : Int} {gr : Bool} {xs : List Int} {n : Nat} {D : List (Int × Int)} (hw : 1 ≤ wide) (h : WInv wide gr xs n D) : WInv wide gr xs (n + 1) (pushD wide n gr D (xs.getD n 0)) := by
  obtain ⟨x, hx⟩ : ∃ x, x = xs.getD n 0 := ⟨_, rfl⟩
  rw [← hx]
  obtain ⟨m, hm⟩ : ∃ m, m = popLen gr x (D.map (·.1)) D.length := ⟨_, rfl⟩
  have hml : m ≤ D.length := by rw [hm]; exact popLen_le _ _ _ _
  have hV : ∀ i, (hi : i < D.length) → (D.map (·.1)).getD i 0 = (D[i]).1 := fun i hi => by simp [hi]
  -- before the first one is struck
  obtain ⟨D1, hD1⟩ : ∃ D1, D1 = D.take m ++ [(x, (n : Int))] := ⟨_, rfl⟩
  have hlead : ∀ e ∈ D.take m, lead gr e.1 x := by
    intro e he
    obtain ⟨i, hi, rfl⟩ := List.mem_iff_getElem.1 he
    have hi' : i < m ∧ i < D.length := by rw [List.length_take] at hi; omega
    rw [List.getElem_take]
    obtain ⟨m', rfl⟩ : ∃ m', m = m' + 1 := ⟨m - 1, by omega⟩
    have h1 := popLen_last gr x (D.map (·.1)) D.length m' hm.symm
    rw [hV m' (by omega)] at h1
    by_cases e : i = m'
    · subst e; exact h1
    · exact lead_trans ((List.pairwise_iff_getElem.1 h.sorted) i m' hi'.2 (by omega) (by omega)).2 h1
  have hs1 : D1.Pairwise fun a b => a.2 < b.2 ∧ lead gr a.1 b.1 := by
    rw [hD1, List.pairwise_append]
    refine ⟨h.sorted.sublist (List.take_sublist _ _), by simp, fun a ha b hb => ?_⟩
    obtain rfl : b = (x, (n : Int)) := by simpa using hb
    obtain ⟨i, h1, h2, _⟩ := h.at_ a (List.mem_of_mem_take ha)
    exact ⟨by rw [h1]; exact Int.ofNat_lt.2 h2, hlead a ha⟩
  have ha1 : ∀ e ∈ D1, ∃ i : Nat, e.2 = i ∧ i < n + 1 ∧ (n : Int) - wide ≤ i ∧ e.1 = xs.getD i 0 := by
    intro e he
    rw [hD1] at he
    rcases List.mem_append.1 he with he | he
    · obtain ⟨i, h1, h2, h3, h4⟩ := h.at_ e (List.mem_of_mem_take he)
      exact ⟨i, h1, by omega, h3, h4⟩
    · obtain rfl : e = (x, (n : Int)) := by simpa using he
      exact ⟨n, rfl, by omega, by omega, hx⟩
  have hl1 : ∀ j : Nat, j < n + 1 → (n : Int) + 1 - wide ≤ j → ∃ e ∈ D1, (j : Int) ≤ e.2 ∧ lead gr e.1 (xs.getD j 0) := by
    intro j hj hw'
    by_cases e : j = n
    · subst e
      exact ⟨(x, (j : Int)), by rw [hD1]; simp, Int.le_refl _, by rw [hx]; exact lead_refl _ _⟩
    · obtain ⟨e, he, h1, h2⟩ := h.all j (by omega) (by omega)
      obtain ⟨i, hi, rfl⟩ := List.mem_iff_getElem.1 he
      by_cases him : i < m
      · refine ⟨D[i], ?_, h1, h2⟩
        rw [hD1]
        refine List.mem_append.2 (.inl ?_)
        exact List.mem_iff_getElem.2 ⟨i, by rw [List.length_take]; omega, by simp⟩
      · refine ⟨(x, (n : Int)), by rw [hD1]; simp, by simp; omega, lead_trans ?_ h2⟩
        have := popLen_dropped gr x (D.map (·.1)) D.length i (by omega) hi
        rwa [hV i hi] at this
  have hne : D1 ≠ [] := by rw [hD1]; simp
  have hp : pushD wide n gr D x = if (D1.headD (0, 0)).2 ≤ (n : Int) - wide then D1.tail else D1 := by
    rw [hD1, hm]; rfl
  rw [hp]
  obtain ⟨a, t, hat⟩ := List.exists_cons_of_ne_nil hne
  have hp2 : (if (D1.headD (0, 0)).2 ≤ (n : Int) - wide then D1.tail else D1) = if a.2 ≤ (n : Int) - wide then t else a :: t := by rw [hat]; rfl
  rw [hp2]
  rw [hat] at hs1 ha1 hl1
  by_cases hc : a.2 ≤ (n : Int) - wide
  · rw [if_pos hc]
    refine ⟨fun e he => ?_, (List.pairwise_cons.1 hs1).2, fun j hj hw' => ?_⟩
    · obtain ⟨i, h1, h2, h3, h4⟩ := ha1 e (by simp [he])
      have h5 := ((List.pairwise_cons.1 hs1).1 e he).1
      obtain ⟨i', g1, g2, g3, g4⟩ := ha1 a (by simp)
      exact ⟨i, h1, h2, by rw [h1, g1] at h5; omega, h4⟩
    · obtain ⟨e, he, h1, h2⟩ := hl1 j hj (by omega)
      rcases List.mem_cons.1 he with rfl | he
      · omega
      · exact ⟨e, he, h1, h2⟩
  · rw [if_neg hc]
    refine ⟨fun e he => ?_, hs1, fun j hj hw' => hl1 j hj (by omega)⟩
    obtain ⟨i, h1, h2, h3, h4⟩ := ha1 e he
    refine ⟨i, h1, h2, ?_, h4⟩
    rcases List.mem_cons.1 he with rfl | he
    · rw [h1] at hc; omega
    · have h5 := ((List.pairwise_cons.1 hs1).1 e he).1
      rw [h1] at h5; omega

theorem wInv_dq {wide : Int} (hw : 1 ≤ wide) (gr : Bool) (xs : List Int) : ∀ n, WInv wide gr xs n (dq wide gr xs n)
  | 0 => ⟨by simp [dq], by simp [dq], fun j h => absurd h (by omega)⟩
  | n + 1 => wInv_push hw (wInv_dq hw gr xs n)

theorem slide_get (wide : Int) (gr : Bool) (xs : List Int) {k : Nat} (hk : k < xs.length) : (slide wide gr xs).getD k 0 = headV (dq wide gr xs (k + 1)) := by
  simp [slide, slideN, hk]

theorem slide_is {wide : Int} (hw : 1 ≤ wide) (gr : Bool) (xs : List Int) {k : Nat} (hk : k < xs.length) : ∃ j : Nat, j ≤ k ∧ (k : Int) + 1 - wide ≤ j ∧ (slide wide gr xs).getD k 0 = xs.getD j 0 := by
  have h := wInv_dq hw gr xs (k + 1)
  rw [slide_get wide gr xs hk]
  obtain ⟨e, he, _⟩ := h.all k (by omega) (by omega)
  obtain ⟨a, t, hat⟩ := List.exists_cons_of_ne_nil (List.ne_nil_of_mem he)
  obtain ⟨i, h1, h2, h3, h4⟩ := h.at_ a (by rw [hat]; simp)
  exact ⟨i, by omega, by omega, by rw [hat]; exact h4⟩
theorem slide_leads {wide : Int} (hw : 1 ≤ wide) (gr : Bool) (xs : List Int) {k : Nat} (hk : k < xs.length) {j : Nat} (hj : j ≤ k) (hj' : (k : Int) + 1 - wide ≤ j) : lead gr ((slide wide gr xs).getD k 0) (xs.getD j 0) := by
  have h := wInv_dq hw gr xs (k + 1)
  rw [slide_get wide gr xs hk]
  obtain ⟨e, he, _, h2⟩ := h.all j (by omega) (by omega)
  obtain ⟨a, t, hat⟩ := List.exists_cons_of_ne_nil (List.ne_nil_of_mem he)
  have hs := h.sorted
  rw [hat] at he hs ⊢
  refine lead_trans ?_ h2
  rcases List.mem_cons.1 he with rfl | he
  · exact lead_refl _ _
  · exact ((List.pairwise_cons.1 hs).1 e he).2
/-- the least of the last numbers -/
theorem slide_least {wide : Int} (hw : 1 ≤ wide) (xs : List Int) {k : Nat} (hk : k < xs.length) {j : Nat} (hj : j ≤ k) (hj' : (k : Int) + 1 - wide ≤ j) : (slide wide false xs).getD k 0 ≤ xs.getD j 0 := by
  simpa [lead] using slide_leads hw false xs hk hj hj'
theorem slide_most {wide : Int} (hw : 1 ≤ wide) (xs : List Int) {k : Nat} (hk : k < xs.length) {j : Nat} (hj : j ≤ k) (hj' : (k : Int) + 1 - wide ≤ j) : xs.getD j 0 ≤ (slide wide true xs).getD k 0 := by
  simpa [lead] using slide_leads hw true xs hk hj hj'
theorem le_slide {wide : Int} (hw : 1 ≤ wide) (xs : List Int) {k : Nat} (hk : k < xs.length) {m : Int} (h : ∀ j : Nat, j ≤ k → (k : Int) + 1 - wide ≤ j → m ≤ xs.getD j 0) : m ≤ (slide wide false xs).getD k 0 := by
  obtain ⟨j, h1, h2, h3⟩ := slide_is hw false xs hk
  rw [h3]; exact h j h1 h2
theorem slide_le {wide : Int} (hw : 1 ≤ wide) (xs : List Int) {k : Nat} (hk : k < xs.length) {m : Int} (h : ∀ j : Nat, j ≤ k → (k : Int) + 1 - wide ≤ j → xs.getD j 0 ≤ m) : (slide wide true xs).getD k 0 ≤ m := by
  obtain ⟨j, h1, h2, h3⟩ := slide_is hw true xs hk
  rw [h3]; exact h j h1 h2
end Go.Proofs.Ythmldeningpjbaa.Sp
/- What the functions of layer 8 compute, further: the errors. -/
namespace Go.Proofs.Ythmldeningpjbaa.Sp

def goodStep (s : Stp) : Bool := within s.cls 0 6 && within s.ton 0 500000 && within s.up 0 2000 && within s.dn 0 s.up
def goodPair (b s : Stp) : Bool := !(decide (s.cls < b.cls) || decide (s.ton < b.ton) || decide (s.up ≤ b.up) || decide (s.dn < b.dn))
def goodAt (l : List Stp) (i : Nat) : Bool := goodStep (l.getD i default) && (i == 0 || goodPair (l.getD (i - 1) default) (l.getD i default))
def stepsOkN (l : List Stp) : Nat → Bool
  | 0 => true
  | k + 1 => stepsOkN l k && goodAt l k
theorem stepsOkN_false {l : List Stp} {k : Nat} (hg : goodAt l k = false) : ∀ {n}, k < n → stepsOkN l n = false
  | 0, h => absurd h (by omega)
  | n + 1, h => by
    unfold stepsOkN
    by_cases hk : k = n
    · subst hk; rw [hg, Bool.and_false]
    · rw [stepsOkN_false hg (by omega : k < n), Bool.false_and]
theorem bnot_false {b : Bool} (h : (!b) = false) : b = true := by simpa using h
theorem bnot_true {b : Bool} (h : (!b) = true) : b = false := by simpa using h
theorem goodStep_mk {s : Stp} (h1 : within s.cls 0 6 = true) (h2 : within s.ton 0 500000 = true) (h3 : within s.up 0 2000 = true) (h4 : within s.dn 0 s.up = true) : goodStep s = true := by simp [goodStep, h1, h2, h3, h4]
theorem goodPair_mk {b s : Stp} (h1 : b.cls ≤ s.cls) (h2 : b.ton ≤ s.ton) (h3 : b.up < s.up) (h4 : b.dn ≤ s.dn) : goodPair b s = true := by simp [goodPair]; omega
theorem goodAt_zero {l : List Stp} {s : Stp} (hs : s = l.getD 0 default) (h : goodStep s = true) : goodAt l 0 = true := by simp only [goodAt]; rw [← hs, h]; rfl
theorem goodAt_succ {l : List Stp} {k : Nat} {s b : Stp} (hs : s = l.getD k default) (hb : b = l.getD (k - 1) default) (h : goodStep s = true) (hp : goodPair b s = true) : goodAt l k = true := by simp only [goodAt]; rw [← hs, ← hb, h, hp]; simp
theorem stepsOkN_succ {l : List Stp} {k : Nat} (h : stepsOkN l k = true) (hg : goodAt l k = true) : stepsOkN l (k + 1) = true := by unfold stepsOkN; rw [h, hg]; rfl
theorem goodAt_bad {l : List Stp} {k : Nat} {s : Stp} (hs : s = l.getD k default) (h : goodStep s = false) : goodAt l k = false := by simp only [goodAt]; rw [← hs, h]; rfl
theorem goodAt_badp {l : List Stp} {k : Nat} {s b : Stp} (hk : k ≠ 0) (hs : s = l.getD k default) (hb : b = l.getD (k - 1) default) (h : goodPair b s = false) : goodAt l k = false := by simp only [goodAt]; rw [← hs, ← hb, h]; simp [hk]
def badGlob (p : Pol) : Bool := !within p.hold 1 30 || !within p.calm 1 30 || !within p.notice 0 30 || !within p.grace 0 60 || !decide (p.steps.headD default = ⟨0, 0, 0, 0⟩)
/-- the error of a policy -/
def checkS (p : Pol) : Int := if !within p.steps.length 1 8 then 2 else if badGlob p then 90 else if stepsOkN p.steps p.steps.length then 0 else 90
theorem check_bad {p : Pol} (hw : within p.steps.length 1 8 = true) (hb : badGlob p = true) : checkS p = 90 := by simp [checkS, hw, hb]
theorem check_not {p : Pol} (hw : within p.steps.length 1 8 = true) {k : Nat} (hk : k < p.steps.length) (hg : goodAt p.steps k = false) : checkS p = 90 := by
  simp only [checkS, hw, stepsOkN_false hg hk]; simp
theorem check_yes {p : Pol} (hw : within p.steps.length 1 8 = true) (hb : badGlob p = false) (hg : stepsOkN p.steps p.steps.length = true) : checkS p = 0 := by simp [checkS, hw, hb, hg]
/-- the error of a policy and a history -/
def startS (p : Pol) (days : List Int) : Int := if checkS p ≠ 0 then checkS p else if (400 : Int) < days.length then 2 else if days.any (fun n => !within n 0 2000) then 6 else 0

theorem check_ok {p : Pol} (h : checkS p = 0) : p.steps ≠ [] ∧ p.steps.length ≤ 8 ∧ 1 ≤ p.hold ∧ p.hold ≤ 30 ∧ 1 ≤ p.calm ∧ p.calm ≤ 30 ∧ 0 ≤ p.notice ∧ p.notice ≤ 30 ∧ 0 ≤ p.grace ∧ p.grace ≤ 60 := by
  unfold checkS at h
  split at h
  · cases h
  · rename_i h1
    split at h
    · cases h
    · rename_i h2
      simp [badGlob, within] at h1 h2
      refine ⟨by intro e; rw [e] at h1; simp at h1, by omega, by omega, by omega, by omega, by omega, by omega, by omega, by omega, by omega⟩
theorem start_ok {p : Pol} {days : List Int} (h : startS p days = 0) : checkS p = 0 ∧ days.length ≤ 400 ∧ ∀ n ∈ days, 0 ≤ n ∧ n ≤ 2000 := by
  unfold startS at h
  split at h
  · rename_i h1; exact absurd h h1
  · rename_i h1
    split at h
    · cases h
    · rename_i h2
      split at h
      · cases h
      · rename_i h3
        refine ⟨by simpa using h1, by omega, fun n hn => ?_⟩
        simp only [List.any_eq_true, not_exists, not_and] at h3
        have := h3 n hn
        simp [within] at this
        omega
end Go.Proofs.Ythmldeningpjbaa.Sp
