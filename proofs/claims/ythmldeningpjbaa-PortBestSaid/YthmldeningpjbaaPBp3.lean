/- Plain law of layer 9: ports that Made makes, plans that Planned makes. No program is named here. -/
import Derived.Test.YthmldeningpjbaaPBp2
import Derived.Test.YthmldeningpjbaaPBp1
import Derived.Test.YthmldeningpjbaaPBp0
import Derived.WalkKit
import Derived.Test.YthmldeningpjbaaProg
set_option linter.unusedVariables false
set_option linter.unusedSimpArgs false
namespace Go.Proofs.Ythmldeningpjbaa.Pt
open Sp

def MdPath (n : Nat) (l : List Int) : Prop := (∃ a, l = [a] ∧ 0 ≤ a ∧ a < n) ∨ ∃ a b, l = [a, b] ∧ a ≠ b ∧ 0 ≤ a ∧ a < n ∧ 0 ≤ b ∧ b < n
structure MdP (p : Prt) : Prop where
  tg : 1 ≤ p.tugs ∧ p.tugs ≤ 6
  nc : 1 ≤ p.chs.length ∧ p.chs.length ≤ 3
  nb : 1 ≤ p.bts.length ∧ p.bts.length ≤ 3
  chf : ∀ c ∈ p.chs, 0 ≤ c.grow ∧ c.grow < 30 ∧ 0 ≤ c.frost ∧ c.frost < 4 ∧ 1 ≤ c.clear ∧ c.clear ≤ 40
  btf : ∀ b ∈ p.bts, 300 ≤ b.depth ∧ b.depth ≤ 1065 ∧ MdPath p.chs.length b.path
theorem MdPath.ok {n : Nat} {l : List Int} (h : MdPath n l) : l ≠ [] ∧ l.Nodup ∧ (∀ x ∈ l, 0 ≤ x ∧ x < n) ∧ pathOk n l l.length = true ∧ l.length ≤ 2 := by
  rcases h with ⟨a, rfl, h0, h1⟩ | ⟨a, b, rfl, hne, h0, h1, h2, h3⟩
  · refine ⟨by simp, by simp, by simp; omega, ?_, by simp⟩
    simp [pathOk, within]; omega
  · refine ⟨by simp, by simpa using hne, by simp; omega, ?_, by simp⟩
    simp [pathOk, within]
    exact ⟨by omega, by omega, fun e => hne e.symm⟩
theorem checkP_md {p : Prt} (h : MdP p) : checkP p = 0 := by
  have h1 : within p.chs.length 1 6 = true := by rw [within_iff]; have := h.nc; omega
  have h2 : within p.bts.length 1 4 = true := by rw [within_iff]; have := h.nb; omega
  have h3 : within p.tugs 0 20 = true := by rw [within_iff]; have := h.tg; omega
  have h4 : p.chs.all Pt.chOk = true := List.all_eq_true.2 fun c hc => by
    have := h.chf c hc
    unfold Pt.chOk
    simp only [Bool.and_eq_true, within_iff]; omega
  have h5 : p.bts.all (btOk p.chs.length) = true := List.all_eq_true.2 fun b hb => by
    obtain ⟨a1, a2, a3⟩ := h.btf b hb
    obtain ⟨q1, q2, q3, q4, q5⟩ := a3.ok
    unfold btOk
    simp only [Bool.and_eq_true, within_iff, q4, and_true, Bool.not_eq_true', decide_eq_false_iff_not]
    exact ⟨by omega, by simpa using q1⟩
  unfold checkP
  rw [h1, h2, h3, h4, h5]; rfl

/-- tugs in an hour -/
def tgC (h : Int) : List Cal → Int
  | [] => 0
  | c :: l => (if c.hour = h then c.tugs else 0) + tgC h l
def tgS (h : Int) : List Swp → Int
  | [] => 0
  | c :: l => (if c.hour = h then c.tugs else 0) + tgS h l
theorem tgC_snoc (h : Int) (l : List Cal) (c : Cal) : tgC h (l ++ [c]) = tgC h l + (if c.hour = h then c.tugs else 0) := by
  induction l with
  | nil => simp [tgC]
  | cons x l ih => rw [List.cons_append, tgC, tgC, ih]; omega
theorem tgS_snoc (h : Int) (l : List Swp) (c : Swp) : tgS h (l ++ [c]) = tgS h l + (if c.hour = h then c.tugs else 0) := by
  induction l with
  | nil => simp [tgS]
  | cons x l ih => rw [List.cons_append, tgS, tgS, ih]; omega
theorem tly_get {p : Prt} {h : Int} (h0 : 0 ≤ h) : ∀ {l : List Cal} {t : Tly}, (∀ c ∈ l, 0 ≤ c.hour ∧ c.hour < t.tugs.length) → getI (l.foldl (tlyCall p) t).tugs h = getI t.tugs h + tgC h l ∧ (l.foldl (tlyCall p) t).tugs.length = t.tugs.length
  | [], t, _ => ⟨by simp [tgC], rfl⟩
  | c :: l, t, hc => by
    obtain ⟨c1, c2⟩ := hc c (by simp)
    have e : (tlyCall p t c).tugs = setI t.tugs c.hour (getI t.tugs c.hour + c.tugs) := by rw [tlyCall, hit_tugs]
    have el : (tlyCall p t c).tugs.length = t.tugs.length := by rw [e, setI_length]
    obtain ⟨i1, i2⟩ := tly_get (p := p) h0 (l := l) (t := tlyCall p t c) (fun x hx => by rw [el]; exact hc x (by simp [hx]))
    rw [List.foldl_cons, i1, i2, el, e, getI_set c1 h0 c2, tgC]
    refine ⟨?_, rfl⟩
    by_cases q : c.hour = h
    · subst q; simp; omega
    · rw [if_neg q, if_neg q]; omega
theorem swp_get {h : Int} (h0 : 0 ≤ h) : ∀ {l : List Swp} {t : List Int}, (∀ c ∈ l, 0 ≤ c.hour ∧ c.hour < t.length) → getI (l.foldl addSwp t) h = getI t h + tgS h l
  | [], t, _ => by simp [tgS]
  | c :: l, t, hc => by
    obtain ⟨c1, c2⟩ := hc c (by simp)
    have el : (addSwp t c).length = t.length := setI_length _ _ _
    have i1 := swp_get h0 (l := l) (t := addSwp t c) (fun x hx => by rw [el]; exact hc x (by simp [hx]))
    rw [List.foldl_cons, i1, addSwp, getI_set c1 h0 c2, tgS]
    by_cases q : c.hour = h
    · subst q; simp; omega
    · rw [if_neg q, if_neg q]; omega
theorem set_false {l : List Bool} {k : Nat} (h : ∀ j, l.getD j false = false) (j : Nat) : (l.set k false).getD j false = false := by
  have := h j
  simp only [List.getD_eq_getElem?_getD, List.getElem?_set] at *
  split
  · split <;> rfl
  · exact this
theorem hit_ok {h : Int} : ∀ {l : List Int} {t : Tly}, l.Nodup → (∀ n ∈ l, (h, n) ∉ t.hits) → (∀ k, t.twice.getD k false = false) →
    (∀ k, (l.foldl (hit1 h) t).twice.getD k false = false) ∧ ∀ x ∈ (l.foldl (hit1 h) t).hits, x ∈ t.hits ∨ x.1 = h
  | [], t, _, _, ht => ⟨ht, fun x hx => .inl hx⟩
  | n :: l, t, hn, hh, ht => by
    obtain ⟨n1, n2⟩ := List.nodup_cons.1 hn
    have e0 : t.hits.count (h, n) = 0 := List.count_eq_zero.2 (hh n (by simp))
    have e1 : hit1 h t n = ⟨t.tugs, t.twice.set h.toNat false, (h, n) :: t.hits⟩ := by unfold hit1; rw [e0, ht]; rfl
    rw [List.foldl_cons, e1]
    obtain ⟨i1, i2⟩ := hit_ok (h := h) (l := l) (t := ⟨t.tugs, t.twice.set h.toNat false, (h, n) :: t.hits⟩) n2 (fun m hm => by
      simp only [List.mem_cons, Prod.mk.injEq, true_and, not_or]
      exact ⟨fun e => n1 (e ▸ hm), hh m (by simp [hm])⟩) (fun k => set_false ht k)
    refine ⟨i1, fun x hx => ?_⟩
    rcases i2 x hx with e | e
    · rcases List.mem_cons.1 e with rfl | e
      · exact .inr rfl
      · exact .inl e
    · exact .inr e
theorem tly_twice {p : Prt} : ∀ {l : List Cal} {t : Tly}, (∀ c ∈ l, (bt p c.berth).path.Nodup) → l.Pairwise (fun a b => a.hour < b.hour) → (∀ c ∈ l, ∀ x ∈ t.hits, x.1 < c.hour) → (∀ k, t.twice.getD k false = false) →
    ∀ k, (l.foldl (tlyCall p) t).twice.getD k false = false
  | [], t, _, _, _, ht => ht
  | c :: l, t, hn, hs, hh, ht => by
    obtain ⟨s1, s2⟩ := List.pairwise_cons.1 hs
    have h1 := hit_ok (h := c.hour) (l := (bt p c.berth).path) (t := ⟨setI t.tugs c.hour (getI t.tugs c.hour + c.tugs), t.twice, t.hits⟩) (hn c (by simp)) (fun n _ hm => by have := hh c (by simp) _ hm; simp at this) ht
    rw [List.foldl_cons]
    refine tly_twice (fun x hx => hn x (by simp [hx])) s2 (fun x hx y hy => ?_) h1.1
    rcases h1.2 y hy with e | e
    · exact hh x (by simp [hx]) y e
    · rw [e]; exact s1 x hx
theorem finE_ok {tg : Int} {ts : List Int} {tw : List Bool} : ∀ {n k : Nat}, (∀ j, k ≤ j → j < k + n → tw.getD j false = false ∧ ts.getD j 0 ≤ tg) → finE tg ts tw k n = 0
  | 0, _, _ => rfl
  | n + 1, k, h => by
    obtain ⟨h1, h2⟩ := h k (Nat.le_refl _) (by omega)
    rw [finE, h1, if_neg (by simp), if_neg (by omega)]
    exact finE_ok fun j hj1 hj2 => h j (by omega) (by omega)
theorem callsE_of {p : Prt} {h : Int} : ∀ {l : List Cal} {f : Int}, (∀ c ∈ l, callE p h c c.hour = 0 ∧ f ≤ c.hour) → l.Pairwise (fun a b => a.hour ≤ b.hour) → callsE p h f l = 0
  | [], _, _, _ => rfl
  | c :: l, f, hc, hs => by
    obtain ⟨s1, s2⟩ := List.pairwise_cons.1 hs
    obtain ⟨c1, c2⟩ := hc c (by simp)
    have e : callE p h c f = 0 := by
      unfold callE at c1 ⊢
      split at c1
      · cases c1
      split at c1
      · cases c1
      split at c1
      · cases c1
      rename_i h1 h2 h3
      rw [if_neg h1, if_neg h2, if_neg h3, if_neg (by omega)]
    rw [callsE, if_neg (by simp [e])]
    exact callsE_of (fun x hx => ⟨(hc x (by simp [hx])).1, s1 x hx⟩) s2
theorem swpsE_of {p : Prt} {h : Int} : ∀ {l : List Swp}, (∀ s ∈ l, swpE p h s = 0) → swpsE p h l = 0
  | [], _ => rfl
  | c :: l, hc => by
    rw [swpsE, if_neg (by simp [hc c (by simp)])]
    exact swpsE_of fun x hx => hc x (by simp [hx])

/-- calls that go in and out in turns -/
def outsOk : List Cal → List Bool → Prop
  | [], _ => True
  | c :: l, b => b.getD c.berth.toNat false = c.out ∧ outsOk l (b.set c.berth.toNat (!c.out))
def outsAft : List Cal → List Bool → List Bool
  | [], b => b
  | c :: l, b => outsAft l (b.set c.berth.toNat (!c.out))
theorem outsAft_append : ∀ (a c : List Cal) (b : List Bool), outsAft (a ++ c) b = outsAft c (outsAft a b)
  | [], _, _ => rfl
  | x :: a, c, b => by rw [List.cons_append, outsAft, outsAft, outsAft_append]
theorem outsOk_append : ∀ (a c : List Cal) (b : List Bool), outsOk (a ++ c) b ↔ outsOk a b ∧ outsOk c (outsAft a b)
  | [], _, _ => by simp [outsOk, outsAft]
  | x :: a, c, b => by rw [List.cons_append, outsOk, outsOk, outsAft, outsOk_append, and_assoc]
theorem outsAft_length : ∀ (a : List Cal) (b : List Bool), (outsAft a b).length = b.length
  | [], _ => rfl
  | x :: a, b => by rw [outsAft, outsAft_length, List.length_set]
theorem bOk_outs (h : Int) : ∀ (l : List Cal) (b : List Bool), (bOk h l b ↔ outsOk (l.filter fun c => decide (c.hour = h)) b) ∧ bAft h l b = outsAft (l.filter fun c => decide (c.hour = h)) b
  | [], b => ⟨Iff.rfl, rfl⟩
  | c :: l, b => by
    by_cases q : c.hour = h
    · rw [List.filter_cons_of_pos (by simpa using q), bOk, if_neg (by simpa using q), bAft, if_neg (by simpa using q), outsOk, outsAft, (bOk_outs h l _).1, (bOk_outs h l _).2]
      exact ⟨Iff.rfl, rfl⟩
    · rw [List.filter_cons_of_neg (by simpa using q), bOk, if_pos q, bAft, if_pos q]
      exact bOk_outs h l b
theorem hours_split (k n : Int) (hn : 0 ≤ n) : ∀ {l : List Cal}, l.Pairwise (fun a b => a.hour ≤ b.hour) →
    l.filter (fun c => decide (k ≤ c.hour) && decide (c.hour < k + (n + 1))) = l.filter (fun c => decide (c.hour = k)) ++ l.filter (fun c => decide (k + 1 ≤ c.hour) && decide (c.hour < k + 1 + n))
  | [], _ => rfl
  | c :: l, hs => by
    obtain ⟨s1, s2⟩ := List.pairwise_cons.1 hs
    have ih := hours_split k n hn s2
    by_cases q : c.hour = k
    · rw [List.filter_cons_of_pos (by simp; omega), List.filter_cons_of_pos (by simpa using q), List.filter_cons_of_neg (by simp; omega), ih]; rfl
    · by_cases q2 : k + 1 ≤ c.hour ∧ c.hour < k + 1 + n
      · have e : l.filter (fun c => decide (c.hour = k)) = [] := List.filter_eq_nil_iff.2 fun x hx => by have := s1 x hx; simp; omega
        rw [List.filter_cons_of_pos (by simp; omega), List.filter_cons_of_neg (by simpa using q), List.filter_cons_of_pos (by simp; omega), ih, e]; rfl
      · rw [List.filter_cons_of_neg (by simp; omega), List.filter_cons_of_neg (by simpa using q), List.filter_cons_of_neg (by simp; omega), ih]
theorem bOkF_outs {l : Pln} (hs : l.calls.Pairwise (fun a b => a.hour ≤ b.hour)) : ∀ (n k : Nat) (b : List Bool),
    (bOkF l k n b ↔ outsOk (l.calls.filter fun c => decide ((k : Int) ≤ c.hour) && decide (c.hour < (k : Int) + n)) b) ∧ bAftF l k n b = outsAft (l.calls.filter fun c => decide ((k : Int) ≤ c.hour) && decide (c.hour < (k : Int) + n)) b
  | 0, k, b => by
    have e : l.calls.filter (fun c => decide ((k : Int) ≤ c.hour) && decide (c.hour < (k : Int) + (0 : Nat))) = [] := List.filter_eq_nil_iff.2 fun x hx => by simp <;> omega
    rw [e]; exact ⟨Iff.rfl, rfl⟩
  | n + 1, k, b => by
    have e := hours_split k n (by omega) hs
    obtain ⟨b1, b2⟩ := bOk_outs k l.calls b
    obtain ⟨i1, i2⟩ := bOkF_outs hs n (k + 1) (bAft k l.calls b)
    rw [bOkF, bAftF, b1, i1, i2]
    simp only [Int.natCast_add, Int.natCast_one] at e ⊢
    rw [e, outsOk_append, outsAft_append, ← b2]
    exact ⟨Iff.rfl, rfl⟩
theorem busy_outs {l : Pln} (hs : l.calls.Pairwise (fun a b => a.hour ≤ b.hour)) (hh : ∀ c ∈ l.calls, 0 ≤ c.hour ∧ c.hour < l.hours) (b : List Bool) : (busyOk l b ↔ outsOk l.calls b) ∧ busyAft l b = outsAft l.calls b := by
  have h := bOkF_outs hs l.hours.toNat 0 b
  have e : l.calls.filter (fun c => decide (((0 : Nat) : Int) ≤ c.hour) && decide (c.hour < ((0 : Nat) : Int) + l.hours.toNat)) = l.calls := List.filter_eq_self.2 fun x hx => by
    have := hh x hx
    simp; omega
  rw [e] at h
  exact h

/-- a plan that Planned makes -/
structure MdL (p : Prt) (l : Pln) : Prop where
  h : 4 ≤ l.hours ∧ l.hours ≤ 43
  n1 : l.calls.length ≤ 8
  n2 : l.swps.length ≤ 11
  ca : ∀ c ∈ l.calls, 0 ≤ c.hour ∧ c.hour < l.hours ∧ 0 ≤ c.berth ∧ c.berth < p.bts.length ∧ 10 ≤ c.draught ∧ c.draught < 210 ∧ 10 ≤ c.most ∧ c.most < 130 ∧ 0 ≤ c.tugs ∧ c.tugs ≤ 3
  srt : l.calls.Pairwise (fun a b => a.hour < b.hour)
  out : outsOk l.calls (List.replicate p.bts.length false)
  sw : ∀ s ∈ l.swps, 0 ≤ s.channel ∧ s.channel < p.chs.length ∧ 1 ≤ s.tugs ∧ s.tugs ≤ 6 ∧ 0 ≤ s.hour ∧ s.hour < l.hours
  tg : ∀ h, tgC h l.calls + tgS h l.swps ≤ p.tugs
theorem MdL.checkL {p : Prt} {l : Pln} (hp : MdP p) (hl : MdL p l) : checkL p l = 0 := by
  have h1 := checkP_md hp
  have h2 : within l.hours 1 100 = true := by rw [within_iff]; have := hl.h; omega
  have h3 : callsE p l.hours 0 l.calls = 0 := callsE_of (fun c hc => by
    obtain ⟨c1, c2, c3, c4, c5, c6, c7, c8, c9, c10⟩ := hl.ca c hc
    refine ⟨?_, c1⟩
    have hd := (hp.btf _ (bt_mem c3 c4)).1
    unfold callE
    rw [if_neg (by simp only [Bool.not_eq_false, Bool.and_eq_true, within_iff]; omega), if_neg (by simp only [Bool.not_eq_false, within_iff]; omega), if_neg (by simp only [Bool.not_eq_false, within_iff]; omega), if_neg (by omega)]) (hl.srt.imp fun h => by omega)
  have h4 : swpsE p l.hours l.swps = 0 := swpsE_of fun s hs => by
    have := hl.sw s hs
    unfold swpE
    rw [if_neg (by simp only [Bool.not_eq_false, Bool.and_eq_true, within_iff]; omega), if_neg (by simp only [Bool.not_eq_false, within_iff]; omega)]
  have n1 := hl.n1
  have n2 := hl.n2
  have hh := hl.h
  unfold Pt.checkL
  rw [if_neg (by simp [h1]), if_neg (by omega), if_neg (by simp [h2]), if_neg (by simp [h3]), if_neg (by simp [h4])]
  have ht : (tly0 l.hours.toNat).tugs.length = l.hours.toNat := by simp [tly0]
  refine finE_ok fun j _ hj => ⟨?_, ?_⟩
  · refine tly_twice (fun c hc => ?_) hl.srt (fun c hc x hx => ?_) (fun k => ?_) j
    · obtain ⟨c1, c2, c3, c4, _⟩ := hl.ca c hc
      exact (hp.btf _ (bt_mem c3 c4)).2.2.ok.2.1
    · simp [tly0] at hx
    · simp only [tly0, List.getD_eq_getElem?_getD, List.getElem?_replicate]; split <;> rfl
  · have g1 := tly_get (p := p) (h := j) (by omega) (l := l.calls) (t := tly0 l.hours.toNat) (fun c hc => by have := hl.ca c hc; rw [ht]; omega)
    have g2 := swp_get (h := j) (by omega) (l := l.swps) (t := (tlyCalls p l.hours.toNat l.calls).tugs) (fun s hs => by unfold tlyCalls; rw [g1.2, ht]; have := hl.sw s hs; omega)
    have g3 := hl.tg j
    have e : (l.swps.foldl addSwp (tlyCalls p l.hours.toNat l.calls).tugs).getD j 0 = getI (l.swps.foldl addSwp (tlyCalls p l.hours.toNat l.calls).tugs) j := by unfold getI; simp
    rw [e, g2]
    unfold tlyCalls
    rw [g1.1, tly0_get]
    omega
theorem MdL.busy {p : Prt} {l : Pln} (hl : MdL p l) : busyOk l (List.replicate p.bts.length false) ∧ busyAft l (List.replicate p.bts.length false) = outsAft l.calls (List.replicate p.bts.length false) := by
  have h := busy_outs (l := l) (hl.srt.imp fun h => by omega) (fun c hc => by have := hl.ca c hc; omega) (List.replicate p.bts.length false)
  exact ⟨h.1.2 hl.out, h.2⟩
end Go.Proofs.Ythmldeningpjbaa.Pt
/- Plain law of PortBest. No program is named here. -/
namespace Go.Proofs.Ythmldeningpjbaa.Pt
open Sp

def VsOk (l : List Vst) : Prop := ∀ v ∈ l, 0 ≤ v.arr ∧ v.arr < 20 ∧ v.arr ≤ v.last ∧ v.last < v.arr + 25 ∧ 1 ≤ v.stay ∧ v.stay ≤ 12 ∧ 200 ≤ v.dra ∧ v.dra < 800
theorem VsOk.snoc {l : List Vst} (h : VsOk l) {v : Vst} (hv : 0 ≤ v.arr ∧ v.arr < 20 ∧ v.arr ≤ v.last ∧ v.last < v.arr + 25 ∧ 1 ≤ v.stay ∧ v.stay ≤ 12 ∧ 200 ≤ v.dra ∧ v.dra < 800) : VsOk (l ++ [v]) := fun x hx => by
  rcases List.mem_append.1 hx with e | e
  · exact h x e
  · rw [List.mem_singleton.1 e]; exact hv
theorem VsOk.all {l : List Vst} (h : VsOk l) : l.all vstOk = true := by
  rw [List.all_eq_true]
  intro v hv
  have := h v hv
  simp only [vstOk, within, Bool.and_eq_true, decide_eq_true_eq]
  omega
theorem asked_of {p : Prt} {l : List Vst} (hp : checkP p = 0) (hv : VsOk l) (hl : l.length ≤ 4) : askedE p l = 0 := by
  unfold askedE
  rw [if_neg (by rw [hp]; simp), if_neg (by omega), if_neg (by rw [hv.all]; simp)]
/-- with one berth more -/
def moreP (p : Prt) (x : Int) : Prt := ⟨p.chs, p.bts ++ [⟨300 + 2 * x, [0]⟩], p.tugs⟩
theorem checkP_more {p : Prt} (h : MdP p) {x : Int} (hx : 0 ≤ x ∧ x < 256) : checkP (moreP p x) = 0 := by
  have hnc := h.nc
  have hnb := h.nb
  have htg := h.tg
  unfold checkP moreP
  simp only [List.length_append, List.length_singleton]
  rw [if_neg (by simp [within]; omega), if_neg (by simp [within]; omega), if_neg, if_neg]
  · rw [Bool.not_eq_false, List.all_eq_true]
    intro b hb
    rcases List.mem_append.1 hb with e | e
    · obtain ⟨b0, b1, hp⟩ := h.btf b e
      obtain ⟨p1, p2, p3, p4, p5⟩ := hp.ok
      unfold btOk
      rw [p4]
      have : b.path.length ≠ 0 := fun e => p1 (List.length_eq_zero_iff.1 e)
      simp [within, this]; omega
    · rw [List.mem_singleton.1 e]
      simp [btOk, pathOk, within]; omega
  · rw [Bool.not_eq_false, List.all_eq_true]
    intro c hc
    have := h.chf c hc
    simp [chOk, within]; omega
section
variable {p : Prt} {l : List Vst}
/-- the best, or there is none -/
theorem bl_best (ha : askedE p l = 0) (hl : l.all vstOk = true) :
    (bestE p l = 0 ∧ 0 ≤ (bestS p l).least ∧ Way p l (pc (bestS p l).found) ∧ bestN p l = (bestS p l).least ∧ bestV p l = (bestS p l).found ∧ (bestS p l).found.length = l.length ∧ (bestS p l).least = wsum (waitOf l (bestS p l).found) l.length) ∨
    (bestE p l = 4 ∧ (bestS p l).least < 0 ∧ bestN p l = 0 ∧ bestV p l = []) := by
  by_cases h : (bestS p l).least < 0
  · right
    have e : bestE p l = 4 := by unfold bestE; rw [if_neg (by rw [ha]; simp), if_pos h]
    exact ⟨e, h, by unfold bestN; rw [e]; rfl, by unfold bestV; rw [e]; rfl⟩
  · left
    have e : bestE p l = 0 := by unfold bestE; rw [if_neg (by rw [ha]; simp), if_neg h]
    rcases best_good hl with g | ⟨g1, g2, g3⟩
    · exact absurd g h
    · exact ⟨e, by omega, g1, by unfold bestN; rw [if_pos e], by unfold bestV; rw [if_pos e], g2, g3⟩
theorem bl_crowd (ha : askedE p l = 0) (hl : l.all vstOk = true) : (crowdE p l = 0 ∧ bestE p l = 4) ∨ crowdE p l = 4 := by
  by_cases h : (crowdS p l).1 < 0
  · right; unfold crowdE; rw [if_neg (by rw [ha]; simp), if_pos h]
  · left
    refine ⟨by unfold crowdE; rw [if_neg (by rw [ha]; simp), if_neg h], ?_⟩
    rcases bl_best ha hl with ⟨_, _, hw, _⟩ | ⟨e, _⟩
    · rw [crowd_none (fun a d => must_le hw a d)] at h
      exact absurd (by decide) h
    · exact e
theorem bl_ver (ha : askedE p l = 0) (hl : l.all vstOk = true) (he : bestE p l = 0) : verE p l (bestV p l) = 0 ∧ verN p l (bestV p l) = bestN p l ∧ (bestV p l).length = l.length := by
  rcases bl_best ha hl with ⟨_, h0, hw, hn, hv, hlen, hs⟩ | ⟨e, _⟩
  · have e : verE p l (bestV p l) = 0 := by
      rw [hv]
      unfold verE
      rw [if_neg (by rw [ha]; simp), if_neg (by rw [hlen]; simp), if_neg (by rw [verF_way.2 hw]; simp), if_pos rfl]
    exact ⟨e, by unfold verN; rw [if_pos e, hn, hs, hv], by rw [hv, hlen]⟩
  · rw [he] at e; cases e
/-- another berthing, made of numbers -/
def OthOk (p : Prt) (l : List Vst) (a : List Plc) : Prop := ∀ i, i < a.length → 0 ≤ (pc a i).berth ∧ (pc a i).berth < p.bts.length ∧ (vs l i).arr ≤ (pc a i).start ∧ (pc a i).start ≤ (vs l i).last
theorem OthOk.nil : OthOk p l [] := fun i hi => absurd hi (by simp)
theorem OthOk.snoc {a : List Plc} (h : OthOk p l a) {x : Plc} (hx : 0 ≤ x.berth ∧ x.berth < p.bts.length ∧ (vs l a.length).arr ≤ x.start ∧ x.start ≤ (vs l a.length).last) : OthOk p l (a ++ [x]) := fun i hi => by
  have hi' : i < a.length + 1 := by simpa using hi
  by_cases e : i = a.length
  · subst e
    have : pc (a ++ [x]) a.length = x := by simp [pc]
    rw [this]; exact hx
  · have : pc (a ++ [x]) i = pc a i := by unfold pc; rw [List.getD_eq_getElem?_getD, List.getElem?_append_left (by omega), ← List.getD_eq_getElem?_getD]
    rw [this]; exact h i (by omega)
theorem verX_oth {a : List Plc} (h : OthOk p l a) {i : Nat} (hi : i < a.length) : verX p l a i = 0 ∨ verX p l a i = 100 ∨ verX p l a i = 9 := by
  have := h i hi
  unfold verX
  rw [if_neg (by simp [within]; omega)]
  split
  · exact .inr (.inl rfl)
  · rw [if_neg (by simp [within]; omega)]
    split
    · exact .inr (.inr rfl)
    · exact .inl rfl
theorem verF_oth {a : List Plc} (h : OthOk p l a) : ∀ n, n ≤ a.length → verF p l a n = 0 ∨ verF p l a n = 100 ∨ verF p l a n = 9
  | 0, _ => .inl rfl
  | n + 1, hn => by
    have ih := verF_oth h n (by omega)
    simp only [verF]
    split
    · exact ih
    · exact verX_oth h (by omega)
theorem bl_oth (ha : askedE p l = 0) (hl : l.all vstOk = true) {a : List Plc} (hlen : a.length = l.length) (h : OthOk p l a) :
    (verE p l a = 0 ∧ bestE p l = 0 ∧ a = bestV p l ∧ verN p l a = bestN p l) ∨ (verE p l a = 7 ∧ bestE p l = 0 ∧ bestN p l ≤ wsum (waitOf l a) l.length ∧ a ≠ bestV p l) ∨ verE p l a = 100 ∨ verE p l a = 9 := by
  have hE : verE p l a = if verF p l a l.length ≠ 0 then verF p l a l.length else if (bestS p l).found = a then 0 else 7 := by
    unfold verE
    rw [if_neg (by rw [ha]; simp), if_neg (by rw [hlen]; simp)]
  rcases verF_oth h l.length (by omega) with e | e | e
  · rw [e] at hE
    rw [if_neg (by simp)] at hE
    have hw := verF_way.1 e
    obtain ⟨b0, b1⟩ := best_least hl hw
    rcases bl_best ha hl with ⟨q0, q1, q2, q3, q4, q5, q6⟩ | ⟨_, q, _⟩
    · by_cases hf : (bestS p l).found = a
      · left
        rw [if_pos hf] at hE
        refine ⟨hE, q0, by rw [q4, hf], ?_⟩
        unfold verN
        rw [if_pos hE, q3, q6, hf]
      · right; left
        rw [if_neg hf] at hE
        exact ⟨hE, q0, by rw [q3]; exact b1, fun e => hf (by rw [e, q4])⟩
    · omega
  · rw [e] at hE
    rw [if_pos (by simp)] at hE
    exact .inr (.inr (.inl hE))
  · rw [e] at hE
    rw [if_pos (by simp)] at hE
    exact .inr (.inr (.inr hE))
theorem bl_more {x : Int} (ha : askedE p l = 0) (hq : askedE (moreP p x) l = 0) (hl : l.all vstOk = true) (he : bestE p l = 0) : bestE (moreP p x) l = 0 ∧ bestN (moreP p x) l ≤ bestN p l := by
  rcases bl_best ha hl with ⟨_, h0, hw, hn, hv, hlen, hs⟩ | ⟨e, _⟩
  · have hw' : Way (moreP p x) l (pc (bestS p l).found) := hw.more rfl
    obtain ⟨b0, b1⟩ := best_least hl hw'
    rcases bl_best hq hl with ⟨q0, q1, q2, q3, _⟩ | ⟨_, q, _⟩
    · refine ⟨q0, ?_⟩
      rw [q3, hn, hs]
      exact b1
    · omega
  · rw [he] at e; cases e
end
end Go.Proofs.Ythmldeningpjbaa.Pt
/- What the functions of layer 8 compute, further. -/
namespace Go.Proofs.Ythmldeningpjbaa.Sp

/-- what the window keeps behind the first k numbers -/
def dq (wide : Int) (gr : Bool) (xs : List Int) : Nat → List (Int × Int)
  | 0 => []
  | k + 1 => pushD wide (k : Int) gr (dq wide gr xs k) (xs.getD k 0)

def slideN (wide : Int) (gr : Bool) (xs : List Int) (n : Nat) : List Int := (List.range n).map fun k => headV (dq wide gr xs (k + 1))
/-- the least (or greatest) of the last numbers, at each number -/
def slide (wide : Int) (gr : Bool) (xs : List Int) : List Int := slideN wide gr xs xs.length

theorem slideN_succ (wide : Int) (gr : Bool) (xs : List Int) (n : Nat) : slideN wide gr xs (n + 1) = slideN wide gr xs n ++ [headV (dq wide gr xs (n + 1))] := by
  simp [slideN, List.range_succ]
theorem pushD_length (wide at_ : Int) (gr : Bool) (D : List (Int × Int)) (x : Int) : (pushD wide at_ gr D x).length ≤ D.length + 1 := by
  simp only [pushD]
  split <;> simp <;> omega
theorem dq_length (wide : Int) (gr : Bool) (xs : List Int) (k : Nat) : (dq wide gr xs k).length ≤ k := by
  induction k with
  | zero => exact Nat.le_refl _
  | succ k ih => exact Nat.le_trans (pushD_length _ _ _ _ _) (by omega)

theorem slide_length (wide : Int) (gr : Bool) (xs : List Int) : (slide wide gr xs).length = xs.length := by simp [slide, slideN]

def ups (p : Pol) : List Int := p.steps.map (·.up)
def dns (p : Pol) : List Int := p.steps.map (·.dn)

/-- the first k of the numbers f, then those of l -/
def mixN (f : Nat → Int) (l : List Int) (k : Nat) : List Int := (List.range l.length).map fun i => if i < k then f i else l.getD i 0

theorem mixN_length (f : Nat → Int) (l : List Int) (k : Nat) : (mixN f l k).length = l.length := by simp [mixN]
theorem mixN_zero (f : Nat → Int) (l : List Int) : mixN f l 0 = l := by
  apply List.ext_getElem
  · simp [mixN]
  · intro i h1 h2
    simp [mixN, h2]
theorem mixN_set (f : Nat → Int) (l : List Int) (k : Nat) : (mixN f l k).set k (f k) = mixN f l (k + 1) := by
  apply List.ext_getElem
  · simp [mixN]
  · intro i h1 h2
    have hi : i < l.length := by simpa [mixN] using h2
    rw [List.getElem_set]
    by_cases hik : k = i
    · subst hik; simp [mixN]
    · rw [if_neg hik]
      simp only [mixN, List.getElem_map, List.getElem_range]
      by_cases h3 : i < k
      · rw [if_pos h3, if_pos (by omega)]
      · rw [if_neg h3, if_neg (by omega)]
theorem mixN_get (f : Nat → Int) (l : List Int) (k : Nat) (hk : k < l.length) : (mixN f l k).getD k 0 = l.getD k 0 := by
  simp [mixN, hk]
theorem mixN_all (f : Nat → Int) (l : List Int) : mixN f l l.length = (List.range l.length).map f := by
  unfold mixN
  apply List.map_congr_left
  intro i hi
  rw [if_pos (by simpa using hi)]

/-- the step that each day raises to, the step that each day keeps -/
def raisedAt (p : Pol) (sl : List Int) (i : Nat) : Int := upTo (ups p) (if (i : Int) + 1 < p.hold then 0 else sl.getD i 0)
def raisedS (p : Pol) (days : List Int) : List Int := (List.range days.length).map (raisedAt p (slide p.hold false days))
def keptAt (p : Pol) (sl : List Int) (i : Nat) : Int := upTo (dns p) (sl.getD i 0)
def keptS (p : Pol) (days : List Int) : List Int := (List.range days.length).map (keptAt p (slide p.calm true days))

/-- the step that is decided behind the first k days -/
def decN (up kp : List Int) : Nat → Int
  | 0 => 0
  | k + 1 => max (up.getD k 0) (min (kp.getD k 0) (decN up kp k))
def decL (up kp : List Int) (n : Nat) : List Int := (List.range n).map fun k => decN up kp (k + 1)
theorem decL_succ (up kp : List Int) (n : Nat) : decL up kp (n + 1) = decL up kp n ++ [decN up kp (n + 1)] := by simp [decL, List.range_succ]
def decidedS (p : Pol) (days : List Int) : List Int := decL (raisedS p days) (keptS p days) days.length
/-- the step in force on each day -/
def forceS (p : Pol) (days : List Int) : List Int := (slide (p.notice + 1) false (List.replicate p.notice.toNat 0 ++ decidedS p days)).drop p.notice.toNat

theorem raisedS_length (p : Pol) (days : List Int) : (raisedS p days).length = days.length := by simp [raisedS]
theorem keptS_length (p : Pol) (days : List Int) : (keptS p days).length = days.length := by simp [keptS]
theorem decidedS_length (p : Pol) (days : List Int) : (decidedS p days).length = days.length := by simp [decidedS, decL]
theorem forceS_length (p : Pol) (days : List Int) : (forceS p days).length = days.length := by
  simp [forceS, slide_length, decidedS_length]

end Go.Proofs.Ythmldeningpjbaa.Sp
/- More words for memory. No program is named here. -/
namespace Go.Proofs.Ythmldeningpjbaa
open Go Go.RowKit

section
variable {w w' : World} {e : TypeId} {n c : Nat} {xs : List Value} {fp : List Nat}
theorem OwnA.set_ {g off : Nat} (h : OwnA w e (some ⟨g, off, none⟩) n c xs fp) {k : Nat} (hk : k < n) (u : Value) : OwnA (w.setCell ⟨g, off + k, none⟩ u) e (some ⟨g, off, none⟩) n c (xs.set k u) fp := by
  refine ⟨by rw [List.length_set, h.1], .inr ?_⟩
  rcases h.2 with ⟨h0, _⟩ | ⟨g', off', cur, he, rfl, hh, h1, h2, h3, h4⟩
  · cases h0
  · injection he with he
    injection he with e1 e2 _
    subst e1 e2
    refine ⟨g, off, cur.setIfInBounds (off + k) u, rfl, rfl, heap_set hh _ _, h1, h2, by simpa using h3, fun j v hv => ?_⟩
    rw [List.getElem?_set] at hv
    by_cases hjk : k = j
    · subst hjk
      rw [if_pos rfl] at hv
      split at hv
      · injection hv with e1
        subst e1
        rw [Array.getElem?_setIfInBounds_self_of_lt (by omega)]
      · cases hv
    · rw [if_neg hjk] at hv
      rw [Array.getElem?_setIfInBounds_ne (by omega)]
      exact h4 j v hv
theorem Keep.cell {S : List Nat} (h : Keep S w w') {b o : Nat} {u : Value} (hc : w.cell? ⟨b, o, none⟩ = some u) (hn : b ∉ S) : w'.cell? ⟨b, o, none⟩ = some u :=
  (World.cell?_of_block (w := w) (h.block b (World.block_lt_of_cell? w _ hc) hn)).trans hc
theorem Keep.rd {S : List Nat} {size : Nat} {A : Option Addr} (h : Keep S w w') (hr : Rd w size A n xs) (hn : ∀ b off, A = some ⟨b, off, none⟩ → b ∉ S) : Rd w' size A n xs := by
  refine ⟨hr.1, fun h0 => ?_⟩
  obtain ⟨b, off, e, hl, hc⟩ := hr.2 h0
  exact ⟨b, off, e, Nat.lt_of_lt_of_le hl h.size, fun j u hu => h.cell (hc j u hu) (hn b off e)⟩
theorem Keep.below' {S : List Nat} (h : Keep S w w') {B : Nat} (hB : B ≤ w.heap.size) (hs : ∀ x ∈ S, B ≤ x) : Below B w w' := h.below hB hs
theorem OwnA.mem_ {A : Option Addr} (h : OwnA w e A n c xs fp) (h0 : 0 < n) {b off : Nat} (he : A = some ⟨b, off, none⟩) : b ∈ fp := by
  obtain ⟨g, o, e1, e2, _⟩ := h.some_ h0
  rw [he] at e1
  injection e1 with e1
  injection e1 with e1 _ _
  rw [e2, e1]; simp
theorem cell_new_one (w : World) (u : Value) (t : TypeId) : (w.alloc (.cells #[u] t)).cell? ⟨w.heap.size, 0, none⟩ = some u := by simp [World.cell?_alloc_new]
theorem Rd.lt' {size : Nat} {A : Option Addr} (hr : Rd w size A n xs) (h0 : 0 < n) {b off : Nat} (e : A = some ⟨b, off, none⟩) : b < w.heap.size := by
  obtain ⟨b', off', e', hl, _⟩ := hr.2 h0
  rw [e] at e'
  injection e' with e'
  injection e' with e1 _ _
  omega
end
end Go.Proofs.Ythmldeningpjbaa
/- Lists of numbers, and of truths, as values. No program is named here. -/
namespace Go.Proofs.Ythmldeningpjbaa
open Go

def ints (l : List Int) : List Value := l.map (Value.int .i64)
theorem ints_get {l : List Int} {k : Nat} (h : k < l.length) : (ints l)[k]? = some (.int .i64 (l.getD k 0)) := by simp [ints, h]
def bools (l : List Bool) : List Value := l.map Value.bool
theorem bools_get {l : List Bool} {k : Nat} (h : k < l.length) : (bools l)[k]? = some (.bool (l.getD k false)) := by simp [bools, h]
end Go.Proofs.Ythmldeningpjbaa
/- How ports, plans and states of layer 9 lie in memory. No program's function is named here. -/
namespace Go.Proofs.Ythmldeningpjbaa
open Go Go.RowKit Sp Pt

theorem flat_get {T : Type} {f : T → List Value} {s : Nat} (hf : ∀ x, (f x).length = s) {l : List T} {k : Nat} (hk : k < l.length) {j : Nat} (hj : j < s) : (l.flatMap f)[k*s + j]? = (f l[k])[j]? := by
  induction l generalizing k with
  | nil => simp at hk
  | cons x l ih =>
    rw [List.flatMap_cons]
    cases k with
    | zero => rw [Nat.zero_mul, Nat.zero_add, List.getElem?_append_left (by rw [hf]; exact hj)]; rfl
    | succ k =>
      have e : (k+1)*s + j = s + (k*s + j) := by rw [Nat.add_mul]; omega
      rw [e, List.getElem?_append_right (by rw [hf]; omega), hf, Nat.add_sub_cancel_left]
      simpa using ih (k := k) (by simpa using hk)
theorem flat_len {T : Type} {f : T → List Value} {s : Nat} (hf : ∀ x, (f x).length = s) (l : List T) : (l.flatMap f).length = l.length * s := by
  induction l with
  | nil => simp
  | cons x l ih => rw [List.flatMap_cons, List.length_append, ih, hf, List.length_cons, Nat.add_mul]; omega
theorem flat_snoc {T : Type} (f : T → List Value) (l : List T) (x : T) : (l ++ [x]).flatMap f = l.flatMap f ++ f x := by simp

/-- as Rd, in a block below D -/
def RdB (D : Nat) (w : World) (size : Nat) (A : Option Addr) (n : Nat) (xs : List Value) : Prop :=
  xs.length = n * size ∧ (0 < n → ∃ b off, A = some ⟨b, off, none⟩ ∧ b < D ∧ ∀ j u, xs[j]? = some u → w.cell? ⟨b, off + j, none⟩ = some u)
section
variable {D : Nat} {w w' : World} {size n : Nat} {A : Option Addr} {xs : List Value}
theorem RdB.rd (h : RdB D w size A n xs) (hD : D ≤ w.heap.size) : Rd w size A n xs :=
  ⟨h.1, fun h0 => by obtain ⟨b, off, e, hb, hc⟩ := h.2 h0; exact ⟨b, off, e, by omega, hc⟩⟩
theorem RdB.of (h : Rd w size A n xs) (hD : w.heap.size ≤ D) : RdB D w size A n xs :=
  ⟨h.1, fun h0 => by obtain ⟨b, off, e, hb, hc⟩ := h.2 h0; exact ⟨b, off, e, by omega, hc⟩⟩
theorem RdB.below (h : RdB D w size A n xs) (hb : Below D w w') : RdB D w' size A n xs :=
  ⟨h.1, fun h0 => by obtain ⟨b, off, e, hl, hc⟩ := h.2 h0; exact ⟨b, off, e, hl, fun j u hu => (hb.cell (p := ⟨b, off + j, none⟩) hl).trans (hc j u hu)⟩⟩
theorem RdB.mono (h : RdB D w size A n xs) {D' : Nat} (hD : D ≤ D') : RdB D' w size A n xs :=
  ⟨h.1, fun h0 => by obtain ⟨b, off, e, hb, hc⟩ := h.2 h0; exact ⟨b, off, e, by omega, hc⟩⟩
end

def chc (c : Chn) : List Value := [.int .i64 c.grow, .int .i64 c.frost, .int .i64 c.clear]
abbrev chcs (l : List Chn) : List Value := l.flatMap chc
def cac (c : Cal) : List Value := [.int .i64 c.hour, .int .i64 c.berth, .bool c.out, .int .i64 c.draught, .int .i64 c.most, .int .i64 c.tugs]
abbrev cacs (l : List Cal) : List Value := l.flatMap cac
def swc (s : Swp) : List Value := [.int .i64 s.hour, .int .i64 s.channel, .int .i64 s.tugs]
abbrev swcs (l : List Swp) : List Value := l.flatMap swc
def mpc (m : Mp) : List Value := [.int .i64 m.add, .int .i64 m.floor, .int .i64 m.most]
def vsc (v : Vst) : List Value := [.int .i64 v.arr, .int .i64 v.last, .int .i64 v.stay, .int .i64 v.dra]
abbrev vscs (l : List Vst) : List Value := l.flatMap vsc
def plc (x : Plc) : List Value := [.int .i64 x.berth, .int .i64 x.start]
abbrev plcs (l : List Plc) : List Value := l.flatMap plc

theorem chcs_get {l : List Chn} {k : Nat} (hk : k < l.length) : (chcs l)[k*3]? = some (.int .i64 l[k].grow) ∧ (chcs l)[k*3+1]? = some (.int .i64 l[k].frost) ∧ (chcs l)[k*3+2]? = some (.int .i64 l[k].clear) :=
  ⟨flat_get (f := chc) (s := 3) (fun _ => rfl) hk (j := 0) (by decide), flat_get (f := chc) (s := 3) (fun _ => rfl) hk (j := 1) (by decide), flat_get (f := chc) (s := 3) (fun _ => rfl) hk (j := 2) (by decide)⟩
theorem cacs_get {l : List Cal} {k : Nat} (hk : k < l.length) : (cacs l)[k*6]? = some (.int .i64 l[k].hour) ∧ (cacs l)[k*6+1]? = some (.int .i64 l[k].berth) ∧ (cacs l)[k*6+2]? = some (.bool l[k].out) ∧ (cacs l)[k*6+3]? = some (.int .i64 l[k].draught) ∧ (cacs l)[k*6+4]? = some (.int .i64 l[k].most) ∧ (cacs l)[k*6+5]? = some (.int .i64 l[k].tugs) :=
  ⟨flat_get (f := cac) (s := 6) (fun _ => rfl) hk (j := 0) (by decide), flat_get (f := cac) (s := 6) (fun _ => rfl) hk (j := 1) (by decide), flat_get (f := cac) (s := 6) (fun _ => rfl) hk (j := 2) (by decide), flat_get (f := cac) (s := 6) (fun _ => rfl) hk (j := 3) (by decide), flat_get (f := cac) (s := 6) (fun _ => rfl) hk (j := 4) (by decide), flat_get (f := cac) (s := 6) (fun _ => rfl) hk (j := 5) (by decide)⟩
theorem swcs_get {l : List Swp} {k : Nat} (hk : k < l.length) : (swcs l)[k*3]? = some (.int .i64 l[k].hour) ∧ (swcs l)[k*3+1]? = some (.int .i64 l[k].channel) ∧ (swcs l)[k*3+2]? = some (.int .i64 l[k].tugs) :=
  ⟨flat_get (f := swc) (s := 3) (fun _ => rfl) hk (j := 0) (by decide), flat_get (f := swc) (s := 3) (fun _ => rfl) hk (j := 1) (by decide), flat_get (f := swc) (s := 3) (fun _ => rfl) hk (j := 2) (by decide)⟩
theorem vscs_get {l : List Vst} {k : Nat} (hk : k < l.length) : (vscs l)[k*4]? = some (.int .i64 l[k].arr) ∧ (vscs l)[k*4+1]? = some (.int .i64 l[k].last) ∧ (vscs l)[k*4+2]? = some (.int .i64 l[k].stay) ∧ (vscs l)[k*4+3]? = some (.int .i64 l[k].dra) :=
  ⟨flat_get (f := vsc) (s := 4) (fun _ => rfl) hk (j := 0) (by decide), flat_get (f := vsc) (s := 4) (fun _ => rfl) hk (j := 1) (by decide), flat_get (f := vsc) (s := 4) (fun _ => rfl) hk (j := 2) (by decide), flat_get (f := vsc) (s := 4) (fun _ => rfl) hk (j := 3) (by decide)⟩
theorem plcs_get {l : List Plc} {k : Nat} (hk : k < l.length) : (plcs l)[k*2]? = some (.int .i64 l[k].berth) ∧ (plcs l)[k*2+1]? = some (.int .i64 l[k].start) :=
  ⟨flat_get (f := plc) (s := 2) (fun _ => rfl) hk (j := 0) (by decide), flat_get (f := plc) (s := 2) (fun _ => rfl) hk (j := 1) (by decide)⟩

/-- a berth's path: where it lies -/
def PathB (D : Nat) (w : World) (A : Option Addr) (c : Nat) (l : List Int) : Prop := RdB D w 1 A l.length (ints l) ∧ l.length ≤ c ∧ c ≤ 9223372036854775807 ∧ (A = none → c = 0)
/-- berths -/
def BtsB (D : Nat) (w : World) (A : Option Addr) (l : List Brt) : Prop :=
  ∀ (k : Nat) (hk : k < l.length), ∃ b off Ak ck, A = some ⟨b, off, none⟩ ∧ b < D ∧ w.cell? ⟨b, off + k*2, none⟩ = some (.int .i64 l[k].depth) ∧ w.cell? ⟨b, off + k*2 + 1, none⟩ = some (.slice Ak l[k].path.length ck) ∧ PathB D w Ak ck l[k].path
section
variable {D : Nat} {w w' : World} {A : Option Addr}
theorem PathB.below {c : Nat} {l : List Int} (h : PathB D w A c l) (hb : Below D w w') : PathB D w' A c l := ⟨h.1.below hb, h.2⟩
theorem PathB.mono {c : Nat} {l : List Int} (h : PathB D w A c l) {D' : Nat} (hD : D ≤ D') : PathB D' w A c l := ⟨h.1.mono hD, h.2⟩
theorem BtsB.below {l : List Brt} (h : BtsB D w A l) (hb : Below D w w') : BtsB D w' A l := by
  intro k hk
  obtain ⟨b, off, Ak, ck, e, hlt, h1, h2, h3⟩ := h k hk
  exact ⟨b, off, Ak, ck, e, hlt, (hb.cell (p := ⟨b, off + k*2, none⟩) hlt).trans h1, (hb.cell (p := ⟨b, off + k*2 + 1, none⟩) hlt).trans h2, h3.below hb⟩
theorem BtsB.mono {l : List Brt} (h : BtsB D w A l) {D' : Nat} (hD : D ≤ D') : BtsB D' w A l := by
  intro k hk
  obtain ⟨b, off, Ak, ck, e, hlt, h1, h2, h3⟩ := h k hk
  exact ⟨b, off, Ak, ck, e, by omega, h1, h2, h3.mono hD⟩
end

/-- a port's value -/
abbrev prtV (Ac : Option Addr) (cc : Nat) (Ab : Option Addr) (cb : Nat) (p : Prt) : Array Value := #[.slice Ac p.chs.length cc, .slice Ab p.bts.length cb, .int .i64 p.tugs]
structure PrtB (D : Nat) (w : World) (Ac : Option Addr) (cc : Nat) (Ab : Option Addr) (cb : Nat) (p : Prt) : Prop where
  chs : RdB D w 3 Ac p.chs.length (chcs p.chs)
  bts : BtsB D w Ab p.bts
  c1 : p.chs.length ≤ cc ∧ cc ≤ 9223372036854775807 ∧ (Ac = none → cc = 0)
  c2 : p.bts.length ≤ cb ∧ cb ≤ 9223372036854775807 ∧ (Ab = none → cb = 0)
/-- a plan's value -/
abbrev plnV (Al : Option Addr) (cl : Nat) (As : Option Addr) (cs : Nat) (l : Pln) : Array Value := #[.int .i64 l.hours, .slice Al l.calls.length cl, .slice As l.swps.length cs]
structure PlnB (D : Nat) (w : World) (Al : Option Addr) (cl : Nat) (As : Option Addr) (cs : Nat) (l : Pln) : Prop where
  calls : RdB D w 6 Al l.calls.length (cacs l.calls)
  swps : RdB D w 3 As l.swps.length (swcs l.swps)
  c1 : l.calls.length ≤ cl ∧ cl ≤ 9223372036854775807 ∧ (Al = none → cl = 0)
  c2 : l.swps.length ≤ cs ∧ cs ≤ 9223372036854775807 ∧ (As = none → cs = 0)
section
variable {D : Nat} {w w' : World} {Ac Ab Al As : Option Addr} {cc cb cl cs : Nat} {p : Prt} {l : Pln}
theorem PrtB.below (h : PrtB D w Ac cc Ab cb p) (hb : Below D w w') : PrtB D w' Ac cc Ab cb p := ⟨h.chs.below hb, h.bts.below hb, h.c1, h.c2⟩
theorem PrtB.mono (h : PrtB D w Ac cc Ab cb p) {D' : Nat} (hD : D ≤ D') : PrtB D' w Ac cc Ab cb p := ⟨h.chs.mono hD, h.bts.mono hD, h.c1, h.c2⟩
theorem PlnB.below (h : PlnB D w Al cl As cs l) (hb : Below D w w') : PlnB D w' Al cl As cs l := ⟨h.calls.below hb, h.swps.below hb, h.c1, h.c2⟩
theorem PlnB.mono (h : PlnB D w Al cl As cs l) {D' : Nat} (hD : D ≤ D') : PlnB D' w Al cl As cs l := ⟨h.calls.mono hD, h.swps.mono hD, h.c1, h.c2⟩
end
theorem Below.down {w w' : World} {B B' : Nat} (h : Below B w w') (hB : B' ≤ B) : Below B' w w' := h.mono hB
end Go.Proofs.Ythmldeningpjbaa
/- The leaves of layer 9: within, maps. -/
namespace Go.Proofs.Ythmldeningpjbaa
open Go Go.RowKit Sp Pt

theorem ptWithin_any (n lo hi : Int) (w : World) :
    Calls Try.prog 80 #[.int .i64 n, .int .i64 lo, .int .i64 hi] w fun e w' => e = .returned (.bool (within n lo hi)) ∧ w = w' := by
  go_enter Try.func80, Try.ntmps80
  go_wp2
  all_goals (go_ret; refine ⟨?_, rfl⟩; simp [within]; try omega)

abbrev mpV (m : Mp) : Value := .agg #[.int .i64 m.add, .int .i64 m.floor, .int .i64 m.most]

theorem mpRight_any (m : Mp) (w : World) :
    Calls Try.prog 78 #[mpV m] w fun e w' => e = .returned (.bool (mright m)) ∧ Below w.heap.size w w' := by
  go_enter Try.func78, Try.ntmps78
  go_wp2_with (go_at_call 80; refine (ptWithin_any _ _ _ _).mono ?_; rintro e w' ⟨rfl, rfl⟩)
  all_goals (go_ret; refine ⟨?_, (Below.refl _ _).alloc (Nat.le_refl _) _⟩; simp_all [mright]; try (by_cases h : m.most = 1000000000 <;> simp [h]))

theorem nothing_any (v : Value) (w : World) : Calls Try.prog 74 #[v] w fun e w' => e = .returned (.tuple #[]) ∧ w = w' := by
  go_enter Try.func74, Try.ntmps74
  go_wp2
  go_end0
  exact ⟨rfl, rfl⟩

theorem Apply_any (m : Mp) (b : Int) (w : World) :
    Calls Try.prog 26 #[mpV m, .int .i64 b] w fun e w' => e = .returned (.tuple #[.int .i64 (applyN m b), .int .i64 (applyE m b)]) ∧ Below w.heap.size w w' := by
  obtain ⟨r, hr⟩ : ∃ r, r = mright m := ⟨_, rfl⟩
  obtain ⟨i, hi⟩ : ∃ i, i = within b 0 100000000 := ⟨_, rfl⟩
  have hm : ∀ wx, Calls Try.prog 78 #[mpV m] wx fun e w' => e = .returned (.bool r) ∧ Below wx.heap.size wx w' := fun wx => by rw [hr]; exact mpRight_any m wx
  have hw : ∀ wx, Calls Try.prog 80 #[.int .i64 b, .int .i64 0, .int .i64 100000000] wx fun e w' => e = .returned (.bool i) ∧ wx = w' := fun wx => by rw [hi]; exact ptWithin_any b 0 _ wx
  have h1 : r = true → -100000000 ≤ m.add ∧ m.add ≤ 100000000 := by intro h; have := mright_iff.1 (hr.symm.trans h); simp only [BIG] at this; omega
  have h2 : i = true → 0 ≤ b ∧ b ≤ 100000000 := by intro h; rw [hi] at h; simpa [within] using h
  have HR := Lib.hid (And.intro hr hi)
  clear hr hi
  cases r
  · go_enter Try.func26, Try.ntmps26
    go_wp2_with (go_at_call 78; refine (hm _).mono ?_; rintro e w' ⟨rfl, hb⟩)
    go_ret2
    have e1 : applyE m b = 1 := by unfold applyE; rw [← HR.out.1, if_pos rfl]
    exact ⟨by rw [applyN, e1]; rfl, ((Below.refl _ _).alloc (Nat.le_refl _) _).trans (hb.mono (by simp))⟩
  · obtain ⟨a1, a2⟩ := h1 rfl
    cases i
    · go_enter Try.func26, Try.ntmps26
      go_wp2_with (first | (go_at_call 78; refine (hm _).mono ?_; rintro e w' ⟨rfl, hb⟩) | (go_at_call 80; refine (hw _).mono ?_; rintro e w' ⟨rfl, rfl⟩))
      go_ret2
      have e1 : applyE m b = 6 := by unfold applyE; rw [← HR.out.1, if_neg (by decide), if_pos HR.out.2.symm]
      exact ⟨by rw [applyN, e1]; rfl, ((Below.refl _ _).alloc (Nat.le_refl _) _).trans (hb.mono (by simp))⟩
    · obtain ⟨b1, b2⟩ := h2 rfl
      go_enter Try.func26, Try.ntmps26
      go_wp2_with (first | (go_at_call 78; refine (hm _).mono ?_; rintro e w' ⟨rfl, hb⟩; have f2 : w'.cell? ⟨w.heap.size, 2, none⟩ = some (.int .i64 m.most) := (hb.cell (p := ⟨w.heap.size, 2, none⟩) (by simp)).trans (by simp [World.cell?_alloc_new]); have f1 : w'.cell? ⟨w.heap.size, 1, none⟩ = some (.int .i64 m.floor) := (hb.cell (p := ⟨w.heap.size, 1, none⟩) (by simp)).trans (by simp [World.cell?_alloc_new]); have f0 : w'.cell? ⟨w.heap.size, 0, none⟩ = some (.int .i64 m.add) := (hb.cell (p := ⟨w.heap.size, 0, none⟩) (by simp)).trans (by simp [World.cell?_alloc_new])) | (go_at_call 80; refine (hw _).mono ?_; rintro e w' ⟨rfl, rfl⟩))
      all_goals
        go_ret2
        have e1 : applyE m b = if m.most < b then 8 else 0 := by unfold applyE; rw [← HR.out.1, if_neg (by decide), if_neg (by rw [← HR.out.2]; decide)]
        refine ⟨?_, ((Below.refl _ _).alloc (Nat.le_refl _) _).trans (hb.mono (by simp))⟩
        rw [applyN, e1]
        first | (simp [*]; done) | (simp [*]; omega)
end Go.Proofs.Ythmldeningpjbaa
