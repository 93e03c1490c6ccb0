import Derived.Test.YthmldeningpjbaaPLp3
import Derived.Test.YthmldeningpjbaaPLp8
import Derived.Test.YthmldeningpjbaaProg
import Derived.Test.YthmldeningpjbaaPLp0
import Derived.Test.YthmldeningpjbaaPLp5
import Derived.Test.YthmldeningpjbaaPLp1
set_option linter.unusedVariables false
set_option linter.unusedSimpArgs false
set_option maxRecDepth 100000
set_option maxHeartbeats 40000000
namespace Go.Proofs.Ythmldeningpjbaa.Pt
open Sp
def MdPath (n : Nat) (l : List Int) : Prop := (∃ a, l = [a] ∧ 0 ≤ a ∧ a < n) ∨ ∃ a b, l = [a, b] ∧ a ≠ b ∧ 0 ≤ a ∧ a < n ∧ 0 ≤ b ∧ b < n
structure MdP (p : Prt) : Prop where
  tg : 1 ≤ p.tugs ∧ p.tugs ≤ 6
  nc : 1 ≤ p.chs.length ∧ p.chs.length ≤ 3
  nb : 1 ≤ p.bts.length ∧ p.bts.length ≤ 3
  chf : ∀ c ∈ p.chs, 0 ≤ c.grow ∧ c.grow < 30 ∧ 0 ≤ c.frost ∧ c.frost < 4 ∧ 1 ≤ c.clear ∧ c.clear ≤ 40
  btf : ∀ b ∈ p.bts, 300 ≤ b.depth ∧ b.depth ≤ 1065 ∧ MdPath p.chs.length b.path
theorem MdPath.ok {n : Nat} {l : List Int} (h : MdPath n l) : l ≠ [] ∧ l.Nodup ∧ (∀ x ∈ l, 0 ≤ x ∧ x < n) ∧ pathOk n l l.length = true ∧ l.length ≤ 2 := by
  rcases h with ⟨a, rfl, h0, h1⟩ | ⟨a, b, rfl, hne, h0, h1, h2, h3⟩
  · refine ⟨by simp, by simp, by simp; omega, ?_, by simp⟩;simp [pathOk, within]; omega
  · refine ⟨by simp, by simpa using hne, by simp; omega, ?_, by simp⟩;simp [pathOk, within];exact ⟨by omega, by omega, fun e => hne e.symm⟩
theorem checkP_md {p : Prt} (h : MdP p) : checkP p = 0 := by
  have h1 : within p.chs.length 1 6 = true := by rw [within_iff]; have := h.nc; omega
  have h2 : within p.bts.length 1 4 = true := by rw [within_iff]; have := h.nb; omega
  have h3 : within p.tugs 0 20 = true := by rw [within_iff]; have := h.tg; omega
  have h4 : p.chs.all Pt.chOk = true := List.all_eq_true.2 fun c hc => by
    have := h.chf c hc;unfold Pt.chOk;simp only [Bool.and_eq_true, within_iff]; omega
  have h5 : p.bts.all (btOk p.chs.length) = true := List.all_eq_true.2 fun b hb => by
    obtain ⟨a1, a2, a3⟩ := h.btf b hb;obtain ⟨q1, q2, q3, q4, q5⟩ := a3.ok;unfold btOk;simp only [Bool.and_eq_true, within_iff, q4, and_true, Bool.not_eq_true', decide_eq_false_iff_not];exact ⟨by omega, by simpa using q1⟩
  unfold checkP;rw [h1, h2, h3, h4, h5]; rfl
def tgC (h : Int) : List Cal → Int
  | [] => 0
  | c :: l => (if c.hour = h then c.tugs else 0) + tgC h l
def tgS (h : Int) : List Swp → Int
  | [] => 0
  | c :: l => (if c.hour = h then c.tugs else 0) + tgS h l
theorem tgC_snoc (h : Int) (l : List Cal) (c : Cal) : tgC h (l ++ [c]) = tgC h l + (if c.hour = h then c.tugs else 0) := by
  induction l with
  | nil => simp [tgC]
  | cons x l ih => rw [List.cons_append, tgC, tgC, ih]; omega
theorem tgS_snoc (h : Int) (l : List Swp) (c : Swp) : tgS h (l ++ [c]) = tgS h l + (if c.hour = h then c.tugs else 0) := by
  induction l with
  | nil => simp [tgS]
  | cons x l ih => rw [List.cons_append, tgS, tgS, ih]; omega
theorem tly_get {p : Prt} {h : Int} (h0 : 0 ≤ h) : ∀ {l : List Cal} {t : Tly}, (∀ c ∈ l, 0 ≤ c.hour ∧ c.hour < t.tugs.length) → getI (l.foldl (tlyCall p) t).tugs h = getI t.tugs h + tgC h l ∧ (l.foldl (tlyCall p) t).tugs.length = t.tugs.length
  | [], t, _ => ⟨by simp [tgC], rfl⟩
  | c :: l, t, hc => by
    obtain ⟨c1, c2⟩ := hc c (by simp);have e : (tlyCall p t c).tugs = setI t.tugs c.hour (getI t.tugs c.hour + c.tugs) := by rw [tlyCall, hit_tugs]
    have el : (tlyCall p t c).tugs.length = t.tugs.length := by rw [e, setI_length]
    obtain ⟨i1, i2⟩ := tly_get (p := p) h0 (l := l) (t := tlyCall p t c) (fun x hx => by rw [el]; exact hc x (by simp [hx]));rw [List.foldl_cons, i1, i2, el, e, getI_set c1 h0 c2, tgC];refine ⟨?_, rfl⟩;by_cases q : c.hour = h
    · subst q; simp; omega
    · rw [if_neg q, if_neg q]; omega
theorem swp_get {h : Int} (h0 : 0 ≤ h) : ∀ {l : List Swp} {t : List Int}, (∀ c ∈ l, 0 ≤ c.hour ∧ c.hour < t.length) → getI (l.foldl addSwp t) h = getI t h + tgS h l
  | [], t, _ => by simp [tgS]
  | c :: l, t, hc => by
    obtain ⟨c1, c2⟩ := hc c (by simp);have el : (addSwp t c).length = t.length := setI_length _ _ _;have i1 := swp_get h0 (l := l) (t := addSwp t c) (fun x hx => by rw [el]; exact hc x (by simp [hx]));rw [List.foldl_cons, i1, addSwp, getI_set c1 h0 c2, tgS];by_cases q : c.hour = h
    · subst q; simp; omega
    · rw [if_neg q, if_neg q]; omega
theorem set_false {l : List Bool} {k : Nat} (h : ∀ j, l.getD j false = false) (j : Nat) : (l.set k false).getD j false = false := by
  have := h j;simp only [List.getD_eq_getElem?_getD, List.getElem?_set] at *;split
  · split <;> rfl
  · exact this
theorem hit_ok {h : Int} : ∀ {l : List Int} {t : Tly}, l.Nodup → (∀ n ∈ l, (h, n) ∉ t.hits) → (∀ k, t.twice.getD k false = false) →
    (∀ k, (l.foldl (hit1 h) t).twice.getD k false = false) ∧ ∀ x ∈ (l.foldl (hit1 h) t).hits, x ∈ t.hits ∨ x.1 = h
  | [], t, _, _, ht => ⟨ht, fun x hx => .inl hx⟩
  | n :: l, t, hn, hh, ht => by
    obtain ⟨n1, n2⟩ := List.nodup_cons.1 hn;have e0 : t.hits.count (h, n) = 0 := List.count_eq_zero.2 (hh n (by simp));have e1 : hit1 h t n = ⟨t.tugs, t.twice.set h.toNat false, (h, n) :: t.hits⟩ := by unfold hit1; rw [e0, ht]; rfl
    rw [List.foldl_cons, e1];obtain ⟨i1, i2⟩ := hit_ok (h := h) (l := l) (t := ⟨t.tugs, t.twice.set h.toNat false, (h, n) :: t.hits⟩) n2 (fun m hm => by
      simp only [List.mem_cons, Prod.mk.injEq, true_and, not_or];exact ⟨fun e => n1 (e ▸ hm), hh m (by simp [hm])⟩) (fun k => set_false ht k)
    refine ⟨i1, fun x hx => ?_⟩;rcases i2 x hx with e | e
    · rcases List.mem_cons.1 e with rfl | e
      · exact .inr rfl
      · exact .inl e
    · exact .inr e
theorem tly_twice {p : Prt} : ∀ {l : List Cal} {t : Tly}, (∀ c ∈ l, (bt p c.berth).path.Nodup) → l.Pairwise (fun a b => a.hour < b.hour) → (∀ c ∈ l, ∀ x ∈ t.hits, x.1 < c.hour) → (∀ k, t.twice.getD k false = false) →
    ∀ k, (l.foldl (tlyCall p) t).twice.getD k false = false
  | [], t, _, _, _, ht => ht
  | c :: l, t, hn, hs, hh, ht => by
    obtain ⟨s1, s2⟩ := List.pairwise_cons.1 hs;have h1 := hit_ok (h := c.hour) (l := (bt p c.berth).path) (t := ⟨setI t.tugs c.hour (getI t.tugs c.hour + c.tugs), t.twice, t.hits⟩) (hn c (by simp)) (fun n _ hm => by have := hh c (by simp) _ hm; simp at this) ht;rw [List.foldl_cons];refine tly_twice (fun x hx => hn x (by simp [hx])) s2 (fun x hx y hy => ?_) h1.1;rcases h1.2 y hy with e | e
    · exact hh x (by simp [hx]) y e
    · rw [e]; exact s1 x hx
theorem finE_ok {tg : Int} {ts : List Int} {tw : List Bool} : ∀ {n k : Nat}, (∀ j, k ≤ j → j < k + n → tw.getD j false = false ∧ ts.getD j 0 ≤ tg) → finE tg ts tw k n = 0
  | 0, _, _ => rfl
  | n + 1, k, h => by
    obtain ⟨h1, h2⟩ := h k (Nat.le_refl _) (by omega);rw [finE, h1, if_neg (by simp), if_neg (by omega)];exact finE_ok fun j hj1 hj2 => h j (by omega) (by omega)
theorem callsE_of {p : Prt} {h : Int} : ∀ {l : List Cal} {f : Int}, (∀ c ∈ l, callE p h c c.hour = 0 ∧ f ≤ c.hour) → l.Pairwise (fun a b => a.hour ≤ b.hour) → callsE p h f l = 0
  | [], _, _, _ => rfl
  | c :: l, f, hc, hs => by
    obtain ⟨s1, s2⟩ := List.pairwise_cons.1 hs;obtain ⟨c1, c2⟩ := hc c (by simp);have e : callE p h c f = 0 := by
      unfold callE at c1 ⊢;split at c1
      · cases c1
      split at c1
      · cases c1
      split at c1
      · cases c1
      rename_i h1 h2 h3
      rw [if_neg h1, if_neg h2, if_neg h3, if_neg (by omega)]
    rw [callsE, if_neg (by simp [e])];exact callsE_of (fun x hx => ⟨(hc x (by simp [hx])).1, s1 x hx⟩) s2
theorem swpsE_of {p : Prt} {h : Int} : ∀ {l : List Swp}, (∀ s ∈ l, swpE p h s = 0) → swpsE p h l = 0
  | [], _ => rfl
  | c :: l, hc => by
    rw [swpsE, if_neg (by simp [hc c (by simp)])];exact swpsE_of fun x hx => hc x (by simp [hx])
def outsOk : List Cal → List Bool → Prop
  | [], _ => True
  | c :: l, b => b.getD c.berth.toNat false = c.out ∧ outsOk l (b.set c.berth.toNat (!c.out))
def outsAft : List Cal → List Bool → List Bool
  | [], b => b
  | c :: l, b => outsAft l (b.set c.berth.toNat (!c.out))
theorem outsAft_append : ∀ (a c : List Cal) (b : List Bool), outsAft (a ++ c) b = outsAft c (outsAft a b)
  | [], _, _ => rfl
  | x :: a, c, b => by rw [List.cons_append, outsAft, outsAft, outsAft_append]
theorem outsOk_append : ∀ (a c : List Cal) (b : List Bool), outsOk (a ++ c) b ↔ outsOk a b ∧ outsOk c (outsAft a b)
  | [], _, _ => by simp [outsOk, outsAft]
  | x :: a, c, b => by rw [List.cons_append, outsOk, outsOk, outsAft, outsOk_append, and_assoc]
theorem outsAft_length : ∀ (a : List Cal) (b : List Bool), (outsAft a b).length = b.length
  | [], _ => rfl
  | x :: a, b => by rw [outsAft, outsAft_length, List.length_set]
theorem bOk_outs (h : Int) : ∀ (l : List Cal) (b : List Bool), (bOk h l b ↔ outsOk (l.filter fun c => decide (c.hour = h)) b) ∧ bAft h l b = outsAft (l.filter fun c => decide (c.hour = h)) b
  | [], b => ⟨Iff.rfl, rfl⟩
  | c :: l, b => by
    by_cases q : c.hour = h
    · rw [List.filter_cons_of_pos (by simpa using q), bOk, if_neg (by simpa using q), bAft, if_neg (by simpa using q), outsOk, outsAft, (bOk_outs h l _).1, (bOk_outs h l _).2];exact ⟨Iff.rfl, rfl⟩
    · rw [List.filter_cons_of_neg (by simpa using q), bOk, if_pos q, bAft, if_pos q];exact bOk_outs h l b
theorem hours_split (k n : Int) (hn : 0 ≤ n) : ∀ {l : List Cal}, l.Pairwise (fun a b => a.hour ≤ b.hour) →
    l.filter (fun c => decide (k ≤ c.hour) && decide (c.hour < k + (n + 1))) = l.filter (fun c => decide (c.hour = k)) ++ l.filter (fun c => decide (k + 1 ≤ c.hour) && decide (c.hour < k + 1 + n))
  | [], _ => rfl
  | c :: l, hs => by
    obtain ⟨s1, s2⟩ := List.pairwise_cons.1 hs;have ih := hours_split k n hn s2;by_cases q : c.hour = k
    · rw [List.filter_cons_of_pos (by simp; omega), List.filter_cons_of_pos (by simpa using q), List.filter_cons_of_neg (by simp; omega), ih]; rfl
    · by_cases q2 : k + 1 ≤ c.hour ∧ c.hour < k + 1 + n
      · have e : l.filter (fun c => decide (c.hour = k)) = [] := List.filter_eq_nil_iff.2 fun x hx => by have := s1 x hx; simp; omega
        rw [List.filter_cons_of_pos (by simp; omega), List.filter_cons_of_neg (by simpa using q), List.filter_cons_of_pos (by simp; omega), ih, e]; rfl
      · rw [List.filter_cons_of_neg (by simp; omega), List.filter_cons_of_neg (by simpa using q), List.filter_cons_of_neg (by simp; omega), ih]
theorem bOkF_outs {l : Pln} (hs : l.calls.Pairwise (fun a b => a.hour ≤ b.hour)) : ∀ (n k : Nat) (b : List Bool),
    (bOkF l k n b ↔ outsOk (l.calls.filter fun c => decide ((k : Int) ≤ c.hour) && decide (c.hour < (k : Int) + n)) b) ∧ bAftF l k n b = outsAft (l.calls.filter fun c => decide ((k : Int) ≤ c.hour) && decide (c.hour < (k : Int) + n)) b
  | 0, k, b => by
    have e : l.calls.filter (fun c => decide ((k : Int) ≤ c.hour) && decide (c.hour < (k : Int) + (0 : Nat))) = [] := List.filter_eq_nil_iff.2 fun x hx => by simp <;> omega
    rw [e]; exact ⟨Iff.rfl, rfl⟩
  | n + 1, k, b => by
    have e := hours_split k n (by omega) hs;obtain ⟨b1, b2⟩ := bOk_outs k l.calls b;obtain ⟨i1, i2⟩ := bOkF_outs hs n (k + 1) (bAft k l.calls b);rw [bOkF, bAftF, b1, i1, i2];simp only [Int.natCast_add, Int.natCast_one] at e ⊢;rw [e, outsOk_append, outsAft_append, ← b2];exact ⟨Iff.rfl, rfl⟩
theorem busy_outs {l : Pln} (hs : l.calls.Pairwise (fun a b => a.hour ≤ b.hour)) (hh : ∀ c ∈ l.calls, 0 ≤ c.hour ∧ c.hour < l.hours) (b : List Bool) : (busyOk l b ↔ outsOk l.calls b) ∧ busyAft l b = outsAft l.calls b := by
  have h := bOkF_outs hs l.hours.toNat 0 b;have e : l.calls.filter (fun c => decide (((0 : Nat) : Int) ≤ c.hour) && decide (c.hour < ((0 : Nat) : Int) + l.hours.toNat)) = l.calls := List.filter_eq_self.2 fun x hx => by
    have := hh x hx;simp; omega
  rw [e] at h;exact h
structure MdL (p : Prt) (l : Pln) : Prop where
  h : 4 ≤ l.hours ∧ l.hours ≤ 43
  n1 : l.calls.length ≤ 8
  n2 : l.swps.length ≤ 11
  ca : ∀ c ∈ l.calls, 0 ≤ c.hour ∧ c.hour < l.hours ∧ 0 ≤ c.berth ∧ c.berth < p.bts.length ∧ 10 ≤ c.draught ∧ c.draught < 210 ∧ 10 ≤ c.most ∧ c.most < 130 ∧ 0 ≤ c.tugs ∧ c.tugs ≤ 3
  srt : l.calls.Pairwise (fun a b => a.hour < b.hour)
  out : outsOk l.calls (List.replicate p.bts.length false)
  sw : ∀ s ∈ l.swps, 0 ≤ s.channel ∧ s.channel < p.chs.length ∧ 1 ≤ s.tugs ∧ s.tugs ≤ 6 ∧ 0 ≤ s.hour ∧ s.hour < l.hours
  tg : ∀ h, tgC h l.calls + tgS h l.swps ≤ p.tugs
theorem MdL.checkL {p : Prt} {l : Pln} (hp : MdP p) (hl : MdL p l) : checkL p l = 0 := by
  have h1 := checkP_md hp;have h2 : within l.hours 1 100 = true := by rw [within_iff]; have := hl.h; omega
  have h3 : callsE p l.hours 0 l.calls = 0 := callsE_of (fun c hc => by
    obtain ⟨c1, c2, c3, c4, c5, c6, c7, c8, c9, c10⟩ := hl.ca c hc;refine ⟨?_, c1⟩;have hd := (hp.btf _ (bt_mem c3 c4)).1;unfold callE;rw [if_neg (by simp only [Bool.not_eq_false, Bool.and_eq_true, within_iff]; omega), if_neg (by simp only [Bool.not_eq_false, within_iff]; omega), if_neg (by simp only [Bool.not_eq_false, within_iff]; omega), if_neg (by omega)]) (hl.srt.imp fun h => by omega)
  have h4 : swpsE p l.hours l.swps = 0 := swpsE_of fun s hs => by
    have := hl.sw s hs;unfold swpE;rw [if_neg (by simp only [Bool.not_eq_false, Bool.and_eq_true, within_iff]; omega), if_neg (by simp only [Bool.not_eq_false, within_iff]; omega)]
  have n1 := hl.n1;have n2 := hl.n2;have hh := hl.h;unfold Pt.checkL;rw [if_neg (by simp [h1]), if_neg (by omega), if_neg (by simp [h2]), if_neg (by simp [h3]), if_neg (by simp [h4])];have ht : (tly0 l.hours.toNat).tugs.length = l.hours.toNat := by simp [tly0]
  refine finE_ok fun j _ hj => ⟨?_, ?_⟩
  · refine tly_twice (fun c hc => ?_) hl.srt (fun c hc x hx => ?_) (fun k => ?_) j
    · obtain ⟨c1, c2, c3, c4, _⟩ := hl.ca c hc;exact (hp.btf _ (bt_mem c3 c4)).2.2.ok.2.1
    · simp [tly0] at hx
    · simp only [tly0, List.getD_eq_getElem?_getD, List.getElem?_replicate]; split <;> rfl
  · have g1 := tly_get (p := p) (h := j) (by omega) (l := l.calls) (t := tly0 l.hours.toNat) (fun c hc => by have := hl.ca c hc; rw [ht]; omega);have g2 := swp_get (h := j) (by omega) (l := l.swps) (t := (tlyCalls p l.hours.toNat l.calls).tugs) (fun s hs => by unfold tlyCalls; rw [g1.2, ht]; have := hl.sw s hs; omega);have g3 := hl.tg j;have e : (l.swps.foldl addSwp (tlyCalls p l.hours.toNat l.calls).tugs).getD j 0 = getI (l.swps.foldl addSwp (tlyCalls p l.hours.toNat l.calls).tugs) j := by unfold getI; simp
    rw [e, g2];unfold tlyCalls;rw [g1.1, tly0_get];omega
theorem MdL.busy {p : Prt} {l : Pln} (hl : MdL p l) : busyOk l (List.replicate p.bts.length false) ∧ busyAft l (List.replicate p.bts.length false) = outsAft l.calls (List.replicate p.bts.length false) := by
  have h := busy_outs (l := l) (hl.srt.imp fun h => by omega) (fun c hc => by have := hl.ca c hc; omega) (List.replicate p.bts.length false);exact ⟨h.1.2 hl.out, h.2⟩
def inSp (L : List (Int × Int)) (h : Int) : Bool := L.any fun y => decide (y.1 ≤ h) && decide (h ≤ y.2)
theorem spanAdd_in {L : List (Int × Int)} {k h : Int} (hL : ∀ y ∈ L, y.1 ≤ y.2 ∧ y.2 < k) : (inSp (spanAdd L k) h = (inSp L h || decide (h = k))) ∧ ∀ y ∈ spanAdd L k, y.1 ≤ y.2 ∧ y.2 < k + 1 := by
  have one : ∀ (M : List (Int × Int)), inSp (M ++ [(k, k)]) h = (inSp M h || decide (h = k)) := fun M => by
    unfold inSp;rw [List.any_append, List.any_cons, List.any_nil, Bool.or_false]
    congr 1
    rw [← Bool.decide_and];exact decide_eq_decide.2 (by constructor <;> intro e <;> simp only at * <;> omega)
  unfold spanAdd;cases e : L.getLast? with
  | none =>
    refine ⟨one L, fun y hy => ?_⟩;rcases List.mem_append.1 hy with g | g
    · have := hL y g; omega
    · simp only [List.mem_singleton] at g; subst g; simp only; omega
  | some y =>
    obtain ⟨M, rfl⟩ : ∃ M, L = M ++ [y] := ⟨L.dropLast, by
      obtain ⟨h1, h2⟩ := List.getLast?_eq_some_iff.1 e;rw [h2]; simp⟩
    simp only;split
    · next g =>
      have hy := hL y (by simp);refine ⟨?_, fun z hz => ?_⟩
      · rw [List.dropLast_concat];unfold inSp;rw [List.any_append, List.any_append, List.any_cons, List.any_nil, Bool.or_false, List.any_cons, List.any_nil, Bool.or_false, Bool.or_assoc]
        congr 1
        rw [← Bool.decide_and, ← Bool.decide_and, ← Bool.decide_or];exact decide_eq_decide.2 (by constructor <;> intro e <;> simp only at * <;> omega)
      · rw [List.dropLast_concat] at hz;rcases List.mem_append.1 hz with g2 | g2
        · have := hL z (by simp [g2]); omega
        · simp only [List.mem_singleton] at g2; subst g2; simp only; omega
    · refine ⟨one _, fun z hz => ?_⟩;rcases List.mem_append.1 hz with g2 | g2
      · have := hL z g2; omega
      · simp only [List.mem_singleton] at g2; subst g2; simp only; omega
theorem slot_in (f : Nat → Bool) (h : Nat) : ∀ k, inSp (slotS f k) h = (decide (h < k) && f h) ∧ ∀ y ∈ slotS f k, y.1 ≤ y.2 ∧ y.2 < k
  | 0 => ⟨by simp [slotS, inSp], by simp [slotS]⟩
  | k + 1 => by
    obtain ⟨i1, i2⟩ := slot_in f h k;rw [slotS_succ];by_cases g : f k = true
    · rw [if_pos g];obtain ⟨a1, a2⟩ := spanAdd_in (k := (k : Int)) (h := (h : Int)) i2;refine ⟨?_, fun y hy => by have := a2 y hy; omega⟩;rw [a1, i1];by_cases e : h = k
      · subst e; simp [g]
      · rw [decide_eq_false (show ¬ (h : Int) = (k : Int) by omega), Bool.or_false]
        congr 1
        exact decide_eq_decide.2 (by omega)
    · rw [if_neg g];refine ⟨?_, fun y hy => by have := i2 y hy; omega⟩;rw [i1];by_cases e : h = k
      · subst e; simp [g]
      · congr 1
        exact decide_eq_decide.2 (by omega)
theorem callT_tgC (l : Pln) (h : Int) : ∀ L, callT l h L = tgC h L
  | [] => rfl
  | c :: L => by rw [callT, tgC, callT_tgC l h L]
theorem swpT_tgS (l : Pln) (h : Int) : ∀ L, swpT l h L = tgS h L
  | [] => rfl
  | c :: L => by rw [swpT, tgS, swpT_tgS l h L]
theorem tgC_append (h : Int) : ∀ (a b : List Cal), tgC h (a ++ b) = tgC h a + tgC h b
  | [], b => by simp [tgC]
  | c :: a, b => by rw [List.cons_append, tgC, tgC, tgC_append h a b]; omega
theorem finE_iff {tg : Int} {ts : List Int} {tw : List Bool} : ∀ {n k : Nat}, finE tg ts tw k n = 0 ↔ ∀ j, k ≤ j → j < k + n → tw.getD j false = false ∧ ts.getD j 0 ≤ tg
  | 0, k => ⟨fun _ j h1 h2 => by omega, fun _ => rfl⟩
  | n + 1, k => by
    constructor
    · intro h j h1 h2;rw [finE] at h;by_cases a : tw.getD k false = true
      · rw [if_pos a] at h; exact absurd h (by decide)
      · rw [if_neg a] at h;by_cases b : tg < ts.getD k 0
        · rw [if_pos b] at h; exact absurd h (by decide)
        · rw [if_neg b] at h;by_cases e : j = k
          · subst e; exact ⟨by simpa using a, by omega⟩
          · exact finE_iff.1 h j (by omega) (by omega)
    · exact fun h => finE_ok h
theorem hit_hits (h : Int) : ∀ (l : List Int) (t : Tly) (x : Int × Int), x ∈ (l.foldl (hit1 h) t).hits ↔ x ∈ t.hits ∨ (x.1 = h ∧ x.2 ∈ l)
  | [], t, x => by simp
  | n :: l, t, x => by
    rw [List.foldl_cons, hit_hits h l];simp only [hit1, List.mem_cons];constructor
    · rintro ((rfl | e) | ⟨e1, e2⟩)
      · exact .inr ⟨rfl, .inl rfl⟩
      · exact .inl e
      · exact .inr ⟨e1, .inr e2⟩
    · rintro (e | ⟨e1, e2 | e2⟩)
      · exact .inl (.inr e)
      · exact .inl (.inl (Prod.ext e1 e2))
      · exact .inr ⟨e1, e2⟩
theorem tly_hits (p : Prt) : ∀ (l : List Cal) (t : Tly) (x : Int × Int), x ∈ (l.foldl (tlyCall p) t).hits ↔ x ∈ t.hits ∨ ∃ c ∈ l, x.1 = c.hour ∧ x.2 ∈ (bt p c.berth).path
  | [], t, x => by simp
  | c :: l, t, x => by
    rw [List.foldl_cons, tly_hits p l, tlyCall, hit_hits];simp only [List.mem_cons, exists_eq_or_imp];exact or_assoc
theorem set_len {T : Type} (l : List T) (k : Nat) (x d : T) (j : Nat) : (l.set k x).getD j d = if k = j ∧ k < l.length then x else l.getD j d := by
  rw [List.getD_eq_getElem?_getD, List.getD_eq_getElem?_getD, List.getElem?_set];by_cases h : k = j
  · rw [if_pos h];by_cases h2 : k < l.length
    · rw [if_pos h2, if_pos ⟨h, h2⟩]; rfl
    · rw [if_neg h2, if_neg (fun e => h2 e.2), ← h, List.getElem?_eq_none (by omega)]
  · rw [if_neg h, if_neg (fun e => h e.1)]
theorem hit_keep (h : Int) : ∀ (l : List Int) (t : Tly), (l.foldl (hit1 h) t).twice.length = t.twice.length ∧ ∀ j, t.twice.getD j false = true → (l.foldl (hit1 h) t).twice.getD j false = true
  | [], t => ⟨rfl, fun _ e => e⟩
  | n :: l, t => by
    obtain ⟨i1, i2⟩ := hit_keep h l (hit1 h t n);rw [List.foldl_cons];refine ⟨i1.trans (by simp [hit1]), fun j e => i2 j ?_⟩;simp only [hit1];rw [set_len];split
    · next q => rw [q.1, e]; rfl
    · exact e
theorem tly_keep (p : Prt) : ∀ (l : List Cal) (t : Tly), (l.foldl (tlyCall p) t).twice.length = t.twice.length ∧ ∀ j, t.twice.getD j false = true → (l.foldl (tlyCall p) t).twice.getD j false = true
  | [], t => ⟨rfl, fun _ e => e⟩
  | c :: l, t => by
    obtain ⟨i1, i2⟩ := tly_keep p l (tlyCall p t c);obtain ⟨k1, k2⟩ := hit_keep c.hour (bt p c.berth).path ⟨setI t.tugs c.hour (getI t.tugs c.hour + c.tugs), t.twice, t.hits⟩;rw [List.foldl_cons];exact ⟨i1.trans k1, fun j e => i2 j (k2 j e)⟩
theorem hit_bad (h : Int) {n : Int} : ∀ (l : List Int) (t : Tly), n ∈ l → (h, n) ∈ t.hits → h.toNat < t.twice.length → (l.foldl (hit1 h) t).twice.getD h.toNat false = true
  | m :: l, t, hn, hh, hlt => by
    rw [List.foldl_cons];rcases List.mem_cons.1 hn with rfl | g
    · refine (hit_keep h l _).2 _ ?_;simp only [hit1];rw [set_len, if_pos ⟨rfl, hlt⟩];have : 0 < t.hits.count (h, n) := List.count_pos_iff.2 hh;rw [decide_eq_true (by omega), Bool.or_true]
    · refine hit_bad h l _ g ?_ ?_
      · simp only [hit1, List.mem_cons]; exact .inr hh
      · simpa [hit1] using hlt
def insC (l : Pln) (a : Nat) (c : Cal) : Pln := ⟨l.hours, l.calls.take a ++ c :: l.calls.drop a, l.swps⟩
structure AtH (l : Pln) (h : Int) (a : Nat) : Prop where
  le : a ≤ l.calls.length
  pre : ∀ c ∈ l.calls.take a, c.hour ≤ h
  post : ∀ c ∈ l.calls.drop a, h < c.hour
theorem mem_ins {l : Pln} {a : Nat} {c x : Cal} (h : x ∈ (insC l a c).calls) : x = c ∨ x ∈ l.calls := by
  simp only [insC, List.mem_append, List.mem_cons] at h;rcases h with h | rfl | h
  · exact .inr (List.mem_of_mem_take h)
  · exact .inl rfl
  · exact .inr (List.mem_of_mem_drop h)
theorem shut_iff {p : Prt} {h : Int} {path : List Int} {L : List Cal} : shutL p h path L = true ↔ ∃ c ∈ L, c.hour = h ∧ ∃ n ∈ (bt p c.berth).path, n ∈ path := by
  simp [shutL, List.any_eq_true]
theorem less_twice {p : Prt} {l : Pln} (hp : MdP p) (hl : MdL p l) {h : Int} {a : Nat} (H : AtH l h a) (h0 : 0 ≤ h) (hh : h < l.hours) {c : Cal} (ch : c.hour = h) (c0 : 0 ≤ c.berth) (c1 : c.berth < p.bts.length) :
    (shutL p h (bt p c.berth).path l.calls = false → ∀ j, (tlyCalls p l.hours.toNat (insC l a c).calls).twice.getD j false = false) ∧
    (shutL p h (bt p c.berth).path l.calls = true → (tlyCalls p l.hours.toNat (insC l a c).calls).twice.getD h.toNat false = true) := by
  have nod : ∀ x ∈ l.calls, (bt p x.berth).path.Nodup := fun x hx => by
    obtain ⟨x1, x2, x3, x4, _⟩ := hl.ca x hx;exact (hp.btf _ (bt_mem x3 x4)).2.2.ok.2.1
  have nodc : (bt p c.berth).path.Nodup := (hp.btf _ (bt_mem c0 c1)).2.2.ok.2.1;have st : ∀ k, (tly0 l.hours.toNat).twice.getD k false = false := fun k => by
    simp only [tly0, List.getD_eq_getElem?_getD, List.getElem?_replicate]; split <;> rfl
  have hs := hl.srt;rw [← List.take_append_drop a l.calls] at hs;obtain ⟨s1, s2, s3⟩ := List.pairwise_append.1 hs;have t1 := tly_twice (p := p) (l := l.calls.take a) (t := tly0 l.hours.toNat) (fun x hx => nod x (List.mem_of_mem_take hx)) s1 (fun x hx y hy => by simp [tly0] at hy) st;have e : tlyCalls p l.hours.toNat (insC l a c).calls = (l.calls.drop a).foldl (tlyCall p) (tlyCall p ((l.calls.take a).foldl (tlyCall p) (tly0 l.hours.toNat)) c) := by
    unfold tlyCalls insC;rw [List.foldl_append, List.foldl_cons]
  rw [e];obtain ⟨T, hT⟩ : ∃ T, T = (l.calls.take a).foldl (tlyCall p) (tly0 l.hours.toNat) := ⟨_, rfl⟩;have hits : ∀ x, x ∈ T.hits ↔ ∃ y ∈ l.calls.take a, x.1 = y.hour ∧ x.2 ∈ (bt p y.berth).path := fun x => by
    rw [hT, tly_hits]; simp [tly0]
  have len : T.twice.length = l.hours.toNat := by rw [hT, (tly_keep p _ _).1]; simp [tly0]
  rw [← hT] at t1 ⊢;constructor
  · intro hsh;have h1 := hit_ok (h := c.hour) (l := (bt p c.berth).path) (t := ⟨setI T.tugs c.hour (getI T.tugs c.hour + c.tugs), T.twice, T.hits⟩) nodc (fun n hn hm => by
      obtain ⟨y, y1, y2, y3⟩ := (hits _).1 hm;have : shutL p h (bt p c.berth).path l.calls = true := shut_iff.2 ⟨y, List.mem_of_mem_take y1, by simp only at y2; omega, n, y3, hn⟩;rw [hsh] at this; cases this) t1
    refine tly_twice (fun x hx => nod x (List.mem_of_mem_drop hx)) s2 (fun x hx y hy => ?_) h1.1;have hx2 := H.post x hx;rcases h1.2 y hy with g | g
    · obtain ⟨z, z1, z2, _⟩ := (hits y).1 g;have := H.pre z z1;omega
    · omega
  · intro hsh;obtain ⟨y, y1, y2, n, n1, n2⟩ := shut_iff.1 hsh;have hy : y ∈ l.calls.take a := by
      rw [← List.take_append_drop a l.calls] at y1;rcases List.mem_append.1 y1 with g | g
      · exact g
      · have := H.post y g; omega
    refine (tly_keep p _ _).2 _ ?_;rw [← ch];exact hit_bad c.hour (bt p c.berth).path ⟨setI T.tugs c.hour (getI T.tugs c.hour + c.tugs), T.twice, T.hits⟩ n2 ((hits _).2 ⟨y, hy, by simp only; omega, n1⟩) (by show c.hour.toNat < T.twice.length; rw [len]; omega)
theorem less_check {p : Prt} {l : Pln} (hp : MdP p) (hl : MdL p l) {h : Int} {a : Nat} (H : AtH l h a) (h0 : 0 ≤ h) (hh : h < l.hours) {k : Int} (k0 : 0 ≤ k) (k1 : k < p.bts.length) {m t : Int} (hm : 0 ≤ m ∧ m ≤ 1000000) (ht : 0 ≤ t ∧ t ≤ 20) (u : Bool) :
    checkL p (insC l a ⟨h, k, u, 10, m, t⟩) = 0 ↔ shutL p h (bt p k).path l.calls = false ∧ t + tgC h l.calls + tgS h l.swps ≤ p.tugs := by
  obtain ⟨c, hc⟩ : ∃ c : Cal, c = ⟨h, k, u, 10, m, t⟩ := ⟨_, rfl⟩;have ch : c.hour = h := by rw [hc]
  have cb : c.berth = k := by rw [hc]
  have ct : c.tugs = t := by rw [hc]
  rw [← hc];have tw := less_twice hp hl H h0 hh ch (by rw [cb]; exact k0) (by rw [cb]; exact k1);rw [cb] at tw;have inb : ∀ x ∈ (insC l a c).calls, 0 ≤ x.hour ∧ x.hour < l.hours := fun x hx => by
    rcases mem_ins hx with rfl | g
    · omega
    · have := hl.ca x g; omega
  have h1 := checkP_md hp;have h2 : within l.hours 1 100 = true := by rw [within_iff]; have := hl.h; omega
  have n1 := hl.n1;have n2 := hl.n2;have h3 : callsE p l.hours 0 (insC l a c).calls = 0 := callsE_of (fun x hx => by
    have c1 := inb x hx;refine ⟨?_, c1.1⟩;have g : 0 ≤ x.berth ∧ x.berth < p.bts.length ∧ 10 ≤ x.draught ∧ x.draught < 210 ∧ 0 ≤ x.most ∧ x.most ≤ 1000000 ∧ 0 ≤ x.tugs ∧ x.tugs ≤ 20 := by
      rcases mem_ins hx with rfl | g
      · rw [hc]; simp only; omega
      · have := hl.ca x g; omega
    have hd := (hp.btf _ (bt_mem g.1 g.2.1)).1;unfold callE;rw [if_neg (by simp only [Bool.not_eq_false, Bool.and_eq_true, within_iff]; omega), if_neg (by simp only [Bool.not_eq_false, within_iff]; omega), if_neg (by simp only [Bool.not_eq_false, within_iff]; omega), if_neg (by omega)]) (by
    have hs := hl.srt;rw [← List.take_append_drop a l.calls] at hs;obtain ⟨s1, s2, s3⟩ := List.pairwise_append.1 hs;refine List.pairwise_append.2 ⟨s1.imp fun g => by omega, List.pairwise_cons.2 ⟨fun y hy => by have := H.post y hy; omega, s2.imp fun g => by omega⟩, fun x hx y hy => ?_⟩;rcases List.mem_cons.1 hy with rfl | g
    · have := H.pre x hx; omega
    · have := s3 x hx y g; omega)
  have h4 : swpsE p l.hours l.swps = 0 := swpsE_of fun s hs => by
    have := hl.sw s hs;unfold swpE;rw [if_neg (by simp only [Bool.not_eq_false, Bool.and_eq_true, within_iff]; omega), if_neg (by simp only [Bool.not_eq_false, within_iff]; omega)]
  have len : (insC l a c).calls.length ≤ 60 := by simp [insC]; omega
  have e : checkL p (insC l a c) = finE p.tugs (l.swps.foldl addSwp (tlyCalls p l.hours.toNat (insC l a c).calls).tugs) (tlyCalls p l.hours.toNat (insC l a c).calls).twice 0 l.hours.toNat := by
    unfold Pt.checkL;rw [if_neg (by simp [h1]), if_neg (by show ¬ (60 < (insC l a c).calls.length ∨ 200 < l.swps.length); omega), if_neg (by show ¬ within l.hours 1 100 = false; simp [h2]), if_neg (by show ¬ callsE p l.hours 0 (insC l a c).calls ≠ 0; simp [h3]), if_neg (by show ¬ swpsE p l.hours l.swps ≠ 0; simp [h4])];rfl
  have hlen0 : (tly0 l.hours.toNat).tugs.length = l.hours.toNat := by simp [tly0]
  have tg : ∀ j : Nat, (l.swps.foldl addSwp (tlyCalls p l.hours.toNat (insC l a c).calls).tugs).getD j 0 = tgC j l.calls + (if h = j then t else 0) + tgS j l.swps := fun j => by
    have g1 := tly_get (p := p) (h := j) (by omega) (l := (insC l a c).calls) (t := tly0 l.hours.toNat) (fun x hx => by have := inb x hx; rw [hlen0]; omega);have g2 := swp_get (h := j) (by omega) (l := l.swps) (t := (tlyCalls p l.hours.toNat (insC l a c).calls).tugs) (fun s hs => by unfold tlyCalls; rw [g1.2, hlen0]; have := hl.sw s hs; omega);have e1 : (l.swps.foldl addSwp (tlyCalls p l.hours.toNat (insC l a c).calls).tugs).getD j 0 = getI (l.swps.foldl addSwp (tlyCalls p l.hours.toNat (insC l a c).calls).tugs) j := by unfold getI; simp
    rw [e1, g2];unfold tlyCalls;rw [g1.1, tly0_get];have e2 : tgC j (insC l a c).calls = tgC j l.calls + (if h = j then t else 0) := by
      have e3 : tgC j l.calls = tgC j (l.calls.take a) + tgC j (l.calls.drop a) := by rw [← tgC_append, List.take_append_drop]
      rw [e3];show tgC j (l.calls.take a ++ c :: l.calls.drop a) = _;rw [tgC_append, tgC, ch, ct];omega
    rw [e2];omega
  rw [e, finE_iff];constructor
  · intro g;obtain ⟨g1, g2⟩ := g h.toNat (by omega) (by omega);rw [tg, if_pos (by omega)] at g2;have e4 : ((h.toNat : Nat) : Int) = h := by omega
    rw [e4] at g2;refine ⟨?_, by omega⟩;cases q : shutL p h (bt p k).path l.calls with
    | false => rfl
    | true => rw [tw.2 q] at g1; cases g1
  · rintro ⟨g1, g2⟩ j - hj;refine ⟨tw.1 g1 j, ?_⟩;rw [tg];by_cases q : h = j
    · subst q; rw [if_pos rfl]; omega
    · rw [if_neg q]; have := hl.tg j; omega
end Go.Proofs.Ythmldeningpjbaa.Pt
namespace Go.Proofs.Ythmldeningpjbaa
open Go Go.RowKit Sp
def byts (l : List Int) : List Value := l.map (Value.int .u8)
theorem byts_get {l : List Int} {k : Nat} (h : k < l.length) : (byts l)[k]? = some (.int .u8 (l.getD k 0)) := by simp [byts, h]
structure DrawSt (w : World) (ib lb : Nat) (A : Option Addr) (c : Nat) (l : List Int) (k : Nat) : Prop where
  cnt : w.heap[ib]? = some (.cells #[.int .i64 (min k l.length : Nat)] 3 (0, 0))
  lst : w.heap[lb]? = some (.cells #[.slice A l.length c] 22 (0, 0))
  rd : Rd w 1 A l.length (byts l)
theorem DrawSt.keep {w w' : World} {ib lb : Nat} {A : Option Addr} {c : Nat} {l : List Int} {k : Nat} (h : DrawSt w ib lb A c l k) {S : List Nat} (hk : Keep S w w') (h1 : ib ∉ S) (h2 : lb ∉ S) (h3 : 0 < l.length → ∀ b off, A = some ⟨b, off, none⟩ → b ∉ S) : DrawSt w' ib lb A c l k :=
  ⟨(hk.block _ (hL_ h.cnt) h1).trans h.cnt, (hk.block _ (hL_ h.lst) h2).trans h.lst, h.rd.1, fun h0 => (hk.rd h.rd (h3 h0)).2 h0⟩
def draw (l : List Int) (k : Nat) (n : Int) : Int := l.getD k 0 % n
theorem draw_range {l : List Int} (k : Nat) {n : Int} (hn : 0 < n) : 0 ≤ draw l k n ∧ draw l k n < n := ⟨Int.emod_nonneg _ (by omega), Int.emod_lt_of_pos _ hn⟩
def Bytes (l : List Int) : Prop := ∀ x ∈ l, 0 ≤ x ∧ x ≤ 255
theorem Bytes.get {l : List Int} (h : Bytes l) (k : Nat) : 0 ≤ l.getD k 0 ∧ l.getD k 0 ≤ 255 := by
  rw [List.getD_eq_getElem?_getD];cases hk : l[k]? with
  | none => simp
  | some x => exact h x (List.mem_of_getElem? hk)
def NextPost (w : World) (ib lb : Nat) (A : Option Addr) (c : Nat) (l : List Int) (k : Nat) (n : Int) (e : Ending) (w' : World) : Prop :=
  e = .returned (.int .i64 (draw l k n)) ∧ DrawSt w' ib lb A c l (k + 1) ∧ Keep [ib] w w' ∧ w'.heap.size = w.heap.size
theorem next_any (ib lb : Nat) (A : Option Addr) (c : Nat) (l : List Int) (k : Nat) (n : Int) (w : World) (h : DrawSt w ib lb A c l k) (hl : Bytes l) (hm : l.length ≤ 9223372036854775806) (hne : ib ≠ lb) (hA : 0 < l.length → ∀ b off, A = some ⟨b, off, none⟩ → b ≠ ib) (hn : 0 < n ∧ n ≤ 1000) :
    Calls Try.prog 70 #[.int .i64 n, .pointer (some ⟨ib, 0, none⟩), .pointer (some ⟨lb, 0, none⟩)] w (NextPost w ib lb A c l k n) := by
  have ci : w.cell? ⟨ib, 0, none⟩ = some (.int .i64 (min k l.length : Nat)) := (cOH h.cnt 0).trans rfl;have cl : w.cell? ⟨lb, 0, none⟩ = some (.slice A l.length c) := (cOH h.lst 0).trans rfl;have fi := fOH h.cnt 0;have zi := hL_ h.cnt;have zl := hL_ h.lst;obtain ⟨hn1, hn2⟩ := hn;have H := Lib.hid h;by_cases hk : k < l.length
  · obtain ⟨b, off, u, rfl, hb, hu, hc⟩ := h.rd.one hk;rw [byts_get hk] at hu;obtain rfl : Value.int .u8 (l.getD k 0) = u := by injection hu
    obtain ⟨x, hx⟩ : ∃ x, x = l.getD k 0 := ⟨_, rfl⟩;have hxr := hl.get k;rw [← hx] at hc hxr;have hbi : b ≠ ib := hA (by omega) b off rfl;have e1 : (min k l.length : Nat) = k := by omega
    rw [e1] at ci;have e2 := World.cell?_setCell_same w ⟨ib, 0, none⟩ (.int .i64 ((k : Int) + 1)) ci;have HX := Lib.hid hx;clear h hx hu e1
    go_enter Try.func70, Try.ntmps70
    go_wp2
    go_ret;have K : Keep [ib] w (w.setCell ⟨ib, 0, none⟩ (.int .i64 ((k : Int) + 1))) := (Keep.refl _ _).setCell (.inl (by simp)) _;refine ⟨by rw [draw, ← HX.out]; rfl, ⟨?_, (K.block _ zl (by simp; omega)).trans H.out.lst, K.rd H.out.rd fun b' off' e => by have := hA (by omega) b' off' e; simpa using this⟩, K, by simp [World.setCell]⟩;rw [hS_ H.out.cnt, show min (k + 1) l.length = k + 1 from by omega];rfl
  · have e1 : (min k l.length : Nat) = l.length := by omega
    rw [e1] at ci;have HE := Lib.hid e1;clear h e1
    go_enter Try.func70, Try.ntmps70
    go_wp2
    go_ret;refine ⟨?_, ⟨?_, H.out.lst, H.out.rd⟩, Keep.refl _ _, rfl⟩
    · rw [draw, List.getD_eq_getElem?_getD, List.getElem?_eq_none (by omega)]; simp
    · rw [H.out.cnt, show min (k + 1) l.length = min k l.length from by omega]
theorem Drawn_any (A : Option Addr) (c : Nat) (l : List Int) (w : World) (hr : Rd w 1 A l.length (byts l)) :
    Calls Try.prog 16 #[.slice A l.length c] w fun e w' => e = .returned (.func (.func 70) #[] #[.pointer (some ⟨w.heap.size + 1, 0, none⟩), .pointer (some ⟨w.heap.size, 0, none⟩)]) ∧ DrawSt w' (w.heap.size + 1) w.heap.size A c l 0 ∧ Below w.heap.size w w' ∧ w'.heap.size = w.heap.size + 2 := by
  go_enter Try.func16, Try.ntmps16
  go_wp2
  go_ret;have b : Below w.heap.size w ((w.alloc (.cells #[.slice A l.length c] 22)).alloc (.cells #[.int .i64 0] 3)) := ((Below.refl _ _).alloc (Nat.le_refl _) _).alloc (by simp) _;refine ⟨rfl, ⟨?_, hA_ (heap_alloc_new _ _) _, hr.below b⟩, b, by simp⟩;have := heap_alloc_new (w.alloc (.cells #[.slice A l.length c] 22)) (.cells #[.int .i64 0] 3);rw [World.size_alloc] at this;rw [this]; simp
end Go.Proofs.Ythmldeningpjbaa
namespace Go.Proofs.Ythmldeningpjbaa
open Go Go.RowKit Go.Lib Sp
def NxS (D : Nat) (w : World) (ib lb : Nat) : Prop := ∃ A c l k, DrawSt w ib lb A c l k ∧ Bytes l ∧ l.length ≤ 9223372036854775806 ∧ ib ≠ lb ∧ D ≤ ib ∧ D ≤ lb ∧ (0 < l.length → ∀ b off, A = some ⟨b, off, none⟩ → b < D)
theorem NxS.keep {D : Nat} {w w' : World} {ib lb : Nat} (h : NxS D w ib lb) {S : List Nat} (hk : Keep S w w') (hS : ∀ x ∈ S, D ≤ x ∧ x ≠ ib ∧ x ≠ lb) : NxS D w' ib lb := by
  obtain ⟨A, c, l, k, h1, h2, h3, h4, h5, h6, h7⟩ := h;exact ⟨A, c, l, k, h1.keep hk (fun e => (hS _ e).2.1 rfl) (fun e => (hS _ e).2.2 rfl) (fun h0 b off e hm => by have := h7 h0 b off e; have := (hS _ hm).1; omega), h2, h3, h4, h5, h6, h7⟩
theorem NxS.below {D : Nat} {w w' : World} {ib lb : Nat} (h : NxS D w ib lb) (hb : Below w.heap.size w w') : NxS D w' ib lb := h.keep (S := []) (Keep.of_below hb) (by simp)
theorem NxS.lt {D : Nat} {w : World} {ib lb : Nat} (h : NxS D w ib lb) : ib < w.heap.size ∧ lb < w.heap.size ∧ D ≤ ib ∧ D ≤ lb ∧ ib ≠ lb := by
  obtain ⟨A, c, l, k, h1, h2, h3, h4, h5, h6, h7⟩ := h;exact ⟨hL_ h1.cnt, hL_ h1.lst, h5, h6, h4⟩
def SomePost (D : Nat) (w : World) (ib lb : Nat) (n : Int) (e : Ending) (w' : World) : Prop := ∃ x : Int, e = .returned (.int .i64 x) ∧ (0 ≤ x ∧ x < n) ∧ NxS D w' ib lb ∧ Keep [ib] w w' ∧ w'.heap.size = w.heap.size
theorem next_some {D : Nat} {ib lb : Nat} (n : Int) {w : World} (h : NxS D w ib lb) (hn : 0 < n ∧ n ≤ 1000) :
    Calls Try.prog 70 #[.int .i64 n, .pointer (some ⟨ib, 0, none⟩), .pointer (some ⟨lb, 0, none⟩)] w (SomePost D w ib lb n) := by
  obtain ⟨A, c, l, k, h1, h2, h3, h4, h5, h6, h7⟩ := h;refine (next_any ib lb A c l k n w h1 h2 h3 h4 (fun h0 b off e => by have := h7 h0 b off e; omega) hn).mono ?_;rintro e w' ⟨rfl, q1, q2, q3⟩;exact ⟨_, rfl, draw_range k hn.1, ⟨A, c, l, k + 1, q1, h2, h3, h4, h5, h6, h7⟩, q2, q3⟩
def DrawnPost (D : Nat) (w : World) (e : Ending) (w' : World) : Prop := ∃ ib lb, e = .returned (.func (.func 70) #[] #[.pointer (some ⟨ib, 0, none⟩), .pointer (some ⟨lb, 0, none⟩)]) ∧ NxS D w' ib lb ∧ w.heap.size ≤ ib ∧ w.heap.size ≤ lb ∧ Below w.heap.size w w'
theorem Drawn_some (D : Nat) (A : Option Addr) (c : Nat) (l : List Int) (w : World) (hr : Rd w 1 A l.length (byts l)) (hb : Bytes l) (hl : l.length ≤ 9223372036854775806) (hD : D ≤ w.heap.size) (hA : 0 < l.length → ∀ b off, A = some ⟨b, off, none⟩ → b < D) :
    Calls Try.prog 16 #[.slice A l.length c] w (DrawnPost D w) := by
  refine (Drawn_any A c l w hr).mono ?_;rintro e w' ⟨rfl, h1, h2, h3⟩;exact ⟨_, _, rfl, ⟨A, c, l, 0, h1, hb, hl, by omega, by omega, hD, hA⟩, by omega, Nat.le_refl _, h2⟩
end Go.Proofs.Ythmldeningpjbaa
namespace Go.Proofs.Ythmldeningpjbaa
open Go Go.RowKit Sp
structure ApC where
  ib : Nat
  lb : Nat
  k0 : Nat
  A0 : Option Addr
  c0 : Nat
  l0 : List Int
  ob : Nat
  e : TypeId
  sz : Nat
  k : Nat
  A : Option Addr
  c : Nat
  xs : List Value
  q : List Nat
  ys : List Value
  old : Array Value
  new : Option Addr → Nat → Array Value
  t : TypeId
structure ApS where
  bs : Nat
  A : Option Addr
  c : Nat
  g : Nat
structure ApOk (C : ApC) (W0 : World) : Prop where
  dr : DrawSt W0 C.ib C.lb C.A0 C.c0 C.l0 C.k0
  own : OwnS W0 C.e C.sz C.A C.k C.c C.xs C.q
  hob : W0.heap[C.ob]? = some (.cells C.old C.t (0, 0))
  obq : C.ob ∉ C.q
  oib : C.ob ≠ C.ib
  olb : C.ob ≠ C.lb
  ibq : C.ib ∉ C.q
  lbq : C.lb ∉ C.q
  ne : C.ib ≠ C.lb
  apart : 0 < C.l0.length → ∀ b off, C.A0 = some ⟨b, off, none⟩ → b ≠ C.ib ∧ b ≠ C.ob ∧ b ∉ C.q
  byt : Bytes C.l0
  len : C.l0.length ≤ 9223372036854775806
structure ApW (C : ApC) (opB opA opS : Nat) (cnt : (Nat → Bool) → Nat) (W0 : World) (s : ApS) (l : Nat → Bool) (w : World) : Prop where
  kp : Keep (C.ib :: C.ob :: C.q) W0 w
  dr : DrawSt w C.ib C.lb C.A0 C.c0 C.l0 (C.k0 + cnt l)
  own0 : l opA = false → OwnS w C.e C.sz C.A C.k C.c C.xs C.q
  own1 : l opA = true → OwnS w C.e C.sz s.A (C.k + 1) s.c (C.xs ++ C.ys) [s.g] ∧ (s.g ∈ C.q ∨ W0.heap.size ≤ s.g)
  hob : w.heap[C.ob]? = some (.cells (if l opS then C.new s.A s.c else C.old) C.t (0, 0))
  hbs : l opB = true → W0.heap.size ≤ s.bs ∧ w.heap[s.bs]? = some (.cells C.ys.toArray C.e (0, 0))
section
variable {C : ApC} {opB opA opS : Nat} {cnt : (Nat → Bool) → Nat} {W0 w w' : World} {s : ApS} {l : Nat → Bool}
theorem upd_ne {l : Nat → Bool} {i j : Nat} (h : i ≠ j) : upd l i j = l j := by simp [upd, Ne.symm h]
theorem upd_eq {l : Nat → Bool} {i : Nat} : upd l i i = true := by simp [upd]
theorem ApOk.start (O : ApOk C W0) (h : cnt (fun _ => false) = 0) : ApW C opB opA opS cnt W0 s (fun _ => false) W0.drew :=
  ⟨(Keep.refl _ _).drew, by rw [h]; exact O.dr.keep (S := []) ((Keep.refl _ _).drew) (by simp) (by simp) (by simp), fun _ => O.own, (fun h => by cases h), by rw [if_neg (by simp)]; exact O.hob, (fun h => by cases h)⟩
theorem ApOk.fresh (O : ApOk C W0) (H : ApW C opB opA opS cnt W0 s l w) (hb : l opB = true) : s.bs ≠ C.ib ∧ s.bs ≠ C.lb ∧ s.bs ≠ C.ob ∧ s.bs ∉ C.q := by
  have h1 := (H.hbs hb).1;have h2 := hL_ O.dr.cnt;have h3 := hL_ O.dr.lst;have h4 := hL_ O.hob;exact ⟨by omega, by omega, by omega, fun h => by have := O.own.lt _ h; omega⟩
theorem ApW.call (H : ApW C opB opA opS cnt W0 s l w) (O : ApOk C W0) (i : Nat) (hi : i ≠ opB ∧ i ≠ opA ∧ i ≠ opS) (hd : DrawSt w' C.ib C.lb C.A0 C.c0 C.l0 (C.k0 + cnt (upd l i))) (hk : Keep [C.ib] w w') : ApW C opB opA opS cnt W0 s (upd l i) w' := by
  obtain ⟨a1, a2, a3⟩ := hi;have h2 := hL_ O.dr.cnt;refine ⟨H.kp.trans hk (fun x hx => .inl (by simp at hx; simp [hx])), hd, ?_, ?_, ?_, ?_⟩
  · rw [upd_ne a2]; exact fun e => (H.own0 e).keepS hk (fun g hg => by simp; rintro rfl; exact O.ibq hg)
  · rw [upd_ne a2];refine fun e => ⟨(H.own1 e).1.keepS hk (fun g hg => ?_), (H.own1 e).2⟩;rw [List.mem_singleton.1 hg];simp only [List.mem_singleton];rintro e2;rcases (H.own1 e).2 with e3 | e3
    · exact O.ibq (e2 ▸ e3)
    · omega
  · rw [upd_ne a3]; exact (hk.block _ (hL_ H.hob) (by simpa using O.oib)).trans H.hob
  · rw [upd_ne a1]; exact fun e => ⟨(H.hbs e).1, (hk.block _ (hL_ (H.hbs e).2) (by simpa using (O.fresh H e).1)).trans (H.hbs e).2⟩
theorem ApW.other (H : ApW C opB opA opS cnt W0 s l w) (O : ApOk C W0) (i : Nat) (hi : i ≠ opB ∧ i ≠ opA ∧ i ≠ opS) (hc : cnt (upd l i) = cnt l) : ApW C opB opA opS cnt W0 s (upd l i) w :=
  H.call O i hi (by rw [hc]; exact H.dr) (Keep.refl _ _)
theorem ApW.next (H : ApW C opB opA opS cnt W0 s l w) (O : ApOk C W0) (m : Int) (hm : 0 < m ∧ m ≤ 1000) :
    Calls Try.prog 70 #[.int .i64 m, .pointer (some ⟨C.ib, 0, none⟩), .pointer (some ⟨C.lb, 0, none⟩)] w (NextPost w C.ib C.lb C.A0 C.c0 C.l0 (C.k0 + cnt l) m) :=
  next_any C.ib C.lb C.A0 C.c0 C.l0 (C.k0 + cnt l) m w H.dr O.byt O.len O.ne (fun h0 b off e => (O.apart h0 b off e).1) hm
theorem ApW.build (H : ApW C opB opA opS cnt W0 s l w) (O : ApOk C W0) (hn : opB ≠ opA ∧ opB ≠ opS) (hc : cnt (upd l opB) = cnt l) : ApW C opB opA opS cnt W0 { s with bs := w.heap.size } (upd l opB) (w.alloc (.cells C.ys.toArray C.e)) := by
  refine ⟨H.kp.alloc _, ?_, ?_, ?_, ?_, fun _ => ⟨H.kp.size, heap_alloc_new _ _⟩⟩
  · rw [hc]; exact H.dr.keep (S := []) ((Keep.refl _ _).alloc _) (by simp) (by simp) (by simp)
  · rw [upd_ne hn.1]; exact fun e => (H.own0 e).alloc _
  · rw [upd_ne hn.1]; exact fun e => ⟨(H.own1 e).1.alloc _, (H.own1 e).2⟩
  · rw [upd_ne hn.2]; exact hA_ H.hob _
theorem ApW.app (H : ApW C opB opA opS cnt W0 s l w) (O : ApOk C W0) (hn : opB ≠ opA ∧ opA ≠ opS) (hc : cnt (upd l opA) = cnt l) (h8 : l opB = true) (h9 : l opA = false) (h11 : l opS = false) {g c' : Nat} (o1 : OwnS w' C.e C.sz (some ⟨g, 0, none⟩) (C.k + 1) c' (C.xs ++ C.ys) [g]) (o2 : g ∈ C.q ∨ w.heap.size = g) (o3 : Keep C.q w w') :
    ApW C opB opA opS cnt W0 { s with A := some ⟨g, 0, none⟩, c := c', g := g } (upd l opA) w' := by
  have hh := H.hob;rw [h11, if_neg (by simp)] at hh;refine ⟨H.kp.trans o3 (fun x hx => .inl (by simp [hx])), ?_, ?_, ?_, ?_, ?_⟩
  · rw [hc]; exact H.dr.keep o3 O.ibq O.lbq (fun h0 b off e => (O.apart h0 b off e).2.2)
  · rw [upd_eq]; exact fun e => by cases e
  · exact fun _ => ⟨o1, by rcases o2 with e | e; exact .inl e; exact .inr (by have := H.kp.size; simp only; omega)⟩
  · rw [upd_ne hn.2, h11, if_neg (by simp)]; exact (o3.block _ (hL_ hh) O.obq).trans hh
  · rw [upd_ne hn.1.symm];exact fun e => ⟨(H.hbs e).1, (o3.block _ (hL_ (H.hbs e).2) (O.fresh H e).2.2.2).trans (H.hbs e).2⟩
theorem ApW.store (H : ApW C opB opA opS cnt W0 s l w) (O : ApOk C W0) (hn : opB ≠ opS ∧ opA ≠ opS) (hc : cnt (upd l opS) = cnt l) (j : Nat) (hnew : ∀ A c, C.new A c = C.old.setIfInBounds j (.slice A (C.k + 1) c)) (h9 : l opA = true) (h11 : l opS = false) :
    ApW C opB opA opS cnt W0 s (upd l opS) (w.setCell ⟨C.ob, j, none⟩ (.slice s.A (C.k + 1) s.c)) := by
  have hh := H.hob;rw [h11, if_neg (by simp)] at hh;have K : Keep [C.ob] w (w.setCell ⟨C.ob, j, none⟩ (.slice s.A (C.k + 1) s.c)) := (Keep.refl _ _).setCell (.inl (by simp)) _;refine ⟨H.kp.setCell (.inl (by simp)) _, ?_, ?_, ?_, ?_, ?_⟩
  · rw [hc]; exact H.dr.keep K (by simpa using O.oib.symm) (by simpa using O.olb.symm) (fun h0 b off e => by simpa using (O.apart h0 b off e).2.1)
  · rw [upd_ne hn.2.symm, h9]; exact fun e => by cases e
  · rw [upd_ne hn.2.symm];refine fun e => ⟨(H.own1 e).1.keepS K (fun g hg => ?_), (H.own1 e).2⟩;rw [List.mem_singleton.1 hg];simp only [List.mem_singleton];rintro e2;rcases (H.own1 e).2 with e3 | e3
    · exact O.obq (e2 ▸ e3)
    · have := hL_ O.hob; omega
  · rw [upd_eq, if_pos rfl, hnew]; exact hS_ hh j _
  · rw [upd_ne hn.1.symm];exact fun e => ⟨(H.hbs e).1, (K.block _ (hL_ (H.hbs e).2) (by simpa using (O.fresh H e).2.2.1)).trans (H.hbs e).2⟩
theorem ApW.at_append {P : Program} {o : Oper} {a : Act} {K : Act → World → Prop} {Q : Exit → Act → World → Prop} (H : ApW C opB opA opS cnt W0 s l w) (O : ApOk C W0) (x y : Operand) (t : TypeId)
    (ho : o.op = .call { callee := .builtin .append, args := #[x, y], argTypes := #[t, t] })
    (i : TypeInfo) (z : Value) (bytes : Nat) (ht : P.underlying t = some (.slice C.e)) (hi : P.info? C.e = some i) (hz : i.zero = some z)
    (hsize : i.size = C.sz) (hs0 : 0 < C.sz) (hby : i.bytes = bytes) (hzs : z.cells.size = C.sz) (hs : a.eval x = .slice C.A C.k C.c) (hx : a.eval y = .slice (some ⟨s.bs, 0, none⟩) 1 1)
    (hys : C.ys.length = C.sz) (h1 : ∀ u ∈ C.ys, u.oneCell' = true) (hk : C.k + 1 ≤ 1000000000000) (hbytes : bytes ≤ 100) (hn : opB ≠ opA ∧ opA ≠ opS) (hc : cnt (upd l opA) = cnt l) (h8 : l opB = true) (h9 : l opA = false) (h11 : l opS = false)
    (h : ∀ g c' w', ApW C opB opA opS cnt W0 { s with A := some ⟨g, 0, none⟩, c := c', g := g } (upd l opA) w' → K (a.put o.dst (.slice (some ⟨g, 0, none⟩) (C.k + 1) c')) w') : o.wp P a w K Q := by
  have hbs := H.hbs h8;refine wp_append_S x y t ho i z bytes ht hi hz hsize hs0 hby hzs hs ⟨s.bs, 0, none⟩ hx C.ys (H.own0 h9) hys (fun j v hj => by rw [show (⟨s.bs, 0, none⟩ : Addr).add j = ⟨s.bs, j, none⟩ from by simp [Addr.add]; omega]; exact (cOH hbs.2 j).trans (by simpa using hj)) h1 hk hbytes ?_;intro g c' w' o1 o2 o3 o4;exact h g c' w' (H.app O hn hc h8 h9 h11 o1 o2 o4)
end
end Go.Proofs.Ythmldeningpjbaa
