import Derived.Test.YthmldeningpjbaaPLp3
import Derived.Test.YthmldeningpjbaaPLp15
import Derived.Test.YthmldeningpjbaaPLp16
set_option linter.unusedVariables false
set_option linter.unusedSimpArgs false
set_option maxRecDepth 100000
set_option maxHeartbeats 40000000
namespace Go.Proofs.Ythmldeningpjbaa.Pt
open Sp
def MdPath (n : Nat) (l : List Int) : Prop := (∃ a, l = [a] ∧ 0 ≤ a ∧ a < n) ∨ ∃ a b, l = [a, b] ∧ a ≠ b ∧ 0 ≤ a ∧ a < n ∧ 0 ≤ b ∧ b < n
structure MdP (p : Prt) : Prop where
  tg : 1 ≤ p.tugs ∧ p.tugs ≤ 6
  nc : 1 ≤ p.chs.length ∧ p.chs.length ≤ 3
  nb : 1 ≤ p.bts.length ∧ p.bts.length ≤ 3
  chf : ∀ c ∈ p.chs, 0 ≤ c.grow ∧ c.grow < 30 ∧ 0 ≤ c.frost ∧ c.frost < 4 ∧ 1 ≤ c.clear ∧ c.clear ≤ 40
  btf : ∀ b ∈ p.bts, 300 ≤ b.depth ∧ b.depth ≤ 1065 ∧ MdPath p.chs.length b.path
theorem MdPath.ok {n : Nat} {l : List Int} (h : MdPath n l) : l ≠ [] ∧ l.Nodup ∧ (∀ x ∈ l, 0 ≤ x ∧ x < n) ∧ pathOk n l l.length = true ∧ l.length ≤ 2 := by
  rcases h with ⟨a, rfl, h0, h1⟩ | ⟨a, b, rfl, hne, h0, h1, h2, h3⟩
  · refine ⟨by simp, by simp, by simp; omega, ?_, by simp⟩;simp [pathOk, within]; omega
  · refine ⟨by simp, by simpa using hne, by simp; omega, ?_, by simp⟩;simp [pathOk, within];exact ⟨by omega, by omega, fun e => hne e.symm⟩
theorem checkP_md {p : Prt} (h : MdP p) : checkP p = 0 := by
  have h1 : within p.chs.length 1 6 = true := by rw [within_iff]; have := h.nc; omega
  have h2 : within p.bts.length 1 4 = true := by rw [within_iff]; have := h.nb; omega
  have h3 : within p.tugs 0 20 = true := by rw [within_iff]; have := h.tg; omega
  have h4 : p.chs.all Pt.chOk = true := List.all_eq_true.2 fun c hc => by
    have := h.chf c hc;unfold Pt.chOk;simp only [Bool.and_eq_true, within_iff]; omega
  have h5 : p.bts.all (btOk p.chs.length) = true := List.all_eq_true.2 fun b hb => by
    obtain ⟨a1, a2, a3⟩ := h.btf b hb;obtain ⟨q1, q2, q3, q4, q5⟩ := a3.ok;unfold btOk;simp only [Bool.and_eq_true, within_iff, q4, and_true, Bool.not_eq_true', decide_eq_false_iff_not];exact ⟨by omega, by simpa using q1⟩
  unfold checkP;rw [h1, h2, h3, h4, h5]; rfl
def tgC (h : Int) : List Cal → Int
  | [] => 0
  | c :: l => (if c.hour = h then c.tugs else 0) + tgC h l
def tgS (h : Int) : List Swp → Int
  | [] => 0
  | c :: l => (if c.hour = h then c.tugs else 0) + tgS h l
theorem tgC_snoc (h : Int) (l : List Cal) (c : Cal) : tgC h (l ++ [c]) = tgC h l + (if c.hour = h then c.tugs else 0) := by
  induction l with
  | nil => simp [tgC]
  | cons x l ih => rw [List.cons_append, tgC, tgC, ih]; omega
theorem tgS_snoc (h : Int) (l : List Swp) (c : Swp) : tgS h (l ++ [c]) = tgS h l + (if c.hour = h then c.tugs else 0) := by
  induction l with
  | nil => simp [tgS]
  | cons x l ih => rw [List.cons_append, tgS, tgS, ih]; omega
theorem tly_get {p : Prt} {h : Int} (h0 : 0 ≤ h) : ∀ {l : List Cal} {t : Tly}, (∀ c ∈ l, 0 ≤ c.hour ∧ c.hour < t.tugs.length) → getI (l.foldl (tlyCall p) t).tugs h = getI t.tugs h + tgC h l ∧ (l.foldl (tlyCall p) t).tugs.length = t.tugs.length
  | [], t, _ => ⟨by simp [tgC], rfl⟩
  | c :: l, t, hc => by
    obtain ⟨c1, c2⟩ := hc c (by simp);have e : (tlyCall p t c).tugs = setI t.tugs c.hour (getI t.tugs c.hour + c.tugs) := by rw [tlyCall, hit_tugs]
    have el : (tlyCall p t c).tugs.length = t.tugs.length := by rw [e, setI_length]
    obtain ⟨i1, i2⟩ := tly_get (p := p) h0 (l := l) (t := tlyCall p t c) (fun x hx => by rw [el]; exact hc x (by simp [hx]));rw [List.foldl_cons, i1, i2, el, e, getI_set c1 h0 c2, tgC];refine ⟨?_, rfl⟩;by_cases q : c.hour = h
    · subst q; simp; omega
    · rw [if_neg q, if_neg q]; omega
theorem swp_get {h : Int} (h0 : 0 ≤ h) : ∀ {l : List Swp} {t : List Int}, (∀ c ∈ l, 0 ≤ c.hour ∧ c.hour < t.length) → getI (l.foldl addSwp t) h = getI t h + tgS h l
  | [], t, _ => by simp [tgS]
  | c :: l, t, hc => by
    obtain ⟨c1, c2⟩ := hc c (by simp);have el : (addSwp t c).length = t.length := setI_length _ _ _;have i1 := swp_get h0 (l := l) (t := addSwp t c) (fun x hx => by rw [el]; exact hc x (by simp [hx]));rw [List.foldl_cons, i1, addSwp, getI_set c1 h0 c2, tgS];by_cases q : c.hour = h
    · subst q; simp; omega
    · rw [if_neg q, if_neg q]; omega
theorem set_false {l : List Bool} {k : Nat} (h : ∀ j, l.getD j false = false) (j : Nat) : (l.set k false).getD j false = false := by
  have := h j;simp only [List.getD_eq_getElem?_getD, List.getElem?_set] at *;split
  · split <;> rfl
  · exact this
theorem hit_ok {h : Int} : ∀ {l : List Int} {t : Tly}, l.Nodup → (∀ n ∈ l, (h, n) ∉ t.hits) → (∀ k, t.twice.getD k false = false) →
    (∀ k, (l.foldl (hit1 h) t).twice.getD k false = false) ∧ ∀ x ∈ (l.foldl (hit1 h) t).hits, x ∈ t.hits ∨ x.1 = h
  | [], t, _, _, ht => ⟨ht, fun x hx => .inl hx⟩
  | n :: l, t, hn, hh, ht => by
    obtain ⟨n1, n2⟩ := List.nodup_cons.1 hn;have e0 : t.hits.count (h, n) = 0 := List.count_eq_zero.2 (hh n (by simp));have e1 : hit1 h t n = ⟨t.tugs, t.twice.set h.toNat false, (h, n) :: t.hits⟩ := by unfold hit1; rw [e0, ht]; rfl
    rw [List.foldl_cons, e1];obtain ⟨i1, i2⟩ := hit_ok (h := h) (l := l) (t := ⟨t.tugs, t.twice.set h.toNat false, (h, n) :: t.hits⟩) n2 (fun m hm => by
      simp only [List.mem_cons, Prod.mk.injEq, true_and, not_or];exact ⟨fun e => n1 (e ▸ hm), hh m (by simp [hm])⟩) (fun k => set_false ht k)
    refine ⟨i1, fun x hx => ?_⟩;rcases i2 x hx with e | e
    · rcases List.mem_cons.1 e with rfl | e
      · exact .inr rfl
      · exact .inl e
    · exact .inr e
theorem tly_twice {p : Prt} : ∀ {l : List Cal} {t : Tly}, (∀ c ∈ l, (bt p c.berth).path.Nodup) → l.Pairwise (fun a b => a.hour < b.hour) → (∀ c ∈ l, ∀ x ∈ t.hits, x.1 < c.hour) → (∀ k, t.twice.getD k false = false) →
    ∀ k, (l.foldl (tlyCall p) t).twice.getD k false = false
  | [], t, _, _, _, ht => ht
  | c :: l, t, hn, hs, hh, ht => by
    obtain ⟨s1, s2⟩ := List.pairwise_cons.1 hs;have h1 := hit_ok (h := c.hour) (l := (bt p c.berth).path) (t := ⟨setI t.tugs c.hour (getI t.tugs c.hour + c.tugs), t.twice, t.hits⟩) (hn c (by simp)) (fun n _ hm => by have := hh c (by simp) _ hm; simp at this) ht;rw [List.foldl_cons];refine tly_twice (fun x hx => hn x (by simp [hx])) s2 (fun x hx y hy => ?_) h1.1;rcases h1.2 y hy with e | e
    · exact hh x (by simp [hx]) y e
    · rw [e]; exact s1 x hx
theorem finE_ok {tg : Int} {ts : List Int} {tw : List Bool} : ∀ {n k : Nat}, (∀ j, k ≤ j → j < k + n → tw.getD j false = false ∧ ts.getD j 0 ≤ tg) → finE tg ts tw k n = 0
  | 0, _, _ => rfl
  | n + 1, k, h => by
    obtain ⟨h1, h2⟩ := h k (Nat.le_refl _) (by omega);rw [finE, h1, if_neg (by simp), if_neg (by omega)];exact finE_ok fun j hj1 hj2 => h j (by omega) (by omega)
theorem callsE_of {p : Prt} {h : Int} : ∀ {l : List Cal} {f : Int}, (∀ c ∈ l, callE p h c c.hour = 0 ∧ f ≤ c.hour) → l.Pairwise (fun a b => a.hour ≤ b.hour) → callsE p h f l = 0
  | [], _, _, _ => rfl
  | c :: l, f, hc, hs => by
    obtain ⟨s1, s2⟩ := List.pairwise_cons.1 hs;obtain ⟨c1, c2⟩ := hc c (by simp);have e : callE p h c f = 0 := by
      unfold callE at c1 ⊢;split at c1
      · cases c1
      split at c1
      · cases c1
      split at c1
      · cases c1
      rename_i h1 h2 h3
      rw [if_neg h1, if_neg h2, if_neg h3, if_neg (by omega)]
    rw [callsE, if_neg (by simp [e])];exact callsE_of (fun x hx => ⟨(hc x (by simp [hx])).1, s1 x hx⟩) s2
theorem swpsE_of {p : Prt} {h : Int} : ∀ {l : List Swp}, (∀ s ∈ l, swpE p h s = 0) → swpsE p h l = 0
  | [], _ => rfl
  | c :: l, hc => by
    rw [swpsE, if_neg (by simp [hc c (by simp)])];exact swpsE_of fun x hx => hc x (by simp [hx])
def outsOk : List Cal → List Bool → Prop
  | [], _ => True
  | c :: l, b => b.getD c.berth.toNat false = c.out ∧ outsOk l (b.set c.berth.toNat (!c.out))
def outsAft : List Cal → List Bool → List Bool
  | [], b => b
  | c :: l, b => outsAft l (b.set c.berth.toNat (!c.out))
theorem outsAft_append : ∀ (a c : List Cal) (b : List Bool), outsAft (a ++ c) b = outsAft c (outsAft a b)
  | [], _, _ => rfl
  | x :: a, c, b => by rw [List.cons_append, outsAft, outsAft, outsAft_append]
theorem outsOk_append : ∀ (a c : List Cal) (b : List Bool), outsOk (a ++ c) b ↔ outsOk a b ∧ outsOk c (outsAft a b)
  | [], _, _ => by simp [outsOk, outsAft]
  | x :: a, c, b => by rw [List.cons_append, outsOk, outsOk, outsAft, outsOk_append, and_assoc]
theorem outsAft_length : ∀ (a : List Cal) (b : List Bool), (outsAft a b).length = b.length
  | [], _ => rfl
  | x :: a, b => by rw [outsAft, outsAft_length, List.length_set]
theorem bOk_outs (h : Int) : ∀ (l : List Cal) (b : List Bool), (bOk h l b ↔ outsOk (l.filter fun c => decide (c.hour = h)) b) ∧ bAft h l b = outsAft (l.filter fun c => decide (c.hour = h)) b
  | [], b => ⟨Iff.rfl, rfl⟩
  | c :: l, b => by
    by_cases q : c.hour = h
    · rw [List.filter_cons_of_pos (by simpa using q), bOk, if_neg (by simpa using q), bAft, if_neg (by simpa using q), outsOk, outsAft, (bOk_outs h l _).1, (bOk_outs h l _).2];exact ⟨Iff.rfl, rfl⟩
    · rw [List.filter_cons_of_neg (by simpa using q), bOk, if_pos q, bAft, if_pos q];exact bOk_outs h l b
theorem hours_split (k n : Int) (hn : 0 ≤ n) : ∀ {l : List Cal}, l.Pairwise (fun a b => a.hour ≤ b.hour) →
    l.filter (fun c => decide (k ≤ c.hour) && decide (c.hour < k + (n + 1))) = l.filter (fun c => decide (c.hour = k)) ++ l.filter (fun c => decide (k + 1 ≤ c.hour) && decide (c.hour < k + 1 + n))
  | [], _ => rfl
  | c :: l, hs => by
    obtain ⟨s1, s2⟩ := List.pairwise_cons.1 hs;have ih := hours_split k n hn s2;by_cases q : c.hour = k
    · rw [List.filter_cons_of_pos (by simp; omega), List.filter_cons_of_pos (by simpa using q), List.filter_cons_of_neg (by simp; omega), ih]; rfl
    · by_cases q2 : k + 1 ≤ c.hour ∧ c.hour < k + 1 + n
      · have e : l.filter (fun c => decide (c.hour = k)) = [] := List.filter_eq_nil_iff.2 fun x hx => by have := s1 x hx; simp; omega
        rw [List.filter_cons_of_pos (by simp; omega), List.filter_cons_of_neg (by simpa using q), List.filter_cons_of_pos (by simp; omega), ih, e]; rfl
      · rw [List.filter_cons_of_neg (by simp; omega), List.filter_cons_of_neg (by simpa using q), List.filter_cons_of_neg (by simp; omega), ih]
theorem bOkF_outs {l : Pln} (hs : l.calls.Pairwise (fun a b => a.hour ≤ b.hour)) : ∀ (n k : Nat) (b : List Bool),
    (bOkF l k n b ↔ outsOk (l.calls.filter fun c => decide ((k : Int) ≤ c.hour) && decide (c.hour < (k : Int) + n)) b) ∧ bAftF l k n b = outsAft (l.calls.filter fun c => decide ((k : Int) ≤ c.hour) && decide (c.hour < (k : Int) + n)) b
  | 0, k, b => by
    have e : l.calls.filter (fun c => decide ((k : Int) ≤ c.hour) && decide (c.hour < (k : Int) + (0 : Nat))) = [] := List.filter_eq_nil_iff.2 fun x hx => by simp <;> omega
    rw [e]; exact ⟨Iff.rfl, rfl⟩
  | n + 1, k, b => by
    have e := hours_split k n (by omega) hs;obtain ⟨b1, b2⟩ := bOk_outs k l.calls b;obtain ⟨i1, i2⟩ := bOkF_outs hs n (k + 1) (bAft k l.calls b);rw [bOkF, bAftF, b1, i1, i2];simp only [Int.natCast_add, Int.natCast_one] at e ⊢;rw [e, outsOk_append, outsAft_append, ← b2];exact ⟨Iff.rfl, rfl⟩
theorem busy_outs {l : Pln} (hs : l.calls.Pairwise (fun a b => a.hour ≤ b.hour)) (hh : ∀ c ∈ l.calls, 0 ≤ c.hour ∧ c.hour < l.hours) (b : List Bool) : (busyOk l b ↔ outsOk l.calls b) ∧ busyAft l b = outsAft l.calls b := by
  have h := bOkF_outs hs l.hours.toNat 0 b;have e : l.calls.filter (fun c => decide (((0 : Nat) : Int) ≤ c.hour) && decide (c.hour < ((0 : Nat) : Int) + l.hours.toNat)) = l.calls := List.filter_eq_self.2 fun x hx => by
    have := hh x hx;simp; omega
  rw [e] at h;exact h
structure MdL (p : Prt) (l : Pln) : Prop where
  h : 4 ≤ l.hours ∧ l.hours ≤ 43
  n1 : l.calls.length ≤ 8
  n2 : l.swps.length ≤ 11
  ca : ∀ c ∈ l.calls, 0 ≤ c.hour ∧ c.hour < l.hours ∧ 0 ≤ c.berth ∧ c.berth < p.bts.length ∧ 10 ≤ c.draught ∧ c.draught < 210 ∧ 10 ≤ c.most ∧ c.most < 130 ∧ 0 ≤ c.tugs ∧ c.tugs ≤ 3
  srt : l.calls.Pairwise (fun a b => a.hour < b.hour)
  out : outsOk l.calls (List.replicate p.bts.length false)
  sw : ∀ s ∈ l.swps, 0 ≤ s.channel ∧ s.channel < p.chs.length ∧ 1 ≤ s.tugs ∧ s.tugs ≤ 6 ∧ 0 ≤ s.hour ∧ s.hour < l.hours
  tg : ∀ h, tgC h l.calls + tgS h l.swps ≤ p.tugs
theorem MdL.checkL {p : Prt} {l : Pln} (hp : MdP p) (hl : MdL p l) : checkL p l = 0 := by
  have h1 := checkP_md hp;have h2 : within l.hours 1 100 = true := by rw [within_iff]; have := hl.h; omega
  have h3 : callsE p l.hours 0 l.calls = 0 := callsE_of (fun c hc => by
    obtain ⟨c1, c2, c3, c4, c5, c6, c7, c8, c9, c10⟩ := hl.ca c hc;refine ⟨?_, c1⟩;have hd := (hp.btf _ (bt_mem c3 c4)).1;unfold callE;rw [if_neg (by simp only [Bool.not_eq_false, Bool.and_eq_true, within_iff]; omega), if_neg (by simp only [Bool.not_eq_false, within_iff]; omega), if_neg (by simp only [Bool.not_eq_false, within_iff]; omega), if_neg (by omega)]) (hl.srt.imp fun h => by omega)
  have h4 : swpsE p l.hours l.swps = 0 := swpsE_of fun s hs => by
    have := hl.sw s hs;unfold swpE;rw [if_neg (by simp only [Bool.not_eq_false, Bool.and_eq_true, within_iff]; omega), if_neg (by simp only [Bool.not_eq_false, within_iff]; omega)]
  have n1 := hl.n1;have n2 := hl.n2;have hh := hl.h;unfold Pt.checkL;rw [if_neg (by simp [h1]), if_neg (by omega), if_neg (by simp [h2]), if_neg (by simp [h3]), if_neg (by simp [h4])];have ht : (tly0 l.hours.toNat).tugs.length = l.hours.toNat := by simp [tly0]
  refine finE_ok fun j _ hj => ⟨?_, ?_⟩
  · refine tly_twice (fun c hc => ?_) hl.srt (fun c hc x hx => ?_) (fun k => ?_) j
    · obtain ⟨c1, c2, c3, c4, _⟩ := hl.ca c hc;exact (hp.btf _ (bt_mem c3 c4)).2.2.ok.2.1
    · simp [tly0] at hx
    · simp only [tly0, List.getD_eq_getElem?_getD, List.getElem?_replicate]; split <;> rfl
  · have g1 := tly_get (p := p) (h := j) (by omega) (l := l.calls) (t := tly0 l.hours.toNat) (fun c hc => by have := hl.ca c hc; rw [ht]; omega);have g2 := swp_get (h := j) (by omega) (l := l.swps) (t := (tlyCalls p l.hours.toNat l.calls).tugs) (fun s hs => by unfold tlyCalls; rw [g1.2, ht]; have := hl.sw s hs; omega);have g3 := hl.tg j;have e : (l.swps.foldl addSwp (tlyCalls p l.hours.toNat l.calls).tugs).getD j 0 = getI (l.swps.foldl addSwp (tlyCalls p l.hours.toNat l.calls).tugs) j := by unfold getI; simp
    rw [e, g2];unfold tlyCalls;rw [g1.1, tly0_get];omega
theorem MdL.busy {p : Prt} {l : Pln} (hl : MdL p l) : busyOk l (List.replicate p.bts.length false) ∧ busyAft l (List.replicate p.bts.length false) = outsAft l.calls (List.replicate p.bts.length false) := by
  have h := busy_outs (l := l) (hl.srt.imp fun h => by omega) (fun c hc => by have := hl.ca c hc; omega) (List.replicate p.bts.length false);exact ⟨h.1.2 hl.out, h.2⟩
def inSp (L : List (Int × Int)) (h : Int) : Bool := L.any fun y => decide (y.1 ≤ h) && decide (h ≤ y.2)
theorem spanAdd_in {L : List (Int × Int)} {k h : Int} (hL : ∀ y ∈ L, y.1 ≤ y.2 ∧ y.2 < k) : (inSp (spanAdd L k) h = (inSp L h || decide (h = k))) ∧ ∀ y ∈ spanAdd L k, y.1 ≤ y.2 ∧ y.2 < k + 1 := by
  have one : ∀ (M : List (Int × Int)), inSp (M ++ [(k, k)]) h = (inSp M h || decide (h = k)) := fun M => by
    unfold inSp;rw [List.any_append, List.any_cons, List.any_nil, Bool.or_false]
    congr 1
    rw [← Bool.decide_and];exact decide_eq_decide.2 (by constructor <;> intro e <;> simp only at * <;> omega)
  unfold spanAdd;cases e : L.getLast? with
  | none =>
    refine ⟨one L, fun y hy => ?_⟩;rcases List.mem_append.1 hy with g | g
    · have := hL y g; omega
    · simp only [List.mem_singleton] at g; subst g; simp only; omega
  | some y =>
    obtain ⟨M, rfl⟩ : ∃ M, L = M ++ [y] := ⟨L.dropLast, by
      obtain ⟨h1, h2⟩ := List.getLast?_eq_some_iff.1 e;rw [h2]; simp⟩
    simp only;split
    · next g =>
      have hy := hL y (by simp);refine ⟨?_, fun z hz => ?_⟩
      · rw [List.dropLast_concat];unfold inSp;rw [List.any_append, List.any_append, List.any_cons, List.any_nil, Bool.or_false, List.any_cons, List.any_nil, Bool.or_false, Bool.or_assoc]
        congr 1
        rw [← Bool.decide_and, ← Bool.decide_and, ← Bool.decide_or];exact decide_eq_decide.2 (by constructor <;> intro e <;> simp only at * <;> omega)
      · rw [List.dropLast_concat] at hz;rcases List.mem_append.1 hz with g2 | g2
        · have := hL z (by simp [g2]); omega
        · simp only [List.mem_singleton] at g2; subst g2; simp only; omega
    · refine ⟨one _, fun z hz => ?_⟩;rcases List.mem_append.1 hz with g2 | g2
      · have := hL z g2; omega
      · simp only [List.mem_singleton] at g2; subst g2; simp only; omega
theorem slot_in (f : Nat → Bool) (h : Nat) : ∀ k, inSp (slotS f k) h = (decide (h < k) && f h) ∧ ∀ y ∈ slotS f k, y.1 ≤ y.2 ∧ y.2 < k
  | 0 => ⟨by simp [slotS, inSp], by simp [slotS]⟩
  | k + 1 => by
    obtain ⟨i1, i2⟩ := slot_in f h k;rw [slotS_succ];by_cases g : f k = true
    · rw [if_pos g];obtain ⟨a1, a2⟩ := spanAdd_in (k := (k : Int)) (h := (h : Int)) i2;refine ⟨?_, fun y hy => by have := a2 y hy; omega⟩;rw [a1, i1];by_cases e : h = k
      · subst e; simp [g]
      · rw [decide_eq_false (show ¬ (h : Int) = (k : Int) by omega), Bool.or_false]
        congr 1
        exact decide_eq_decide.2 (by omega)
    · rw [if_neg g];refine ⟨?_, fun y hy => by have := i2 y hy; omega⟩;rw [i1];by_cases e : h = k
      · subst e; simp [g]
      · congr 1
        exact decide_eq_decide.2 (by omega)
theorem callT_tgC (l : Pln) (h : Int) : ∀ L, callT l h L = tgC h L
  | [] => rfl
  | c :: L => by rw [callT, tgC, callT_tgC l h L]
theorem swpT_tgS (l : Pln) (h : Int) : ∀ L, swpT l h L = tgS h L
  | [] => rfl
  | c :: L => by rw [swpT, tgS, swpT_tgS l h L]
theorem tgC_append (h : Int) : ∀ (a b : List Cal), tgC h (a ++ b) = tgC h a + tgC h b
  | [], b => by simp [tgC]
  | c :: a, b => by rw [List.cons_append, tgC, tgC, tgC_append h a b]; omega
theorem finE_iff {tg : Int} {ts : List Int} {tw : List Bool} : ∀ {n k : Nat}, finE tg ts tw k n = 0 ↔ ∀ j, k ≤ j → j < k + n → tw.getD j false = false ∧ ts.getD j 0 ≤ tg
  | 0, k => ⟨fun _ j h1 h2 => by omega, fun _ => rfl⟩
  | n + 1, k => by
    constructor
    · intro h j h1 h2;rw [finE] at h;by_cases a : tw.getD k false = true
      · rw [if_pos a] at h; exact absurd h (by decide)
      · rw [if_neg a] at h;by_cases b : tg < ts.getD k 0
        · rw [if_pos b] at h; exact absurd h (by decide)
        · rw [if_neg b] at h;by_cases e : j = k
          · subst e; exact ⟨by simpa using a, by omega⟩
          · exact finE_iff.1 h j (by omega) (by omega)
    · exact fun h => finE_ok h
theorem hit_hits (h : Int) : ∀ (l : List Int) (t : Tly) (x : Int × Int), x ∈ (l.foldl (hit1 h) t).hits ↔ x ∈ t.hits ∨ (x.1 = h ∧ x.2 ∈ l)
  | [], t, x => by simp
  | n :: l, t, x => by
    rw [List.foldl_cons, hit_hits h l];simp only [hit1, List.mem_cons];constructor
    · rintro ((rfl | e) | ⟨e1, e2⟩)
      · exact .inr ⟨rfl, .inl rfl⟩
      · exact .inl e
      · exact .inr ⟨e1, .inr e2⟩
    · rintro (e | ⟨e1, e2 | e2⟩)
      · exact .inl (.inr e)
      · exact .inl (.inl (Prod.ext e1 e2))
      · exact .inr ⟨e1, e2⟩
theorem tly_hits (p : Prt) : ∀ (l : List Cal) (t : Tly) (x : Int × Int), x ∈ (l.foldl (tlyCall p) t).hits ↔ x ∈ t.hits ∨ ∃ c ∈ l, x.1 = c.hour ∧ x.2 ∈ (bt p c.berth).path
  | [], t, x => by simp
  | c :: l, t, x => by
    rw [List.foldl_cons, tly_hits p l, tlyCall, hit_hits];simp only [List.mem_cons, exists_eq_or_imp];exact or_assoc
theorem set_len {T : Type} (l : List T) (k : Nat) (x d : T) (j : Nat) : (l.set k x).getD j d = if k = j ∧ k < l.length then x else l.getD j d := by
  rw [List.getD_eq_getElem?_getD, List.getD_eq_getElem?_getD, List.getElem?_set];by_cases h : k = j
  · rw [if_pos h];by_cases h2 : k < l.length
    · rw [if_pos h2, if_pos ⟨h, h2⟩]; rfl
    · rw [if_neg h2, if_neg (fun e => h2 e.2), ← h, List.getElem?_eq_none (by omega)]
  · rw [if_neg h, if_neg (fun e => h e.1)]
theorem hit_keep (h : Int) : ∀ (l : List Int) (t : Tly), (l.foldl (hit1 h) t).twice.length = t.twice.length ∧ ∀ j, t.twice.getD j false = true → (l.foldl (hit1 h) t).twice.getD j false = true
  | [], t => ⟨rfl, fun _ e => e⟩
  | n :: l, t => by
    obtain ⟨i1, i2⟩ := hit_keep h l (hit1 h t n);rw [List.foldl_cons];refine ⟨i1.trans (by simp [hit1]), fun j e => i2 j ?_⟩;simp only [hit1];rw [set_len];split
    · next q => rw [q.1, e]; rfl
    · exact e
theorem tly_keep (p : Prt) : ∀ (l : List Cal) (t : Tly), (l.foldl (tlyCall p) t).twice.length = t.twice.length ∧ ∀ j, t.twice.getD j false = true → (l.foldl (tlyCall p) t).twice.getD j false = true
  | [], t => ⟨rfl, fun _ e => e⟩
  | c :: l, t => by
    obtain ⟨i1, i2⟩ := tly_keep p l (tlyCall p t c);obtain ⟨k1, k2⟩ := hit_keep c.hour (bt p c.berth).path ⟨setI t.tugs c.hour (getI t.tugs c.hour + c.tugs), t.twice, t.hits⟩;rw [List.foldl_cons];exact ⟨i1.trans k1, fun j e => i2 j (k2 j e)⟩
theorem hit_bad (h : Int) {n : Int} : ∀ (l : List Int) (t : Tly), n ∈ l → (h, n) ∈ t.hits → h.toNat < t.twice.length → (l.foldl (hit1 h) t).twice.getD h.toNat false = true
  | m :: l, t, hn, hh, hlt => by
    rw [List.foldl_cons];rcases List.mem_cons.1 hn with rfl | g
    · refine (hit_keep h l _).2 _ ?_;simp only [hit1];rw [set_len, if_pos ⟨rfl, hlt⟩];have : 0 < t.hits.count (h, n) := List.count_pos_iff.2 hh;rw [decide_eq_true (by omega), Bool.or_true]
    · refine hit_bad h l _ g ?_ ?_
      · simp only [hit1, List.mem_cons]; exact .inr hh
      · simpa [hit1] using hlt
def insC (l : Pln) (a : Nat) (c : Cal) : Pln := ⟨l.hours, l.calls.take a ++ c :: l.calls.drop a, l.swps⟩
structure AtH (l : Pln) (h : Int) (a : Nat) : Prop where
  le : a ≤ l.calls.length
  pre : ∀ c ∈ l.calls.take a, c.hour ≤ h
  post : ∀ c ∈ l.calls.drop a, h < c.hour
theorem mem_ins {l : Pln} {a : Nat} {c x : Cal} (h : x ∈ (insC l a c).calls) : x = c ∨ x ∈ l.calls := by
  simp only [insC, List.mem_append, List.mem_cons] at h;rcases h with h | rfl | h
  · exact .inr (List.mem_of_mem_take h)
  · exact .inl rfl
  · exact .inr (List.mem_of_mem_drop h)
theorem shut_iff {p : Prt} {h : Int} {path : List Int} {L : List Cal} : shutL p h path L = true ↔ ∃ c ∈ L, c.hour = h ∧ ∃ n ∈ (bt p c.berth).path, n ∈ path := by
  simp [shutL, List.any_eq_true]
theorem less_twice {p : Prt} {l : Pln} (hp : MdP p) (hl : MdL p l) {h : Int} {a : Nat} (H : AtH l h a) (h0 : 0 ≤ h) (hh : h < l.hours) {c : Cal} (ch : c.hour = h) (c0 : 0 ≤ c.berth) (c1 : c.berth < p.bts.length) :
    (shutL p h (bt p c.berth).path l.calls = false → ∀ j, (tlyCalls p l.hours.toNat (insC l a c).calls).twice.getD j false = false) ∧
    (shutL p h (bt p c.berth).path l.calls = true → (tlyCalls p l.hours.toNat (insC l a c).calls).twice.getD h.toNat false = true) := by
  have nod : ∀ x ∈ l.calls, (bt p x.berth).path.Nodup := fun x hx => by
    obtain ⟨x1, x2, x3, x4, _⟩ := hl.ca x hx;exact (hp.btf _ (bt_mem x3 x4)).2.2.ok.2.1
  have nodc : (bt p c.berth).path.Nodup := (hp.btf _ (bt_mem c0 c1)).2.2.ok.2.1;have st : ∀ k, (tly0 l.hours.toNat).twice.getD k false = false := fun k => by
    simp only [tly0, List.getD_eq_getElem?_getD, List.getElem?_replicate]; split <;> rfl
  have hs := hl.srt;rw [← List.take_append_drop a l.calls] at hs;obtain ⟨s1, s2, s3⟩ := List.pairwise_append.1 hs;have t1 := tly_twice (p := p) (l := l.calls.take a) (t := tly0 l.hours.toNat) (fun x hx => nod x (List.mem_of_mem_take hx)) s1 (fun x hx y hy => by simp [tly0] at hy) st;have e : tlyCalls p l.hours.toNat (insC l a c).calls = (l.calls.drop a).foldl (tlyCall p) (tlyCall p ((l.calls.take a).foldl (tlyCall p) (tly0 l.hours.toNat)) c) := by
    unfold tlyCalls insC;rw [List.foldl_append, List.foldl_cons]
  rw [e];obtain ⟨T, hT⟩ : ∃ T, T = (l.calls.take a).foldl (tlyCall p) (tly0 l.hours.toNat) := ⟨_, rfl⟩;have hits : ∀ x, x ∈ T.hits ↔ ∃ y ∈ l.calls.take a, x.1 = y.hour ∧ x.2 ∈ (bt p y.berth).path := fun x => by
    rw [hT, tly_hits]; simp [tly0]
  have len : T.twice.length = l.hours.toNat := by rw [hT, (tly_keep p _ _).1]; simp [tly0]
  rw [← hT] at t1 ⊢;constructor
  · intro hsh;have h1 := hit_ok (h := c.hour) (l := (bt p c.berth).path) (t := ⟨setI T.tugs c.hour (getI T.tugs c.hour + c.tugs), T.twice, T.hits⟩) nodc (fun n hn hm => by
      obtain ⟨y, y1, y2, y3⟩ := (hits _).1 hm;have : shutL p h (bt p c.berth).path l.calls = true := shut_iff.2 ⟨y, List.mem_of_mem_take y1, by simp only at y2; omega, n, y3, hn⟩;rw [hsh] at this; cases this) t1
    refine tly_twice (fun x hx => nod x (List.mem_of_mem_drop hx)) s2 (fun x hx y hy => ?_) h1.1;have hx2 := H.post x hx;rcases h1.2 y hy with g | g
    · obtain ⟨z, z1, z2, _⟩ := (hits y).1 g;have := H.pre z z1;omega
    · omega
  · intro hsh;obtain ⟨y, y1, y2, n, n1, n2⟩ := shut_iff.1 hsh;have hy : y ∈ l.calls.take a := by
      rw [← List.take_append_drop a l.calls] at y1;rcases List.mem_append.1 y1 with g | g
      · exact g
      · have := H.post y g; omega
    refine (tly_keep p _ _).2 _ ?_;rw [← ch];exact hit_bad c.hour (bt p c.berth).path ⟨setI T.tugs c.hour (getI T.tugs c.hour + c.tugs), T.twice, T.hits⟩ n2 ((hits _).2 ⟨y, hy, by simp only; omega, n1⟩) (by show c.hour.toNat < T.twice.length; rw [len]; omega)
theorem less_check {p : Prt} {l : Pln} (hp : MdP p) (hl : MdL p l) {h : Int} {a : Nat} (H : AtH l h a) (h0 : 0 ≤ h) (hh : h < l.hours) {k : Int} (k0 : 0 ≤ k) (k1 : k < p.bts.length) {m t : Int} (hm : 0 ≤ m ∧ m ≤ 1000000) (ht : 0 ≤ t ∧ t ≤ 20) (u : Bool) :
    checkL p (insC l a ⟨h, k, u, 10, m, t⟩) = 0 ↔ shutL p h (bt p k).path l.calls = false ∧ t + tgC h l.calls + tgS h l.swps ≤ p.tugs := by
  obtain ⟨c, hc⟩ : ∃ c : Cal, c = ⟨h, k, u, 10, m, t⟩ := ⟨_, rfl⟩;have ch : c.hour = h := by rw [hc]
  have cb : c.berth = k := by rw [hc]
  have ct : c.tugs = t := by rw [hc]
  rw [← hc];have tw := less_twice hp hl H h0 hh ch (by rw [cb]; exact k0) (by rw [cb]; exact k1);rw [cb] at tw;have inb : ∀ x ∈ (insC l a c).calls, 0 ≤ x.hour ∧ x.hour < l.hours := fun x hx => by
    rcases mem_ins hx with rfl | g
    · omega
    · have := hl.ca x g; omega
  have h1 := checkP_md hp;have h2 : within l.hours 1 100 = true := by rw [within_iff]; have := hl.h; omega
  have n1 := hl.n1;have n2 := hl.n2;have h3 : callsE p l.hours 0 (insC l a c).calls = 0 := callsE_of (fun x hx => by
    have c1 := inb x hx;refine ⟨?_, c1.1⟩;have g : 0 ≤ x.berth ∧ x.berth < p.bts.length ∧ 10 ≤ x.draught ∧ x.draught < 210 ∧ 0 ≤ x.most ∧ x.most ≤ 1000000 ∧ 0 ≤ x.tugs ∧ x.tugs ≤ 20 := by
      rcases mem_ins hx with rfl | g
      · rw [hc]; simp only; omega
      · have := hl.ca x g; omega
    have hd := (hp.btf _ (bt_mem g.1 g.2.1)).1;unfold callE;rw [if_neg (by simp only [Bool.not_eq_false, Bool.and_eq_true, within_iff]; omega), if_neg (by simp only [Bool.not_eq_false, within_iff]; omega), if_neg (by simp only [Bool.not_eq_false, within_iff]; omega), if_neg (by omega)]) (by
    have hs := hl.srt;rw [← List.take_append_drop a l.calls] at hs;obtain ⟨s1, s2, s3⟩ := List.pairwise_append.1 hs;refine List.pairwise_append.2 ⟨s1.imp fun g => by omega, List.pairwise_cons.2 ⟨fun y hy => by have := H.post y hy; omega, s2.imp fun g => by omega⟩, fun x hx y hy => ?_⟩;rcases List.mem_cons.1 hy with rfl | g
    · have := H.pre x hx; omega
    · have := s3 x hx y g; omega)
  have h4 : swpsE p l.hours l.swps = 0 := swpsE_of fun s hs => by
    have := hl.sw s hs;unfold swpE;rw [if_neg (by simp only [Bool.not_eq_false, Bool.and_eq_true, within_iff]; omega), if_neg (by simp only [Bool.not_eq_false, within_iff]; omega)]
  have len : (insC l a c).calls.length ≤ 60 := by simp [insC]; omega
  have e : checkL p (insC l a c) = finE p.tugs (l.swps.foldl addSwp (tlyCalls p l.hours.toNat (insC l a c).calls).tugs) (tlyCalls p l.hours.toNat (insC l a c).calls).twice 0 l.hours.toNat := by
    unfold Pt.checkL;rw [if_neg (by simp [h1]), if_neg (by show ¬ (60 < (insC l a c).calls.length ∨ 200 < l.swps.length); omega), if_neg (by show ¬ within l.hours 1 100 = false; simp [h2]), if_neg (by show ¬ callsE p l.hours 0 (insC l a c).calls ≠ 0; simp [h3]), if_neg (by show ¬ swpsE p l.hours l.swps ≠ 0; simp [h4])];rfl
  have hlen0 : (tly0 l.hours.toNat).tugs.length = l.hours.toNat := by simp [tly0]
  have tg : ∀ j : Nat, (l.swps.foldl addSwp (tlyCalls p l.hours.toNat (insC l a c).calls).tugs).getD j 0 = tgC j l.calls + (if h = j then t else 0) + tgS j l.swps := fun j => by
    have g1 := tly_get (p := p) (h := j) (by omega) (l := (insC l a c).calls) (t := tly0 l.hours.toNat) (fun x hx => by have := inb x hx; rw [hlen0]; omega);have g2 := swp_get (h := j) (by omega) (l := l.swps) (t := (tlyCalls p l.hours.toNat (insC l a c).calls).tugs) (fun s hs => by unfold tlyCalls; rw [g1.2, hlen0]; have := hl.sw s hs; omega);have e1 : (l.swps.foldl addSwp (tlyCalls p l.hours.toNat (insC l a c).calls).tugs).getD j 0 = getI (l.swps.foldl addSwp (tlyCalls p l.hours.toNat (insC l a c).calls).tugs) j := by unfold getI; simp
    rw [e1, g2];unfold tlyCalls;rw [g1.1, tly0_get];have e2 : tgC j (insC l a c).calls = tgC j l.calls + (if h = j then t else 0) := by
      have e3 : tgC j l.calls = tgC j (l.calls.take a) + tgC j (l.calls.drop a) := by rw [← tgC_append, List.take_append_drop]
      rw [e3];show tgC j (l.calls.take a ++ c :: l.calls.drop a) = _;rw [tgC_append, tgC, ch, ct];omega
    rw [e2];omega
  rw [e, finE_iff];constructor
  · intro g;obtain ⟨g1, g2⟩ := g h.toNat (by omega) (by omega);rw [tg, if_pos (by omega)] at g2;have e4 : ((h.toNat : Nat) : Int) = h := by omega
    rw [e4] at g2;refine ⟨?_, by omega⟩;cases q : shutL p h (bt p k).path l.calls with
    | false => rfl
    | true => rw [tw.2 q] at g1; cases g1
  · rintro ⟨g1, g2⟩ j - hj;refine ⟨tw.1 g1 j, ?_⟩;rw [tg];by_cases q : h = j
    · subst q; rw [if_pos rfl]; omega
    · rw [if_neg q]; have := hl.tg j; omega
def noB (p : Prt) : List Bool := List.replicate p.bts.length false
structure P1 (p : Prt) (hours : Int) (calls : List Cal) (busy : List Bool) (hour : Int) : Prop where
  ca : ∀ c ∈ calls, 0 ≤ c.hour ∧ c.hour < hours ∧ 0 ≤ c.berth ∧ c.berth < p.bts.length ∧ 10 ≤ c.draught ∧ c.draught < 210 ∧ 10 ≤ c.most ∧ c.most < 130 ∧ 0 ≤ c.tugs ∧ c.tugs ≤ 3 ∧ c.hour < hour
  srt : calls.Pairwise (fun a b => a.hour < b.hour)
  out : outsOk calls (noB p)
  bus : busy = outsAft calls (noB p)
  hr : 0 ≤ hour ∧ hour ≤ 100
  tg : ∀ h, tgC h calls ≤ p.tugs
theorem P1.start {p : Prt} (hp : MdP p) {hours h : Int} (hh : 0 ≤ h ∧ h ≤ 100) : P1 p hours [] (noB p) h :=
  ⟨by simp, List.Pairwise.nil, trivial, rfl, hh, fun h => by have := hp.tg; simp only [tgC]; omega⟩
theorem tgC_zero {h : Int} : ∀ {l : List Cal}, (∀ c ∈ l, c.hour ≠ h) → tgC h l = 0
  | [], _ => rfl
  | c :: l, hc => by rw [tgC, if_neg (hc c (by simp)), tgC_zero (fun x hx => hc x (by simp [hx]))]; rfl
theorem P1.len {p : Prt} {hours hour : Int} {calls : List Cal} {busy : List Bool} (H : P1 p hours calls busy hour) : busy.length = p.bts.length := by rw [H.bus, outsAft_length]; simp [noB]
theorem P1.push {p : Prt} {hours hour : Int} {calls : List Cal} {busy : List Bool} (H : P1 p hours calls busy hour) (hp : MdP p) {b : Nat} {x0 x1 x2 x3 : Int} (hlt : hour < hours) (hh : hours ≤ 43) (hb : b < p.bts.length) (h0 : 0 ≤ x0 ∧ x0 < 200) (h1 : 0 ≤ x1 ∧ x1 < 120) (h2 : 0 ≤ x2 ∧ x2 ≤ 3 ∧ x2 ≤ p.tugs) (h3 : 0 ≤ x3 ∧ x3 < 5) :
    P1 p hours (calls ++ [⟨hour, b, busy.getD b false, 10 + x0, 10 + x1, x2⟩]) (busy.set b (!busy.getD b false)) (hour + (1 + x3)) := by
  have hr := H.hr;refine ⟨fun c hc => ?_, ?_, ?_, ?_, by omega, fun h => ?_⟩
  · rcases List.mem_append.1 hc with hc | hc
    · have := H.ca c hc; omega
    · rw [List.mem_singleton.1 hc]; simp only; omega
  · rw [List.pairwise_append];refine ⟨H.srt, List.pairwise_singleton _ _, fun a ha c hc => ?_⟩;rw [List.mem_singleton.1 hc];exact (H.ca a ha).2.2.2.2.2.2.2.2.2.2
  · rw [outsOk_append];refine ⟨H.out, ?_, trivial⟩;rw [← H.bus]; simp
  · rw [outsAft_append, ← H.bus]; simp [outsAft]
  · rw [tgC_snoc];simp only;by_cases e : hour = h
    · rw [if_pos e, tgC_zero (fun c hc => by have := H.ca c hc; omega)]; omega
    · rw [if_neg e]; have := H.tg h; omega
structure P2 (p : Prt) (hours : Int) (calls : List Cal) (swps : List Swp) : Prop where
  sw : ∀ s ∈ swps, 0 ≤ s.channel ∧ s.channel < p.chs.length ∧ 1 ≤ s.tugs ∧ s.tugs ≤ 6 ∧ 0 ≤ s.hour ∧ s.hour < hours
  tg : ∀ h, tgC h calls + tgS h swps ≤ p.tugs
theorem P2.start {p : Prt} {hours hour : Int} {calls : List Cal} {busy : List Bool} (H : P1 p hours calls busy hour) : P2 p hours calls [] := ⟨by simp, fun h => by have := H.tg h; simp only [tgS]; omega⟩
theorem P2.push {p : Prt} {hours : Int} {calls : List Cal} {swps : List Swp} (H : P2 p hours calls swps) (hp : MdP p) {h c t : Int} (hh : 0 ≤ h ∧ h < hours) (hc : 0 ≤ c ∧ c < p.chs.length) (ht : 1 ≤ t ∧ t ≤ p.tugs - tgC h calls - tgS h swps) (h0 : 0 ≤ tgC h calls) (h1 : 0 ≤ tgS h swps) : P2 p hours calls (swps ++ [⟨h, c, t⟩]) := by
  have := hp.tg;refine ⟨fun s hs => ?_, fun k => ?_⟩
  · rcases List.mem_append.1 hs with hs | hs
    · exact H.sw s hs
    · rw [List.mem_singleton.1 hs]; simp only; omega
  · rw [tgS_snoc];simp only;by_cases e : h = k
    · subst e; rw [if_pos rfl]; omega
    · rw [if_neg e]; have := H.tg k; omega
theorem tgC_bd {h : Int} : ∀ {l : List Cal}, (∀ c ∈ l, 0 ≤ c.tugs ∧ c.tugs ≤ 6) → 0 ≤ tgC h l ∧ tgC h l ≤ 6 * l.length
  | [], _ => by simp [tgC]
  | c :: l, hc => by
    have := hc c (by simp);have := tgC_bd (h := h) (fun x hx => hc x (List.mem_cons_of_mem c hx));rw [tgC, List.length_cons];split <;> omega
theorem tgS_bd {h : Int} : ∀ {l : List Swp}, (∀ c ∈ l, 0 ≤ c.tugs ∧ c.tugs ≤ 6) → 0 ≤ tgS h l ∧ tgS h l ≤ 6 * l.length
  | [], _ => by simp [tgS]
  | c :: l, hc => by
    have := hc c (by simp);have := tgS_bd (h := h) (fun x hx => hc x (List.mem_cons_of_mem c hx));rw [tgS, List.length_cons];split <;> omega
theorem tgC_take {h : Int} {l : List Cal} {k : Nat} (hk : k < l.length) : tgC h (l.take (k + 1)) = tgC h (l.take k) + (if l[k].hour = h then l[k].tugs else 0) := by
  rw [List.take_succ_eq_append_getElem hk, tgC_snoc]
theorem tgS_take {h : Int} {l : List Swp} {k : Nat} (hk : k < l.length) : tgS h (l.take (k + 1)) = tgS h (l.take k) + (if l[k].hour = h then l[k].tugs else 0) := by
  rw [List.take_succ_eq_append_getElem hk, tgS_snoc]
theorem MdL.of {p : Prt} {hours hour : Int} {calls : List Cal} {busy : List Bool} {swps : List Swp} (H : P1 p hours calls busy hour) (H2 : P2 p hours calls swps) (hh : 4 ≤ hours ∧ hours ≤ 43) (n1 : calls.length ≤ 8) (n2 : swps.length ≤ 11) : MdL p ⟨hours, calls, swps⟩ :=
  ⟨hh, n1, n2, fun c hc => by have := H.ca c hc; simp only; omega, H.srt, H.out, H2.sw, H2.tg⟩
end Go.Proofs.Ythmldeningpjbaa.Pt
namespace Go.Proofs.Ythmldeningpjbaa
open Sp Pt
def st0 (p : Prt) (b : List Int) : Stt := ⟨b, noB p⟩
theorem st0_start {p : Prt} {l : Pln} (hp : MdP p) (hl : MdL p l) {b : List Int} {B : Int} (hB : B ≤ 1000000) (hlen : b.length = p.chs.length) (hb : ∀ x ∈ b, 0 ≤ x ∧ x < B) : startE p (st0 p b) l = 0 :=
  startE_3 (hl.checkL hp) hlen (by simp [st0, noB]) (by
    rw [List.any_eq_false];intro x hx;have := hb x hx;simp [within]; omega)
theorem bGe_of {n : Nat} {b : List Int} (hlen : b.length = n) (hb : ∀ x ∈ b, 0 ≤ x) : bGe n b := ⟨hlen, fun c c0 c1 => by
  unfold getI;have : c.toNat < b.length := by omega
  rw [List.getD_eq_getElem?_getD, List.getElem?_eq_getElem this];exact hb _ (List.getElem_mem _)⟩
theorem getI_mem {b : List Int} {i : Nat} (h : i < b.length) : getI b i ∈ b := by
  unfold getI;simp only [Int.toNat_natCast, List.getD_eq_getElem?_getD, List.getElem?_eq_getElem h, Option.getD_some];exact List.getElem_mem _
theorem jm_right {m : Mp} (h : Jm 360 m) : mright m = true := by
  obtain ⟨⟨a, a'⟩, ⟨b, b'⟩, c, d, e⟩ := h;rw [mright_iff];simp only [BIG, NL] at *;omega
theorem jm_apply {m : Mp} (h : Jm 360 m) {x : Int} (h0 : 0 ≤ x) (h1 : x ≤ 1000000) : (limOk m x ∧ applyE m x = 0 ∧ x ≤ m.most ∧ applyN m x = ap m x) ∨ (¬ limOk m x ∧ applyE m x = 8 ∧ m.most < x) := by
  have hr := jm_right h;have hw : within x 0 BIG = true := by simp [within, BIG]; omega
  have he : applyE m x = if m.most < x then 8 else 0 := by unfold applyE; rw [hr, hw]; simp
  by_cases q : m.most < x
  · refine .inr ⟨?_, by rw [he, if_pos q], q⟩;rintro (e | e)
    · rw [e] at q; simp only [NL] at q; omega
    · omega
  · refine .inl ⟨.inr (by omega), by rw [he, if_neg q], by omega, ?_⟩;unfold applyN;rw [he, if_neg q, if_pos rfl]; rfl
theorem run_st0 {p : Prt} {l : Pln} (hp : MdP p) (hl : MdL p l) {b : List Int} {B : Int} (hB : B ≤ 1000000) (hlen : b.length = p.chs.length) (hb : ∀ x ∈ b, 0 ≤ x ∧ x < B) :
    (runE p (st0 p b) l = 0 ∧ runI p (st0 p b) l = l.calls.length ∧ runV p (st0 p b) l = stN p l (st0 p b) l.hours.toNat ∧ bGe p.chs.length (runV p (st0 p b) l).brash ∧ (runV p (st0 p b) l).busy = outsAft l.calls (noB p) ∧
      ∀ i : Nat, i < p.chs.length → limOk (foldS p l i) (getI b i) ∧ getI (runV p (st0 p b) l).brash i = ap (foldS p l i) (getI b i)) ∨
    (runE p (st0 p b) l = 8 ∧ ∃ (x : Cal) (i : Nat), l.calls[(runR p l (st0 p b)).1]? = some x ∧ i < p.chs.length ∧ (i : Int) ∈ (bt p x.berth).path ∧ ¬ limOk (foldS p l i) (getI b i)) := by
  have v := val_of (hl.checkL hp);have hs := st0_start hp hl hB hlen hb;have hE : runE p (st0 p b) l = (runR p l (st0 p b)).2 := by unfold runE; rw [if_neg (by rw [hs]; simp)]
  have hI : runI p (st0 p b) l = (runR p l (st0 p b)).1 := by unfold runI; rw [if_neg (by rw [hs]; simp)]
  rcases run_folds v (s := st0 p b) (bGe_of hlen fun x hx => (hb x hx).1) hl.busy.1 with ⟨q1, q2, q3, q4, q5⟩ | ⟨q1, x, c, q2, q3, q4, q5, q6⟩
  · have hV : runV p (st0 p b) l = stN p l (st0 p b) l.hours.toNat := by unfold runV; rw [if_pos (by rw [hE]; exact q1)]
    refine .inl ⟨by rw [hE]; exact q1, by rw [hI, q2], hV, by rw [hV]; exact q3, by rw [hV, q4]; exact hl.busy.2, fun i hi => ?_⟩;rw [hV];exact q5 i (by omega) (by omega)
  · refine .inr ⟨by rw [hE]; exact q1, x, c.toNat, q2, by omega, ?_, ?_⟩
    · rw [Int.toNat_of_nonneg q3]; exact q5
    · rw [Int.toNat_of_nonneg q3]; exact q6
theorem folds_at {p : Prt} {l : Pln} (hp : MdP p) (hl : MdL p l) {b : List Int} (hlen : b.length = p.chs.length) (hb : ∀ x ∈ b, 0 ≤ x ∧ x < 200) {i : Nat} (hi : i < p.chs.length) :
    foldE p l i = 0 ∧ ((applyE (foldS p l i) (getI b i) = 0 ∧ getI b i ≤ (foldS p l i).most ∧ (runE p (st0 p b) l = 0 → applyN (foldS p l i) (getI b i) = getI (runV p (st0 p b) l).brash i)) ∨
      (applyE (foldS p l i) (getI b i) = 8 ∧ (foldS p l i).most < getI b i ∧ runE p (st0 p b) l ≠ 0)) := by
  have v := val_of (hl.checkL hp);have hx := hb _ (getI_mem (b := b) (i := i) (by omega));refine ⟨?_, ?_⟩
  · unfold foldE; rw [if_neg (by rw [hl.checkL hp]; simp), if_neg (by rw [show within (i : Int) 0 ((p.chs.length : Int) - 1) = true from Pt.within_iff.2 (by omega)]; decide)]
  · rcases jm_apply (foldS_jm v (c := (i : Int)) (by omega) (by omega)) (x := getI b i) hx.1 (by omega) with ⟨h1, h2, h3, h4⟩ | ⟨h1, h2, h3⟩
    · refine .inl ⟨h2, h3, fun h0 => ?_⟩;rcases run_st0 hp hl (B := 200) (by decide) hlen hb with ⟨_, _, _, _, _, q⟩ | ⟨q, _⟩
      · rw [h4, (q i hi).2]
      · rw [q] at h0; cases h0
    · refine .inr ⟨h2, h3, fun h0 => ?_⟩;rcases run_st0 hp hl (B := 200) (by decide) hlen hb with ⟨_, _, _, _, _, q⟩ | ⟨q, _⟩
      · exact h1 (q i hi).1
      · rw [q] at h0; cases h0
end Go.Proofs.Ythmldeningpjbaa
namespace Go.Proofs.Ythmldeningpjbaa.Pt
open Sp
def LeB (a b : List Int) : Prop := a.length = b.length ∧ ∀ i : Int, getI a i ≤ getI b i
def Ge0 (a : List Int) : Prop := ∀ i : Int, 0 ≤ getI a i
theorem getI_setI (l : List Int) (i x c : Int) : getI (setI l i x) c = if i.toNat = c.toNat ∧ i.toNat < l.length then x else getI l c := by
  unfold getI setI;rw [List.getD_eq_getElem?_getD, List.getD_eq_getElem?_getD, List.getElem?_set];by_cases h : i.toNat = c.toNat
  · rw [if_pos h];by_cases h2 : i.toNat < l.length
    · rw [if_pos h2, if_pos ⟨h, h2⟩]; rfl
    · rw [if_neg h2, if_neg (fun e => h2 e.2)];rw [← h, List.getElem?_eq_none (by omega)]
  · rw [if_neg h, if_neg (fun e => h e.1)]
theorem LeB.refl (a : List Int) : LeB a a := ⟨rfl, fun _ => Int.le_refl _⟩
theorem LeB.trans {a b c : List Int} (h : LeB a b) (g : LeB b c) : LeB a c := ⟨h.1.trans g.1, fun i => Int.le_trans (h.2 i) (g.2 i)⟩
theorem LeB.set {a b : List Int} (h : LeB a b) {i x y : Int} (hx : x ≤ y) : LeB (setI a i x) (setI b i y) := by
  refine ⟨by rw [setI_length, setI_length]; exact h.1, fun c => ?_⟩;rw [getI_setI, getI_setI, h.1];split
  · exact hx
  · exact h.2 c
theorem Ge0.set {a : List Int} (h : Ge0 a) {i x : Int} (hx : 0 ≤ x) : Ge0 (setI a i x) := fun c => by
  rw [getI_setI];split
  · exact hx
  · exact h c
theorem ge0_of {a : List Int} (h : ∀ x ∈ a, 0 ≤ x) : Ge0 a := fun i => by
  unfold getI;rw [List.getD_eq_getElem?_getD];by_cases hi : i.toNat < a.length
  · rw [List.getElem?_eq_getElem hi]; exact h _ (List.getElem_mem hi)
  · rw [List.getElem?_eq_none (by omega)]; exact Int.le_refl 0
theorem leB_of {a b : List Int} (hl : a.length = b.length) (h : ∀ i : Nat, i < a.length → a.getD i 0 ≤ b.getD i 0) : LeB a b := ⟨hl, fun i => by
  unfold getI;by_cases hi : i.toNat < a.length
  · exact h _ hi
  · rw [List.getD_eq_getElem?_getD, List.getD_eq_getElem?_getD, List.getElem?_eq_none (by omega), List.getElem?_eq_none (by omega)];exact Int.le_refl _⟩
theorem swp1_le (p : Prt) (h : Int) (s : Swp) {a b : List Int} (hh : LeB a b) : LeB (swp1 p h a s) (swp1 p h b s) := by
  unfold swp1;split
  · refine hh.set ?_;have := hh.2 s.channel;omega
  · exact hh
theorem swp1_ge (p : Prt) (h : Int) (s : Swp) {a : List Int} (hh : Ge0 a) : Ge0 (swp1 p h a s) := by
  unfold swp1;split
  · exact hh.set (by omega)
  · exact hh
theorem swpN_le (p : Prt) (h : Int) : ∀ (l : List Swp) {a b : List Int}, LeB a b → LeB (swpN p h l a) (swpN p h l b)
  | [], _, _, hh => hh
  | s :: l, _, _, hh => swpN_le p h l (swp1_le p h s hh)
theorem swpN_ge (p : Prt) (h : Int) : ∀ (l : List Swp) {a : List Int}, Ge0 a → Ge0 (swpN p h l a)
  | [], _, hh => hh
  | s :: l, _, hh => swpN_ge p h l (swp1_ge p h s hh)
theorem swp1_less (p : Prt) (h : Int) (s : Swp) (hs : 0 ≤ s.tugs * (ch p s.channel).clear) {a : List Int} (hh : Ge0 a) : LeB (swp1 p h a s) a := by
  unfold swp1;split
  · refine ⟨setI_length _ _ _, fun c => ?_⟩;rw [getI_setI];split
    · next e =>
      have := hh c;have e1 : getI a s.channel = getI a c := by unfold getI; rw [e.1]
      rw [e1];omega
    · exact Int.le_refl _
  · exact LeB.refl a
theorem grow1_le (p : Prt) (n : Int) {a b : List Int} (hh : LeB a b) : LeB (grow1 p a n) (grow1 p b n) := hh.set (by have := hh.2 n; omega)
theorem growN_le (p : Prt) : ∀ (l : List Int) {a b : List Int}, LeB a b → LeB (growN p l a) (growN p l b)
  | [], _, _, hh => hh
  | n :: l, _, _, hh => growN_le p l (grow1_le p n hh)
theorem growN_ge (p : Prt) (hg : ∀ n : Int, 0 ≤ (ch p n).grow) : ∀ (l : List Int) {a : List Int}, Ge0 a → Ge0 (growN p l a)
  | [], _, hh => hh
  | n :: l, a, hh => growN_ge p hg l (hh.set (by have := hh n; have := hg n; omega))
theorem frostN_le (p : Prt) {a b : List Int} (hh : LeB a b) : ∀ k, LeB (frostN p a k) (frostN p b k)
  | 0 => hh
  | k + 1 => (frostN_le p hh k).set (by have := (frostN_le p hh k).2 k; omega)
theorem frostN_ge (p : Prt) (hg : ∀ n : Int, 0 ≤ (ch p n).frost) {a : List Int} (hh : Ge0 a) : ∀ k, Ge0 (frostN p a k)
  | 0 => hh
  | k + 1 => (frostN_ge p hg hh k).set (by have := frostN_ge p hg hh k k; have := hg k; omega)
theorem callsN_le (p : Prt) (h : Int) : ∀ (l : List Cal) (i : Nat) {s t : Stt}, LeB t.brash s.brash → t.busy = s.busy → (callsN p h l i s).2.1 = 0 →
    (callsN p h l i t).2.1 = 0 ∧ LeB (callsN p h l i t).2.2.brash (callsN p h l i s).2.2.brash ∧ (callsN p h l i t).2.2.busy = (callsN p h l i s).2.2.busy
  | [], _, _, _, hb, hu, _ => ⟨rfl, hb, hu⟩
  | c :: l, i, s, t, hb, hu, h0 => by
    unfold callsN at h0 ⊢;by_cases h1 : c.hour ≠ h
    · rw [if_pos h1] at h0;simp only [if_pos h1];exact callsN_le p h l (i + 1) hb hu h0
    · rw [if_neg h1] at h0;simp only [if_neg h1];by_cases h2 : s.busy.getD c.berth.toNat false ≠ c.out
      · rw [if_pos h2] at h0; exact absurd h0 (by show ¬ (9 : Int) = 0; decide)
      · rw [if_neg h2] at h0;rw [if_neg (by rw [hu]; exact h2), if_neg h2];by_cases h3 : (bt p c.berth).path.any (fun n => decide (c.most < getI s.brash n)) = true
        · rw [if_pos h3] at h0; exact absurd h0 (by show ¬ (8 : Int) = 0; decide)
        · rw [if_neg h3] at h0;have h4 : ¬ (bt p c.berth).path.any (fun n => decide (c.most < getI t.brash n)) = true := fun e => h3 (by
            obtain ⟨n, n1, n2⟩ := List.any_eq_true.1 e;have n3 := of_decide_eq_true n2;have n4 := hb.2 n;exact List.any_eq_true.2 ⟨n, n1, decide_eq_true (by omega)⟩)
          rw [if_neg h4, if_neg h3];exact callsN_le p h l (i + 1) (growN_le p _ hb) (by simp only [hu]) h0
theorem callsN_ge (p : Prt) (h : Int) (hg : ∀ n : Int, 0 ≤ (ch p n).grow) : ∀ (l : List Cal) (i : Nat) {s : Stt}, Ge0 s.brash → Ge0 (callsN p h l i s).2.2.brash
  | [], _, _, hb => hb
  | c :: l, i, s, hb => by
    unfold callsN;split
    · exact callsN_ge p h hg l (i + 1) hb
    · split
      · exact hb
      · split
        · exact hb
        · exact callsN_ge p h hg l (i + 1) (growN_ge p hg _ hb)
theorem runF_all {p : Prt} {l : Pln} {s : Stt} : ∀ {n k : Nat}, (runF p l s k n).2 = 0 ↔ ∀ j, k ≤ j → j < k + n → (hourR p l j (stN p l s j)).2.1 = 0
  | 0, k => ⟨fun _ j h1 h2 => by omega, fun _ => rfl⟩
  | n + 1, k => by
    rw [runF];constructor
    · intro h j h1 h2;by_cases h3 : (hourR p l k (stN p l s k)).2.1 ≠ 0
      · rw [if_pos h3] at h; exact absurd h h3
      · rw [if_neg h3] at h;by_cases e : j = k
        · subst e; exact Decidable.not_not.1 h3
        · exact runF_all.1 h j (by omega) (by omega)
    · intro h;rw [if_neg (by rw [h k (Nat.le_refl _) (by omega)]; simp)];exact runF_all.2 fun j h1 h2 => h j (by omega) (by omega)
theorem callsN_tugs (p : Prt) (t : Int) (h : Int) : ∀ (l : List Cal) (i : Nat) (S : Stt), callsN ⟨p.chs, p.bts, t⟩ h l i S = callsN p h l i S
  | [], _, _ => rfl
  | c :: l, i, S => by
    unfold callsN;rw [callsN_tugs p t h l (i + 1) S, callsN_tugs p t h l (i + 1) _];rfl
theorem frostN_tugs (p : Prt) (t : Int) (S : List Int) : ∀ k, frostN ⟨p.chs, p.bts, t⟩ S k = frostN p S k
  | 0 => rfl
  | k + 1 => by
    unfold frostN;rw [frostN_tugs p t S k];rfl
theorem frostL_tugs (p : Prt) (t : Int) (S : List Int) : frostL ⟨p.chs, p.bts, t⟩ S = frostL p S := frostN_tugs p t S p.chs.length
structure Mor (p q : Prt) (l m : Pln) : Prop where
  chs : q.chs = p.chs
  bts : q.bts = p.bts
  hrs : m.hours = l.hours
  cls : m.calls = l.calls
  ext : ∃ L, m.swps = l.swps ++ L ∧ ∀ x ∈ L, 0 ≤ x.tugs * (ch p x.channel).clear
  grow : ∀ n : Int, 0 ≤ (ch p n).grow
  frost : ∀ n : Int, 0 ≤ (ch p n).frost
theorem swpL_less (p : Prt) (h : Int) : ∀ (L : List Swp), (∀ x ∈ L, 0 ≤ x.tugs * (ch p x.channel).clear) → ∀ {a : List Int}, Ge0 a → LeB (swpN p h L a) a
  | [], _, a, _ => LeB.refl a
  | x :: L, hL, a, hh => (swpL_less p h L (fun y hy => hL y (by simp [hy])) (swp1_ge p h x hh)).trans (swp1_less p h x (hL x (by simp)) hh)
theorem mor_run {p q : Prt} {l m : Pln} (H : Mor p q l m) {s t : Stt} (hb : LeB t.brash s.brash) (hu : t.busy = s.busy) (h0 : Ge0 t.brash) {N : Nat} (hr : ∀ j, j < N → (hourR p l j (stN p l s j)).2.1 = 0) :
    ∀ k, k ≤ N → LeB (stN q m t k).brash (stN p l s k).brash ∧ (stN q m t k).busy = (stN p l s k).busy ∧ Ge0 (stN q m t k).brash ∧ ∀ j, j < k → (hourR q m j (stN q m t j)).2.1 = 0
  | 0, _ => ⟨hb, hu, h0, fun j hj => by omega⟩
  | k + 1, hk => by
    obtain ⟨i1, i2, i3, i4⟩ := mor_run H hb hu h0 hr k (by omega);obtain ⟨L, e1, e2⟩ := H.ext;have hq : q = ⟨p.chs, p.bts, q.tugs⟩ := by cases q; cases H.chs; cases H.bts; rfl
    have sw : swpN q k m.swps (stN q m t k).brash = swpN p k L (swpN p k l.swps (stN q m t k).brash) := by
      rw [e1]; unfold swpN; rw [List.foldl_append]; rw [hq]; rfl
    have hsw : LeB (swpN q k m.swps (stN q m t k).brash) (swpN p k l.swps (stN p l s k).brash) := by
      rw [sw];exact (swpL_less p k L e2 (swpN_ge p k l.swps i3)).trans (swpN_le p k l.swps i1)
    have hsg : Ge0 (swpN q k m.swps (stN q m t k).brash) := swpN_ge q k m.swps i3;have hcs : ∀ S, callsN q k m.calls 0 S = callsN p k l.calls 0 S := fun S => by rw [H.cls, hq]; exact callsN_tugs p q.tugs k l.calls 0 S
    have hc := callsN_le p k l.calls 0 (s := ⟨swpN p k l.swps (stN p l s k).brash, (stN p l s k).busy⟩) (t := ⟨swpN q k m.swps (stN q m t k).brash, (stN q m t k).busy⟩) hsw i2 (hr k (by omega));have hg := callsN_ge p k H.grow l.calls 0 (s := ⟨swpN q k m.swps (stN q m t k).brash, (stN q m t k).busy⟩) hsg;rw [← hcs] at hc hg;have hfr : ∀ S, frostL q S = frostL p S := fun S => by rw [hq]; exact frostL_tugs p q.tugs S
    refine ⟨?_, hc.2.2, ?_, fun j hj => ?_⟩
    · show LeB (frostL q _) (frostL p _);rw [hfr];exact frostN_le p hc.2.1 p.chs.length
    · show Ge0 (frostL q _);rw [hfr];exact frostN_ge p H.frost hg p.chs.length
    · by_cases e : j = k
      · subst e; exact hc.1
      · exact i4 j (by omega)
end Go.Proofs.Ythmldeningpjbaa.Pt
